import Derived.Test.YtpflmlnkflpbnaaDoorW11
namespace Go.Proofs.YtpflmlnkflpbnaaDoor
open Go.RowKit Go.Sort Cam
set_option linter.unusedVariables false

structure M4 where
  a : Int
  b : Int
  c : Int
  d : Int
def M4.big (m : M4) : Prop := 1152921504606846976 < m.a ∨ 1152921504606846976 < m.b ∨ 1152921504606846976 < m.c ∨ 1152921504606846976 < m.d
instance (m : M4) : Decidable m.big := by unfold M4.big; exact inferInstance
/-- Times the matrix of a letter. -/
def M4.step (m : M4) (c : UInt8) : M4 := if c = 97 then ⟨m.a * 2 + m.b, m.a + m.b, m.c * 2 + m.d, m.c + m.d⟩ else ⟨m.a * 5 + m.b * 2, m.a * 2 + m.b, m.c * 5 + m.d * 2, m.c * 2 + m.d⟩
/-- The matrix of the letters l, times m from the left; none: a number is too great. -/
def matF : List UInt8 → M4 → Option M4
  | [], m => if m.big then none else some m
  | c :: l, m => if m.big then none else matF l (m.step c)
def M4.arr (m : M4) : Array Value := #[.int .i64 m.a, .int .i64 m.b, .int .i64 m.c, .int .i64 m.d]

def isWordB (s : ByteArray) : Bool := decide (s.size ≤ 40) && s.data.toList.all fun c => c == 97 || c == 98

theorem maxOf4 (a b c d : Int) : (1152921504606846976 < Lib.maxOf [a, b, c, d]) ↔ (1152921504606846976 < a ∨ 1152921504606846976 < b ∨ 1152921504606846976 < c ∨ 1152921504606846976 < d) := by
  show 1152921504606846976 < max (max (max (max a a) b) c) d ↔ _
  omega

theorem max_any (g : Nat) (m : M4) (w : World) (h : Whole w g 72 m.arr) :
    Calls Tryd.prog 41 #[.slice (some ⟨g, 0, none⟩) 4 4] w fun e w' => e = .returned (.int .i64 (Lib.maxOf [m.a, m.b, m.c, m.d])) ∧ w' = w := by
  refine Tryd.slices_Max_int g 0 4 4 [m.a, m.b, m.c, m.d] w (by omega) (by simp) (by omega) fun j hj => ?_
  have : j = 0 ∨ j = 1 ∨ j = 2 ∨ j = 3 := by simp at hj; omega
  rcases this with rfl | rfl | rfl | rfl
  · exact (h.cell 0).trans rfl
  · exact (h.cell 1).trans rfl
  · exact (h.cell 2).trans rfl
  · exact (h.cell 3).trans rfl

theorem arr37 : (Tryd.prog.info? 48).map (·.size) = some 4 := by kernel_rfl
theorem arr78 : (Tryd.prog.info? 72).map (·.size) = some 4 := by kernel_rfl

/-- What Matrix answers. -/
def zeros4 : Value := .agg #[.int .i64 0, .int .i64 0, .int .i64 0, .int .i64 0]
def matA (s : ByteArray) : Value := if isWordB s then (match matF s.data.toList ⟨1, 0, 0, 1⟩ with | some m => .agg m.arr | none => zeros4) else zeros4
def matE (s : ByteArray) : Int := if isWordB s then (match matF s.data.toList ⟨1, 0, 0, 1⟩ with | some _ => 0 | none => 5) else 2
/-- Not too great to be multiplied. -/
def M4.ok (m : M4) : Prop := 0 ≤ m.a ∧ 0 ≤ m.b ∧ 0 ≤ m.c ∧ 0 ≤ m.d ∧ m.a ≤ 8070450532247928832 ∧ m.b ≤ 8070450532247928832 ∧ m.c ≤ 8070450532247928832 ∧ m.d ≤ 8070450532247928832
theorem M4.ok_step {m : M4} (h : m.ok) (hb : ¬ m.big) (c : UInt8) : (m.step c).ok := by
  unfold M4.big at hb
  unfold M4.ok at h
  unfold M4.step
  split <;> (unfold M4.ok; simp only; omega)

set_option maxRecDepth 100000 in
set_option maxHeartbeats 4000000 in
theorem Matrix_word (s : ByteArray) (w : World) (hs : isWordB s = true) :
    Calls Tryd.prog 22 #[.string s] w fun e w' => e = .returned (.tuple #[matA s, .int .i64 (matE s)]) ∧ Below w.heap.size w w' := by
  have hA : matA s = (match matF s.data.toList ⟨1, 0, 0, 1⟩ with | some m => .agg m.arr | none => zeros4) := by unfold matA; rw [if_pos hs]
  have hE : matE s = (match matF s.data.toList ⟨1, 0, 0, 1⟩ with | some _ => 0 | none => 5) := by unfold matE; rw [if_pos hs]
  have HA := Lib.hid hA
  have HE := Lib.hid hE
  unfold isWordB at hs
  simp only [Bool.and_eq_true, decide_eq_true_eq] at hs
  obtain ⟨h40, hl⟩ := hs
  have hsz : s.data.toList.length = s.size := Array.length_toList
  have hcnt := (count_two 97 98 (by decide) s.data.toList).2.2 hl
  have HL := Lib.hid hl
  have L := Lib.hid fun W => Tryd.strings_Count_one s 97 W
  have R := Lib.hid fun W => Tryd.strings_Count_one s 98 W
  unfold Lib.countByte at L R
  rw [hsz] at hcnt
  generalize s.data.toList.count 97 = m1 at *
  generalize s.data.toList.count 98 = m2 at *
  have hq : ((m1 : Int) + m2 != s.size) = false := by rw [← hcnt]; simp
  have hm1 : m1 ≤ 40 := by omega
  have hm2 : m2 ≤ 40 := by omega
  have X := Lib.hid fun g m W h => max_any g m W h
  clear hl hsz hcnt hA hE
  generalize hVA : matA s = VA at *
  generalize hVE : matE s = VE at *
  clear hVA hVE
  go_enter Tryd.func22, Tryd.ntmps22
  go_wp2_with fail
  refine (L.out _).mono ?_
  rintro e w1 ⟨rfl, rfl⟩
  go_wp2_with fail
  refine (R.out _).mono ?_
  rintro e w1 ⟨rfl, rfl⟩
  go_wp2_with fail
  go_loopw [24] (fun i wr => ∃ (k : Nat) (m : M4), k ≤ s.size ∧ i = .int .i64 k ∧ Whole wr w.heap.size 48 #[.int .i64 0, .int .i64 0, .int .i64 0, .int .i64 0] ∧ Whole wr (w.heap.size + 1) 72 m.arr ∧ m.ok ∧
    Hid (matF s.data.toList ⟨1, 0, 0, 1⟩ = matF (s.data.toList.drop k) m) ∧ Below w.heap.size w wr) (fun i _ => s.size - (intOf i).toNat)
  case atStart => exact ⟨0, ⟨1, 0, 0, 1⟩, Nat.zero_le _, rfl, (Whole.new w _ _).alloc _, Whole.new2 w _ _ _, by unfold M4.ok; simp, rfl, bl_alloc (bl_alloc (bl_refl _) _) _⟩
  case round =>
    obtain ⟨k, ⟨a, b, c, d⟩, hk, rfl, hR, hM, hok, HG, hb⟩ := hrel
    have k0 : wr.cell? ⟨w.heap.size + 1, 0, none⟩ = some (.int .i64 a) := (hM.cell 0).trans rfl
    have k1 : wr.cell? ⟨w.heap.size + 1, 1, none⟩ = some (.int .i64 b) := (hM.cell 1).trans rfl
    have k2 : wr.cell? ⟨w.heap.size + 1, 2, none⟩ = some (.int .i64 c) := (hM.cell 2).trans rfl
    have k3 : wr.cell? ⟨w.heap.size + 1, 3, none⟩ = some (.int .i64 d) := (hM.cell 3).trans rfl
    have r0 : wr.cell? ⟨w.heap.size, 0, none⟩ = some (.int .i64 0) := (hR.cell 0).trans rfl
    have r1 : wr.cell? ⟨w.heap.size, 1, none⟩ = some (.int .i64 0) := (hR.cell 1).trans rfl
    have r2 : wr.cell? ⟨w.heap.size, 2, none⟩ = some (.int .i64 0) := (hR.cell 2).trans rfl
    have r3 : wr.cell? ⟨w.heap.size, 3, none⟩ = some (.int .i64 0) := (hR.cell 3).trans rfl
    have f0 := hR.frozen 0
    have f1 := hR.frozen 1
    have f2 := hR.frozen 2
    have f3 := hR.frozen 3
    have g0 := hM.frozen 0
    have g1 := hM.frozen 1
    have g2 := hM.frozen 2
    have g3 := hM.frozen 3
    have hsz := hM.lt
    have hsz0 := hR.lt
    by_cases hlt : k < s.size
    · have hkl : k < s.data.toList.length := by rw [show s.data.toList.length = s.size from Array.length_toList]; exact hlt
      have HD : Hid (s.data.toList.drop k = s[k] :: s.data.toList.drop (k + 1)) := List.drop_eq_getElem_cons hkl
      have hc : s[k] = 97 ∨ s[k] = 98 := by
        have := List.all_eq_true.1 HL.out s[k] (List.getElem_mem hkl)
        simpa using this
      rcases hc with hc | hc
      · have hc1 : (s[k].toNat : Int) = 97 := by rw [hc]; rfl
        have hlk1 : (Instr.lookup 73 (.map (some wr.heap.size)) (.int .u8 97) false).run Tryd.prog (wr.alloc (.map #[⟨.int .u8 97, .agg mA.toArray, 0⟩, ⟨.int .u8 98, .agg mB.toArray, 1⟩] 2)).drew = .ok (.agg #[.int .i64 2, .int .i64 1, .int .i64 1, .int .i64 1]) (wr.alloc (.map #[⟨.int .u8 97, .agg mA.toArray, 0⟩, ⟨.int .u8 98, .agg mB.toArray, 1⟩] 2)).drew := look_first Tryd.underlying73 Tryd.underlying5 _ _ 97 98 (by decide) _ _ (heap_alloc_new wr _)
        have hlk2 : (Instr.lookup 73 (.map (some wr.heap.size)) (.int .u8 97) false).run Tryd.prog ((wr.alloc (.map #[⟨.int .u8 97, .agg mA.toArray, 0⟩, ⟨.int .u8 98, .agg mB.toArray, 1⟩] 2)).alloc (.cells #[.int .i64 0, .int .i64 0, .int .i64 0, .int .i64 0] 72)).drew = .ok (.agg #[.int .i64 2, .int .i64 1, .int .i64 1, .int .i64 1]) ((wr.alloc (.map #[⟨.int .u8 97, .agg mA.toArray, 0⟩, ⟨.int .u8 98, .agg mB.toArray, 1⟩] 2)).alloc (.cells #[.int .i64 0, .int .i64 0, .int .i64 0, .int .i64 0] 72)).drew := look_first Tryd.underlying73 Tryd.underlying5 _ _ 97 98 (by decide) _ _ ((Below.heap_alloc (wr.alloc (.map #[⟨.int .u8 97, .agg mA.toArray, 0⟩, ⟨.int .u8 98, .agg mB.toArray, 1⟩] 2)) (.cells #[.int .i64 0, .int .i64 0, .int .i64 0, .int .i64 0] 72) wr.heap.size (by simp)).trans (heap_alloc_new wr _))
        have hlk3 : (Instr.lookup 73 (.map (some (wr.heap.size + 1))) (.int .u8 97) false).run Tryd.prog ((wr.alloc (.cells #[.int .i64 0, .int .i64 0, .int .i64 0, .int .i64 0] 72)).alloc (.map #[⟨.int .u8 97, .agg mA.toArray, 0⟩, ⟨.int .u8 98, .agg mB.toArray, 1⟩] 2)).drew = .ok (.agg #[.int .i64 2, .int .i64 1, .int .i64 1, .int .i64 1]) ((wr.alloc (.cells #[.int .i64 0, .int .i64 0, .int .i64 0, .int .i64 0] 72)).alloc (.map #[⟨.int .u8 97, .agg mA.toArray, 0⟩, ⟨.int .u8 98, .agg mB.toArray, 1⟩] 2)).drew := look_first Tryd.underlying73 Tryd.underlying5 _ _ 97 98 (by decide) _ _ (heap_alloc2_new wr _ _)
        have HS : Hid (¬ (⟨a, b, c, d⟩ : M4).big → matF (s.data.toList.drop k) ⟨a, b, c, d⟩ = matF (s.data.toList.drop (k + 1)) ⟨a * 2 + b, a + b, c * 2 + d, c + d⟩) := by
          intro hm
          rw [HD.out, matF, if_neg hm, hc]
          rfl
        have HS1 : Hid ((⟨a, b, c, d⟩ : M4).big → matF (s.data.toList.drop k) ⟨a, b, c, d⟩ = none) := by
          intro hm
          rw [HD.out, matF, if_pos hm]
        clear HD hc
        by_cases hbig : (⟨a, b, c, d⟩ : M4).big
        · have hx : 1152921504606846976 < Lib.maxOf [a, b, c, d] := (maxOf4 a b c d).2 hbig
          have HZ : Hid (VA = zeros4 ∧ VE = 5) := by
            rw [HA.out, HE.out, HG.out, HS1.out hbig]; exact ⟨rfl, rfl⟩
          have X1 := Lib.hid fun W h => X.out (w.heap.size + 1) ⟨a, b, c, d⟩ W h
          generalize Lib.maxOf [a, b, c, d] = mx at *
          clear hbig HS HS1 HG hok
          go_wp2_with fail
          go_region_with (go_at_call 40; refine (letters_any _).mono ?_; rintro e w2 ⟨rfl, rfl⟩)
          all_goals
            go_wp2_with fail
            refine (X1.out _ ((hM.alloc _).alloc _).drew).mono ?_
            rintro e w3 ⟨rfl, rfl⟩
            go_wp2_with fail
            exact bodyPost_ret (res_cell_tmp (g := w.heap.size) Tryd.results22 rfl ((((((((hR.set 0 _).set 1 _).set 2 _).set 3 _).alloc _).alloc _).drew).load Tryd.underlying48 rfl arr37)) rfl ⟨by rw [HZ.out.1, HZ.out.2]; rfl, (bl_alloc (bl_alloc (bl_set (bl_set (bl_set (bl_set hb (by simp) _) (by simp) _) (by simp) _) (by simp) _) _) _).drew⟩
        · have hx : Lib.maxOf [a, b, c, d] ≤ 1152921504606846976 := Int.not_lt.1 fun h => hbig ((maxOf4 a b c d).1 h)
          have HG2 := Lib.hid (HG.out.trans (HS.out hbig))
          have HO : Hid (M4.ok ⟨a * 2 + b, a + b, c * 2 + d, c + d⟩) := M4.ok_step (m := ⟨a, b, c, d⟩) hok hbig 97
          have X1 := Lib.hid fun W h => X.out (w.heap.size + 1) ⟨a, b, c, d⟩ W h
          unfold M4.ok at hok
          unfold M4.big at hbig
          simp only at hok hbig
          obtain ⟨oa, ob, oc, od, _, _, _, _⟩ := hok
          have pa : a ≤ 1152921504606846976 := by omega
          have pb : b ≤ 1152921504606846976 := by omega
          have pc : c ≤ 1152921504606846976 := by omega
          have pd : d ≤ 1152921504606846976 := by omega
          generalize Lib.maxOf [a, b, c, d] = mx at *
          clear hbig HS HS1 HG
          go_wp2_with fail
          go_region_with (go_at_call 40; refine (letters_any _).mono ?_; rintro e w2 ⟨rfl, rfl⟩)
          all_goals
            go_wp2_with fail
            refine (X1.out _ ((hM.alloc _).alloc _).drew).mono ?_
            rintro e w3 ⟨rfl, rfl⟩
            go_wp2_with fail
            go_roundw
            case rel => exact ⟨k + 1, ⟨a * 2 + b, a + b, c * 2 + d, c + d⟩, by omega, by go_num, ((((((hR.far (by simp) _).far (by simp) _).far (by simp) _).far (by simp) _).alloc _).alloc _).drew, ((((((hM.set 0 _).set 1 _).set 2 _).set 3 _).alloc _).alloc _).drew, HO, HG2, (bl_alloc (bl_alloc (bl_set (bl_set (bl_set (bl_set hb (by simp) _) (by simp) _) (by simp) _) (by simp) _) _) _).drew⟩
            case measure => simp [intOf]; omega
      · have hc1 : (s[k].toNat : Int) = 98 := by rw [hc]; rfl
        have hlk1 : (Instr.lookup 73 (.map (some wr.heap.size)) (.int .u8 98) false).run Tryd.prog (wr.alloc (.map #[⟨.int .u8 97, .agg mA.toArray, 0⟩, ⟨.int .u8 98, .agg mB.toArray, 1⟩] 2)).drew = .ok (.agg #[.int .i64 5, .int .i64 2, .int .i64 2, .int .i64 1]) (wr.alloc (.map #[⟨.int .u8 97, .agg mA.toArray, 0⟩, ⟨.int .u8 98, .agg mB.toArray, 1⟩] 2)).drew := look_second Tryd.underlying73 Tryd.underlying5 _ _ 97 98 (by decide) (by decide) _ _ (heap_alloc_new wr _)
        have hlk2 : (Instr.lookup 73 (.map (some wr.heap.size)) (.int .u8 98) false).run Tryd.prog ((wr.alloc (.map #[⟨.int .u8 97, .agg mA.toArray, 0⟩, ⟨.int .u8 98, .agg mB.toArray, 1⟩] 2)).alloc (.cells #[.int .i64 0, .int .i64 0, .int .i64 0, .int .i64 0] 72)).drew = .ok (.agg #[.int .i64 5, .int .i64 2, .int .i64 2, .int .i64 1]) ((wr.alloc (.map #[⟨.int .u8 97, .agg mA.toArray, 0⟩, ⟨.int .u8 98, .agg mB.toArray, 1⟩] 2)).alloc (.cells #[.int .i64 0, .int .i64 0, .int .i64 0, .int .i64 0] 72)).drew := look_second Tryd.underlying73 Tryd.underlying5 _ _ 97 98 (by decide) (by decide) _ _ ((Below.heap_alloc (wr.alloc (.map #[⟨.int .u8 97, .agg mA.toArray, 0⟩, ⟨.int .u8 98, .agg mB.toArray, 1⟩] 2)) (.cells #[.int .i64 0, .int .i64 0, .int .i64 0, .int .i64 0] 72) wr.heap.size (by simp)).trans (heap_alloc_new wr _))
        have hlk3 : (Instr.lookup 73 (.map (some (wr.heap.size + 1))) (.int .u8 98) false).run Tryd.prog ((wr.alloc (.cells #[.int .i64 0, .int .i64 0, .int .i64 0, .int .i64 0] 72)).alloc (.map #[⟨.int .u8 97, .agg mA.toArray, 0⟩, ⟨.int .u8 98, .agg mB.toArray, 1⟩] 2)).drew = .ok (.agg #[.int .i64 5, .int .i64 2, .int .i64 2, .int .i64 1]) ((wr.alloc (.cells #[.int .i64 0, .int .i64 0, .int .i64 0, .int .i64 0] 72)).alloc (.map #[⟨.int .u8 97, .agg mA.toArray, 0⟩, ⟨.int .u8 98, .agg mB.toArray, 1⟩] 2)).drew := look_second Tryd.underlying73 Tryd.underlying5 _ _ 97 98 (by decide) (by decide) _ _ (heap_alloc2_new wr _ _)
        have HS : Hid (¬ (⟨a, b, c, d⟩ : M4).big → matF (s.data.toList.drop k) ⟨a, b, c, d⟩ = matF (s.data.toList.drop (k + 1)) ⟨a * 5 + b * 2, a * 2 + b, c * 5 + d * 2, c * 2 + d⟩) := by
          intro hm
          rw [HD.out, matF, if_neg hm, hc]
          rfl
        have HS1 : Hid ((⟨a, b, c, d⟩ : M4).big → matF (s.data.toList.drop k) ⟨a, b, c, d⟩ = none) := by
          intro hm
          rw [HD.out, matF, if_pos hm]
        clear HD hc
        by_cases hbig : (⟨a, b, c, d⟩ : M4).big
        · have hx : 1152921504606846976 < Lib.maxOf [a, b, c, d] := (maxOf4 a b c d).2 hbig
          have HZ : Hid (VA = zeros4 ∧ VE = 5) := by
            rw [HA.out, HE.out, HG.out, HS1.out hbig]; exact ⟨rfl, rfl⟩
          have X1 := Lib.hid fun W h => X.out (w.heap.size + 1) ⟨a, b, c, d⟩ W h
          generalize Lib.maxOf [a, b, c, d] = mx at *
          clear hbig HS HS1 HG hok
          go_wp2_with fail
          go_region_with (go_at_call 40; refine (letters_any _).mono ?_; rintro e w2 ⟨rfl, rfl⟩)
          all_goals
            go_wp2_with fail
            refine (X1.out _ ((hM.alloc _).alloc _).drew).mono ?_
            rintro e w3 ⟨rfl, rfl⟩
            go_wp2_with fail
            exact bodyPost_ret (res_cell_tmp (g := w.heap.size) Tryd.results22 rfl ((((((((hR.set 0 _).set 1 _).set 2 _).set 3 _).alloc _).alloc _).drew).load Tryd.underlying48 rfl arr37)) rfl ⟨by rw [HZ.out.1, HZ.out.2]; rfl, (bl_alloc (bl_alloc (bl_set (bl_set (bl_set (bl_set hb (by simp) _) (by simp) _) (by simp) _) (by simp) _) _) _).drew⟩
        · have hx : Lib.maxOf [a, b, c, d] ≤ 1152921504606846976 := Int.not_lt.1 fun h => hbig ((maxOf4 a b c d).1 h)
          have HG2 := Lib.hid (HG.out.trans (HS.out hbig))
          have HO : Hid (M4.ok ⟨a * 5 + b * 2, a * 2 + b, c * 5 + d * 2, c * 2 + d⟩) := M4.ok_step (m := ⟨a, b, c, d⟩) hok hbig 98
          have X1 := Lib.hid fun W h => X.out (w.heap.size + 1) ⟨a, b, c, d⟩ W h
          unfold M4.ok at hok
          unfold M4.big at hbig
          simp only at hok hbig
          obtain ⟨oa, ob, oc, od, _, _, _, _⟩ := hok
          have pa : a ≤ 1152921504606846976 := by omega
          have pb : b ≤ 1152921504606846976 := by omega
          have pc : c ≤ 1152921504606846976 := by omega
          have pd : d ≤ 1152921504606846976 := by omega
          generalize Lib.maxOf [a, b, c, d] = mx at *
          clear hbig HS HS1 HG
          go_wp2_with fail
          go_region_with (go_at_call 40; refine (letters_any _).mono ?_; rintro e w2 ⟨rfl, rfl⟩)
          all_goals
            go_wp2_with fail
            refine (X1.out _ ((hM.alloc _).alloc _).drew).mono ?_
            rintro e w3 ⟨rfl, rfl⟩
            go_wp2_with fail
            go_roundw
            case rel => exact ⟨k + 1, ⟨a * 5 + b * 2, a * 2 + b, c * 5 + d * 2, c * 2 + d⟩, by omega, by go_num, ((((((hR.far (by simp) _).far (by simp) _).far (by simp) _).far (by simp) _).alloc _).alloc _).drew, ((((((hM.set 0 _).set 1 _).set 2 _).set 3 _).alloc _).alloc _).drew, HO, HG2, (bl_alloc (bl_alloc (bl_set (bl_set (bl_set (bl_set hb (by simp) _) (by simp) _) (by simp) _) (by simp) _) _) _).drew⟩
            case measure => simp [intOf]; omega
    · have hd0 : s.data.toList.drop k = [] := List.drop_of_length_le (by rw [show s.data.toList.length = s.size from Array.length_toList]; omega)
      have HG2 := Lib.hid HG.out
      rw [hd0] at HG2
      clear hd0 HG
      by_cases hbig : (⟨a, b, c, d⟩ : M4).big
      · have hx : 1152921504606846976 < Lib.maxOf [a, b, c, d] := (maxOf4 a b c d).2 hbig
        have HZ : Hid (VA = zeros4 ∧ VE = 5) := by
          rw [HA.out, HE.out, HG2.out, matF, if_pos hbig]; exact ⟨rfl, rfl⟩
        have X1 := Lib.hid fun W h => X.out (w.heap.size + 1) ⟨a, b, c, d⟩ W h
        generalize Lib.maxOf [a, b, c, d] = mx at *
        clear hbig HG2 hok
        go_wp2_with fail
        refine (X1.out _ hM).mono ?_
        rintro e w3 ⟨rfl, rfl⟩
        go_wp2_with fail
        exact bodyPost_ret (res_cell_tmp (g := w.heap.size) Tryd.results22 rfl (((((hR.set 0 _).set 1 _).set 2 _).set 3 _).load Tryd.underlying48 rfl arr37)) rfl ⟨by rw [HZ.out.1, HZ.out.2]; rfl, bl_set (bl_set (bl_set (bl_set hb (by simp) _) (by simp) _) (by simp) _) (by simp) _⟩
      · have hx : Lib.maxOf [a, b, c, d] ≤ 1152921504606846976 := Int.not_lt.1 fun h => hbig ((maxOf4 a b c d).1 h)
        have HZ : Hid (VA = .agg (M4.arr ⟨a, b, c, d⟩) ∧ VE = 0) := by
          rw [HA.out, HE.out, HG2.out, matF, if_neg hbig]; exact ⟨rfl, rfl⟩
        have X1 := Lib.hid fun W h => X.out (w.heap.size + 1) ⟨a, b, c, d⟩ W h
        generalize Lib.maxOf [a, b, c, d] = mx at *
        clear hbig HG2 hok
        go_wp2_with fail
        refine (X1.out _ hM).mono ?_
        rintro e w3 ⟨rfl, rfl⟩
        go_wp2_with fail
        exact bodyPost_ret (res_cell_tmp (g := w.heap.size) Tryd.results22 rfl (((((hR.set 0 _).set 1 _).set 2 _).set 3 _).load Tryd.underlying48 rfl arr37)) rfl ⟨by rw [HZ.out.1, HZ.out.2]; rfl, bl_set (bl_set (bl_set (bl_set hb (by simp) _) (by simp) _) (by simp) _) (by simp) _⟩
end Go.Proofs.YtpflmlnkflpbnaaDoor
