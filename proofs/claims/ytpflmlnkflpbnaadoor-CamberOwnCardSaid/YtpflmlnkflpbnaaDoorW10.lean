import Derived.Test.YtpflmlnkflpbnaaDoorW9
namespace Go.Proofs.YtpflmlnkflpbnaaDoor
open Go.RowKit Go.Sort Cam
set_option linter.unusedVariables false

/-! isPath -/
def isPathB (s : ByteArray) : Bool := decide (s.size ≤ 60) && s.data.toList.all fun c => c == 76 || c == 82
theorem count_two (a b : UInt8) (h : a ≠ b) : ∀ l : List UInt8, l.count a + l.count b ≤ l.length ∧ ((l.count a + l.count b = l.length) ↔ (l.all fun c => c == a || c == b) = true)
  | [] => by simp
  | c :: l => by
    obtain ⟨h1, h2⟩ := count_two a b h l
    by_cases ha : c = a
    · subst ha
      have : (c == b) = false := by simp [h]
      rw [List.count_cons_self, List.count_cons_of_ne h]
      simp only [List.length_cons, List.all_cons, beq_self_eq_true, Bool.true_or, Bool.true_and]
      exact ⟨by omega, by rw [← h2]; omega⟩
    · by_cases hb : c = b
      · subst hb
        rw [List.count_cons_self, List.count_cons_of_ne ha]
        simp only [List.length_cons, List.all_cons, beq_self_eq_true, Bool.or_true, Bool.true_and]
        exact ⟨by omega, by rw [← h2]; omega⟩
      · rw [List.count_cons_of_ne ha, List.count_cons_of_ne hb]
        simp only [List.length_cons, List.all_cons]
        refine ⟨by omega, fun e => by omega, fun e => ?_⟩
        simp [ha, hb] at e

theorem isPath_any (s : ByteArray) (w : World) (hs : s.size ≤ 140737488351232) :
    Calls Tryd.prog 35 #[.string s] w fun e w' => e = .returned (.bool (isPathB s)) ∧ w = w' := by
  have hsz : s.data.toList.length = s.size := Array.length_toList
  obtain ⟨c1, c2⟩ := count_two 76 82 (by decide) s.data.toList
  have L := Lib.hid fun W => Tryd.strings_Count_one s 76 W
  have R := Lib.hid fun W => Tryd.strings_Count_one s 82 W
  unfold Lib.countByte at L R
  have hl1 : s.data.toList.count 76 ≤ 140737488351232 := by omega
  have hl2 : s.data.toList.count 82 ≤ 140737488351232 := by omega
  have hB : Hid (isPathB s = (decide (s.size ≤ 60) && (s.data.toList.all fun c => c == 76 || c == 82))) := rfl
  have hC : Hid (s.data.toList.count 76 + s.data.toList.count 82 = s.size ↔ (s.data.toList.all fun c => c == 76 || c == 82) = true) := by rw [← hsz]; exact c2
  clear hsz c1 c2
  generalize s.data.toList.count 76 = m at *
  generalize s.data.toList.count 82 = n at *
  by_cases h6 : s.size ≤ 60
  · go_enter Tryd.func35, Tryd.ntmps35
    go_wp2_with fail
    refine (L.out _).mono ?_
    rintro e w1 ⟨rfl, rfl⟩
    go_wp2_with fail
    refine (R.out _).mono ?_
    rintro e w1 ⟨rfl, rfl⟩
    go_wp2
    go_ret
    refine ⟨ret_bool ?_, rfl⟩
    rw [hB.out, show decide (s.size ≤ 60) = true from by simp [h6], Bool.true_and]
    show ((m : Int) + n == s.size) = _
    rw [Bool.eq_iff_iff, ← hC.out]
    simp
    omega
  · go_enter Tryd.func35, Tryd.ntmps35
    go_wp2
    go_ret
    exact ⟨ret_bool (by rw [hB.out]; simp; omega), rfl⟩

theorem join_any (u v : ByteArray) (w : World) (hu : u.size ≤ 140737488351232) (hv : v.size ≤ 140737488351232) :
    Calls Tryd.prog 37 #[.string u, .string v] w fun e w' => e = .returned (.string (u ++ v)) ∧ w = w' := by
  go_enter Tryd.func37, Tryd.ntmps37
  go_wp2
  go_ret
  exact ⟨rfl, rfl⟩
theorem len_any (u : ByteArray) (w : World) (hu : u.size ≤ 140737488351232) :
    Calls Tryd.prog 38 #[.string u] w fun e w' => e = .returned (.int .i64 u.size) ∧ w = w' := by
  go_enter Tryd.func38, Tryd.ntmps38
  go_wp2
  go_ret
  exact ⟨rfl, rfl⟩

theorem ret2b {X : Value} {a b : Bool} (h : a = b) : Ending.returned (.tuple #[X, .bool a]) = .returned (.tuple #[X, .bool b]) := by rw [h]

/-- 'grow' at strings: the two words behind the path l. -/
def growS (most : Nat) : List UInt8 → Bool → ByteArray → ByteArray → ByteArray × ByteArray
  | [], _, u, v => (u, v)
  | c :: l, n, u, v => if most < (u ++ v).size then (u, v) else if (if c = 76 then !n else n) then growS most l (if c = 76 then !n else n) u (u ++ v) else growS most l (if c = 76 then !n else n) (u ++ v) v
def newV (n : Bool) : Value := .int .i64 (if n then 1 else 0)
def wordB (s : ByteArray) : ByteArray := (growS 40 s.data.toList true ⟨#[97]⟩ ⟨#[98]⟩).1 ++ (growS 40 s.data.toList true ⟨#[97]⟩ ⟨#[98]⟩).2

theorem info100 : (Tryd.prog.info? 99).map (·.size) = some 2 := by kernel_rfl

set_option maxRecDepth 100000 in
set_option maxHeartbeats 2000000 in
theorem growS_any (s : ByteArray) (w : World) (hs : s.size ≤ 61) :
    Calls Tryd.prog 36 #[.string s, .string ⟨#[97]⟩, .string ⟨#[98]⟩, .func (.func 37) #[] #[], .func (.func 38) #[] #[], .int .i64 40] w fun e w' =>
      e = .returned (.tuple #[.string (wordB s), .bool (decide ((wordB s).size ≤ 40))]) ∧ Below w.heap.size w w' := by
  have hW : Hid (wordB s = (growS 40 s.data.toList true ⟨#[97]⟩ ⟨#[98]⟩).1 ++ (growS 40 s.data.toList true ⟨#[97]⟩ ⟨#[98]⟩).2) := rfl
  generalize wordB s = W at *
  go_enter Tryd.func36, Tryd.ntmps36
  go_wp2_with fail
  go_step3
  go_wp2_with fail
  go_step3
  go_wp2_with fail
  go_loopw [14, 24] (fun a i wr => ∃ (k : Nat) (n : Bool) (u v : ByteArray), k ≤ s.size ∧ i = .int .i64 k ∧ a = newV n ∧ Whole wr w.heap.size 99 #[.string u, .string v] ∧ u.size ≤ 40 ∧ v.size ≤ 40 ∧
    Hid (growS 40 s.data.toList true ⟨#[97]⟩ ⟨#[98]⟩ = growS 40 (s.data.toList.drop k) n u v) ∧ Below w.heap.size w wr) (fun _ i _ => s.size - (intOf i).toNat)
  case atStart => exact ⟨0, true, ⟨#[97]⟩, ⟨#[98]⟩, Nat.zero_le _, rfl, rfl, Whole.new w _ _, by decide, by decide, rfl, bl_alloc (bl_refl _) _⟩
  case round =>
    obtain ⟨k, n, u, v, hk, rfl, rfl, hB, hu, hv, HG, hb⟩ := hrel
    have k0 : wr.cell? ⟨w.heap.size, 0, none⟩ = some (.string u) := (hB.cell 0).trans rfl
    have k1 : wr.cell? ⟨w.heap.size, 1, none⟩ = some (.string v) := (hB.cell 1).trans rfl
    have j0 := hB.frozen 0
    have j1 := hB.frozen 1
    have J := Lib.hid fun W => join_any u v W (by omega) (by omega)
    by_cases hlt : k < s.size
    · have hkl : k < s.data.toList.length := by rw [show s.data.toList.length = s.size from Array.length_toList]; exact hlt
      have HD : Hid (s.data.toList.drop k = s[k] :: s.data.toList.drop (k + 1)) := by
        have := List.drop_eq_getElem_cons hkl
        exact this
      by_cases hm : 40 < (u ++ v).size
      · have HE : Hid (W = u ++ v) := by
          rw [hW.out, HG.out, HD.out]
          simp only [growS]
          rw [if_pos hm]; exact rfl
        have L := Lib.hid fun X => len_any (u ++ v) X (by simp; omega)
        clear HG HD hW
        generalize hX : u ++ v = X at *
        clear hX
        go_wp2_with fail
        refine (J.out _).mono ?_
        rintro e w1 ⟨rfl, rfl⟩
        go_wp2_with fail
        refine (L.out _).mono ?_
        rintro e w1 ⟨rfl, rfl⟩
        go_wp2_with fail
        refine (J.out _).mono ?_
        rintro e w1 ⟨rfl, rfl⟩
        go_wp2_with fail
        refine (L.out _).mono ?_
        rintro e w1 ⟨rfl, rfl⟩
        go_wp2_with fail
        rw [Exit.noGoto_ret]
        go_ret2
        exact ⟨by rw [HE.out]; exact ret2b (decide_eq_decide.2 (by omega)), hb⟩
      · have L := Lib.hid fun Y => len_any (u ++ v) Y (by simp; omega)
        by_cases hc : s[k] = 76
        · have hc1 : ((s[k].toNat : Int) == 76) = true := by rw [hc]; rfl
          cases n
          · have HG2 : Hid (growS 40 s.data.toList true ⟨#[97]⟩ ⟨#[98]⟩ = growS 40 (s.data.toList.drop (k + 1)) true u (u ++ v)) := by
              rw [HG.out, HD.out]
              simp only [growS]
              rw [if_neg hm]
              simp [hc, Hid]
            clear HG HD
            have hX : (u ++ v).size ≤ 40 := by omega
            generalize u ++ v = X at *
            simp only [newV, Bool.false_eq_true, if_false]
            clear hc hm
            go_wp2_with fail
            refine (J.out _).mono ?_
            rintro e w1 ⟨rfl, rfl⟩
            go_wp2_with fail
            refine (L.out _).mono ?_
            rintro e w1 ⟨rfl, rfl⟩
            go_wp2_with fail
            go_roundw
            case rel => exact ⟨k + 1, true, u, X, by omega, by go_num, rfl, hB.set 1 _, by omega, by omega, HG2, bl_set hb (by simp) _⟩
            case measure => simp [intOf]; omega
          · have HG2 : Hid (growS 40 s.data.toList true ⟨#[97]⟩ ⟨#[98]⟩ = growS 40 (s.data.toList.drop (k + 1)) false (u ++ v) v) := by
              rw [HG.out, HD.out]
              simp only [growS]
              rw [if_neg hm]
              simp [hc, Hid]
            clear HG HD
            have hX : (u ++ v).size ≤ 40 := by omega
            generalize u ++ v = X at *
            simp only [newV, if_true]
            clear hc hm
            go_wp2_with fail
            refine (J.out _).mono ?_
            rintro e w1 ⟨rfl, rfl⟩
            go_wp2_with fail
            refine (L.out _).mono ?_
            rintro e w1 ⟨rfl, rfl⟩
            go_wp2_with fail
            go_roundw
            case rel => exact ⟨k + 1, false, X, v, by omega, by go_num, rfl, hB.set 0 _, by omega, by omega, HG2, bl_set hb (by simp) _⟩
            case measure => simp [intOf]; omega
        · have hc1 : ((s[k].toNat : Int) == 76) = false := by
            rw [beq_eq_false_iff_ne]; intro e; exact hc (UInt8.toNat_inj.1 (by have : (76 : UInt8).toNat = 76 := rfl; omega))
          cases n
          · have HG2 : Hid (growS 40 s.data.toList true ⟨#[97]⟩ ⟨#[98]⟩ = growS 40 (s.data.toList.drop (k + 1)) false (u ++ v) v) := by
              rw [HG.out, HD.out]
              simp only [growS]
              rw [if_neg hm]
              simp [hc, Hid]
            clear HG HD
            have hX : (u ++ v).size ≤ 40 := by omega
            generalize u ++ v = X at *
            simp only [newV, Bool.false_eq_true, if_false]
            clear hc hm
            go_wp2_with fail
            refine (J.out _).mono ?_
            rintro e w1 ⟨rfl, rfl⟩
            go_wp2_with fail
            refine (L.out _).mono ?_
            rintro e w1 ⟨rfl, rfl⟩
            go_wp2_with fail
            go_roundw
            case rel => exact ⟨k + 1, false, X, v, by omega, by go_num, rfl, hB.set 0 _, by omega, by omega, HG2, bl_set hb (by simp) _⟩
            case measure => simp [intOf]; omega
          · have HG2 : Hid (growS 40 s.data.toList true ⟨#[97]⟩ ⟨#[98]⟩ = growS 40 (s.data.toList.drop (k + 1)) true u (u ++ v)) := by
              rw [HG.out, HD.out]
              simp only [growS]
              rw [if_neg hm]
              simp [hc, Hid]
            clear HG HD
            have hX : (u ++ v).size ≤ 40 := by omega
            generalize u ++ v = X at *
            simp only [newV, if_true]
            clear hc hm
            go_wp2_with fail
            refine (J.out _).mono ?_
            rintro e w1 ⟨rfl, rfl⟩
            go_wp2_with fail
            refine (L.out _).mono ?_
            rintro e w1 ⟨rfl, rfl⟩
            go_wp2_with fail
            go_roundw
            case rel => exact ⟨k + 1, true, u, X, by omega, by go_num, rfl, hB.set 1 _, by omega, by omega, HG2, bl_set hb (by simp) _⟩
            case measure => simp [intOf]; omega
    · have hkk : k = s.size := by omega
      have HE : Hid (W = u ++ v) := by
        rw [hW.out, HG.out, List.drop_of_length_le (by rw [show s.data.toList.length = s.size from Array.length_toList]; omega)]
        rfl
      have L := Lib.hid fun X => len_any (u ++ v) X (by simp; omega)
      clear HG hW hkk
      generalize hX : u ++ v = X at *
      clear hX
      go_wp2_with fail
      refine (J.out _).mono ?_
      rintro e w1 ⟨rfl, rfl⟩
      go_wp2_with fail
      refine (L.out _).mono ?_
      rintro e w1 ⟨rfl, rfl⟩
      go_wp2_with fail
      rw [Exit.noGoto_ret]
      go_ret2
      exact ⟨by rw [HE.out]; exact ret2b (decide_eq_decide.2 (by omega)), hb⟩
end Go.Proofs.YtpflmlnkflpbnaaDoor
