import Derived.Test.YtebpeomonglkbaaDoorW24
namespace Go.Proofs.YtebpeomonglkbaaDoor
open Go.RowKit Go.Sort Cam
set_option linter.unusedVariables false

def refMatA (s : ByteArray) : Value := match matF s.data.toList ⟨1, 0, 0, 1⟩ with | some m => .agg m.arr | none => zeros4
def refMatB (s : ByteArray) : Bool := (matF s.data.toList ⟨1, 0, 0, 1⟩).isSome

theorem matF_big (l : List UInt8) (m : M4) (h : m.big) : matF l m = none := by
  cases l <;> simp [matF, h]
def mx4 (x y z v : Int) : Int := Lib.maxOf [x, y, z, v]
theorem max4_run (ts : Array TypeId) (t : TypeId) (x y z v : Int) (W : World) : (Builtin.max_ ts t #[.int .i64 x, .int .i64 y, .int .i64 z, .int .i64 v]).run Tryd.prog W = .ok (.int .i64 (mx4 x y z v)) W := by
  have e : mx4 x y z v = if v > (if z > (if y > x then y else x) then z else (if y > x then y else x)) then v else (if z > (if y > x then y else x) then z else (if y > x then y else x)) := by
    unfold mx4 Lib.maxOf
    simp only [List.foldl_cons, List.foldl_nil, List.headD_cons]
    omega
  rw [e]
  simp [Builtin.max_, Builtin.max2]
set_option maxRecDepth 100000 in
set_option maxHeartbeats 4000000 in
theorem refMatrix_word (s : ByteArray) (w : World) (hs : isWordB s = true) :
    Calls Tryd.prog 30 #[.string s] w fun e w' => e = .returned (.tuple #[refMatA s, .bool (refMatB s)]) ∧ Below w.heap.size w w' := by
  have MX := max4_run
  have HA : Hid (refMatA s = (match matF s.data.toList ⟨1, 0, 0, 1⟩ with | some m => .agg m.arr | none => zeros4)) := rfl
  have HE : Hid (refMatB s = (matF s.data.toList ⟨1, 0, 0, 1⟩).isSome) := rfl
  unfold isWordB at hs
  simp only [Bool.and_eq_true, decide_eq_true_eq] at hs
  obtain ⟨h40, hl⟩ := hs
  have HL := Lib.hid hl
  have HZ2 : Hid (s.data.toList.length = s.size) := Array.length_toList
  clear hl
  generalize hVA : refMatA s = VA at *
  generalize hVE : refMatB s = VE at *
  clear hVA hVE
  go_enter Tryd.func30, Tryd.ntmps30
  go_wp2_with fail
  go_loopw [5] (fun i wr => ∃ (k : Nat) (m : M4), k ≤ s.size ∧ i = .int .i64 k ∧ Whole wr w.heap.size 37 #[.int .i64 0, .int .i64 0, .int .i64 0, .int .i64 0] ∧ Whole wr (w.heap.size + 1) 37 m.arr ∧ m.ok ∧ ¬ m.big ∧
    Hid (matF s.data.toList ⟨1, 0, 0, 1⟩ = matF (s.data.toList.drop k) m) ∧ Below w.heap.size w wr) (fun i _ => s.size - (intOf i).toNat)
  case atStart => exact ⟨0, ⟨1, 0, 0, 1⟩, Nat.zero_le _, rfl, (Whole.new w _ _).alloc _, Whole.new2 w _ _ _, by unfold M4.ok; simp, by decide, rfl, bl_alloc (bl_alloc (bl_refl _) _) _⟩
  case round =>
    obtain ⟨k, ⟨a, b, c, d⟩, hk, rfl, hR, hM, hok, hnb, HG, hb⟩ := hrel
    have k0 : wr.cell? ⟨w.heap.size + 1, 0, none⟩ = some (.int .i64 a) := (hM.cell 0).trans rfl
    have k1 : wr.cell? ⟨w.heap.size + 1, 1, none⟩ = some (.int .i64 b) := (hM.cell 1).trans rfl
    have k2 : wr.cell? ⟨w.heap.size + 1, 2, none⟩ = some (.int .i64 c) := (hM.cell 2).trans rfl
    have k3 : wr.cell? ⟨w.heap.size + 1, 3, none⟩ = some (.int .i64 d) := (hM.cell 3).trans rfl
    have r0 : wr.cell? ⟨w.heap.size, 0, none⟩ = some (.int .i64 0) := (hR.cell 0).trans rfl
    have r1 : wr.cell? ⟨w.heap.size, 1, none⟩ = some (.int .i64 0) := (hR.cell 1).trans rfl
    have r2 : wr.cell? ⟨w.heap.size, 2, none⟩ = some (.int .i64 0) := (hR.cell 2).trans rfl
    have r3 : wr.cell? ⟨w.heap.size, 3, none⟩ = some (.int .i64 0) := (hR.cell 3).trans rfl
    have f0 := hR.frozen 0
    have f1 := hR.frozen 1
    have f2 := hR.frozen 2
    have f3 := hR.frozen 3
    have g0 := hM.frozen 0
    have g1 := hM.frozen 1
    have g2 := hM.frozen 2
    have g3 := hM.frozen 3
    have hsz := hM.lt
    have hsz0 := hR.lt
    have hok' := hok
    have hnb' := hnb
    unfold M4.ok at hok'
    unfold M4.big at hnb'
    simp only at hok' hnb'
    obtain ⟨oa, ob, oc, od, _, _, _, _⟩ := hok'
    have pa : a ≤ 1152921504606846976 := by omega
    have pb : b ≤ 1152921504606846976 := by omega
    have pc : c ≤ 1152921504606846976 := by omega
    have pd : d ≤ 1152921504606846976 := by omega
    clear hnb'
    by_cases hlt : k < s.size
    · have hkl : k < s.data.toList.length := by have := HZ2.out; omega
      have HD : Hid (s.data.toList.drop k = s[k]'hlt :: s.data.toList.drop (k + 1)) := List.drop_eq_getElem_cons hkl
      have hc : s[k]'hlt = 97 ∨ s[k]'hlt = 98 := by
        have := List.all_eq_true.1 HL.out (s[k]'hlt) (List.getElem_mem hkl)
        simpa using this
      have HG1 : Hid (matF s.data.toList ⟨1, 0, 0, 1⟩ = matF (s.data.toList.drop (k + 1)) (M4.step ⟨a, b, c, d⟩ (s[k]'hlt))) := by
        show _ = _
        rw [HG.out, HD.out, matF, if_neg hnb]
      have HO := Lib.hid (M4.ok_step (m := ⟨a, b, c, d⟩) hok hnb (s[k]'hlt))
      have HNB := Lib.hid hnb
      clear hok HG hnb HD
      rcases hc with hc | hc
      · have hc1 : ((s[k]'hlt).toNat : Int) = 97 := by rw [hc]; rfl
        rw [hc] at HO HG1
        clear hc
        by_cases hbig : M4.big ⟨a * 2 + b, a + b, c * 2 + d, c + d⟩
        · have hx : 1152921504606846976 < mx4 (a * 2 + b) (a + b) (c * 2 + d) (c + d) := (maxOf4 _ _ _ _).2 hbig
          have HZ : Hid (VA = zeros4 ∧ VE = false) := by
            have e : matF s.data.toList ⟨1, 0, 0, 1⟩ = none := HG1.out.trans (matF_big _ _ hbig)
            rw [HA.out, HE.out, e]; exact ⟨rfl, rfl⟩
          clear hbig HG1 HO HNB
          go_wp2_with fail
          exact bodyPost_ret (res_cell_tmp (g := w.heap.size) Tryd.results30 rfl (((((((((hR.far (by simp) _).far (by simp) _).far (by simp) _).far (by simp) _).set 0 _).set 1 _).set 2 _).set 3 _).alloc _ |>.load Tryd.underlying37 rfl arr37)) rfl ⟨by rw [HZ.out.1, HZ.out.2]; rfl, bl_alloc (bl_set (bl_set (bl_set (bl_set (bl_set (bl_set (bl_set (bl_set hb (by simp) _) (by simp) _) (by simp) _) (by simp) _) (by simp) _) (by simp) _) (by simp) _) (by simp) _) _⟩
        · have hx : mx4 (a * 2 + b) (a + b) (c * 2 + d) (c + d) ≤ 1152921504606846976 := Int.not_lt.1 fun h => hbig ((maxOf4 _ _ _ _).1 h)
          have HB : Hid (¬ M4.big ⟨a * 2 + b, a + b, c * 2 + d, c + d⟩) := hbig
          clear hbig HNB
          go_wp2_with fail
          go_roundw
          case rel => exact ⟨k + 1, ⟨a * 2 + b, a + b, c * 2 + d, c + d⟩, by omega, by go_num, ((((hR.far (by simp) _).far (by simp) _).far (by simp) _).far (by simp) _).alloc _, ((((hM.set 0 _).set 1 _).set 2 _).set 3 _).alloc _, HO.out, HB.out, HG1.out, bl_alloc (bl_set (bl_set (bl_set (bl_set hb (by simp) _) (by simp) _) (by simp) _) (by simp) _) _⟩
          case measure => simp [intOf]; omega
      · have hc1 : ((s[k]'hlt).toNat : Int) = 98 := by rw [hc]; rfl
        rw [hc] at HO HG1
        clear hc
        by_cases hbig : M4.big ⟨a * 5 + b * 2, a * 2 + b, c * 5 + d * 2, c * 2 + d⟩
        · have hx : 1152921504606846976 < mx4 (a * 5 + b * 2) (a * 2 + b) (c * 5 + d * 2) (c * 2 + d) := (maxOf4 _ _ _ _).2 hbig
          have HZ : Hid (VA = zeros4 ∧ VE = false) := by
            have e : matF s.data.toList ⟨1, 0, 0, 1⟩ = none := HG1.out.trans (matF_big _ _ hbig)
            rw [HA.out, HE.out, e]; exact ⟨rfl, rfl⟩
          clear hbig HG1 HO HNB
          go_wp2_with fail
          exact bodyPost_ret (res_cell_tmp (g := w.heap.size) Tryd.results30 rfl (((((((((hR.far (by simp) _).far (by simp) _).far (by simp) _).far (by simp) _).set 0 _).set 1 _).set 2 _).set 3 _).alloc _ |>.load Tryd.underlying37 rfl arr37)) rfl ⟨by rw [HZ.out.1, HZ.out.2]; rfl, bl_alloc (bl_set (bl_set (bl_set (bl_set (bl_set (bl_set (bl_set (bl_set hb (by simp) _) (by simp) _) (by simp) _) (by simp) _) (by simp) _) (by simp) _) (by simp) _) (by simp) _) _⟩
        · have hx : mx4 (a * 5 + b * 2) (a * 2 + b) (c * 5 + d * 2) (c * 2 + d) ≤ 1152921504606846976 := Int.not_lt.1 fun h => hbig ((maxOf4 _ _ _ _).1 h)
          have HB : Hid (¬ M4.big ⟨a * 5 + b * 2, a * 2 + b, c * 5 + d * 2, c * 2 + d⟩) := hbig
          clear hbig HNB
          go_wp2_with fail
          go_roundw
          case rel => exact ⟨k + 1, ⟨a * 5 + b * 2, a * 2 + b, c * 5 + d * 2, c * 2 + d⟩, by omega, by go_num, ((((hR.far (by simp) _).far (by simp) _).far (by simp) _).far (by simp) _).alloc _, ((((hM.set 0 _).set 1 _).set 2 _).set 3 _).alloc _, HO.out, HB.out, HG1.out, bl_alloc (bl_set (bl_set (bl_set (bl_set hb (by simp) _) (by simp) _) (by simp) _) (by simp) _) _⟩
          case measure => simp [intOf]; omega
    · have hd0 : s.data.toList.drop k = [] := List.drop_of_length_le (by have := HZ2.out; omega)
      have HZ : Hid (VA = .agg (M4.arr ⟨a, b, c, d⟩) ∧ VE = true) := by
        have e : matF s.data.toList ⟨1, 0, 0, 1⟩ = some ⟨a, b, c, d⟩ := by rw [HG.out, hd0, matF, if_neg hnb]
        rw [HA.out, HE.out, e]; exact ⟨rfl, rfl⟩
      clear hd0 HG hok hnb
      go_wp2_with fail
      exact bodyPost_ret (res_cell_tmp (g := w.heap.size) Tryd.results30 rfl (((((hR.set 0 _).set 1 _).set 2 _).set 3 _).load Tryd.underlying37 rfl arr37)) rfl ⟨by rw [HZ.out.1, HZ.out.2]; rfl, bl_set (bl_set (bl_set (bl_set hb (by simp) _) (by simp) _) (by simp) _) (by simp) _⟩
end Go.Proofs.YtebpeomonglkbaaDoor
