import Derived.Test.YtpmamdadcmcbeaaDoorW23
import Derived.Test.YtpmamdadcmcbeaaDoorW18
namespace Go.Proofs.YtpmamdadcmcbeaaDoor
open Go.RowKit Go.Sort Cam
set_option linter.unusedVariables false
set_option linter.unusedSimpArgs false

def stepF (c : UInt8) (t : T3) : T3 := exF (if c = 82 then 1 else 0) t.1 t.2.1 t.2.2
/-- The triple with a path, from a triple on. -/
def followF : List UInt8 → T3 → Option T3
  | [], t => some t
  | c :: l, t => if okB (stepF c t) = true then followF l (stepF c t) else none
def followO (s : ByteArray) : Option T3 := followF s.data.toList (1, 2, 5)
def optV (o : Option T3) : Value := match o with | some t => vT t | none => zeros3

theorem stepF_tri {c : UInt8} {x y z : Int} (h : Tri x y z) : ∃ p q r, stepF c (x, y, z) = (p, q, r) ∧ Tri p q r := by
  unfold stepF exF
  by_cases hc : c = 82
  · simp only [hc, if_true]; exact ⟨_, _, _, rfl, h.right⟩
  · simp only [hc, if_false]; exact ⟨_, _, _, rfl, h.left⟩

set_option maxRecDepth 100000 in
set_option maxHeartbeats 4000000 in
theorem refFollow_path (s : ByteArray) (w : World) (hs : isPathB s = true) :
    Calls Tryd.prog 38 #[.string s] w fun e w' => e = .returned (.tuple #[optV (followO s), .bool (followO s).isSome]) ∧ Below w.heap.size w w' := by
  have HA : Hid (followO s = followF s.data.toList (1, 2, 5)) := rfl
  unfold isPathB at hs
  simp only [Bool.and_eq_true, decide_eq_true_eq] at hs
  obtain ⟨h60, hl⟩ := hs
  have HL := Lib.hid hl
  have HZ2 : Hid (s.data.toList.length = s.size) := Array.length_toList
  clear hl
  generalize followO s = VA at *
  go_enter Tryd.func38, Tryd.ntmps38
  go_wp2_with fail
  go_loopw [5] (fun i wr => ∃ (k : Nat) (x y z : Int), k ≤ s.size ∧ i = .int .i64 k ∧ Whole wr w.heap.size 33 #[.int .i64 0, .int .i64 0, .int .i64 0] ∧ Whole wr (w.heap.size + 1) 33 #[.int .i64 x, .int .i64 y, .int .i64 z] ∧
    Hid (Tri x y z ∧ z ≤ 1000000000) ∧ Hid (followF s.data.toList (1, 2, 5) = followF (s.data.toList.drop k) (x, y, z)) ∧ Below w.heap.size w wr) (fun i _ => s.size - (intOf i).toNat)
  case atStart => exact ⟨0, 1, 2, 5, Nat.zero_le _, rfl, (Whole.new w _ _).alloc _, Whole.new2 w _ _ _, ⟨tri125, by omega⟩, rfl, bl_alloc (bl_alloc (bl_refl _) _) _⟩
  case round =>
    obtain ⟨k, x, y, z, hk, rfl, hR, hM, HT, HG, hb⟩ := hrel
    have k0 : wr.cell? ⟨w.heap.size + 1, 0, none⟩ = some (.int .i64 x) := (hM.cell 0).trans rfl
    have k1 : wr.cell? ⟨w.heap.size + 1, 1, none⟩ = some (.int .i64 y) := (hM.cell 1).trans rfl
    have k2 : wr.cell? ⟨w.heap.size + 1, 2, none⟩ = some (.int .i64 z) := (hM.cell 2).trans rfl
    have r0 : wr.cell? ⟨w.heap.size, 0, none⟩ = some (.int .i64 0) := (hR.cell 0).trans rfl
    have r1 : wr.cell? ⟨w.heap.size, 1, none⟩ = some (.int .i64 0) := (hR.cell 1).trans rfl
    have r2 : wr.cell? ⟨w.heap.size, 2, none⟩ = some (.int .i64 0) := (hR.cell 2).trans rfl
    have f0 := hR.frozen 0
    have f1 := hR.frozen 1
    have f2 := hR.frozen 2
    have g0 := hM.frozen 0
    have g1 := hM.frozen 1
    have g2 := hM.frozen 2
    have hsz := hM.lt
    have hsz0 := hR.lt
    by_cases hlt : k < s.size
    · have hkl : k < s.data.toList.length := by have := HZ2.out; omega
      have HD : Hid (s.data.toList.drop k = s[k]'hlt :: s.data.toList.drop (k + 1)) := List.drop_eq_getElem_cons hkl
      have hc : s[k]'hlt = 76 ∨ s[k]'hlt = 82 := by
        have := List.all_eq_true.1 HL.out (s[k]'hlt) (List.getElem_mem hkl)
        simpa using this
      obtain ⟨p, q, r, hp, hT⟩ := stepF_tri (c := s[k]'hlt) HT.out.1
      obtain ⟨ok, hok⟩ : ∃ ok, okB (p, q, r) = ok := ⟨_, rfl⟩
      have HG1 : Hid (followF s.data.toList (1, 2, 5) = if ok = true then followF (s.data.toList.drop (k + 1)) (p, q, r) else none) := by
        show _ = _
        rw [HG.out, HD.out, followF, hp, hok]
      have HN : Hid (ok = true → Tri p q r ∧ r ≤ 1000000000) := by
        intro e; rw [e] at hok; exact ⟨hT, by simpa [okB] using hok⟩
      have E : Hid (∀ W, Calls Tryd.prog 43 #[trip x y z, .int .i64 (if s[k]'hlt = 82 then 1 else 0)] W fun e w' => e = .returned (.tuple #[vT (p, q, r), .bool ok]) ∧ Below W.heap.size W w') := by
        intro W
        have := refExch_any (if s[k]'hlt = 82 then 1 else 0) x y z W HT.out.1 HT.out.2 (by split <;> omega)
        rw [show exF (if s[k]'hlt = 82 then 1 else 0) x y z = (p, q, r) from hp, hok] at this
        exact this
      unfold vT trip at E
      clear hp hT hok HG HD hkl
      rcases hc with hc | hc
      · have hc1 : ((s[k]'hlt).toNat : Int) = 76 := by rw [hc]; rfl
        rw [hc, if_neg (by decide)] at E
        clear hc
        cases ok
        · have HV : Hid (VA = none) := HA.out.trans (HG1.out.trans (if_neg (by simp)))
          go_wp2_with fail
          refine (E.out _).mono ?_
          rintro e w1 ⟨rfl, hb1⟩
          obtain ⟨hc1, hf1⟩ := bl_cells hb1
          have hs1 : w.heap.size + 1 < w1.heap.size := Nat.lt_of_lt_of_le hsz hb1.size
          have hs1' : w.heap.size < w1.heap.size := Nat.lt_of_lt_of_le hsz0 hb1.size
          have hbA := bl_then hb hb1
          have hR1 := hR.kept hb1
          go_wp2_with fail
          exact bodyPost_ret (res_cell_tmp (g := w.heap.size) Tryd.results38 rfl (((((hR1.set 0 _).set 1 _).set 2 _).alloc _).load Tryd.underlying33 rfl arr22)) rfl ⟨by rw [HV.out]; rfl, bl_alloc (bl_set (bl_set (bl_set hbA (by simp) _) (by simp) _) (by simp) _) _⟩
        · go_wp2_with fail
          refine (E.out _).mono ?_
          rintro e w1 ⟨rfl, hb1⟩
          obtain ⟨hc1, hf1⟩ := bl_cells hb1
          have hs1 : w.heap.size + 1 < w1.heap.size := Nat.lt_of_lt_of_le hsz hb1.size
          have hs1' : w.heap.size < w1.heap.size := Nat.lt_of_lt_of_le hsz0 hb1.size
          have hbA := bl_then hb hb1
          have hR1 := hR.kept hb1
          have hM1 := hM.kept hb1
          go_wp2_with fail
          go_roundw
          case rel => exact ⟨k + 1, p, q, r, by omega, by go_num, (((hR1.far (by simp) _).far (by simp) _).far (by simp) _).alloc _, (((hM1.set 0 _).set 1 _).set 2 _).alloc _, HN.out trivial, HG1.out.trans (if_pos trivial), bl_alloc (bl_set (bl_set (bl_set hbA (by simp) _) (by simp) _) (by simp) _) _⟩
          case measure => simp [intOf]; omega
      · have hc1 : ((s[k]'hlt).toNat : Int) = 82 := by rw [hc]; rfl
        rw [hc, if_pos rfl] at E
        clear hc
        cases ok
        · have HV : Hid (VA = none) := HA.out.trans (HG1.out.trans (if_neg (by simp)))
          go_wp2_with fail
          refine (E.out _).mono ?_
          rintro e w1 ⟨rfl, hb1⟩
          obtain ⟨hc1, hf1⟩ := bl_cells hb1
          have hs1 : w.heap.size + 1 < w1.heap.size := Nat.lt_of_lt_of_le hsz hb1.size
          have hs1' : w.heap.size < w1.heap.size := Nat.lt_of_lt_of_le hsz0 hb1.size
          have hbA := bl_then hb hb1
          have hR1 := hR.kept hb1
          go_wp2_with fail
          exact bodyPost_ret (res_cell_tmp (g := w.heap.size) Tryd.results38 rfl (((((hR1.set 0 _).set 1 _).set 2 _).alloc _).load Tryd.underlying33 rfl arr22)) rfl ⟨by rw [HV.out]; rfl, bl_alloc (bl_set (bl_set (bl_set hbA (by simp) _) (by simp) _) (by simp) _) _⟩
        · go_wp2_with fail
          refine (E.out _).mono ?_
          rintro e w1 ⟨rfl, hb1⟩
          obtain ⟨hc1, hf1⟩ := bl_cells hb1
          have hs1 : w.heap.size + 1 < w1.heap.size := Nat.lt_of_lt_of_le hsz hb1.size
          have hs1' : w.heap.size < w1.heap.size := Nat.lt_of_lt_of_le hsz0 hb1.size
          have hbA := bl_then hb hb1
          have hR1 := hR.kept hb1
          have hM1 := hM.kept hb1
          go_wp2_with fail
          go_roundw
          case rel => exact ⟨k + 1, p, q, r, by omega, by go_num, (((hR1.far (by simp) _).far (by simp) _).far (by simp) _).alloc _, (((hM1.set 0 _).set 1 _).set 2 _).alloc _, HN.out trivial, HG1.out.trans (if_pos trivial), bl_alloc (bl_set (bl_set (bl_set hbA (by simp) _) (by simp) _) (by simp) _) _⟩
          case measure => simp [intOf]; omega
    · have hd0 : s.data.toList.drop k = [] := List.drop_of_length_le (by have := HZ2.out; omega)
      have HV : Hid (VA = some (x, y, z)) := by
        show _ = _
        rw [HA.out, HG.out, hd0]; rfl
      clear hd0 HG HT
      go_wp2_with fail
      exact bodyPost_ret (res_cell_tmp (g := w.heap.size) Tryd.results38 rfl ((((hR.set 0 _).set 1 _).set 2 _).load Tryd.underlying33 rfl arr22)) rfl ⟨by rw [HV.out]; rfl, bl_set (bl_set (bl_set hb (by simp) _) (by simp) _) (by simp) _⟩
end Go.Proofs.YtpmamdadcmcbeaaDoor
