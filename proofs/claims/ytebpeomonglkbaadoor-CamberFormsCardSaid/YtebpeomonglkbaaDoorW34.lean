import Derived.Test.YtebpeomonglkbaaDoorW33
namespace Go.Proofs.YtebpeomonglkbaaDoor
open Go.RowKit Go.Sort Cam
set_option linter.unusedVariables false
set_option linter.unusedSimpArgs false

/-- The form's numbers. -/
theorem form_law {u z v : Int} (h1 : 1 ≤ u) (h2 : 2 * u ≤ z) (hv : v * z = u * u + 1) :
    0 ≤ 3 * z - 2 * u ∧ 3 * z - 2 * u ≤ 3 * z ∧ v - 3 * u ≤ 0 ∧ -3 * z ≤ v - 3 * u ∧ (3 * z - 2 * u) * (3 * z - 2 * u) - 4 * z * (v - 3 * u) = 9 * z * z - 4 := by
  have hz : 2 ≤ z := by omega
  have v0 : 0 ≤ v := by
    rcases Int.lt_or_le v 0 with h | h
    · have : v * z ≤ 0 := Int.mul_nonpos_of_nonpos_of_nonneg (by omega) (by omega)
      have := Int.mul_le_mul h1 h1 (by omega) (by omega)
      omega
    · exact h
  have v1 : v ≤ u := by
    rcases Int.lt_or_le u v with h | h
    · have a := Int.mul_le_mul_of_nonneg_right (show u + 1 ≤ v from h) (show 0 ≤ z by omega)
      have b := Int.mul_le_mul_of_nonneg_left h2 (show 0 ≤ u + 1 by omega)
      have c := Int.mul_le_mul h1 h1 (by omega) (by omega)
      have d : (u + 1) * (2 * u) = 2 * (u * u) + 2 * u := by grind
      omega
    · exact h
  refine ⟨by omega, by omega, by omega, by omega, ?_⟩
  grind

set_option maxRecDepth 100000 in
set_option maxHeartbeats 1000000 in
theorem CamberForms_walk (s : ByteArray) (w : World) (hs : s.size ≤ 140737488351232) (hF : FirstAt w) :
    Calls Tryd.prog 7 #[.string s] w fun e w' => e = .returned (.bool true) ∧ Below w.heap.size w w' := by
  have AW := Lib.hid fun W h => awake_any W h
  have B := Lib.hid fun W => tame_any s W hs
  have M := Lib.hid fun x y z W h1 h2 h3 => Form_yes x y z W h1 h2 h3
  go_enter Tryd.func7, Tryd.ntmps7
  go_wp2_with fail
  refine (B.out _).mono ?_
  rintro e w1 ⟨t, x, y, z, rfl, ⟨hp, ho⟩, hb1⟩
  have hF1 := (hF.kept hb1).kept (bl_alloc (bl_refl _) (.cells #[.int .i64 x, .int .i64 y, .int .i64 z] 22))
  have hbA := bl_alloc hb1 (.cells #[.int .i64 x, .int .i64 y, .int .i64 z] 22)
  obtain ⟨h, h4, h5⟩ := followF_tri _ tri125 (by omega) ho
  have M1 := Lib.hid fun W => M.out x y z W h (by omega) h4
  obtain ⟨⟨x1, x2⟩, ⟨y1, y2⟩, ⟨z1, z2⟩⟩ := Tri.le3 h h4
  obtain ⟨u1, u2⟩ := h.root_range (by omega) h4
  have hq : (root x y z * root x y z + 1) / z * z = root x y z * root x y z + 1 := Int.ediv_mul_cancel (h.root_sq h4)
  obtain ⟨p1, p2, q1, q2, hpq⟩ := form_law u1 u2 hq
  unfold formV trip at M1
  clear hp ho h M hq
  unfold trip
  generalize 3 * z - 2 * root x y z = p at *
  generalize (root x y z * root x y z + 1) / z - 3 * root x y z = q at *
  clear u1 u2
  have HQ := Lib.hid hpq
  clear hpq
  by_cases hz : 100000000 < z
  · go_wp2_with fail
    refine (M1.out _).mono ?_
    rintro e w2 ⟨rfl, hb2⟩
    obtain ⟨hc2, hf2⟩ := bl_cells hb2
    have hs2 : w1.heap.size < w2.heap.size := by have := hb2.size; simp at this; omega
    have hs2' : w1.heap.size < w2.heap.size + 1 := by omega
    have hF2 := (hF1.kept hb2).kept (bl_alloc (bl_refl _) (.cells #[.int .i64 z, .int .i64 p, .int .i64 q] 22))
    have hbB := bl_alloc (bl_then hbA hb2) (.cells #[.int .i64 z, .int .i64 p, .int .i64 q] 22)
    go_wp2_with fail
    refine (AW.out _ hF2).mono ?_
    rintro e w5 ⟨rfl, hb5⟩
    go_wp2_with fail
    go_ret
    exact ⟨rfl, bl_then hbB hb5⟩
  · have hpp : 0 ≤ p * p ∧ p * p ≤ 90000000000000000 := ⟨Int.mul_nonneg p1 p1, by have := Int.mul_le_mul (show p ≤ 300000000 by omega) (show p ≤ 300000000 by omega) p1 (by omega); omega⟩
    have hzq : -120000000000000000 ≤ 4 * z * q ∧ 4 * z * q ≤ 0 := by
      have a := Int.mul_le_mul (show 4 * z ≤ 400000000 by omega) (show -q ≤ 300000000 by omega) (by omega) (by omega)
      have b := Int.mul_nonneg (show 0 ≤ 4 * z by omega) (show 0 ≤ -q by omega)
      rw [Int.mul_neg] at a b
      omega
    have hzz : 0 ≤ 9 * z * z ∧ 9 * z * z ≤ 90000000000000000 := ⟨Int.mul_nonneg (by omega) (by omega), by have := Int.mul_le_mul (show 9 * z ≤ 900000000 by omega) (show z ≤ 100000000 by omega) (by omega) (by omega); omega⟩
    have hpq := HQ.out
    have hz3 : 3 * z ≤ 300000000 := by omega
    go_wp2_with fail
    refine (M1.out _).mono ?_
    rintro e w2 ⟨rfl, hb2⟩
    obtain ⟨hc2, hf2⟩ := bl_cells hb2
    have hs2 : w1.heap.size < w2.heap.size := by have := hb2.size; simp at this; omega
    have hs2' : w1.heap.size < w2.heap.size + 1 := by omega
    have hF2 := (hF1.kept hb2).kept (bl_alloc (bl_refl _) (.cells #[.int .i64 z, .int .i64 p, .int .i64 q] 22))
    have hbB := bl_alloc (bl_then hbA hb2) (.cells #[.int .i64 z, .int .i64 p, .int .i64 q] 22)
    go_wp2_with fail
    refine (AW.out _ hF2).mono ?_
    rintro e w5 ⟨rfl, hb5⟩
    go_wp2_with fail
    go_ret
    exact ⟨rfl, bl_then hbB hb5⟩
end Go.Proofs.YtebpeomonglkbaaDoor
