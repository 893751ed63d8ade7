import Derived.Test.YtpflmlnkflpbnaaDoorW5
namespace Go.Proofs.YtpflmlnkflpbnaaDoor
open Go.RowKit Go.Sort Cam
set_option linter.unusedVariables false

set_option maxHeartbeats 800000 in
theorem refExchange0 (x y z : Int) (w : World) (hx : 1 ≤ x ∧ x ≤ 1000000000) (hy : 1 ≤ y ∧ y ≤ 1000000000) (hz : 1 ≤ z ∧ z ≤ 1000000000) :
    Calls Tryd.prog 27 #[trip x y z, .int .i64 0] w fun e w' =>
      e = .returned (.tuple #[srt y z (3 * y * z - x), .bool (decide (max y (max z (3 * y * z - x)) ≤ 1000000000))]) ∧ Below w.heap.size w w' := by
  have p : 0 ≤ 3 * y * z ∧ 3 * y * z ≤ 3000000000000000000 := ⟨Int.mul_nonneg (by omega) (by omega), by have := Int.mul_le_mul (show 3 * y ≤ 3000000000 by omega) (show z ≤ 1000000000 by omega) (by omega) (by omega); omega⟩
  obtain ⟨p0, p1⟩ := p
  have K := Lib.hid fun W => sorted_any y z (3 * y * z - x) W (by omega) (by omega) (by omega) (by omega)
  obtain ⟨hx1, hx2⟩ := hx
  obtain ⟨hy1, hy2⟩ := hy
  obtain ⟨hz1, hz2⟩ := hz
  unfold srt at K ⊢
  unfold trip at K ⊢
  generalize min y (min z (3 * y * z - x)) = lo at *
  generalize mid y z (3 * y * z - x) = md at *
  generalize max y (max z (3 * y * z - x)) = hi at *
  go_enter Tryd.func27, Tryd.ntmps27
  go_wp2
  go_quiet (fail)
  go_wp2_with fail
  refine (K.out _).mono ?_
  rintro e w1 ⟨rfl, hb1⟩
  obtain ⟨hc1, hf1⟩ := bl_cells hb1
  have hs1 : w.heap.size + 1 < w1.heap.size := by have := hb1.size; simp at this; omega
  have hB := bl_then (bl_drewN (bl_alloc (bl_alloc (bl_refl w) (.cells #[.int .i64 x, .int .i64 y, .int .i64 z] 32)) (.cells #[.int .i64 0, .int .i64 0, .int .i64 0] 32)) nq) hb1
  have hR := ((Whole.new2 w (.cells #[.int .i64 x, .int .i64 y, .int .i64 z] 32) 32 #[.int .i64 0, .int .i64 0, .int .i64 0]).drewN nq).kept hb1
  go_wp2_with fail
  go_region
  all_goals
    go_wp2
    exact bodyPost_ret (res_cell_tmp (g := w.heap.size + 1) Tryd.results27 (by simp) ((((((hR.set 0 _).set 1 _).set 2 _).alloc _).drew).load Tryd.underlying32 rfl arr22)) rfl ⟨rfl, (bl_alloc (bl_set (bl_set (bl_set hB (by simp) _) (by simp) _) (by simp) _) _).drew⟩

set_option maxHeartbeats 800000 in
theorem refExchange1 (x y z : Int) (w : World) (hx : 1 ≤ x ∧ x ≤ 1000000000) (hy : 1 ≤ y ∧ y ≤ 1000000000) (hz : 1 ≤ z ∧ z ≤ 1000000000) :
    Calls Tryd.prog 27 #[trip x y z, .int .i64 1] w fun e w' =>
      e = .returned (.tuple #[srt z x (3 * z * x - y), .bool (decide (max z (max x (3 * z * x - y)) ≤ 1000000000))]) ∧ Below w.heap.size w w' := by
  have p : 0 ≤ 3 * z * x ∧ 3 * z * x ≤ 3000000000000000000 := ⟨Int.mul_nonneg (by omega) (by omega), by have := Int.mul_le_mul (show 3 * z ≤ 3000000000 by omega) (show x ≤ 1000000000 by omega) (by omega) (by omega); omega⟩
  obtain ⟨p0, p1⟩ := p
  have K := Lib.hid fun W => sorted_any z x (3 * z * x - y) W (by omega) (by omega) (by omega) (by omega)
  obtain ⟨hx1, hx2⟩ := hx
  obtain ⟨hy1, hy2⟩ := hy
  obtain ⟨hz1, hz2⟩ := hz
  unfold srt at K ⊢
  unfold trip at K ⊢
  generalize min z (min x (3 * z * x - y)) = lo at *
  generalize mid z x (3 * z * x - y) = md at *
  generalize max z (max x (3 * z * x - y)) = hi at *
  go_enter Tryd.func27, Tryd.ntmps27
  go_wp2
  go_quiet (fail)
  go_wp2_with fail
  refine (K.out _).mono ?_
  rintro e w1 ⟨rfl, hb1⟩
  obtain ⟨hc1, hf1⟩ := bl_cells hb1
  have hs1 : w.heap.size + 1 < w1.heap.size := by have := hb1.size; simp at this; omega
  have hB := bl_then (bl_drewN (bl_alloc (bl_alloc (bl_refl w) (.cells #[.int .i64 x, .int .i64 y, .int .i64 z] 32)) (.cells #[.int .i64 0, .int .i64 0, .int .i64 0] 32)) nq) hb1
  have hR := ((Whole.new2 w (.cells #[.int .i64 x, .int .i64 y, .int .i64 z] 32) 32 #[.int .i64 0, .int .i64 0, .int .i64 0]).drewN nq).kept hb1
  go_wp2_with fail
  go_region
  all_goals
    go_wp2
    exact bodyPost_ret (res_cell_tmp (g := w.heap.size + 1) Tryd.results27 (by simp) ((((((hR.set 0 _).set 1 _).set 2 _).alloc _).drew).load Tryd.underlying32 rfl arr22)) rfl ⟨rfl, (bl_alloc (bl_set (bl_set (bl_set hB (by simp) _) (by simp) _) (by simp) _) _).drew⟩

set_option maxHeartbeats 800000 in
theorem refExchange2 (x y z : Int) (w : World) (hx : 1 ≤ x ∧ x ≤ 1000000000) (hy : 1 ≤ y ∧ y ≤ 1000000000) (hz : 1 ≤ z ∧ z ≤ 1000000000) :
    Calls Tryd.prog 27 #[trip x y z, .int .i64 2] w fun e w' =>
      e = .returned (.tuple #[srt x y (3 * x * y - z), .bool (decide (max x (max y (3 * x * y - z)) ≤ 1000000000))]) ∧ Below w.heap.size w w' := by
  have p : 0 ≤ 3 * x * y ∧ 3 * x * y ≤ 3000000000000000000 := ⟨Int.mul_nonneg (by omega) (by omega), by have := Int.mul_le_mul (show 3 * x ≤ 3000000000 by omega) (show y ≤ 1000000000 by omega) (by omega) (by omega); omega⟩
  obtain ⟨p0, p1⟩ := p
  have K := Lib.hid fun W => sorted_any x y (3 * x * y - z) W (by omega) (by omega) (by omega) (by omega)
  obtain ⟨hx1, hx2⟩ := hx
  obtain ⟨hy1, hy2⟩ := hy
  obtain ⟨hz1, hz2⟩ := hz
  unfold srt at K ⊢
  unfold trip at K ⊢
  generalize min x (min y (3 * x * y - z)) = lo at *
  generalize mid x y (3 * x * y - z) = md at *
  generalize max x (max y (3 * x * y - z)) = hi at *
  go_enter Tryd.func27, Tryd.ntmps27
  go_wp2
  go_quiet (fail)
  go_wp2_with fail
  refine (K.out _).mono ?_
  rintro e w1 ⟨rfl, hb1⟩
  obtain ⟨hc1, hf1⟩ := bl_cells hb1
  have hs1 : w.heap.size + 1 < w1.heap.size := by have := hb1.size; simp at this; omega
  have hB := bl_then (bl_drewN (bl_alloc (bl_alloc (bl_refl w) (.cells #[.int .i64 x, .int .i64 y, .int .i64 z] 32)) (.cells #[.int .i64 0, .int .i64 0, .int .i64 0] 32)) nq) hb1
  have hR := ((Whole.new2 w (.cells #[.int .i64 x, .int .i64 y, .int .i64 z] 32) 32 #[.int .i64 0, .int .i64 0, .int .i64 0]).drewN nq).kept hb1
  go_wp2_with fail
  go_region
  all_goals
    go_wp2
    exact bodyPost_ret (res_cell_tmp (g := w.heap.size + 1) Tryd.results27 (by simp) ((((((hR.set 0 _).set 1 _).set 2 _).alloc _).drew).load Tryd.underlying32 rfl arr22)) rfl ⟨rfl, (bl_alloc (bl_set (bl_set (bl_set hB (by simp) _) (by simp) _) (by simp) _) _).drew⟩

end Go.Proofs.YtpflmlnkflpbnaaDoor
