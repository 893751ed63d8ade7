import Derived.Test.YtpflmlnkflpbnaaDoorW2
import Derived.Test.YtpflmlnkflpbnaaDoorLib3
import Derived.Test.YtpflmlnkflpbnaaDoorShelf
import Derived.RegionTactic
import Derived.BigRegion
namespace Go.Proofs.YtpflmlnkflpbnaaDoor
open Go.RowKit Go.Sort Cam
set_option linter.unusedVariables false

theorem arr70 : (Tryd.prog.info? 42).map (·.size) = some 3 := by kernel_rfl

def trip (x y z : Int) : Value := .agg #[.int .i64 x, .int .i64 y, .int .i64 z]
/-- The three numbers behind the exchange: a and b stay, v comes in. -/
def srt (a b v : Int) : Value := trip (min a (min b v)) (mid a b v) (max a (max b v))

theorem sort3_any (g : Nat) (t : TypeId) (a b c : Int) (W : World) (h : Whole W g t (nums3 a b c)) :
    Calls Tryd.prog 74 #[.slice (some ⟨g, 0, none⟩) 3 3] W fun e w' => e = .returned (.tuple #[]) ∧
      (Whole w' g t (nums3 (min a (min b c)) (mid a b c) (max a (max b c))) ∧ (∀ g' t' cs, g' ≠ g → Whole W g' t' cs → Whole w' g' t' cs) ∧ ∀ A : World, Below A.heap.size A W → A.heap.size ≤ g → Below A.heap.size A w') := by
  refine (Tryd.slices_Sort_int g 0 3 [a, b, c] W h.holds3 h.lt (by simp)).mono ?_
  rintro e w' ⟨rfl, n, os, rfl⟩
  exact ⟨rfl, h.sorted3 n os, fun g' t' cs hne hw => hw.beside hne, fun A hb hg => sorted3_below hb hg⟩

theorem get0 (a b c : Value) : (#[a, b, c] : Array Value)[0]? = some a := rfl
theorem get1 (a b c : Value) : (#[a, b, c] : Array Value)[1]? = some b := rfl
theorem get2 (a b c : Value) : (#[a, b, c] : Array Value)[2]? = some c := rfl

set_option maxHeartbeats 800000 in
theorem exchanged0 (x y z : Int) (w : World) (hx : 1 ≤ x ∧ x ≤ 1000000000) (hy : 1 ≤ y ∧ y ≤ 1000000000) (hz : 1 ≤ z ∧ z ≤ 1000000000) :
    Calls Tryd.prog 60 #[.agg #[.int .i64 x, .int .i64 y, .int .i64 z], .int .i64 0] w fun e w' =>
      e = .returned (.tuple #[srt (3 * y * z - x) y z, .bool (decide (max (3 * y * z - x) (max y z) ≤ 1000000000))]) ∧ Below w.heap.size w w' := by
  unfold srt trip
  generalize e0 : min (3 * y * z - x) (min y z) = lo
  generalize e1 : mid (3 * y * z - x) y z = md
  generalize e2 : max (3 * y * z - x) (max y z) = hi
  have E0 := Lib.hid e0
  have E1 := Lib.hid e1
  have E2 := Lib.hid e2
  clear e0 e1 e2
  have p : 0 ≤ 3 * y * z ∧ 3 * y * z ≤ 3000000000000000000 := ⟨Int.mul_nonneg (by omega) (by omega), by have := Int.mul_le_mul (show 3 * y ≤ 3000000000 by omega) (show z ≤ 1000000000 by omega) (by omega) (by omega); omega⟩
  obtain ⟨p0, p1⟩ := p
  obtain ⟨hx1, hx2⟩ := hx
  obtain ⟨hy1, hy2⟩ := hy
  obtain ⟨hz1, hz2⟩ := hz
  go_enter Tryd.func60, Tryd.ntmps60
  go_wp2
  go_quiet (fail)
  go_wp2_with fail
  have hW0 : Whole (((w.alloc (.cells #[.int .i64 x, .int .i64 y, .int .i64 z] 42)).alloc (.cells #[.int .i64 0, .int .i64 0, .int .i64 0] 42)).drewN nq) w.heap.size 42 #[.int .i64 x, .int .i64 y, .int .i64 z] := ((Whole.new w _ _).alloc _).drewN nq
  have hW := hW0.set 0 (.int .i64 (3 * y * z - x))
  have hR := (((Whole.new2 w (.cells #[.int .i64 x, .int .i64 y, .int .i64 z] 42) 42 #[.int .i64 0, .int .i64 0, .int .i64 0]).drewN nq).far (p := ⟨w.heap.size, 0, none⟩) (by simp) (.int .i64 (3 * y * z - x)))
  have hB := bl_set (bl_drewN (bl_alloc (bl_alloc (bl_refl w) (.cells #[.int .i64 x, .int .i64 y, .int .i64 z] 42)) (.cells #[.int .i64 0, .int .i64 0, .int .i64 0] 42)) nq) (p := ⟨w.heap.size, 0, none⟩) (Nat.le_refl _) (.int .i64 (3 * y * z - x))
  refine (sort3_any w.heap.size 42 _ _ _ _ (show Whole _ _ _ (nums3 (3 * y * z - x) y z) from hW)).mono ?_
  rintro e w1 ⟨rfl, hS, hK, hL⟩
  have hR1 := hK _ _ _ (by simp) hR
  have hB1 := hL _ hB (Nat.le_refl _)
  clear hK hL hR hB hW hW0
  rw [E0.out, E1.out, E2.out] at hS
  have c0 : w1.cell? ⟨w.heap.size, 0, none⟩ = some (.int .i64 lo) := (hS.cell 0).trans rfl
  have c1 : w1.cell? ⟨w.heap.size, 1, none⟩ = some (.int .i64 md) := (hS.cell 1).trans rfl
  have c2 : w1.cell? ⟨w.heap.size, 2, none⟩ = some (.int .i64 hi) := (hS.cell 2).trans rfl
  have r0 : w1.cell? ⟨w.heap.size + 1, 0, none⟩ = some (.int .i64 0) := (hR1.cell 0).trans rfl
  have r1 : w1.cell? ⟨w.heap.size + 1, 1, none⟩ = some (.int .i64 0) := (hR1.cell 1).trans rfl
  have r2 : w1.cell? ⟨w.heap.size + 1, 2, none⟩ = some (.int .i64 0) := (hR1.cell 2).trans rfl
  have f0 := hR1.frozen 0
  have f1 := hR1.frozen 1
  have f2 := hR1.frozen 2
  clear hS
  go_wp2_with fail
  go_region
  all_goals
    go_wp2
    exact bodyPost_ret (res_cell_tmp (g := w.heap.size + 1) Tryd.results60 rfl (((((hR1.set 0 _).set 1 _).set 2 _).drew).load Tryd.underlying42 rfl arr70)) rfl ⟨rfl, (bl_set (bl_set (bl_set hB1 (by simp) _) (by simp) _) (by simp) _).drew⟩
set_option maxHeartbeats 800000 in
theorem exchanged1 (x y z : Int) (w : World) (hx : 1 ≤ x ∧ x ≤ 1000000000) (hy : 1 ≤ y ∧ y ≤ 1000000000) (hz : 1 ≤ z ∧ z ≤ 1000000000) :
    Calls Tryd.prog 60 #[.agg #[.int .i64 x, .int .i64 y, .int .i64 z], .int .i64 1] w fun e w' =>
      e = .returned (.tuple #[srt x (3 * z * x - y) z, .bool (decide (max x (max (3 * z * x - y) z) ≤ 1000000000))]) ∧ Below w.heap.size w w' := by
  unfold srt trip
  generalize e0 : min x (min (3 * z * x - y) z) = lo
  generalize e1 : mid x (3 * z * x - y) z = md
  generalize e2 : max x (max (3 * z * x - y) z) = hi
  have E0 := Lib.hid e0
  have E1 := Lib.hid e1
  have E2 := Lib.hid e2
  clear e0 e1 e2
  have p : 0 ≤ 3 * z * x ∧ 3 * z * x ≤ 3000000000000000000 := ⟨Int.mul_nonneg (by omega) (by omega), by have := Int.mul_le_mul (show 3 * z ≤ 3000000000 by omega) (show x ≤ 1000000000 by omega) (by omega) (by omega); omega⟩
  obtain ⟨p0, p1⟩ := p
  obtain ⟨hx1, hx2⟩ := hx
  obtain ⟨hy1, hy2⟩ := hy
  obtain ⟨hz1, hz2⟩ := hz
  go_enter Tryd.func60, Tryd.ntmps60
  go_wp2
  go_quiet (fail)
  go_wp2_with fail
  have hW0 : Whole (((w.alloc (.cells #[.int .i64 x, .int .i64 y, .int .i64 z] 42)).alloc (.cells #[.int .i64 0, .int .i64 0, .int .i64 0] 42)).drewN nq) w.heap.size 42 #[.int .i64 x, .int .i64 y, .int .i64 z] := ((Whole.new w _ _).alloc _).drewN nq
  have hW := hW0.set 1 (.int .i64 (3 * z * x - y))
  have hR := (((Whole.new2 w (.cells #[.int .i64 x, .int .i64 y, .int .i64 z] 42) 42 #[.int .i64 0, .int .i64 0, .int .i64 0]).drewN nq).far (p := ⟨w.heap.size, 1, none⟩) (by simp) (.int .i64 (3 * z * x - y)))
  have hB := bl_set (bl_drewN (bl_alloc (bl_alloc (bl_refl w) (.cells #[.int .i64 x, .int .i64 y, .int .i64 z] 42)) (.cells #[.int .i64 0, .int .i64 0, .int .i64 0] 42)) nq) (p := ⟨w.heap.size, 1, none⟩) (Nat.le_refl _) (.int .i64 (3 * z * x - y))
  refine (sort3_any w.heap.size 42 _ _ _ _ (show Whole _ _ _ (nums3 x (3 * z * x - y) z) from hW)).mono ?_
  rintro e w1 ⟨rfl, hS, hK, hL⟩
  have hR1 := hK _ _ _ (by simp) hR
  have hB1 := hL _ hB (Nat.le_refl _)
  clear hK hL hR hB hW hW0
  rw [E0.out, E1.out, E2.out] at hS
  have c0 : w1.cell? ⟨w.heap.size, 0, none⟩ = some (.int .i64 lo) := (hS.cell 0).trans rfl
  have c1 : w1.cell? ⟨w.heap.size, 1, none⟩ = some (.int .i64 md) := (hS.cell 1).trans rfl
  have c2 : w1.cell? ⟨w.heap.size, 2, none⟩ = some (.int .i64 hi) := (hS.cell 2).trans rfl
  have r0 : w1.cell? ⟨w.heap.size + 1, 0, none⟩ = some (.int .i64 0) := (hR1.cell 0).trans rfl
  have r1 : w1.cell? ⟨w.heap.size + 1, 1, none⟩ = some (.int .i64 0) := (hR1.cell 1).trans rfl
  have r2 : w1.cell? ⟨w.heap.size + 1, 2, none⟩ = some (.int .i64 0) := (hR1.cell 2).trans rfl
  have f0 := hR1.frozen 0
  have f1 := hR1.frozen 1
  have f2 := hR1.frozen 2
  clear hS
  go_wp2_with fail
  go_region
  all_goals
    go_wp2
    exact bodyPost_ret (res_cell_tmp (g := w.heap.size + 1) Tryd.results60 rfl (((((hR1.set 0 _).set 1 _).set 2 _).drew).load Tryd.underlying42 rfl arr70)) rfl ⟨rfl, (bl_set (bl_set (bl_set hB1 (by simp) _) (by simp) _) (by simp) _).drew⟩
set_option maxHeartbeats 800000 in
theorem exchanged2 (x y z : Int) (w : World) (hx : 1 ≤ x ∧ x ≤ 1000000000) (hy : 1 ≤ y ∧ y ≤ 1000000000) (hz : 1 ≤ z ∧ z ≤ 1000000000) :
    Calls Tryd.prog 60 #[.agg #[.int .i64 x, .int .i64 y, .int .i64 z], .int .i64 2] w fun e w' =>
      e = .returned (.tuple #[srt x y (3 * x * y - z), .bool (decide (max x (max y (3 * x * y - z)) ≤ 1000000000))]) ∧ Below w.heap.size w w' := by
  unfold srt trip
  generalize e0 : min x (min y (3 * x * y - z)) = lo
  generalize e1 : mid x y (3 * x * y - z) = md
  generalize e2 : max x (max y (3 * x * y - z)) = hi
  have E0 := Lib.hid e0
  have E1 := Lib.hid e1
  have E2 := Lib.hid e2
  clear e0 e1 e2
  have p : 0 ≤ 3 * x * y ∧ 3 * x * y ≤ 3000000000000000000 := ⟨Int.mul_nonneg (by omega) (by omega), by have := Int.mul_le_mul (show 3 * x ≤ 3000000000 by omega) (show y ≤ 1000000000 by omega) (by omega) (by omega); omega⟩
  obtain ⟨p0, p1⟩ := p
  obtain ⟨hx1, hx2⟩ := hx
  obtain ⟨hy1, hy2⟩ := hy
  obtain ⟨hz1, hz2⟩ := hz
  go_enter Tryd.func60, Tryd.ntmps60
  go_wp2
  go_quiet (fail)
  go_wp2_with fail
  have hW0 : Whole (((w.alloc (.cells #[.int .i64 x, .int .i64 y, .int .i64 z] 42)).alloc (.cells #[.int .i64 0, .int .i64 0, .int .i64 0] 42)).drewN nq) w.heap.size 42 #[.int .i64 x, .int .i64 y, .int .i64 z] := ((Whole.new w _ _).alloc _).drewN nq
  have hW := hW0.set 2 (.int .i64 (3 * x * y - z))
  have hR := (((Whole.new2 w (.cells #[.int .i64 x, .int .i64 y, .int .i64 z] 42) 42 #[.int .i64 0, .int .i64 0, .int .i64 0]).drewN nq).far (p := ⟨w.heap.size, 2, none⟩) (by simp) (.int .i64 (3 * x * y - z)))
  have hB := bl_set (bl_drewN (bl_alloc (bl_alloc (bl_refl w) (.cells #[.int .i64 x, .int .i64 y, .int .i64 z] 42)) (.cells #[.int .i64 0, .int .i64 0, .int .i64 0] 42)) nq) (p := ⟨w.heap.size, 2, none⟩) (Nat.le_refl _) (.int .i64 (3 * x * y - z))
  refine (sort3_any w.heap.size 42 _ _ _ _ (show Whole _ _ _ (nums3 x y (3 * x * y - z)) from hW)).mono ?_
  rintro e w1 ⟨rfl, hS, hK, hL⟩
  have hR1 := hK _ _ _ (by simp) hR
  have hB1 := hL _ hB (Nat.le_refl _)
  clear hK hL hR hB hW hW0
  rw [E0.out, E1.out, E2.out] at hS
  have c0 : w1.cell? ⟨w.heap.size, 0, none⟩ = some (.int .i64 lo) := (hS.cell 0).trans rfl
  have c1 : w1.cell? ⟨w.heap.size, 1, none⟩ = some (.int .i64 md) := (hS.cell 1).trans rfl
  have c2 : w1.cell? ⟨w.heap.size, 2, none⟩ = some (.int .i64 hi) := (hS.cell 2).trans rfl
  have r0 : w1.cell? ⟨w.heap.size + 1, 0, none⟩ = some (.int .i64 0) := (hR1.cell 0).trans rfl
  have r1 : w1.cell? ⟨w.heap.size + 1, 1, none⟩ = some (.int .i64 0) := (hR1.cell 1).trans rfl
  have r2 : w1.cell? ⟨w.heap.size + 1, 2, none⟩ = some (.int .i64 0) := (hR1.cell 2).trans rfl
  have f0 := hR1.frozen 0
  have f1 := hR1.frozen 1
  have f2 := hR1.frozen 2
  clear hS
  go_wp2_with fail
  go_region
  all_goals
    go_wp2
    exact bodyPost_ret (res_cell_tmp (g := w.heap.size + 1) Tryd.results60 rfl (((((hR1.set 0 _).set 1 _).set 2 _).drew).load Tryd.underlying42 rfl arr70)) rfl ⟨rfl, (bl_set (bl_set (bl_set hB1 (by simp) _) (by simp) _) (by simp) _).drew⟩
end Go.Proofs.YtpflmlnkflpbnaaDoor
