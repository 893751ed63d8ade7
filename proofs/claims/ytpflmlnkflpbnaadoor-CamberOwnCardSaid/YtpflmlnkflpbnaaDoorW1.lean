import Derived.Test.YtpflmlnkflpbnaaDoorProg
import Derived.Test.YtpflmlnkflpbnaaDoorLib
import Derived.Test.YtpflmlnkflpbnaaDoorPlain
namespace Go.Proofs.YtpflmlnkflpbnaaDoor
open Go.RowKit Cam
set_option linter.unusedVariables false

theorem within_any (n lo hi : Int) (w : World) :
    Calls Tryd.prog 15 #[.int .i64 n, .int .i64 lo, .int .i64 hi] w fun e w' => e = .returned (.bool (decide (lo ≤ n) && decide (n ≤ hi))) ∧ w = w' := by
  by_cases h1 : lo ≤ n
  · by_cases h2 : n ≤ hi
    all_goals
      go_enter Tryd.func15, Tryd.ntmps15
      go_wp2
      go_ret
      exact ⟨ret_bool (by simp [h1, h2]), rfl⟩
  · go_enter Tryd.func15, Tryd.ntmps15
    go_wp2
    go_ret
    exact ⟨ret_bool (by simp; omega), rfl⟩
theorem within_yes (n lo hi : Int) (w : World) (h : lo ≤ n ∧ n ≤ hi) :
    Calls Tryd.prog 15 #[.int .i64 n, .int .i64 lo, .int .i64 hi] w fun e w' => e = .returned (.bool true) ∧ w = w' :=
  (within_any n lo hi w).mono fun _ _ ⟨he, hw⟩ => ⟨he.trans (ret_bool (by simp [h.1, h.2])), hw⟩
theorem within_no (n lo hi : Int) (w : World) (h : ¬ (lo ≤ n ∧ n ≤ hi)) :
    Calls Tryd.prog 15 #[.int .i64 n, .int .i64 lo, .int .i64 hi] w fun e w' => e = .returned (.bool false) ∧ w = w' :=
  (within_any n lo hi w).mono fun _ _ ⟨he, hw⟩ => ⟨he.trans (ret_bool (by simp; omega)), hw⟩

/-- Is it a solution for the factor k, with numbers of at most 10^9? -/
def triB (k x y z : Int) : Bool := decide (1 ≤ x) && decide (x ≤ y) && decide (y ≤ z) && decide (z ≤ 1000000000) && (decide ((x * x + y * y + z * z) % z = 0) && decide ((x * x + y * y + z * z) / z = k * x * y))

theorem triB_range {k x y z : Int} (h : ¬ (1 ≤ x ∧ x ≤ y ∧ y ≤ z ∧ z ≤ 1000000000)) : triB k x y z = false := by
  unfold triB
  simp only [Bool.and_eq_false_iff, decide_eq_false_iff_not]
  by_cases a : 1 ≤ x <;> by_cases b : x ≤ y <;> by_cases c : y ≤ z <;> by_cases d : z ≤ 1000000000 <;> simp_all

theorem sq_le {x : Int} (h1 : 1 ≤ x) (h2 : x ≤ 1000000000) : 1 ≤ x * x ∧ x * x ≤ 1000000000000000000 :=
  ⟨by have := Int.mul_le_mul h1 h1 (by omega) (by omega : (0:Int) ≤ x); omega, by have := Int.mul_le_mul h2 h2 (by omega) (by omega : (0:Int) ≤ 1000000000); omega⟩

theorem isTriple_any (k x y z : Int) (w : World) (hk : 1 ≤ k ∧ k ≤ 5) :
    Calls Tryd.prog 17 #[.agg #[.int .i64 x, .int .i64 y, .int .i64 z], .int .i64 k] w fun e w' => e = .returned (.bool (triB k x y z)) ∧ Below w.heap.size w w' := by
  by_cases c1 : 1 ≤ x ∧ x ≤ y
  · by_cases c2 : 1 ≤ y ∧ y ≤ z
    · obtain ⟨h1, h2⟩ := c1
      obtain ⟨h3, h4⟩ := c2
      by_cases c3 : z ≤ 1000000000
      · have sx := sq_le h1 (by omega)
        have sy := sq_le h3 (by omega)
        have sz := sq_le (show 1 ≤ z by omega) c3
        obtain ⟨sx1, sx2⟩ := sx
        obtain ⟨sy1, sy2⟩ := sy
        obtain ⟨sz1, sz2⟩ := sz
        have kx : 0 ≤ k * x ∧ k * x ≤ 5000000000 := ⟨Int.mul_nonneg (by omega) (by omega), by have := Int.mul_le_mul hk.2 (show x ≤ 1000000000 by omega) (by omega) (by omega); omega⟩
        obtain ⟨kx1, kx2⟩ := kx
        have ky : 0 ≤ k * x * y ∧ k * x * y ≤ 5000000000000000000 := ⟨Int.mul_nonneg (by omega) (by omega), by have := Int.mul_le_mul kx2 (show y ≤ 1000000000 by omega) (by omega) (by omega); omega⟩
        obtain ⟨ky1, ky2⟩ := ky
        by_cases c4 : (x * x + y * y) % z = 0
        all_goals
          go_enter Tryd.func17, Tryd.ntmps17
          go_wp2
          go_quiet (fail)
          go_wp2_with fail
          refine (within_yes x 1 y _ ⟨h1, h2⟩).mono ?_
          rintro e w' ⟨rfl, rfl⟩
          go_wp2_with fail
          refine (within_yes y 1 z _ ⟨h3, h4⟩).mono ?_
          rintro e w' ⟨rfl, rfl⟩
          go_wp2
          go_ret
          refine ⟨ret_bool ?_, bl_drewN (bl_alloc (bl_refl _) _) _⟩
          simp [triB, h1, h2, h4, c3, c4]
          try exact Bool.beq_eq_decide_eq _ _
      · go_enter Tryd.func17, Tryd.ntmps17
        go_wp2
        go_quiet (fail)
        go_wp2_with fail
        refine (within_yes x 1 y _ ⟨h1, h2⟩).mono ?_
        rintro e w' ⟨rfl, rfl⟩
        go_wp2_with fail
        refine (within_yes y 1 z _ ⟨h3, h4⟩).mono ?_
        rintro e w' ⟨rfl, rfl⟩
        go_wp2
        go_ret
        exact ⟨ret_bool (triB_range (by omega)).symm, bl_drewN (bl_alloc (bl_refl _) _) _⟩
    · obtain ⟨h1, h2⟩ := c1
      go_enter Tryd.func17, Tryd.ntmps17
      go_wp2
      go_quiet (fail)
      go_wp2_with fail
      refine (within_yes x 1 y _ ⟨h1, h2⟩).mono ?_
      rintro e w' ⟨rfl, rfl⟩
      go_wp2_with fail
      refine (within_no y 1 z _ c2).mono ?_
      rintro e w' ⟨rfl, rfl⟩
      go_wp2
      go_ret
      exact ⟨ret_bool (triB_range (by omega)).symm, bl_drewN (bl_alloc (bl_refl _) _) _⟩
  · go_enter Tryd.func17, Tryd.ntmps17
    go_wp2
    go_quiet (fail)
    go_wp2_with (go_at_call 15; refine (within_no x 1 y _ c1).mono ?_; rintro e w' ⟨rfl, rfl⟩)
    go_ret
    exact ⟨ret_bool (triB_range (by omega)).symm, bl_drewN (bl_alloc (bl_refl _) _) _⟩

theorem triB_ref {x y z : Int} (h1 : 1 ≤ x) (h2 : x ≤ y) (h3 : y ≤ z) (h4 : z ≤ 1000000000) : triB 3 x y z = (decide ((x * x + y * y) % z = 0) && decide ((x * x + y * y) / z = 3 * x * y - z)) := by
  have e : (x * x + y * y + z * z) / z = (x * x + y * y) / z + z := Int.add_mul_ediv_right _ _ (by omega)
  simp only [triB, h1, h2, h3, h4, decide_true, Bool.true_and, e, Int.add_mul_emod_self_right]
  congr 1
  exact decide_eq_decide.2 (by omega)

theorem isTriple_yes (k x y z : Int) (w : World) (hk : 1 ≤ k ∧ k ≤ 5) (h : triB k x y z = true) :
    Calls Tryd.prog 17 #[.agg #[.int .i64 x, .int .i64 y, .int .i64 z], .int .i64 k] w fun e w' => e = .returned (.bool true) ∧ Below w.heap.size w w' :=
  (isTriple_any k x y z w hk).mono fun _ _ ⟨he, hw⟩ => ⟨he.trans (ret_bool h), hw⟩
theorem isTriple_no (k x y z : Int) (w : World) (hk : 1 ≤ k ∧ k ≤ 5) (h : triB k x y z = false) :
    Calls Tryd.prog 17 #[.agg #[.int .i64 x, .int .i64 y, .int .i64 z], .int .i64 k] w fun e w' => e = .returned (.bool false) ∧ Below w.heap.size w w' :=
  (isTriple_any k x y z w hk).mono fun _ _ ⟨he, hw⟩ => ⟨he.trans (ret_bool h), hw⟩
theorem triB_tri {x y z : Int} (h : triB 3 x y z = true) : Tri x y z ∧ z ≤ 1000000000 := by
  unfold triB at h
  simp only [Bool.and_eq_true, decide_eq_true_eq] at h
  obtain ⟨⟨⟨⟨h1, h2⟩, h3⟩, h4⟩, h5, h6⟩ := h
  have e := Int.mul_ediv_add_emod (x * x + y * y + z * z) z
  rw [h5, h6] at e
  exact ⟨⟨h1, h2, h3, by grind⟩, h4⟩
theorem tri_triB {x y z : Int} (h : Tri x y z) (h4 : z ≤ 1000000000) : triB 3 x y z = true := by
  obtain ⟨h1, h2, h3, he⟩ := h
  unfold triB
  have e : x * x + y * y + z * z = z * (3 * x * y) := by grind
  simp [h1, h2, h3, h4, e, Int.mul_ediv_cancel_left _ (show z ≠ 0 by omega)]
end Go.Proofs.YtpflmlnkflpbnaaDoor
