import Derived.Test.YtpflmlnkflpbnaaDoorW2
import Derived.Test.YtpflmlnkflpbnaaDoorLib2
import Derived.Deep.RegionHeld3
import Derived.Deep.RegionWith
namespace Go.Proofs.YtpflmlnkflpbnaaDoor
open Go.RowKit Cam
set_option linter.unusedVariables false

theorem arr22 : (Tryd.prog.info? 32).map (·.size) = some 3 := by kernel_rfl

/-- What Form answers. -/
noncomputable def formV (x y z : Int) : Value := .agg #[.int .i64 z, .int .i64 (3 * z - 2 * root x y z), .int .i64 ((root x y z * root x y z + 1) / z - 3 * root x y z)]
noncomputable def formA (x y z : Int) : Value := if rootE x y z = 0 then formV x y z else .agg #[.int .i64 0, .int .i64 0, .int .i64 0]

theorem rootE_zero {x y z : Int} (h : rootE x y z = 0) : triB 3 x y z = true ∧ z ≠ 1 := by
  unfold rootE at h
  split at h
  · split at h
    · cases h
    · exact ⟨by assumption, by assumption⟩
  · cases h
theorem div_range {u z : Int} (h1 : 1 ≤ u) (h2 : 2 * u ≤ z) (h4 : z ≤ 1000000000) : 0 ≤ (u * u + 1) / z ∧ (u * u + 1) / z ≤ u * u + 1 ∧ 1 ≤ u * u ∧ u * u ≤ 1000000000000000000 :=
  have hu := sq_le h1 (by omega)
  ⟨Int.ediv_nonneg (by omega) (by omega), Int.ediv_le_self _ (by omega), hu.1, hu.2⟩

set_option maxHeartbeats 400000 in
theorem Form_any (x y z : Int) (w : World) :
    Calls Tryd.prog 23 #[.agg #[.int .i64 x, .int .i64 y, .int .i64 z]] w fun e w' => e = .returned (.tuple #[formA x y z, .int .i64 (rootE x y z)]) ∧ Below w.heap.size w w' := by
  by_cases he : rootE x y z = 0
  · obtain ⟨ht, hz⟩ := rootE_zero he
    have ea : formA x y z = formV x y z := by simp [formA, he]
    have er : rootA x y z = root x y z := by simp [rootA, ht, hz]
    obtain ⟨T, h4⟩ := triB_tri ht
    have hz0 : 1 ≤ z := by have := T.1; have := T.2.1; have := T.2.2.1; omega
    obtain ⟨r1, r2⟩ := T.root_range (by omega) h4
    obtain ⟨d1, d2, s1, s2⟩ := div_range r1 r2 h4
    have C := fun w => Root_any x y z w
    rw [er, he] at C
    have HC := Lib.hid C
    rw [ea, he]
    unfold formV
    clear C ea er he ht T hz
    generalize root x y z = u at *
    go_enter Tryd.func23, Tryd.ntmps23
    go_wp2_with fail
    refine (HC.out _).mono ?_
    rintro e w1 ⟨rfl, hb1⟩
    obtain ⟨hc1, hf1⟩ := bl_cells hb1
    go_wp2_with fail
    have hb := bl_then (bl_alloc (bl_alloc (bl_refl w) (.cells #[.int .i64 x, .int .i64 y, .int .i64 z] 32)) (.cells #[.int .i64 0, .int .i64 0, .int .i64 0] 32)) hb1
    have hW : Whole w1 (w.heap.size + 1) 32 #[.int .i64 0, .int .i64 0, .int .i64 0] := (Whole.new2 w _ _ _).kept hb1
    exact bodyPost_ret (res_cell_tmp (g := w.heap.size + 1) Tryd.results23 rfl ((((hW.set 0 _).set 1 _).set 2 _).load Tryd.underlying32 rfl arr22)) rfl ⟨rfl, bl_set (bl_set (bl_set hb (by simp) _) (by simp) _) (by simp) _⟩
  · have ea : formA x y z = .agg #[.int .i64 0, .int .i64 0, .int .i64 0] := by simp [formA, he]
    have hr : rootE x y z = 2 ∨ rootE x y z = 6 := by
      unfold rootE at he ⊢; split
      · split
        · exact .inr rfl
        · simp_all
      · exact .inl rfl
    have C := fun w => Root_any x y z w
    rw [ea]
    rcases hr with hr | hr
    all_goals
      rw [hr] at C ⊢
      generalize rootA x y z = u at *
      have HC := Lib.hid C
      clear C he ea hr
      go_enter Tryd.func23, Tryd.ntmps23
      go_wp2_with fail
      refine (HC.out _).mono ?_
      rintro e w1 ⟨rfl, hb1⟩
      obtain ⟨hc1, hf1⟩ := bl_cells hb1
      go_wp2_with fail
      have hb := bl_then (bl_alloc (bl_alloc (bl_refl w) (.cells #[.int .i64 x, .int .i64 y, .int .i64 z] 32)) (.cells #[.int .i64 0, .int .i64 0, .int .i64 0] 32)) hb1
      have hW : Whole w1 (w.heap.size + 1) 32 #[.int .i64 0, .int .i64 0, .int .i64 0] := (Whole.new2 w _ _ _).kept hb1
      exact bodyPost_ret (res_cell_tmp (g := w.heap.size + 1) Tryd.results23 rfl ((((hW.set 0 _).set 1 _).set 2 _).load Tryd.underlying32 rfl arr22)) rfl ⟨rfl, bl_set (bl_set (bl_set hb (by simp) _) (by simp) _) (by simp) _⟩

end Go.Proofs.YtpflmlnkflpbnaaDoor
