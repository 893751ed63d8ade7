/-
  CamberOthers: for any two ints, Other returns all lists with the sum of squares k x y z, or ErrArg.
-/
import Derived.Test.YtpflmlnkflpbnaaDoorW80
import Derived.Test.YtpflmlnkflpbnaaDoorW82
import Derived.Test.YtpflmlnkflpbnaaDoorW14
namespace Go.Proofs.YtpflmlnkflpbnaaDoor
open Go.RowKit Go.Sort Cam
set_option linter.unusedVariables false
set_option linter.unusedSimpArgs false

set_option maxRecDepth 100000 in
set_option maxHeartbeats 2000000 in
theorem others_bad (k most : Int) (w : World) (hF : FirstAt w) (h : k < 1 ∨ (1 ≤ k ∧ 5 < k) ∨ (1 ≤ k ∧ k ≤ 5 ∧ most < 1) ∨ (1 ≤ k ∧ k ≤ 5 ∧ 1 ≤ most ∧ 1000 < most)) :
    Calls Tryd.prog 3 #[.int .i64 k, .int .i64 most] w fun e w' => e = .returned (.bool true) ∧ Below w.heap.size w w' := by
  have AW := Lib.hid fun W h => awake_any W h
  have A := Lib.hid fun W => Other_no k most W (by omega)
  rcases h with h | ⟨h1, h2⟩ | ⟨h1, h2, h3⟩ | ⟨h1, h2, h3, h4⟩
  all_goals
    go_enter Tryd.func3, Tryd.ntmps3
    go_wp2_with fail
    refine (A.out _).mono ?_
    rintro e w1 ⟨rfl, hb1⟩
    have hF1 := hF.kept hb1
    go_wp2_with fail
    refine (AW.out _ hF1).mono ?_
    rintro e w2 ⟨rfl, hb2⟩
    go_wp2_with fail
    go_ret
    exact ⟨rfl, bl_then hb1 hb2⟩

set_option maxRecDepth 100000 in
set_option maxHeartbeats 2000000 in
theorem CamberOthers_walk (k most : Int) (w : World) (hwk : (Lit.int .i64 k).wf = true) (hwm : (Lit.int .i64 most).wf = true) (hF : FirstAt w) :
    Calls Tryd.prog 3 #[.int .i64 k, .int .i64 most] w fun e w' => e = .returned (.bool true) ∧ Below w.heap.size w w' := by
  clear hwk hwm
  by_cases hg : (1 ≤ k ∧ k ≤ 5) ∧ (1 ≤ most ∧ most ≤ 1000)
  · have AW := Lib.hid fun W h => awake_any W h
    have A := Lib.hid fun W => Other_any k most W hg.1 hg.2
    have R := Lib.hid fun W => refOther_any k most W hg.1 hg.2
    have S := Lib.hid fun v u W h1 h2 => same_any v u (otherL k most) (otherL k most) W h1 h2
    have hl := otherL_few k most
    obtain ⟨⟨h1, h2⟩, h3, h4⟩ := hg
    generalize otherL k most = U at *
    go_enter Tryd.func3, Tryd.ntmps3
    go_wp2_with fail
    refine (A.out _).mono ?_
    rintro e w1 ⟨v, rfl, hown, hb1⟩
    have RV := Lib.hid (rowT_own hown)
    have hF1 := hF.kept hb1
    clear hown
    go_wp2_with fail
    refine (R.out _).mono ?_
    rintro e w2 ⟨u, rfl, hu, hb2⟩
    have RV2 := Lib.hid (RV.out.kept hb2)
    have RU := Lib.hid hu
    have hF2 := hF1.kept hb2
    have hbB := bl_then hb1 hb2
    clear hu
    go_wp2_with fail
    refine (S.out _ _ _ RV2.out RU.out (by omega) (by omega)).mono ?_
    rintro e w3 ⟨rfl, n, rfl⟩
    have hF3 := hF2.kept (bl_drewN (bl_refl _) n)
    have hbC := bl_drewN hbB n
    go_wp2_with fail
    refine (AW.out _ hF3).mono ?_
    rintro e w4 ⟨rfl, hb4⟩
    go_wp2_with fail
    go_ret
    exact ⟨rfl, bl_then hbC hb4⟩
  · exact others_bad k most w hF (by omega)
end Go.Proofs.YtpflmlnkflpbnaaDoor
