/-
  CamberAlls: for any int, All returns all triples with z at most it, or ErrArg.
-/
import Derived.Test.YtpmamdadcmcbeaaDoorW68
import Derived.Test.YtpmamdadcmcbeaaDoorW70
import Derived.Test.YtpmamdadcmcbeaaDoorW14
namespace Go.Proofs.YtpmamdadcmcbeaaDoor
open Go.RowKit Go.Sort Cam
set_option linter.unusedVariables false
set_option linter.unusedSimpArgs false

set_option maxRecDepth 100000 in
set_option maxHeartbeats 1000000 in
theorem CamberAlls_walk (most : Int) (w : World) (hwf : (Lit.int .i64 most).wf = true) (hF : FirstAt w) :
    Calls Tryd.prog 4 #[.int .i64 most] w fun e w' => e = .returned (.bool true) ∧ Below w.heap.size w w' := by
  clear hwf
  have AW := Lib.hid fun W h => awake_any W h
  by_cases hm : 1 ≤ most ∧ most ≤ 1000000000
  · have A := Lib.hid fun W => All_any most W hm
    have R := Lib.hid fun W => refAll_any most W hm
    have S := Lib.hid fun v u W h1 h2 => same_any v u (upTo most) (upTo most) W h1 h2
    obtain ⟨h1, h2⟩ := hm
    obtain ⟨_, hl⟩ := upTo_len h1
    generalize upTo most = U at *
    go_enter Tryd.func4, Tryd.ntmps4
    go_wp2_with fail
    refine (A.out _).mono ?_
    rintro e w1 ⟨v, rfl, hown, hb1⟩
    have RV := Lib.hid (rowT_own hown)
    have hF1 := hF.kept hb1
    clear hown
    go_wp2_with fail
    refine (R.out _).mono ?_
    rintro e w2 ⟨u, rfl, hu, hb2⟩
    have RV2 := Lib.hid (RV.out.kept hb2)
    have RU := Lib.hid hu
    have hF2 := hF1.kept hb2
    have hbB := bl_then hb1 hb2
    clear hu
    go_wp2_with fail
    refine (S.out _ _ _ RV2.out RU.out (by omega) (by omega)).mono ?_
    rintro e w3 ⟨rfl, n, rfl⟩
    have hF3 := hF2.kept (bl_drewN (bl_refl _) n)
    have hbC := bl_drewN hbB n
    go_wp2_with fail
    refine (AW.out _ hF3).mono ?_
    rintro e w4 ⟨rfl, hb4⟩
    go_wp2_with fail
    go_ret
    exact ⟨rfl, bl_then hbC hb4⟩
  · have A := Lib.hid fun W => All_no most W hm
    have h3 : ¬ (1 ≤ most ∧ most ≤ 1000000000) := hm
    by_cases h1 : 1 ≤ most
    · have h2 : 1000000000 < most := by omega
      clear hm h3
      go_enter Tryd.func4, Tryd.ntmps4
      go_wp2_with fail
      refine (A.out _).mono ?_
      rintro e w1 ⟨rfl, hb1⟩
      have hF1 := hF.kept hb1
      go_wp2_with fail
      refine (AW.out _ hF1).mono ?_
      rintro e w2 ⟨rfl, hb2⟩
      go_wp2_with fail
      go_ret
      exact ⟨rfl, bl_then hb1 hb2⟩
    · have h2 : most < 1 := by omega
      clear hm h3 h1
      go_enter Tryd.func4, Tryd.ntmps4
      go_wp2_with fail
      refine (A.out _).mono ?_
      rintro e w1 ⟨rfl, hb1⟩
      have hF1 := hF.kept hb1
      go_wp2_with fail
      refine (AW.out _ hF1).mono ?_
      rintro e w2 ⟨rfl, hb2⟩
      go_wp2_with fail
      go_ret
      exact ⟨rfl, bl_then hb1 hb2⟩
end Go.Proofs.YtpmamdadcmcbeaaDoor
