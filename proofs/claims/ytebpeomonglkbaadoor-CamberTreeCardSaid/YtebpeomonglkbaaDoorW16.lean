import Derived.Test.YtebpeomonglkbaaDoorW14
namespace Go.Proofs.YtebpeomonglkbaaDoor
open Go.RowKit Go.Sort Cam
set_option linter.unusedVariables false

theorem IsTriple_any (x y z : Int) (w : World) :
    Calls Tryd.prog 34 #[trip x y z] w fun e w' => e = .returned (.tuple #[.bool (triB 3 x y z), .int .i64 0]) ∧ Below w.heap.size w w' := by
  have K := Lib.hid fun W => isTriple_any 3 x y z W (by omega)
  generalize triB 3 x y z = b at *
  unfold trip
  go_enter Tryd.func34, Tryd.ntmps34
  go_wp2_with fail
  refine (K.out _).mono ?_
  rintro e w1 ⟨rfl, hb1⟩
  go_wp2_with fail
  go_ret2
  exact ⟨rfl, bl_then (bl_alloc (bl_refl w) _) hb1⟩

theorem CamberTriples_walk (x y z : Int) (w : World) (hF : FirstAt w) :
    Calls Tryd.prog 10 #[trip x y z] w fun e w' => e = .returned (.bool true) ∧ Below w.heap.size w w' := by
  have AW := Lib.hid fun W h => awake_any W h
  have P := Lib.hid fun W => IsTriple_any x y z W
  have R := Lib.hid fun W => refTriple_any x y z W
  unfold trip at P ⊢
  generalize triB 3 x y z = b at *
  go_enter Tryd.func10, Tryd.ntmps10
  go_wp2_with fail
  refine (P.out _).mono ?_
  rintro e w1 ⟨rfl, hb1⟩
  obtain ⟨hc1, hf1⟩ := bl_cells hb1
  have hF1 := (hF.kept (bl_alloc (bl_refl _) _)).kept hb1
  have hbA := bl_then (bl_alloc (bl_refl w) _) hb1
  go_wp2_with fail
  refine (R.out _).mono ?_
  rintro e w2 ⟨rfl, hb2⟩
  have hF2 := hF1.kept hb2
  have hbB := bl_then hbA hb2
  clear hc1 hf1
  cases b
  all_goals
    go_wp2_with fail
    refine (AW.out _ hF2).mono ?_
    rintro e w4 ⟨rfl, hb4⟩
    go_wp2_with fail
    go_ret
    exact ⟨rfl, bl_then hbB hb4⟩
end Go.Proofs.YtebpeomonglkbaaDoor
