import Derived.Test.YtpflmlnkflpbnaaDoorW19
namespace Go.Proofs.YtpflmlnkflpbnaaDoor
open Go.RowKit Go.Sort Cam
set_option linter.unusedVariables false

theorem Children_no (x y z : Int) (w : World) (h : triB 3 x y z = false) :
    Calls Tryd.prog 12 #[trip x y z] w fun e w' => e = .returned (.tuple #[.slice none 0 0, .int .i64 2]) ∧ Below w.heap.size w w' := by
  have I := Lib.hid fun W => isTriple_no 3 x y z W (by omega) h
  clear h
  unfold trip
  go_enter Tryd.func12, Tryd.ntmps12
  go_wp2_with fail
  refine (I.out _).mono ?_
  rintro e w1 ⟨rfl, hb1⟩
  go_wp2_with fail
  go_ret2
  exact ⟨rfl, bl_then (bl_alloc (bl_alloc (bl_refl w) _) _) hb1⟩
end Go.Proofs.YtpflmlnkflpbnaaDoor
