/-
  The remainder by which any number is brought into a range.
-/
import Derived.Test.YtpflmlnkflpbnaaDoorW22
namespace Go.Proofs.YtpflmlnkflpbnaaDoor
open Go.RowKit Go.Sort Cam
set_option linter.unusedVariables false
set_option linter.unusedSimpArgs false

theorem mod_any (x n : Int) (w : World) (hx : (Lit.int .i64 x).wf = true) (hn : 1 ≤ n ∧ n ≤ 1000000000000) :
    Calls Tryd.prog 10 #[.int .i64 x, .int .i64 n] w fun e w' => (∃ r : Int, 0 ≤ r ∧ r < n ∧ e = .returned (.int .i64 r)) ∧ w = w' := by
  have h0 : 0 ≤ IntKind.u64.wrap x := by rw [IntKind.wrap_u64]; omega
  have hm : (IntKind.u64.wrap x).tmod n = IntKind.u64.wrap x % n := Int.tmod_eq_emod_of_nonneg h0
  have h1 := Int.emod_nonneg (IntKind.u64.wrap x) (show n ≠ 0 by omega)
  have h2 := Int.emod_lt_of_pos (IntKind.u64.wrap x) (show 0 < n by omega)
  have hw : wrap64 ((IntKind.u64.wrap x).tmod n) = IntKind.u64.wrap x % n := by
    rw [hm]
    generalize IntKind.u64.wrap x % n = r at *
    unfold wrap64; omega
  go_enter Tryd.func10, Tryd.ntmps10
  go_wp2
  go_ret
  exact ⟨⟨_, h1, h2, by rw [← hw]; rfl⟩, rfl⟩

end Go.Proofs.YtpflmlnkflpbnaaDoor
