import Derived.Test.YtebpeomonglkbaaDoorW31
import Derived.Test.YtebpeomonglkbaaDoorW16
namespace Go.Proofs.YtebpeomonglkbaaDoor
open Go.RowKit Go.Sort Cam
set_option linter.unusedVariables false
set_option linter.unusedSimpArgs false

theorem mod_any (x n : Int) (w : World) (hx : (Lit.int .i64 x).wf = true) (hn : 1 ≤ n ∧ n ≤ 1000000000000) :
    Calls Tryd.prog 46 #[.int .i64 x, .int .i64 n] w fun e w' => (∃ r : Int, 0 ≤ r ∧ r < n ∧ e = .returned (.int .i64 r)) ∧ w = w' := by
  have h0 : 0 ≤ IntKind.u64.wrap x := by rw [IntKind.wrap_u64]; omega
  have hm : (IntKind.u64.wrap x).tmod n = IntKind.u64.wrap x % n := Int.tmod_eq_emod_of_nonneg h0
  have h1 := Int.emod_nonneg (IntKind.u64.wrap x) (show n ≠ 0 by omega)
  have h2 := Int.emod_lt_of_pos (IntKind.u64.wrap x) (show 0 < n by omega)
  have hw : wrap64 ((IntKind.u64.wrap x).tmod n) = IntKind.u64.wrap x % n := by
    rw [hm]
    generalize IntKind.u64.wrap x % n = r at *
    unfold wrap64; omega
  go_enter Tryd.func46, Tryd.ntmps46
  go_wp2
  go_ret
  exact ⟨⟨_, h1, h2, by rw [← hw]; rfl⟩, rfl⟩

/-- Exchange at a solution, where the outcome is small enough: or the specified error. -/
theorem Exchange_ok (a x y z p q r : Int) (w : World) (h : Tri x y z) (h4 : z ≤ 1000000000) (h0 : 0 ≤ a ∧ a ≤ 2) (hp : exF a x y z = (p, q, r)) (hr : r ≤ 1000000000) :
    Calls Tryd.prog 35 #[trip x y z, .int .i64 a] w fun e w' => e = .returned (.tuple #[trip p q r, .int .i64 0]) ∧ Below w.heap.size w w' :=
  Exchange_in a x y z p q r true w h h4 h0 hp (by simp [okB, hr])
theorem Exchange_over (a x y z p q r : Int) (w : World) (h : Tri x y z) (h4 : z ≤ 1000000000) (h0 : 0 ≤ a ∧ a ≤ 2) (hp : exF a x y z = (p, q, r)) (hr : 1000000000 < r) :
    Calls Tryd.prog 35 #[trip x y z, .int .i64 a] w fun e w' => e = .returned (.tuple #[zeros3, .int .i64 5]) ∧ Below w.heap.size w w' :=
  Exchange_in a x y z p q r false w h h4 h0 hp (by simp [okB]; omega)
theorem IsTriple_yes (x y z : Int) (w : World) (h : Tri x y z) (h4 : z ≤ 1000000000) :
    Calls Tryd.prog 34 #[trip x y z] w fun e w' => e = .returned (.tuple #[.bool true, .int .i64 0]) ∧ Below w.heap.size w w' := by
  have k := IsTriple_any x y z w
  rw [tri_triB h h4] at k
  exact k

abbrev Post (w : World) := fun (e : Ending) (w' : World) => e = .returned (.bool true) ∧ Below w.heap.size w w'
end Go.Proofs.YtebpeomonglkbaaDoor
