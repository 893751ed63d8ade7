/-
  Fraction: the numbers of letters behind a path.
-/
import Derived.Test.YtebpeomonglkbaaDoorW40
import Derived.Test.YtebpeomonglkbaaDoorW31
namespace Go.Proofs.YtebpeomonglkbaaDoor
open Go.RowKit Go.Sort Cam
set_option linter.unusedVariables false
set_option linter.unusedSimpArgs false

theorem Whole.new' (w : World) (g : Nat) (t : TypeId) (cs : Array Value) (h : g = w.heap.size) : Whole (w.alloc (.cells cs t)) g t cs := h ▸ Whole.new w t cs
theorem arr93 : (Tryd.prog.info? 93).map (·.size) = some 2 := by kernel_rfl
theorem arr104 : (Tryd.prog.info? 104).map (·.size) = some 4 := by kernel_rfl

set_option maxRecDepth 100000 in
theorem size_phrase (a b : Int) (w : World) (ha : 0 ≤ a ∧ a ≤ 4000000000) (hb : 0 ≤ b ∧ b ≤ 4000000000) :
    Calls Tryd.prog 70 #[.agg #[.int .i64 a, .int .i64 b]] w fun e w' => e = .returned (.int .i64 (min (a + b) 4000000000)) ∧ Below w.heap.size w w' := by
  obtain ⟨s, hs⟩ : ∃ s, s = min (a + b) 4000000000 := ⟨_, rfl⟩
  have HS := Lib.hid hs
  rw [← hs]
  clear hs
  go_enter Tryd.func70, Tryd.ntmps70
  go_wp2_with fail
  go_ret
  exact ⟨ret_int (by have := HS.out; omega), bl_alloc (bl_refl _) _⟩

set_option maxRecDepth 100000 in
theorem join_phrase (a b c d : Int) (w : World) (ha : 0 ≤ a ∧ a ≤ 4000000000) (hb : 0 ≤ b ∧ b ≤ 4000000000) (hc : 0 ≤ c ∧ c ≤ 4000000000) (hd : 0 ≤ d ∧ d ≤ 4000000000) :
    Calls Tryd.prog 68 #[.agg #[.int .i64 a, .int .i64 b], .agg #[.int .i64 c, .int .i64 d]] w fun e w' => e = .returned (.agg #[.int .i64 (a + c), .int .i64 (b + d)]) ∧ Below w.heap.size w w' := by
  go_enter Tryd.func68, Tryd.ntmps68
  go_wp2_with fail
  exact bodyPost_ret (res_cell (g := w.heap.size + 2) Tryd.results68 rfl ((Whole.new' ((w.alloc _).alloc _) (w.heap.size + 2) 93 #[.int .i64 (a + c), .int .i64 (b + d)] (by simp)).load Tryd.underlying93 rfl arr93)) rfl ⟨rfl, bl_alloc (bl_alloc (bl_alloc (bl_refl _) _) _) _⟩
end Go.Proofs.YtebpeomonglkbaaDoor
