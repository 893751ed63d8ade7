/-
  The reference: Tidy, Needed.
-/
import Derived.Test.YtpclkocfbkjababT52
import Derived.Deep.RegionHeld3
namespace Go.Proofs.Ytpclkocfbkjabab
open Go.RowKit Go.Shelf
set_option linter.unusedVariables false
set_option linter.unusedSimpArgs false

/-- Is no other pattern in the one at this place? -/
def rtB (ss : List ByteArray) (i : Nat) : Bool := okL (pats (dropB ss i)) (sb (ss.getD i ByteArray.empty))
def selTo (f : Nat → Bool) (ss : List ByteArray) (k : Nat) : List ByteArray := ((List.range k).filter f).map fun i => ss.getD i ByteArray.empty
theorem sel_succ (f : Nat → Bool) (ss : List ByteArray) (k : Nat) : selTo f ss (k + 1) = selTo f ss k ++ (if f k = true then [ss.getD k ByteArray.empty] else []) := by
  unfold selTo
  rw [List.range_succ, List.filter_append, List.map_append]
  cases h : f k <;> simp [h]
theorem sel_len (f : Nat → Bool) (ss : List ByteArray) (k : Nat) : (selTo f ss k).length ≤ k := by
  unfold selTo
  rw [List.length_map]
  refine Nat.le_trans (List.length_filter_le _ _) ?_
  simp
end Go.Proofs.Ytpclkocfbkjabab
