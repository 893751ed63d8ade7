/-
  The reference: Longest, Unavoidable.
-/
import Derived.Test.YtnamafakjkcmjaaT33
namespace Go.Proofs.Ytnamafakjkcmjaa
open Go.RowKit Go.Shelf
set_option linter.unusedVariables false
set_option linter.unusedSimpArgs false

theorem wayG_can (T : Tab) : ∀ m i, wayG (can T) T m i = wayL T m i
  | 0, _ => rfl
  | m + 1, i => by
    unfold wayG wayL
    cases firstG (can T m) (stp T i) with
    | none => rfl
    | some p => obtain ⟨c, j⟩ := p; simp [wayG_can T m j]
theorem keeps_can (T : Tab) (N n : Nat) : Keeps (can T) T N n := fun m i _ _ h => can_succ.1 h
theorem GraphV.kept {w W : World} {base : Nat} {g : Value} {S : List Str} {T : Tab} (h : GraphV w base g S T) (hb : Below w.heap.size w W) : GraphV W base g S T := by
  obtain ⟨vS, vT, hdrs, e, h1, h2, h3⟩ := h
  exact ⟨vS, vT, hdrs, e, own_kept h1 hb, own_kept h2 hb, (h3.kept hb).mono hb.size⟩
/-- Whether words end. -/
def endsB (T : Tab) : Bool := !can T 1000 0
theorem ends_iff {T : Tab} {m : Nat} {N q : Nat} (hT : TabOk T N q) (hN : 0 < N) (hS : N ≤ 121) (h : Lng T 0 m) : endsB T = true := by
  have := h.few hT hN
  unfold endsB
  cases hc : can T 1000 0 with
  | false => rfl
  | true => have := (h.can_iff _).1 hc; omega
end Go.Proofs.Ytnamafakjkcmjaa
