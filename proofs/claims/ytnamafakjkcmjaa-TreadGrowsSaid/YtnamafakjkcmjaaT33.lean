/-
  The reference: First.
-/
import Derived.Test.YtnamafakjkcmjaaT32
namespace Go.Proofs.Ytnamafakjkcmjaa
open Go.RowKit Go.Shelf
set_option linter.unusedVariables false
set_option linter.unusedSimpArgs false

/-- Where the test holds, a letter leads to where the test holds for one letter less. -/
def Keeps (P : Nat → Nat → Bool) (T : Tab) (N n : Nat) : Prop := ∀ m i, m < n → i < N → P (m + 1) i = true → ∃ c j, (c, j) ∈ stp T i ∧ P m j = true
theorem wayG_len' {P : Nat → Nat → Bool} {T : Tab} {N q n : Nat} (hT : TabOk T N q) (hK : Keeps P T N n) : ∀ (m i : Nat), m ≤ n → i < N → P m i = true → (wayG P T m i).length = m
  | 0, _, _, _, _ => rfl
  | m + 1, i, hm, hi, h => by
    obtain ⟨c, j, h1, h2, h3⟩ := firstG_some (hK m i (by omega) hi h)
    rw [wayG_succ h1, List.length_cons, wayG_len' hT hK m j (by omega) (hT.stp hi h2).2 h3]
end Go.Proofs.Ytnamafakjkcmjaa
