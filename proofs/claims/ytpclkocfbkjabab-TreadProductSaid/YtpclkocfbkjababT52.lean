/-
  The reference: without.
-/
import Derived.Test.YtpclkocfbkjababT51
namespace Go.Proofs.Ytpclkocfbkjabab
open Go.RowKit Go.Shelf
set_option linter.unusedVariables false
set_option linter.unusedSimpArgs false

theorem src_cells {w W : World} {g off n : Nat} {ss : List ByteArray} (hg : g < w.heap.size) (hc : ∀ j, j < ss.length → w.cell? ⟨g, off + j, none⟩ = some (.string (ss.getD j ByteArray.empty))) (hb : Below w.heap.size w W) (o : Nat) (L : List ByteArray)
    (hL : ∀ j, j < L.length → o + j < ss.length ∧ L.getD j ByteArray.empty = ss.getD (o + j) ByteArray.empty) : ∀ (j : Nat) u, (encB L)[j]? = some u → W.cell? ((⟨g, off + o, none⟩ : Addr).add j) = some u := by
  intro j u hu
  have hj : j < L.length := by
    rcases Nat.lt_or_ge j L.length with h | h
    · exact h
    · rw [List.getElem?_eq_none (by simp [encB]; omega)] at hu; cases hu
  rw [encB_at hj] at hu
  injection hu with hu
  obtain ⟨h1, h2⟩ := hL j hj
  rw [show (⟨g, off + o, none⟩ : Addr).add j = ⟨g, off + o + j, none⟩ by unfold Addr.add; split <;> simp_all, ← hu, h2, hb.cell (p := ⟨g, off + o + j, none⟩) hg, Nat.add_assoc]
  exact hc _ h1
theorem encB_one (L : List ByteArray) : ∀ u ∈ encB L, u.oneCell' = true := by
  intro u hu
  unfold encB at hu
  obtain ⟨s, _, rfl⟩ := List.mem_map.1 hu
  rfl
theorem encB_len (L : List ByteArray) : (encB L).length = L.length := by simp [encB]
end Go.Proofs.Ytpclkocfbkjabab
