/-
  What the chosen words have. No function of the program stands in this text.
-/
import Derived.Test.YtpclkocfbkjabaaA15
namespace Go.Proofs.Ytpclkocfbkjabaa
open Go
set_option linter.unusedVariables false

theorem refR_ringsL {q n : Nat} (hq : 1 ≤ q ∧ q ≤ 3) (hn : 1 ≤ n ∧ n ≤ 5) : refR (wordsL q n) = ringsL q n := by
  rw [ringsI_eq]
  exact qn_cases refR_all q n hq hn
theorem cntR_ringsL {q n : Nat} (hq : 1 ≤ q ∧ q ≤ 3) (hn : 1 ≤ n ∧ n ≤ 5) : (ringsL q n).length = cntR q n := by
  rw [ringsI_eq]
  exact qn_cases cntR_all q n hq hn
theorem cntR_pos {q n : Nat} (hq : 1 ≤ q ∧ q ≤ 3) (hn : 1 ≤ n ∧ n ≤ 5) : 0 < cntR q n ∧ cntR q n ≤ 51 :=
  qn_cases (P := fun q n => 0 < cntR q n ∧ cntR q n ≤ 51) (by decide) q n hq hn
theorem fewL_table {q n : Nat} (hq : 1 ≤ q ∧ q ≤ 3) (hn : 1 ≤ n ∧ n ≤ 5) (h : cntR q n ≤ 12) : fewL q n = fewT q n := by
  rw [few_eq]
  exact qn_cases fewI_all q n hq hn h
theorem fewT_facts {q n : Nat} (hq : 1 ≤ q ∧ q ≤ 3) (hn : 1 ≤ n ∧ n ≤ 5) (h : cntR q n ≤ 12) : (fewT q n).length = cntR q n ∧ setB q ((fewT q n).map bs) = true ∧ can (tabL (fewT q n) q) 1000 0 = false ∧ ∀ s ∈ fewT q n, s.length = n := by
  have := qn_cases fewOk_all q n hq hn h
  simp only [Bool.and_eq_true, decide_eq_true_iff, Bool.not_eq_true', List.all_eq_true, beq_iff_eq] at this
  exact ⟨this.1.1.1, this.1.1.2, this.1.2, this.2⟩
theorem choose_pos {q n : Nat} (hq : 1 ≤ q ∧ q ≤ 3) (hn : 1 ≤ n ∧ n ≤ 5) (h : cntR q n ≤ 12) : 0 < (chooseL n (ringsL q n) ⟨[], [], 0⟩).2.out.length := by
  have h1 : (fewL q n).length = (chooseL n (ringsL q n) ⟨[], [], 0⟩).2.out.length := (sortS_perm _).length_eq
  rw [← h1, fewL_table hq hn h, (fewT_facts hq hn h).1]
  exact (cntR_pos hq hn).1
theorem pats_bs (L : List Str) : pats (L.map bs) = L := by
  unfold pats
  rw [List.map_map]
  conv => rhs; rw [← List.map_id L]
  exact List.map_congr_left fun s _ => sb_bs s
end Go.Proofs.Ytpclkocfbkjabaa
