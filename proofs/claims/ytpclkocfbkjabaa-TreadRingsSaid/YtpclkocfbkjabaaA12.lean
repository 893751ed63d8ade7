/-
  The rings are small. No function of the program stands in this text.
-/
import Derived.Test.YtpclkocfbkjabaaA11
namespace Go.Proofs.Ytpclkocfbkjabaa
open Go
set_option linter.unusedVariables false

theorem ringF_turn (s : Str) (L : List Str) : ∀ i, ∀ t ∈ (ringF s i (L, [])).2, t.length = s.length
  | 0, t, h => by cases h
  | i + 1, t, h => by
    by_cases hm : turnL s i ∈ (ringF s i (L, [])).1
    · rw [ringF_old hm] at h
      exact ringF_turn s L i t h
    · rw [ringF_new hm] at h
      rcases List.mem_append.1 h with h | h
      · exact ringF_turn s L i t h
      · rw [List.mem_singleton.1 h, turnL_len]
theorem ringStep_ok {n m : Nat} {ko : List Str × List (List Str)} {s : Str} (hs : s.length = m) (h : ∀ r ∈ ko.2, r.length ≤ n ∧ ∀ w ∈ r, w.length = m) : ∀ r ∈ (ringStep n ko s).2, r.length ≤ n ∧ ∀ w ∈ r, w.length = m := by
  unfold ringStep
  split
  · exact h
  · intro r hr
    rcases List.mem_append.1 hr with hr | hr
    · exact h r hr
    · rw [List.mem_singleton.1 hr]
      refine ⟨by rw [(sortS_perm _).length_eq]; exact ringF_len _ _ _, fun w hw => ?_⟩
      rw [ringF_turn s ko.1 n w ((sortS_perm _).mem_iff.1 hw), hs]
theorem ringsF_ok {n m : Nat} : ∀ (l : List Str) (ko : List Str × List (List Str)), (∀ s ∈ l, s.length = m) → (∀ r ∈ ko.2, r.length ≤ n ∧ ∀ w ∈ r, w.length = m) → ∀ r ∈ (l.foldl (ringStep n) ko).2, r.length ≤ n ∧ ∀ w ∈ r, w.length = m
  | [], ko, _, h => h
  | s :: l, ko, hl, h => ringsF_ok l _ (fun s hs => hl s (List.mem_cons_of_mem _ hs)) (ringStep_ok (hl s (List.mem_cons_self ..)) h)
theorem ringsL_ok (q n : Nat) : ∀ r ∈ ringsL q n, r.length ≤ n ∧ ∀ w ∈ r, w.length = n :=
  ringsF_ok _ _ (fun s hs => ((mem_words q n s).1 hs).1) (fun r h => by cases h)
theorem tryL_olen {n c : Nat} {ch : Cs → Bool × Cs} (h1 : ∀ s, (ch s).1 = false → (ch s).2.out = s.out) (h2 : ∀ s, (ch s).2.out.length ≤ s.out.length + c) : ∀ (l : List Str) (s : Cs), (tryL n ch l s).2.out.length ≤ s.out.length + 1 + c
  | [], s => by simp [tryL]; omega
  | w :: l, s => by
    rw [tryL]
    dsimp only
    split
    · exact tryL_olen h1 h2 l ⟨addB (delB s.E (ofB n w)) (ofB n w), s.out, s.cnt + 1⟩
    · split
      · have := h2 ⟨delB s.E (ofB n w), s.out ++ [w], s.cnt⟩
        simp at this
        omega
      · rename_i hf
        have h3 := h1 ⟨delB s.E (ofB n w), s.out ++ [w], s.cnt⟩ (by simpa using hf)
        have := tryL_olen (n := n) h1 h2 l ⟨addB (ch ⟨delB s.E (ofB n w), s.out ++ [w], s.cnt⟩).2.E (ofB n w), (ch ⟨delB s.E (ofB n w), s.out ++ [w], s.cnt⟩).2.out.dropLast, (ch ⟨delB s.E (ofB n w), s.out ++ [w], s.cnt⟩).2.cnt + 1⟩
        dsimp only at this h3 ⊢
        rw [h3] at this ⊢
        simpa using this
theorem chooseL_olen (n : Nat) : ∀ (l : List (List Str)) (s : Cs), (chooseL n l s).2.out.length ≤ s.out.length + l.length
  | [], s => by simp [chooseL]
  | ring :: rest, s => by
    have h := tryL_olen (n := n) (ch := chooseL n rest) (c := rest.length) (fun s h => chooseL_out n rest s h) (fun s => chooseL_olen n rest s) ring (st1 n ring s)
    rw [show (st1 n ring s).out = s.out from rfl] at h
    cases hf : (tryL n (chooseL n rest) ring (st1 n ring s)).1 with
    | true => rw [chooseL_yes hf, List.length_cons]; omega
    | false =>
      rw [chooseL_no hf, List.length_cons]
      dsimp only
      omega
end Go.Proofs.Ytpclkocfbkjabaa
