/-
  The choice, ring by ring and word by word. No function of the program stands in this text.
-/
import Derived.Test.YtpclkocfbkjabaaA10
namespace Go.Proofs.Ytpclkocfbkjabaa
open Go
set_option linter.unusedVariables false

theorem tryL_append (n : Nat) (ch : Cs → Bool × Cs) : ∀ (l l' : List Str) (s : Cs), tryL n ch (l ++ l') s = if (tryL n ch l s).1 = true then tryL n ch l s else tryL n ch l' (tryL n ch l s).2
  | [], l', s => by simp [tryL]
  | w :: l, l', s => by
    show tryL n ch (w :: (l ++ l')) s = _
    rw [tryL, tryL]
    dsimp only
    split
    · exact tryL_append n ch l l' _
    · split
      · rfl
      · exact tryL_append n ch l l' _
theorem tryL_true {n : Nat} {ch : Cs → Bool × Cs} {l : List Str} {s : Cs} {j : Nat} (h : (tryL n ch (l.take j) s).1 = true) : tryL n ch l s = tryL n ch (l.take j) s := by
  have := tryL_append n ch (l.take j) (l.drop j) s
  rw [List.take_append_drop, if_pos h] at this
  exact this
theorem tryL_one (n : Nat) (ch : Cs → Bool × Cs) (w : Str) (s : Cs) : tryL n ch [w] s =
    if cycB (delB s.E (ofB n w)) = true then (false, ⟨addB (delB s.E (ofB n w)) (ofB n w), s.out, s.cnt + 1⟩)
    else if (ch ⟨delB s.E (ofB n w), s.out ++ [w], s.cnt⟩).1 = true then ch ⟨delB s.E (ofB n w), s.out ++ [w], s.cnt⟩
    else (false, ⟨addB (ch ⟨delB s.E (ofB n w), s.out ++ [w], s.cnt⟩).2.E (ofB n w), (ch ⟨delB s.E (ofB n w), s.out ++ [w], s.cnt⟩).2.out.dropLast, (ch ⟨delB s.E (ofB n w), s.out ++ [w], s.cnt⟩).2.cnt + 1⟩) := rfl
theorem tryL_step {n : Nat} {ch : Cs → Bool × Cs} {l : List Str} {s : Cs} {j : Nat} (hj : j < l.length) (h : (tryL n ch (l.take j) s).1 = false) : tryL n ch (l.take (j + 1)) s = tryL n ch [l[j]] (tryL n ch (l.take j) s).2 := by
  rw [List.take_succ_eq_append_getElem hj, tryL_append, h]
  rfl
theorem tryL_cnt {n c : Nat} {ch : Cs → Bool × Cs} (hch : ∀ s, (ch s).2.cnt ≤ s.cnt + c) : ∀ (l : List Str) (s : Cs), (tryL n ch l s).2.cnt ≤ s.cnt + l.length * (c + 1)
  | [], s => by simp [tryL]
  | w :: l, s => by
    rw [tryL]
    dsimp only
    rw [List.length_cons, Nat.succ_mul]
    split
    · have := tryL_cnt (n := n) hch l ⟨addB (delB s.E (ofB n w)) (ofB n w), s.out, s.cnt + 1⟩
      dsimp only at this
      omega
    · have h1 := hch ⟨delB s.E (ofB n w), s.out ++ [w], s.cnt⟩
      dsimp only at h1
      split
      · omega
      · have := tryL_cnt (n := n) hch l ⟨addB (ch ⟨delB s.E (ofB n w), s.out ++ [w], s.cnt⟩).2.E (ofB n w), (ch ⟨delB s.E (ofB n w), s.out ++ [w], s.cnt⟩).2.out.dropLast, (ch ⟨delB s.E (ofB n w), s.out ++ [w], s.cnt⟩).2.cnt + 1⟩
        dsimp only at this
        omega
theorem chooseL_cnt (n : Nat) : ∀ (l : List (List Str)) (s : Cs), (∀ r ∈ l, r.length ≤ 5) → (chooseL n l s).2.cnt ≤ s.cnt + cost l.length
  | [], s, _ => by simp [chooseL]
  | ring :: rest, s, h => by
    have h1 := h ring (List.mem_cons_self ..)
    have h2 := tryL_cnt (n := n) (ch := chooseL n rest) (c := cost rest.length) (fun s => chooseL_cnt n rest s fun r hr => h r (List.mem_cons_of_mem _ hr)) ring ⟨ring.foldl (fun E w => addB E (ofB n w)) s.E, s.out, s.cnt + ring.length⟩
    have h3 : ring.length * (cost rest.length + 1) ≤ 5 * (cost rest.length + 1) := Nat.mul_le_mul_right _ h1
    have h4 : cost (rest.length + 1) = 5 * (cost rest.length + 2) := rfl
    rw [chooseL]
    dsimp only at h2 ⊢
    rw [List.length_cons, h4]
    split
    · omega
    · dsimp only; omega
theorem foldl_take {α β : Type} (f : β → α → β) {l : List α} {j : Nat} (h : j < l.length) (b : β) : (l.take (j + 1)).foldl f b = f ((l.take j).foldl f b) l[j] := by
  rw [List.take_succ_eq_append_getElem h, List.foldl_append]
  rfl
/-- The state ahead of the words of a ring. -/
def st1 (n : Nat) (ring : List Str) (s : Cs) : Cs := ⟨ring.foldl (fun E w => addB E (ofB n w)) s.E, s.out, s.cnt + ring.length⟩
theorem chooseL_yes {n : Nat} {ring : List Str} {rest : List (List Str)} {s : Cs} (h : (tryL n (chooseL n rest) ring (st1 n ring s)).1 = true) : chooseL n (ring :: rest) s = tryL n (chooseL n rest) ring (st1 n ring s) := by
  rw [chooseL]
  exact if_pos h
theorem chooseL_no {n : Nat} {ring : List Str} {rest : List (List Str)} {s : Cs} (h : (tryL n (chooseL n rest) ring (st1 n ring s)).1 = false) : chooseL n (ring :: rest) s =
    (false, ⟨ring.foldl (fun E w => delB E (ofB n w)) (tryL n (chooseL n rest) ring (st1 n ring s)).2.E, (tryL n (chooseL n rest) ring (st1 n ring s)).2.out, (tryL n (chooseL n rest) ring (st1 n ring s)).2.cnt⟩) := by
  rw [chooseL]
  exact if_neg (by
    intro h2
    have h3 : (tryL n (chooseL n rest) ring (st1 n ring s)).1 = true := h2
    rw [h] at h3; cases h3)
theorem cost_le {k : Nat} (h : k ≤ 12) : cost k ≤ 1000000000 := by
  have : k = 0 ∨ k = 1 ∨ k = 2 ∨ k = 3 ∨ k = 4 ∨ k = 5 ∨ k = 6 ∨ k = 7 ∨ k = 8 ∨ k = 9 ∨ k = 10 ∨ k = 11 ∨ k = 12 := by omega
  rcases this with rfl | rfl | rfl | rfl | rfl | rfl | rfl | rfl | rfl | rfl | rfl | rfl | rfl <;> decide
end Go.Proofs.Ytpclkocfbkjabaa
