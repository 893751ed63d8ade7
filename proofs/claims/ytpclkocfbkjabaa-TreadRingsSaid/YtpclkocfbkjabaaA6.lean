/-
  Which state leads to which: the threefold loop. No program stands in this text.
-/
import Derived.Test.YtpclkocfbkjabaaA5
namespace Go.Proofs.Ytpclkocfbkjabaa
open Go
set_option linter.unusedVariables false

/-- By letters between which stand states below k only, and more. -/
def tr (T : Tab) : Nat → Nat → Nat → Prop
  | 0, a, b => ∃ c, (c, b) ∈ stp T a
  | k + 1, a, b => tr T k a b ∨ (tr T k a k ∧ tr T k k b)
theorem tr_join {T : Tab} : ∀ {k x a b : Nat}, x < k → tr T k a x → tr T k x b → tr T k a b
  | 0, x, a, b, h, _, _ => absurd h (Nat.not_lt_zero _)
  | k + 1, x, a, b, h, h1, h2 => by
    by_cases e : x = k
    · subst e
      have ha : tr T x a x := by rcases h1 with h1 | h1; exact h1; exact h1.1
      have hb : tr T x x b := by rcases h2 with h2 | h2; exact h2; exact h2.2
      exact .inr ⟨ha, hb⟩
    · have hx : x < k := by omega
      rcases h1 with h1 | ⟨h1, h1'⟩ <;> rcases h2 with h2 | ⟨h2, h2'⟩
      · exact .inl (tr_join hx h1 h2)
      · exact .inr ⟨tr_join hx h1 h2, h2'⟩
      · exact .inr ⟨h1, tr_join hx h1' h2⟩
      · exact .inr ⟨h1, h2'⟩
theorem tr_edge {T : Tab} {a b : Nat} (h : ∃ c, (c, b) ∈ stp T a) : ∀ k, tr T k a b
  | 0 => h
  | k + 1 => .inl (tr_edge h k)
theorem tr_path {T : Tab} {n q : Nat} (hT : TabOk T n q) : ∀ {m a b : Nat}, a < n → PathN T (m + 1) a b → tr T n a b
  | 0, a, b, ha, ⟨c, x, h1, h2⟩ => by
    obtain rfl : x = b := h2
    exact tr_edge ⟨c, h1⟩ n
  | m + 1, a, b, ha, ⟨c, x, h1, h2⟩ => tr_join (hT.stp ha h1).2 (tr_edge ⟨c, h1⟩ n) (tr_path hT (hT.stp ha h1).2 h2)
/-- How far the threefold loop is. -/
structure Ws (T : Tab) (N k i j : Nat) (M : Nat → Nat → Bool) : Prop where
  sound : ∀ a b, a < N → b < N → M a b = true → ∃ m, PathN T (m + 1) a b
  base : ∀ a b, a < N → b < N → tr T k a b → M a b = true
  more : ∀ a b, a < N → b < N → (a < i ∨ (a = i ∧ b < j)) → tr T (k + 1) a b → M a b = true
def edgeM (T : Tab) : Nat → Nat → Bool := fun a b => (stp T a).any fun p => p.2 == b
theorem edge_iff {T : Tab} {a b : Nat} : edgeM T a b = true ↔ ∃ c, (c, b) ∈ stp T a := by
  unfold edgeM
  rw [List.any_eq_true]
  constructor
  · rintro ⟨⟨c, x⟩, h1, h2⟩
    obtain rfl : x = b := by simpa using h2
    exact ⟨c, h1⟩
  · rintro ⟨c, h⟩; exact ⟨(c, b), h, by simp⟩
theorem Ws.start (T : Tab) (N : Nat) : Ws T N 0 0 0 (edgeM T) :=
  ⟨fun a b _ _ h => by obtain ⟨c, hc⟩ := edge_iff.1 h; exact ⟨0, c, b, hc, rfl⟩, fun a b _ _ h => edge_iff.2 h, fun a b _ _ h => by omega⟩
def wsM (M : Nat → Nat → Bool) (k i j : Nat) (u : Bool) : Nat → Nat → Bool := fun a b => if a = i ∧ b = j then u else M a b
theorem Ws.cell {T : Tab} {N k i j : Nat} {M : Nat → Nat → Bool} (h : Ws T N k i j M) (hk : k < N) (hi : i < N) (hj : j < N) {u : Bool} (hu : u = (M i j || (M i k && M k j))) : Ws T N k i (j + 1) (fun a b => if a = i ∧ b = j then u else M a b) := by
  have hle : ∀ a b, M a b = true → (if a = i ∧ b = j then u else M a b) = true := fun a b hm => by
    by_cases e : a = i ∧ b = j
    · rw [if_pos e, hu, ← e.1, ← e.2, hm]; rfl
    · rw [if_neg e]; exact hm
  refine ⟨fun a b ha hb hm => ?_, fun a b ha hb ht => hle _ _ (h.base a b ha hb ht), fun a b ha hb hab ht => ?_⟩
  · by_cases e : a = i ∧ b = j
    · rw [if_pos e, hu] at hm
      obtain ⟨rfl, rfl⟩ := e
      cases h1 : M a b with
      | true => exact h.sound a b ha hb h1
      | false =>
        rw [h1, Bool.false_or, Bool.and_eq_true] at hm
        obtain ⟨x, hx⟩ := h.sound a k ha hk hm.1
        obtain ⟨y, hy⟩ := h.sound k b hk hb hm.2
        exact ⟨x + 1 + y, PathN.append (a := x + 1) (b := y + 1) hx hy⟩
    · rw [if_neg e] at hm
      exact h.sound a b ha hb hm
  · by_cases e : a = i ∧ b = j
    · rw [if_pos e, hu]
      obtain ⟨rfl, rfl⟩ := e
      rcases ht with ht | ⟨ht1, ht2⟩
      · rw [h.base a b ha hb ht]; rfl
      · rw [h.base a k ha hk ht1, h.base k b hk hb ht2]; simp
    · rw [if_neg e]
      exact h.more a b ha hb (by omega) ht
theorem Ws.row {T : Tab} {N k i : Nat} {M : Nat → Nat → Bool} (h : Ws T N k i N M) : Ws T N k (i + 1) 0 M := ⟨h.sound, h.base, fun a b ha hb hab ht => h.more a b ha hb (by omega) ht⟩
theorem Ws.round {T : Tab} {N k : Nat} {M : Nat → Nat → Bool} (h : Ws T N k N 0 M) : Ws T N (k + 1) 0 0 M := ⟨h.sound, fun a b ha hb ht => h.more a b ha hb (.inl ha) ht, fun a b ha hb hab ht => by omega⟩
/-- The states to which a state leads by at least one letter. -/
def LeadOk (T : Tab) (N : Nat) (M : Nat → Nat → Bool) : Prop := ∀ a b, a < N → b < N → (M a b = true ↔ ∃ m, PathN T (m + 1) a b)
theorem Ws.done {T : Tab} {N q : Nat} {M : Nat → Nat → Bool} (hT : TabOk T N q) (h : Ws T N N 0 0 M) : LeadOk T N M :=
  fun a b ha hb => ⟨h.sound a b ha hb, fun ⟨_, hp⟩ => h.base a b ha hb (tr_path hT ha hp)⟩
theorem LeadOk.trans {T : Tab} {N : Nat} {M : Nat → Nat → Bool} (h : LeadOk T N M) {a b c : Nat} (ha : a < N) (hb : b < N) (hc : c < N) (h1 : M a b = true) (h2 : M b c = true) : M a c = true := by
  obtain ⟨x, hx⟩ := (h a b ha hb).1 h1
  obtain ⟨y, hy⟩ := (h b c hb hc).1 h2
  exact (h a c ha hc).2 ⟨x + 1 + y, PathN.append (a := x + 1) (b := y + 1) hx hy⟩
end Go.Proofs.Ytpclkocfbkjabaa
