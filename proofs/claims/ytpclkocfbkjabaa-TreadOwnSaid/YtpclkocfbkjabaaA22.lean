/-
  Tidy sets: what is left avoids the same words. Smaller sets have greater machines.
-/
import Derived.Test.YtpclkocfbkjabaaA21
namespace Go.Proofs.Ytpclkocfbkjabaa
open Go
set_option linter.unusedVariables false
set_option linter.unusedSimpArgs false

theorem stL_congr {a b : List Str} (h : okL a = okL b) (q : Nat) : stL a q = stL b q := by
  unfold stL lay
  rw [h]
theorem tabL_congr {a b : List Str} (h : okL a = okL b) (q : Nat) : tabL a q = tabL b q := by
  unfold tabL rowL toL
  rw [stL_congr h, h]
theorem ok_iff {set : List Str} {s : Str} : okL set s = true ↔ ∀ p ∈ set, ¬ p <:+: s := by
  unfold okL
  simp only [Bool.not_eq_true', List.any_eq_false]
  constructor
  · intro h p hp hi
    exact h p hp ((contains_iff s p).2 hi)
  · intro h p hp hc
    exact h p hp ((contains_iff s p).1 hc)
theorem ok_sub {a b : List Str} (h : ∀ p ∈ a, p ∈ b) {s : Str} (hs : okL b s = true) : okL a s = true :=
  ok_iff.2 fun p hp => ok_iff.1 hs p (h p hp)
/-- Is another pattern in this one? -/
def hasIn (set : List Str) (s : Str) : Bool := set.any fun p => p != s && Lib.contains s p
def tidyL (set : List Str) : List Str := set.filter fun s => !hasIn set s
theorem tidy_sub (set : List Str) : ∀ p ∈ tidyL set, p ∈ set := fun p hp => (List.mem_filter.1 hp).1
theorem tidy_low {set : List Str} : ∀ (n : Nat) (p : Str), p.length ≤ n → p ∈ set → ∃ p' ∈ tidyL set, p' <:+: p
  | n, p, hn, hp => by
    cases h : hasIn set p with
    | false => exact ⟨p, List.mem_filter.2 ⟨hp, by simp [h]⟩, List.infix_refl p⟩
    | true =>
      unfold hasIn at h
      rw [List.any_eq_true] at h
      obtain ⟨p', hp', hc⟩ := h
      simp only [Bool.and_eq_true, bne_iff_ne, ne_eq] at hc
      have hi := (contains_iff p p').1 hc.2
      have hl : p'.length < p.length := by
        rcases Nat.lt_or_eq_of_le hi.length_le with h | h
        · exact h
        · exact absurd (hi.eq_of_length h) hc.1
      match n with
      | 0 => omega
      | n + 1 =>
        obtain ⟨p2, h1, h2⟩ := tidy_low n p' (by omega) hp'
        exact ⟨p2, h1, h2.trans hi⟩
theorem tidy_ok (set : List Str) : okL (tidyL set) = okL set := by
  funext s
  cases h : okL set s with
  | true => exact ok_sub (tidy_sub set) h
  | false =>
    cases h2 : okL (tidyL set) s with
    | false => rfl
    | true =>
      exfalso
      rw [← Bool.not_eq_true, ok_iff] at h
      apply h
      intro p hp hi
      obtain ⟨p', h1, h3⟩ := tidy_low _ p (Nat.le_refl _) hp
      exact ok_iff.1 h2 p' h1 (h3.trans hi)
end Go.Proofs.Ytpclkocfbkjabaa
