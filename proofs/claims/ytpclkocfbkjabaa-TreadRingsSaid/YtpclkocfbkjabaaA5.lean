/-
  Where words never end there is a closed way of at most as many letters as there are states. No program stands in this text.
-/
import Derived.Test.YtpclkocfbkjabaaT10
namespace Go.Proofs.Ytpclkocfbkjabaa
open Go
set_option linter.unusedVariables false

theorem pigeon : ∀ (N : Nat) (s : Nat → Nat), (∀ k, k ≤ N → s k < N) → ∃ a b, a < b ∧ b ≤ N ∧ s a = s b
  | 0, s, h => absurd (h 0 (Nat.le_refl _)) (Nat.not_lt_zero _)
  | N + 1, s, h => by
    by_cases hx : ∃ a, a ≤ N ∧ s a = s (N + 1)
    · obtain ⟨a, ha, e⟩ := hx
      exact ⟨a, N + 1, by omega, Nat.le_refl _, e⟩
    · have hv := h (N + 1) (Nat.le_refl _)
      obtain ⟨a, b, h1, h2, h3⟩ := pigeon N (fun k => if s k = N then s (N + 1) else s k) (fun k hk => by
        have hk1 := h k (by omega)
        have hk2 : s k ≠ s (N + 1) := fun e => hx ⟨k, hk, e⟩
        split
        · omega
        · omega)
      refine ⟨a, b, h1, by omega, ?_⟩
      have ha : s a ≠ s (N + 1) := fun e => hx ⟨a, by omega, e⟩
      have hb : s b ≠ s (N + 1) := fun e => hx ⟨b, by omega, e⟩
      split at h3 <;> split at h3 <;> omega
theorem rc_path {T : Tab} {f : Nat} : ∀ {k j : Nat}, rc T f k j = true ↔ PathN T k j f
  | 0, j => by
    show (j == f) = true ↔ j = f
    simp
  | k + 1, j => by
    show ((stp T j).any fun p => rc T f k p.2) = true ↔ ∃ c i, (c, i) ∈ stp T j ∧ PathN T k i f
    rw [List.any_eq_true]
    constructor
    · rintro ⟨⟨c, i⟩, h1, h2⟩; exact ⟨c, i, h1, rc_path.1 h2⟩
    · rintro ⟨c, i, h1, h2⟩; exact ⟨(c, i), h1, rc_path.2 h2⟩
theorem PathN.append {T : Tab} : ∀ {a b i j k : Nat}, PathN T a i j → PathN T b j k → PathN T (a + b) i k
  | 0, b, i, j, k, h, h' => by
    obtain rfl : i = j := h
    rw [Nat.zero_add]; exact h'
  | a + 1, b, i, j, k, ⟨c, x, h1, h2⟩, h' => by
    rw [Nat.add_right_comm]
    exact ⟨c, x, h1, PathN.append h2 h'⟩
/-- One state after another, each with a way on that never ends. -/
theorem walk_on {T : Tab} {n q : Nat} (hT : TabOk T n q) : ∀ (m : Nat) (i : Nat), i < n → (∀ k, can T k i = true) → ∃ s : Nat → Nat, s 0 = i ∧ (∀ k, k ≤ m → s k < n) ∧ ∀ k, k < m → ∃ c, (c, s (k + 1)) ∈ stp T (s k)
  | 0, i, hi, h => ⟨fun _ => i, rfl, fun k _ => hi, fun k hk => absurd hk (Nat.not_lt_zero _)⟩
  | m + 1, i, hi, h => by
    obtain ⟨c, j, h1, h2⟩ := can_succ.1 (h (n + 1))
    have hj := (hT.stp hi h1).2
    obtain ⟨s, e, hs, hp⟩ := walk_on hT m j hj (fun k => can_ever hT hj h2 k)
    refine ⟨fun k => match k with | 0 => i | k + 1 => s k, rfl, fun k hk => ?_, fun k hk => ?_⟩
    · cases k with
      | zero => exact hi
      | succ k => exact hs k (by omega)
    · cases k with
      | zero => exact ⟨c, by show (c, s 0) ∈ stp T i; rw [e]; exact h1⟩
      | succ k => exact hp k (by omega)
theorem path_of {T : Tab} {s : Nat → Nat} {m : Nat} (h : ∀ k, k < m → ∃ c, (c, s (k + 1)) ∈ stp T (s k)) : ∀ (d a : Nat), a + d ≤ m → PathN T d (s a) (s (a + d))
  | 0, a, _ => rfl
  | d + 1, a, hd => by
    obtain ⟨c, hc⟩ := h a (by omega)
    refine ⟨c, s (a + 1), hc, ?_⟩
    have := path_of h d (a + 1) (by omega)
    rwa [show a + 1 + d = a + (d + 1) by omega] at this
theorem closed_way {T : Tab} {n q i : Nat} (hT : TabOk T n q) (hi : i < n) (h : ∀ k, can T k i = true) : ∃ m f, 1 ≤ m ∧ m ≤ n ∧ f < n ∧ rc T f m f = true := by
  obtain ⟨s, _, hs, hp⟩ := walk_on hT n i hi h
  obtain ⟨a, b, h1, h2, e⟩ := pigeon n s hs
  have := path_of hp (b - a) a (by omega)
  rw [show a + (b - a) = b by omega, ← e] at this
  exact ⟨b - a, s a, by omega, by omega, hs a (by omega), rc_path.2 this⟩
/-- The first one of the closed ways of a length, of those from the first states. -/
def bestN (T : Tab) (n : Nat) : Nat → Str
  | 0 => []
  | i + 1 => if rc T i n i = true ∧ (bestN T n i = [] ∨ Op.bytesLess (bs (wayG (rc T i) T n i)).toList (bs (bestN T n i)).toList = true) then wayG (rc T i) T n i else bestN T n i
theorem bestN_none {T : Tab} {n : Nat} : ∀ {i : Nat}, (∀ k, k < i → rc T k n k = false) → bestN T n i = []
  | 0, _ => rfl
  | i + 1, h => by
    show (if _ then _ else _) = _
    rw [if_neg (by rw [h i (by omega)]; simp)]
    exact bestN_none fun k hk => h k (by omega)
theorem wayG_len {P : Nat → Nat → Bool} {T : Tab} (hP : ∀ m i, P (m + 1) i = true → ((stp T i).any fun p => P m p.2) = true) : ∀ (m i : Nat), P m i = true → (wayG P T m i).length = m
  | 0, _, _ => rfl
  | m + 1, i, h => by
    obtain ⟨⟨c, j⟩, h1, h2⟩ := List.any_eq_true.1 (hP m i h)
    obtain ⟨c', j', e, _, h4⟩ := firstG_some (p := P m) ⟨c, j, h1, h2⟩
    rw [wayG_succ e, List.length_cons, wayG_len hP m j' h4]
theorem rc_len {T : Tab} {f n i : Nat} (h : rc T f n i = true) : (wayG (rc T f) T n i).length = n := wayG_len (fun m i h => h) n i h
theorem bestN_len {T : Tab} {n : Nat} : ∀ {i : Nat}, bestN T n i = [] ∨ (bestN T n i).length = n
  | 0 => .inl rfl
  | i + 1 => by
    unfold bestN
    split
    · rename_i h; exact .inr (rc_len h.1)
    · exact bestN_len
theorem bestN_some {T : Tab} {n : Nat} (hn : 1 ≤ n) : ∀ {i k : Nat}, k < i → rc T k n k = true → bestN T n i ≠ []
  | 0, k, hk, _ => absurd hk (Nat.not_lt_zero _)
  | i + 1, k, hk, h => by
    unfold bestN
    split
    · rename_i h1
      intro e
      have := rc_len h1.1
      rw [e] at this
      simp at this; omega
    · rename_i h1
      by_cases e : k = i
      · subst e
        intro hb
        exact h1 ⟨h, .inl hb⟩
      · exact bestN_some hn (by omega) h
end Go.Proofs.Ytpclkocfbkjabaa
