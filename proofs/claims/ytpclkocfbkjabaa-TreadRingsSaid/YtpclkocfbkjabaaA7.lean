/-
  How many circles can follow each other. No program stands in this text.
-/
import Derived.Test.YtpclkocfbkjabaaA6
namespace Go.Proofs.Ytpclkocfbkjabaa
open Go
set_option linter.unusedVariables false

def foldC (g : Nat → Int) (p : Nat → Bool) : Nat → Int
  | 0 => 0
  | j + 1 => if p j then max (foldC g p j) (g j) else foldC g p j
theorem foldC_congr {g g' : Nat → Int} {p : Nat → Bool} : ∀ {j : Nat}, (∀ k, k < j → p k = true → g k = g' k) → foldC g p j = foldC g' p j
  | 0, _ => rfl
  | j + 1, h => by
    unfold foldC
    rw [foldC_congr (g' := g') fun k hk hp => h k (by omega) hp]
    by_cases e : p j = true
    · rw [if_pos e, if_pos e, h j (by omega) e]
    · rw [if_neg e, if_neg e]
theorem foldC_bound {g : Nat → Int} {p : Nat → Bool} {B : Int} (hB : 0 ≤ B) : ∀ {j : Nat}, (∀ k, k < j → p k = true → 0 ≤ g k ∧ g k ≤ B) → 0 ≤ foldC g p j ∧ foldC g p j ≤ B
  | 0, _ => ⟨Int.le_refl _, hB⟩
  | j + 1, h => by
    unfold foldC
    have ih := foldC_bound hB (j := j) fun k hk hp => h k (by omega) hp
    by_cases e : p j = true
    · rw [if_pos e]; have := h j (by omega) e; omega
    · rw [if_neg e]; exact ih
def chF (M : Nat → Nat → Bool) (R : Nat → Bool) (N : Nat) : Nat → Nat → Int
  | 0, _ => 0
  | f + 1, i => foldC (chF M R N f) (fun j => M i j && !M j i) N + if R i then 1 else 0
def rkC (M : Nat → Nat → Bool) (N i : Nat) : Nat := (List.range N).countP fun j => (j == i) || M i j
theorem countP_strict {α : Type} {p q : α → Bool} : ∀ {l : List α}, (∀ x ∈ l, p x = true → q x = true) → (∃ x ∈ l, q x = true ∧ p x = false) → l.countP p < l.countP q
  | [], _, ⟨x, hx, _⟩ => by cases hx
  | a :: l, h, ⟨x, hx, h1, h2⟩ => by
    rw [List.countP_cons, List.countP_cons]
    have hl := List.countP_mono_left (p := p) (q := q) (l := l) fun y hy => h y (List.mem_cons_of_mem _ hy)
    rcases List.mem_cons.1 hx with rfl | hx
    · rw [h1, h2]; simp; omega
    · have := countP_strict (fun y hy => h y (List.mem_cons_of_mem _ hy)) ⟨x, hx, h1, h2⟩
      have ha := h a (List.mem_cons_self ..)
      cases hp : p a with
      | false => simp; omega
      | true => rw [ha hp]; simp; omega
theorem rk_lt {M : Nat → Nat → Bool} {N : Nat} (hM : ∀ a b c, a < N → b < N → c < N → M a b = true → M b c = true → M a c = true) {i j : Nat} (hi : i < N) (hj : j < N) (h1 : M i j = true) (h2 : M j i = false) : rkC M N j < rkC M N i := by
  refine countP_strict (fun x hx h => ?_) ⟨i, List.mem_range.2 hi, by simp, ?_⟩
  · have hx := List.mem_range.1 hx
    simp only [Bool.or_eq_true, beq_iff_eq] at h ⊢
    rcases h with rfl | h
    · exact .inr h1
    · exact .inr (hM i j x hi hj hx h1 h)
  · have : (i == j) = false := by
      simp only [beq_eq_false_iff_ne]
      rintro rfl
      rw [h1] at h2; cases h2
    rw [this, h2]; rfl
theorem rk_pos {M : Nat → Nat → Bool} {N i : Nat} (hi : i < N) : 0 < rkC M N i := by
  unfold rkC
  rw [List.countP_pos_iff]
  exact ⟨i, List.mem_range.2 hi, by simp⟩
theorem rk_le (M : Nat → Nat → Bool) (N i : Nat) : rkC M N i ≤ N := by
  unfold rkC
  exact Nat.le_trans List.countP_le_length (by simp)
theorem chF_same {M : Nat → Nat → Bool} {R : Nat → Bool} {N : Nat} (hM : ∀ a b c, a < N → b < N → c < N → M a b = true → M b c = true → M a c = true) : ∀ (f f' i : Nat), i < N → rkC M N i ≤ f → rkC M N i ≤ f' → chF M R N f i = chF M R N f' i
  | 0, f', i, hi, h, _ => absurd (rk_pos (M := M) hi) (by omega)
  | f + 1, 0, i, hi, _, h => absurd (rk_pos (M := M) hi) (by omega)
  | f + 1, f' + 1, i, hi, h, h' => by
    unfold chF
    rw [foldC_congr (g' := chF M R N f') fun k hk hp => ?_]
    simp only [Bool.and_eq_true, Bool.not_eq_true'] at hp
    have := rk_lt hM hi hk hp.1 hp.2
    exact chF_same hM f f' k hk (by omega) (by omega)
/-- The greatest number of circles on a way from a state on. -/
def chC (M : Nat → Nat → Bool) (R : Nat → Bool) (N i : Nat) : Int := chF M R N N i
theorem ch_eq {M : Nat → Nat → Bool} {R : Nat → Bool} {N : Nat} (hM : ∀ a b c, a < N → b < N → c < N → M a b = true → M b c = true → M a c = true) {i : Nat} (hi : i < N) :
    chC M R N i = foldC (chC M R N) (fun j => M i j && !M j i) N + if R i then 1 else 0 := by
  unfold chC
  rw [chF_same hM N (N + 1) i hi (rk_le M N i) (Nat.le_succ_of_le (rk_le M N i))]
  rfl
theorem ch_bound {M : Nat → Nat → Bool} {R : Nat → Bool} {N : Nat} (hM : ∀ a b c, a < N → b < N → c < N → M a b = true → M b c = true → M a c = true) : ∀ (f i : Nat), i < N → rkC M N i ≤ f → 0 ≤ chC M R N i ∧ chC M R N i ≤ rkC M N i
  | 0, i, hi, h => absurd (rk_pos (M := M) hi) (by omega)
  | f + 1, i, hi, h => by
    rw [ch_eq hM hi]
    have hp := rk_pos (M := M) hi
    have := foldC_bound (g := chC M R N) (p := fun j => M i j && !M j i) (B := (rkC M N i : Int) - 1) (by omega) (j := N) fun k hk hk2 => by
      simp only [Bool.and_eq_true, Bool.not_eq_true'] at hk2
      have h1 := rk_lt hM hi hk hk2.1 hk2.2
      have h2 := ch_bound (R := R) hM f k hk (by omega)
      omega
    split <;> omega
theorem ch_small {M : Nat → Nat → Bool} {R : Nat → Bool} {N : Nat} (hM : ∀ a b c, a < N → b < N → c < N → M a b = true → M b c = true → M a c = true) {i : Nat} (hi : i < N) : 0 ≤ chC M R N i ∧ chC M R N i ≤ N := by
  have h1 := ch_bound (R := R) hM N i hi (rk_le M N i)
  have h2 := rk_le M N i
  omega
end Go.Proofs.Ytpclkocfbkjabaa
