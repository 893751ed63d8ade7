/-
  Determinants and products of matrices in remainders; how great the matrix of a word of 15 letters is. No walk stands in this text.
-/
import Derived.Test.YtebpeomonglkbaaDoorW41
namespace Go.Proofs.YtebpeomonglkbaaDoor
open Go.RowKit Go.Sort Cam
set_option linter.unusedVariables false
set_option linter.unusedSimpArgs false

theorem rows_le : ∀ (l : List UInt8) (m : M4) (X Y : Int), m.a ≤ X → 2 * m.b ≤ X → m.c ≤ Y → 2 * m.d ≤ Y → 0 ≤ X → 0 ≤ Y → (l.foldl M4.step m).a ≤ X * 6 ^ l.length ∧ 2 * (l.foldl M4.step m).b ≤ X * 6 ^ l.length ∧ (l.foldl M4.step m).c ≤ Y * 6 ^ l.length ∧ 2 * (l.foldl M4.step m).d ≤ Y * 6 ^ l.length
  | [], m, X, Y, h1, h2, h3, h4, hX, hY => by simpa using ⟨h1, h2, h3, h4⟩
  | c :: l, m, X, Y, h1, h2, h3, h4, hX, hY => by
    have e : ∀ Z : Int, Z * 6 ^ (c :: l).length = (6 * Z) * 6 ^ l.length := by
      intro Z; rw [List.length_cons, Int.pow_succ]; grind
    rw [List.foldl_cons, e, e]
    refine rows_le l (m.step c) (6 * X) (6 * Y) ?_ ?_ ?_ ?_ (by omega) (by omega) <;> (unfold M4.step; split <;> simp only <;> omega)
theorem pow6_le (n : Nat) (h : n ≤ 15) : (6 : Int) ^ n ≤ 470184984576 := by
  have h1 : (6 : Nat) ^ n ≤ 6 ^ 15 := Nat.pow_le_pow_right (by omega) h
  have h2 : ((6 ^ n : Nat) : Int) = (6 : Int) ^ n := by simp
  have h3 : (6 : Nat) ^ 15 = 470184984576 := by decide
  omega
theorem matG_le (l : List UInt8) (h : l.length ≤ 15) : (matG l).a ≤ 940369969152 ∧ (matG l).b ≤ 940369969152 ∧ (matG l).c ≤ 940369969152 ∧ (matG l).d ≤ 940369969152 := by
  obtain ⟨h1, h2, h3, h4⟩ := rows_le l M4.one 1 2 (by simp [M4.one]) (by simp [M4.one]) (by simp [M4.one]) (by simp [M4.one]) (by omega) (by omega)
  have h5 := pow6_le l.length h
  have h6 : (0 : Int) ≤ 6 ^ l.length := Int.le_of_lt (Int.pow_pos (by omega))
  change (matG l).a ≤ _ at h1
  change 2 * (matG l).b ≤ _ at h2
  change (matG l).c ≤ _ at h3
  change 2 * (matG l).d ≤ _ at h4
  generalize (6 : Int) ^ l.length = k at *
  omega
theorem mod_range {x p : Int} (hp : 1 < p) : 0 ≤ x % p ∧ x % p < p := ⟨Int.emod_nonneg _ (by omega), Int.emod_lt_of_pos _ (by omega)⟩
theorem mod_prod {x y p : Int} : (x % p * (y % p)) % p = (x * y) % p := by rw [← Int.mul_emod]
/-- The determinant in remainders. -/
theorem det_mod {a b c d p : Int} (hp : 1 < p) (h : a * d - b * c = 1) : (a % p * (d % p) - b % p * (c % p)).tmod p = 1 ∨ (a % p * (d % p) - b % p * (c % p)).tmod p = 1 - p := by
  have e : (a % p * (d % p) - b % p * (c % p)) % p = 1 := by
    rw [Int.sub_emod, mod_prod, mod_prod, ← Int.sub_emod, h]
    exact Int.emod_eq_of_lt (by omega) hp
  generalize a % p * (d % p) - b % p * (c % p) = X at *
  rcases Int.le_total 0 X with h0 | h0
  · left; rw [Int.tmod_eq_emod_of_nonneg h0]; exact e
  · rcases Int.lt_or_le X 0 with h0 | h1
    · right
      have := Int.tmod_eq_emod (a := X) (b := p)
      rw [this, if_neg, e]
      · omega
      · rintro (h | h)
        · omega
        · have := Int.emod_eq_zero_of_dvd h
          omega
    · have : X = 0 := by omega
      subst this
      simp at e
theorem prod_mod {x u y v p : Int} : (x % p * (u % p) % p + y % p * (v % p) % p) % p = (x * u + y * v) % p := by
  rw [mod_prod, mod_prod, ← Int.add_emod]
end Go.Proofs.YtebpeomonglkbaaDoor
