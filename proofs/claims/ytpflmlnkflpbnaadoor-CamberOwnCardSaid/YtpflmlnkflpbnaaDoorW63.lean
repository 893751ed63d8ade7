/-
  The solutions with another factor. No walk stands in this text.
-/
import Derived.Test.YtpflmlnkflpbnaaDoorW61
namespace Go.Proofs.YtpflmlnkflpbnaaDoor
open Go.RowKit Go.Sort Cam
set_option linter.unusedVariables false
set_option linter.unusedSimpArgs false

def TriK (k x y z : Int) : Prop := 1 ≤ x ∧ x ≤ y ∧ y ≤ z ∧ x * x + y * y + z * z = k * x * y * z
theorem triK3 {x y z : Int} : TriK 3 x y z ↔ Tri x y z := Iff.rfl
/-- For an even factor there is none: all three are even, without end. -/
theorem triK_even : ∀ (n : Nat) {m x y z : Int}, z.toNat ≤ n → ¬ TriK (2 * m) x y z
  | 0, m, x, y, z, hn, h => by have := h.1; have := h.2.1; have := h.2.2.1; omega
  | n + 1, m, x, y, z, hn, h => by
    obtain ⟨h1, h2, h3, h4⟩ := h
    obtain ⟨a, hx⟩ : ∃ a, x = 2 * a ∨ x = 2 * a + 1 := ⟨x / 2, by omega⟩
    obtain ⟨b, hy⟩ : ∃ b, y = 2 * b ∨ y = 2 * b + 1 := ⟨y / 2, by omega⟩
    obtain ⟨c, hz⟩ : ∃ c, z = 2 * c ∨ z = 2 * c + 1 := ⟨z / 2, by omega⟩
    have se : ∀ a : Int, 2 * a * (2 * a) = 4 * (a * a) := fun a => by grind
    have so : ∀ a : Int, (2 * a + 1) * (2 * a + 1) = 4 * (a * a + a) + 1 := fun a => by grind
    have r2 : 2 * m * x * y * z = 2 * (m * x * y * z) := by grind
    rcases hx with hx | hx <;> rcases hy with hy | hy <;> rcases hz with hz | hz
    · refine triK_even n (m := 2 * m) (x := a) (y := b) (z := c) (by omega) ⟨by omega, by omega, by omega, ?_⟩
      subst hx hy hz
      have e : 2 * m * (2 * a) * (2 * b) * (2 * c) = 4 * (2 * (2 * m) * a * b * c) := by grind
      rw [se, se, se, e] at h4
      omega
    · subst hx hy hz; rw [r2, se, se, so] at h4; omega
    · subst hx hy hz; rw [r2, se, se, so] at h4; omega
    · have e : 2 * m * x * y * z = 4 * (m * a * y * z) := by rw [hx]; grind
      rw [e] at h4; subst hy hz
      rw [so, so] at h4; subst hx; rw [se] at h4; omega
    · subst hx hy hz; rw [r2, se, se, so] at h4; omega
    · have e : 2 * m * x * y * z = 4 * (m * x * b * z) := by rw [hy]; grind
      rw [e] at h4; subst hx hz
      rw [so, so] at h4; subst hy; rw [se] at h4; omega
    · have e : 2 * m * x * y * z = 4 * (m * x * y * c) := by rw [hz]; grind
      rw [e] at h4; subst hx hy
      rw [so, so] at h4; subst hz; rw [se] at h4; omega
    · subst hx hy hz; rw [r2, so, so, so] at h4; omega
/-- For a factor above 3 there is none: each has a smaller one. -/
theorem triK_great : ∀ (n : Nat) {k x y z : Int}, z.toNat ≤ n → 4 ≤ k → ¬ TriK k x y z
  | 0, k, x, y, z, hn, hk, h => by have := h.1; have := h.2.1; have := h.2.2.1; omega
  | n + 1, k, x, y, z, hn, hk, h => by
    obtain ⟨h1, h2, h3, h4⟩ := h
    have hkx : 4 ≤ k * x := by
      have := Int.mul_le_mul hk h1 (by omega) (by omega)
      omega
    have xx : x * x ≤ y * y := Int.mul_le_mul h2 h2 (by omega) (by omega)
    have yp : 1 ≤ y * y := by have := Int.mul_le_mul (show 1 ≤ y by omega) (show 1 ≤ y by omega) (by omega) (by omega); omega
    have xp : 1 ≤ x * x := by have := Int.mul_le_mul h1 h1 (by omega) (by omega); omega
    have hky : 4 * (y * y) ≤ k * x * (y * y) := Int.mul_le_mul_of_nonneg_right hkx (by omega)
    have hyz : y < z := by
      rcases Int.lt_or_le y z with h | h
      · exact h
      · have e : z = y := by omega
        subst e
        have e2 : k * x * z * z = k * x * (z * z) := by grind
        omega
    obtain ⟨w, hw⟩ : ∃ w, w = k * x * y - z := ⟨_, rfl⟩
    have hzw : z * w = x * x + y * y := by
      have : z * w = k * x * y * z - z * z := by rw [hw]; grind
      omega
    have hw1 : 1 ≤ w := by
      rcases Int.lt_or_le 0 w with h | h
      · omega
      · have := Int.mul_nonneg (show 0 ≤ z by omega) (show 0 ≤ -w by omega)
        have e : z * -w = -(z * w) := by grind
        omega
    have hwy : w ≤ y := by
      rcases Int.lt_or_le y w with h | h
      · have p := Int.mul_pos (show 0 < z - y by omega) (show 0 < w - y by omega)
        have e : (z - y) * (w - y) = z * w - y * (z + w) + y * y := by grind
        have e2 : y * (z + w) = k * x * (y * y) := by
          have : z + w = k * x * y := by omega
          rw [this]; grind
        omega
      · exact h
    have sol : x * x + w * w + y * y = k * x * w * y := by
      have e : k * x * w * y = w * (w + z) := by
        have : w + z = k * x * y := by omega
        rw [this]; grind
      have e2 : w * (w + z) = w * w + z * w := by grind
      omega
    rcases Int.le_total x w with hxw | hxw
    · exact triK_great n (by omega) hk ⟨h1, hxw, hwy, sol⟩
    · exact triK_great n (k := k) (x := w) (y := x) (z := y) (by omega) hk ⟨hw1, hxw, h2, by rw [show k * w * x * y = k * x * w * y by grind]; omega⟩
/-- For the factor 1 all three can be divided by 3. -/
theorem triK_one {x y z : Int} (h : TriK 1 x y z) : ∃ a b c, x = 3 * a ∧ y = 3 * b ∧ z = 3 * c ∧ Tri a b c := by
  obtain ⟨h1, h2, h3, h4⟩ := h
  have e : 1 * x * y * z = x * y * z := by grind
  rw [e] at h4
  have s0 : ∀ a : Int, 3 * a * (3 * a) = 3 * (3 * (a * a)) := fun a => by grind
  have s1 : ∀ a : Int, (3 * a + 1) * (3 * a + 1) = 3 * (3 * (a * a) + 2 * a) + 1 := fun a => by grind
  have s2 : ∀ a : Int, (3 * a + 2) * (3 * a + 2) = 3 * (3 * (a * a) + 4 * a + 1) + 1 := fun a => by grind
  have cl : ∀ x : Int, ∃ a q, (x = 3 * a ∧ x * x = 3 * q) ∨ ((x = 3 * a + 1 ∨ x = 3 * a + 2) ∧ x * x = 3 * q + 1) := by
    intro x
    have : x = 3 * (x / 3) ∨ x = 3 * (x / 3) + 1 ∨ x = 3 * (x / 3) + 2 := by omega
    generalize x / 3 = a at this
    rcases this with rfl | rfl | rfl
    · exact ⟨a, _, .inl ⟨rfl, s0 a⟩⟩
    · exact ⟨a, _, .inr ⟨.inl rfl, s1 a⟩⟩
    · exact ⟨a, _, .inr ⟨.inr rfl, s2 a⟩⟩
  obtain ⟨a, qa, ha⟩ := cl x
  obtain ⟨b, qb, hb⟩ := cl y
  obtain ⟨c, qc, hc⟩ := cl z
  have m1 : ∀ u v w : Int, 3 * u * v * w = 3 * (u * v * w) := fun u v w => by grind
  have m2 : ∀ u v w : Int, u * (3 * v) * w = 3 * (u * v * w) := fun u v w => by grind
  have m3 : ∀ u v w : Int, u * v * (3 * w) = 3 * (u * v * w) := fun u v w => by grind
  rcases ha with ⟨ha, qa⟩ | ⟨ha, qa⟩ <;> rcases hb with ⟨hb, qb⟩ | ⟨hb, qb⟩ <;> rcases hc with ⟨hc, qc⟩ | ⟨hc, qc⟩ <;> rw [qa, qb, qc] at h4
  · refine ⟨a, b, c, ha, hb, hc, by omega, by omega, by omega, ?_⟩
    subst ha hb hc
    have t : 3 * a * (3 * b) * (3 * c) = 9 * (3 * a * b * c) := by grind
    rw [s0] at qa qb qc
    omega
  · rw [ha, m1] at h4; omega
  · rw [ha, m1] at h4; omega
  · rw [ha, m1] at h4; omega
  · rw [hb, m2] at h4; omega
  · rw [hb, m2] at h4; omega
  · rw [hc, m3] at h4; omega
  · exfalso
    have hne : ∀ x a : Int, (x = 3 * a + 1 ∨ x = 3 * a + 2) → ∃ p s, x = 3 * p + s ∧ (s = 1 ∨ s = -1) := fun x a h => by
      rcases h with h | h
      · exact ⟨a, 1, h, .inl rfl⟩
      · exact ⟨a + 1, -1, by omega, .inr rfl⟩
    obtain ⟨p, s, hp, hs⟩ := hne x a ha
    obtain ⟨q, t, hq, ht⟩ := hne y b hb
    obtain ⟨r, u, hr, hu⟩ := hne z c hc
    have e : x * y * z = 3 * (3 * (3 * (p * q * r)) + 3 * (p * q * u) + 3 * (p * t * r) + p * t * u + 3 * (s * q * r) + s * q * u + s * t * r) + s * t * u := by rw [hp, hq, hr]; grind
    have hstu : s * t * u = 1 ∨ s * t * u = -1 := by
      rcases hs with rfl | rfl <;> rcases ht with rfl | rfl <;> rcases hu with rfl | rfl <;> simp
    omega
theorem triK_times {a b c : Int} (h : Tri a b c) : TriK 1 (3 * a) (3 * b) (3 * c) := by
  obtain ⟨h1, h2, h3, h4⟩ := h
  refine ⟨by omega, by omega, by omega, ?_⟩
  have t : 1 * (3 * a) * (3 * b) * (3 * c) = 9 * (3 * a * b * c) := by grind
  have s0 : ∀ a : Int, 3 * a * (3 * a) = 9 * (a * a) := fun a => by grind
  rw [t, s0, s0, s0]
  omega
def times3 (t : T3') : T3' := (3 * t.1, 3 * t.2.1, 3 * t.2.2)
/-- All solutions with the factor k up to a bound, in order. -/
def otherL (k most : Int) : List T3' := if k = 3 then upTo most else if k = 1 then (upTo (most / 3)).map times3 else []
theorem otherL_bef (k most : Int) : (otherL k most).Pairwise Bef := by
  unfold otherL
  split
  · exact upTo_bef most
  · split
    · rw [List.pairwise_map]
      refine (upTo_bef _).imp fun h => ?_
      unfold Bef times3 at *
      simp only
      omega
    · exact .nil
theorem mem_otherL {k most x y z : Int} (hk : 1 ≤ k) (hm : most ≤ 1000000000) : (x, y, z) ∈ otherL k most ↔ TriK k x y z ∧ z ≤ most := by
  unfold otherL
  by_cases h3 : k = 3
  · subst h3
    rw [if_pos rfl, mem_upTo, mem_TT, triK3]
    exact ⟨fun h => ⟨h.1.1, h.2⟩, fun h => ⟨⟨h.1, by have := h.2; omega⟩, h.2⟩⟩
  · rw [if_neg h3]
    by_cases h1 : k = 1
    · subst h1
      rw [if_pos rfl, List.mem_map]
      constructor
      · rintro ⟨⟨a, b, c⟩, hmem, e⟩
        rw [mem_upTo, mem_TT] at hmem
        simp only [times3, Prod.mk.injEq] at e
        obtain ⟨rfl, rfl, rfl⟩ := e
        exact ⟨triK_times hmem.1.1, by have := hmem.2; simp only at this; omega⟩
      · rintro ⟨h, hz⟩
        obtain ⟨a, b, c, rfl, rfl, rfl, ht⟩ := triK_one h
        refine ⟨(a, b, c), ?_, rfl⟩
        rw [mem_upTo, mem_TT]
        exact ⟨⟨ht, by omega⟩, by simp only; omega⟩
    · rw [if_neg h1]
      constructor
      · intro h; cases h
      · rintro ⟨h, _⟩
        exfalso
        by_cases h2 : k = 2
        · subst h2; exact triK_even _ (m := 1) (Nat.le_refl _) h
        · exact triK_great _ (Nat.le_refl _) (by omega) h
end Go.Proofs.YtpflmlnkflpbnaaDoor
