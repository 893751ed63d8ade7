/-
  Plain mathematics of the solutions of x x + y y + z z = 3 x y z: descent, divisors, the words. No program stands in this text.
-/
namespace Go.Proofs.YtpflmlnkflpbnaaDoor
namespace Cam

theorem ltge (a b : Int) : a < b ∨ b ≤ a := by omega

/-- A solution in ascending order, of whatever size. -/
def Tri (x y z : Int) : Prop := 1 ≤ x ∧ x ≤ y ∧ y ≤ z ∧ x * x + y * y + z * z = 3 * x * y * z

theorem Tri.dual {x y z : Int} (h : Tri x y z) : z * (3 * x * y - z) = x * x + y * y := by
  obtain ⟨_, _, _, h⟩ := h; grind

theorem mul_le_mul' {a b c d : Int} (h1 : a ≤ b) (h2 : c ≤ d) (ha : 0 ≤ c) (hb : 0 ≤ b) : a * c ≤ b * d :=
  Int.mul_le_mul h1 h2 ha hb

theorem sq_pos {x : Int} (h : 1 ≤ x) : 1 ≤ x * x := by
  have := Int.mul_le_mul h h (by omega) (by omega : (0:Int) ≤ x); omega

theorem Tri.dual_pos {x y z : Int} (h : Tri x y z) : 1 ≤ 3 * x * y - z := by
  have hd := h.dual
  obtain ⟨h1, h2, h3, _⟩ := h
  have a := sq_pos h1
  have b := sq_pos (show 1 ≤ y by omega)
  rcases ltge 0 (3 * x * y - z) with h | h
  · omega
  · have : z * (3 * x * y - z) ≤ 0 := Int.mul_nonpos_of_nonneg_of_nonpos (by omega) h
    omega

/-- (y - z) (y - z') is x x + 2 y y - 3 x y y, which is not positive. -/
theorem Tri.between {x y z : Int} (h : Tri x y z) : (z - y) * (3 * x * y - z - y) ≤ 0 := by
  obtain ⟨h1, h2, h3, h⟩ := h
  have e : (z - y) * (3 * x * y - z - y) = x * x + 2 * (y * y) - 3 * x * (y * y) := by grind
  have a : x * x ≤ y * y := Int.mul_le_mul h2 h2 (by omega) (by omega)
  have b : 1 * (y * y) ≤ x * (y * y) := Int.mul_le_mul_of_nonneg_right h1 (by have := sq_pos (show 1 ≤ y by omega); omega)
  have c : 3 * x * (y * y) = 3 * (x * (y * y)) := by grind
  omega

theorem Tri.same {x y : Int} (h : Tri x y y) : y = 1 := by
  obtain ⟨h1, h2, _, h⟩ := h
  have a : x * x ≤ y * y := Int.mul_le_mul h2 h2 (by omega) (by omega)
  have p := sq_pos (show 1 ≤ y by omega)
  have e : (3 * x - 2) * (y * y) = x * x := by grind
  have hx : x = 1 := by
    rcases ltge 1 x with hx | hx
    · have : 2 * (y * y) ≤ (3 * x - 2) * (y * y) := Int.mul_le_mul_of_nonneg_right (by omega) (by omega)
      omega
    · omega
  subst hx
  have e2 : y * y = 1 := by omega
  rcases ltge 1 y with hy | hy
  · have : 2 * y ≤ y * y := Int.mul_le_mul_of_nonneg_right (by omega) (by omega)
    omega
  · omega

theorem Tri.lt_of_two {x y z : Int} (h : Tri x y z) (hz : 2 ≤ z) : y < z := by
  rcases Int.lt_or_eq_of_le h.2.2.1 with h' | h'
  · exact h'
  · subst h'; have := h.same; omega

theorem Tri.dual_le {x y z : Int} (h : Tri x y z) (hz : 2 ≤ z) : 3 * x * y - z ≤ y := by
  have hl := h.lt_of_two hz
  have hb := h.between
  rcases ltge y (3 * x * y - z) with h' | h'
  · have : 0 < (z - y) * (3 * x * y - z - y) := Int.mul_pos (by omega) (by omega)
    omega
  · exact h'

/-- The three numbers behind an exchange of the greatest, in ascending order. -/
theorem Tri.parent {x y z : Int} (h : Tri x y z) (hz : 2 ≤ z) :
    Tri (min x (3 * x * y - z)) (max x (3 * x * y - z)) y ∧ y < z := by
  have hl := h.lt_of_two hz
  have hd := h.dual_le hz
  have hp := h.dual_pos
  obtain ⟨h1, h2, h3, he⟩ := h
  refine ⟨⟨by omega, by omega, by omega, ?_⟩, hl⟩
  have e : x * x + (3 * x * y - z) * (3 * x * y - z) + y * y = 3 * x * (3 * x * y - z) * y := by grind
  rcases Int.le_total x (3 * x * y - z) with hc | hc
  · rw [Int.min_eq_left hc, Int.max_eq_right hc]; exact e
  · rw [Int.min_eq_right hc, Int.max_eq_left hc]
    have : (3 * x * y - z) * (3 * x * y - z) + x * x + y * y = 3 * (3 * x * y - z) * x * y := by grind
    exact this

/-- Exchanging the smallest: y, z, 3 y z - x. -/
theorem Tri.left {x y z : Int} (h : Tri x y z) : Tri y z (3 * y * z - x) := by
  obtain ⟨h1, h2, h3, he⟩ := h
  have a : 1 * z ≤ y * z := Int.mul_le_mul_of_nonneg_right (by omega) (by omega)
  have c : 3 * y * z = 3 * (y * z) := by grind
  exact ⟨by omega, h3, by omega, by grind⟩

/-- Exchanging the middle one: x, z, 3 x z - y. -/
theorem Tri.right {x y z : Int} (h : Tri x y z) : Tri x z (3 * x * z - y) := by
  obtain ⟨h1, h2, h3, he⟩ := h
  have a : 1 * z ≤ x * z := Int.mul_le_mul_of_nonneg_right (by omega) (by omega)
  have c : 3 * x * z = 3 * (x * z) := by grind
  exact ⟨by omega, by omega, by omega, by grind⟩

theorem gcd_one {a b c : Int} (h : Int.gcd a b = 1) (hc : ∀ d : Int, d ∣ a → d ∣ c → d ∣ b) : Int.gcd a c = 1 := by
  have h1 : ((Int.gcd a c : Nat) : Int) ∣ ((Int.gcd a b : Nat) : Int) :=
    Int.dvd_coe_gcd (Int.gcd_dvd_left ..) (hc _ (Int.gcd_dvd_left ..) (Int.gcd_dvd_right ..))
  rw [h] at h1
  have h2 : Int.gcd a c ∣ 1 := by exact_mod_cast h1
  exact Nat.dvd_one.1 h2

/-- No two numbers of a solution have a common divisor. -/
theorem Tri.cop : ∀ (n : Nat) {x y z : Int}, Tri x y z → z.toNat ≤ n → Int.gcd x y = 1 ∧ Int.gcd x z = 1 ∧ Int.gcd y z = 1 := by
  intro n
  induction n with
  | zero => intro x y z h hn; have := h.1; have := h.2.1; have := h.2.2.1; omega
  | succ n ih =>
    intro x y z h hn
    by_cases hz : 2 ≤ z
    · obtain ⟨hp, hl⟩ := h.parent hz
      have hy := hp.1
      have hq := hp.2.1
      have hr := hp.2.2.1
      obtain ⟨i1, i2, i3⟩ := ih hp (by omega)
      have hx := h.1
      have e : ∀ d : Int, d ∣ z → d ∣ 3 * x * y → d ∣ 3 * x * y - z := fun d h1 h2 => Int.dvd_sub h2 h1
      have ex : ∀ d : Int, d ∣ x → d ∣ 3 * x * y := fun d h => by
        obtain ⟨k, rfl⟩ := h; exact ⟨3 * k * y, by grind⟩
      have ey : ∀ d : Int, d ∣ y → d ∣ 3 * x * y := fun d h => by
        obtain ⟨k, rfl⟩ := h; exact ⟨3 * x * k, by grind⟩
      have key : Int.gcd x (3 * x * y - z) = 1 ∧ Int.gcd x y = 1 ∧ Int.gcd (3 * x * y - z) y = 1 := by
        rcases Int.le_total x (3 * x * y - z) with hc | hc
        · simp only [Int.min_eq_left hc, Int.max_eq_right hc] at i1 i2 i3; exact ⟨i1, i2, i3⟩
        · simp only [Int.min_eq_right hc, Int.max_eq_left hc] at i1 i2 i3; exact ⟨by rw [Int.gcd_comm]; exact i1, i3, i2⟩
      refine ⟨key.2.1, gcd_one key.1 fun d h1 h2 => e d h2 (ex d h1), gcd_one (b := 3 * x * y - z) (by rw [Int.gcd_comm]; exact key.2.2) fun d h1 h2 => e d h2 (ey d h1)⟩
    · have h1 := h.1; have h2 := h.2.1; have h3 := h.2.2.1
      have : z = 1 := by omega
      have : y = 1 := by omega
      have : x = 1 := by omega
      subst x y z; exact ⟨rfl, rfl, rfl⟩

/-! The number whose product with x leaves 1 modulo z: Euclid's loop. -/
def Eg (x z a b u v : Int) : Prop :=
  1 ≤ a ∧ 0 ≤ b ∧ a ≤ 1000000000 ∧ b ≤ 1000000000 ∧ Int.gcd a b = 1 ∧ z ∣ u * x - a ∧ z ∣ v * x - b ∧ -z ≤ u ∧ u ≤ z ∧
    ((0 ≤ u ∧ v ≤ 0 ∧ u * b - v * a = z) ∨ (u ≤ 0 ∧ 0 ≤ v ∧ v * a - u * b = z))

theorem Eg.first {x z : Int} (h1 : 1 ≤ x) (h2 : 1 ≤ z) (h3 : x ≤ 1000000000) (h4 : z ≤ 1000000000) (hg : Int.gcd x z = 1) : Eg x z x z 1 0 :=
  ⟨h1, by omega, h3, h4, hg, ⟨0, by omega⟩, ⟨-1, by omega⟩, by omega, by omega, .inl ⟨by omega, by omega, by omega⟩⟩
theorem Eg.second {x z : Int} (h1 : 1 ≤ x) (h2 : 1 ≤ z) (h3 : x ≤ 1000000000) (h4 : z ≤ 1000000000) (hg : Int.gcd x z = 1) : Eg x z z x 0 1 :=
  ⟨h2, by omega, h4, h3, by rw [Int.gcd_comm]; exact hg, ⟨-1, by omega⟩, ⟨0, by omega⟩, by omega, by omega, .inr ⟨by omega, by omega, by omega⟩⟩

theorem Eg.step {x z a b u v : Int} (h : Eg x z a b u v) (hb : 1 ≤ b) (hz : 1 ≤ z) : Eg x z b (a - a / b * b) v (u - a / b * v) ∧ 0 ≤ a / b ∧ a / b ≤ 1000000000 ∧ 0 ≤ a / b * b ∧ a / b * b ≤ 1000000000 ∧ -z ≤ v ∧ v ≤ z ∧ -z ≤ a / b * v ∧ a / b * v ≤ z ∧ -z ≤ u - a / b * v ∧ u - a / b * v ≤ z ∧ a - a / b * b < b ∧ 0 ≤ a - a / b * b := by
  obtain ⟨ha, hb0, ha9, hb9, hg, hua, hvb, hu1, hu2, hs⟩ := h
  have hq0 : 0 ≤ a / b := Int.ediv_nonneg (by omega) (by omega)
  have hr : a - a / b * b = a % b := by have := Int.mul_ediv_add_emod a b; have e : b * (a / b) = a / b * b := Int.mul_comm _ _; omega
  have hr0 : 0 ≤ a % b := Int.emod_nonneg _ (by omega)
  have hrb : a % b < b := Int.emod_lt_of_pos _ (by omega)
  have hqa : a / b ≤ a := Int.ediv_le_self _ (by omega)
  have hqb : 0 ≤ a / b * b := Int.mul_nonneg hq0 hb0
  have hgr : Int.gcd b (a - a / b * b) = 1 := by
    have h1 : Int.gcd b a = 1 := by rw [Int.gcd_comm]; exact hg
    refine gcd_one h1 fun d h2 h3 => ?_
    have h4 : d ∣ a / b * b := Int.dvd_mul_of_dvd_right h2
    have := Int.dvd_add h3 h4
    have e : a - a / b * b + a / b * b = a := by omega
    rwa [e] at this
  have hdv : z ∣ (u - a / b * v) * x - (a - a / b * b) := by
    obtain ⟨k, hk⟩ := hua
    obtain ⟨l, hl⟩ := hvb
    exact ⟨k - a / b * l, by grind⟩
  rcases hs with ⟨s1, s2, s3⟩ | ⟨s1, s2, s3⟩
  · have m1 : 0 ≤ u * b := Int.mul_nonneg s1 hb0
    have m2 : (-v) * 1 ≤ (-v) * a := Int.mul_le_mul_of_nonneg_left ha (by omega)
    have e2 : (-v) * a = - (v * a) := by grind
    have q1 : 0 ≤ a / b * (-v) := Int.mul_nonneg hq0 (by omega)
    have q2 : a / b * (-v) = -(a / b * v) := by grind
    have n1 : (u - a / b * v) * 1 ≤ (u - a / b * v) * b := Int.mul_le_mul_of_nonneg_left hb (by omega)
    have n2 : 0 ≤ (-v) * (a - a / b * b) := Int.mul_nonneg (by omega) (by omega)
    have n3 : (u - a / b * v) * b - v * (a - a / b * b) = z := by grind
    have n4 : (-v) * (a - a / b * b) = - (v * (a - a / b * b)) := by grind
    refine ⟨⟨hb, by omega, hb9, by omega, hgr, hvb, hdv, by omega, by omega, .inr ⟨s2, by omega, n3⟩⟩, by omega, by omega, by omega, by omega, by omega, by omega, by omega, by omega, by omega, by omega, by omega, by omega⟩
  · have m1 : 0 ≤ (-u) * b := Int.mul_nonneg (by omega) hb0
    have m2 : v * 1 ≤ v * a := Int.mul_le_mul_of_nonneg_left ha (by omega)
    have e2 : (-u) * b = - (u * b) := by grind
    have q1 : 0 ≤ a / b * v := Int.mul_nonneg hq0 (by omega)
    have n1 : (-(u - a / b * v)) * 1 ≤ (-(u - a / b * v)) * b := Int.mul_le_mul_of_nonneg_left hb (by omega)
    have n2 : 0 ≤ v * (a - a / b * b) := Int.mul_nonneg (by omega) (by omega)
    have n3 : v * (a - a / b * b) - (u - a / b * v) * b = z := by grind
    have n4 : (-(u - a / b * v)) * b = - ((u - a / b * v) * b) := by grind
    refine ⟨⟨hb, by omega, hb9, by omega, hgr, hvb, hdv, by omega, by omega, .inl ⟨s2, by omega, n3⟩⟩, by omega, by omega, by omega, by omega, by omega, by omega, by omega, by omega, by omega, by omega, by omega, by omega⟩

/-- r times x leaves 1 modulo z. -/
def Inv (x z r : Int) : Prop := 0 ≤ r ∧ r < z ∧ z ∣ r * x - 1

theorem Eg.last {x z a u v : Int} (h : Eg x z a 0 u v) (hz : 1 ≤ z) : Inv x z (u.tmod z % z) ∧ -z < u.tmod z ∧ u.tmod z < z := by
  obtain ⟨ha, _, _, _, hg, hua, _, _, _, _⟩ := h
  have ha1 : a = 1 := by rw [Int.gcd_zero_right] at hg; omega
  subst ha1
  have e : u.tmod z % z = u % z := by rw [Int.emod_eq_emod_iff_emod_sub_eq_zero]; have := Int.mul_tdiv_add_tmod u z; exact Int.emod_eq_zero_of_dvd ⟨-(u.tdiv z), by grind⟩
  refine ⟨?_, Int.lt_tmod_of_pos _ (by omega), Int.tmod_lt_of_pos _ (by omega)⟩
  rw [e]
  refine ⟨Int.emod_nonneg _ (by omega), Int.emod_lt_of_pos _ (by omega), ?_⟩
  obtain ⟨k, hk⟩ := hua
  have := Int.mul_ediv_add_emod u z
  exact ⟨k - u / z * x, by grind⟩

theorem Inv.uniq {x z r s : Int} (h : Inv x z r) (k : Inv x z s) : r = s := by
  obtain ⟨h1, h2, h3⟩ := h
  obtain ⟨k1, k2, k3⟩ := k
  -- z divides r (s x - 1) - s (r x - 1) = s - r
  obtain ⟨a, ha⟩ := h3
  obtain ⟨b, hb⟩ := k3
  have e : s - r = z * (r * b - s * a) := by grind
  have hd : z ∣ s - r := ⟨_, e⟩
  rcases Int.lt_trichotomy r s with hlt | heq | hgt
  · have := Int.le_of_dvd (by omega) hd; omega
  · exact heq
  · have hd' : z ∣ r - s := by have := Int.dvd_neg.2 hd; rwa [show -(s - r) = r - s from by omega] at this
    have := Int.le_of_dvd (by omega) hd'; omega

noncomputable def inv (x z : Int) : Int := Classical.epsilon (Inv x z)
theorem Inv.eq {x z r : Int} (h : Inv x z r) : r = inv x z := h.uniq (Classical.epsilon_spec ⟨r, h⟩)
theorem Inv.self {x z r : Int} (h : Inv x z r) : Inv x z (inv x z) := Classical.epsilon_spec ⟨r, h⟩

theorem Eg.inv : ∀ (n : Nat) {x z a b u v : Int}, Eg x z a b u v → 1 ≤ z → b.toNat ≤ n → Inv x z (inv x z) := by
  intro n
  induction n with
  | zero =>
    intro x z a b u v h hz hn
    have hb : b = 0 := by have := h.2.1; omega
    subst hb
    exact (h.last hz).1.self
  | succ n ih =>
    intro x z a b u v h hz hn
    by_cases hb : 1 ≤ b
    · have hs := h.step hb hz
      exact ih hs.1 hz (by omega)
    · have hb : b = 0 := by have := h.2.1; omega
      subst hb
      exact (h.last hz).1.self

theorem inv_of {x z : Int} (h1 : 1 ≤ x) (h2 : 1 ≤ z) (h3 : x ≤ 1000000000) (h4 : z ≤ 1000000000) (hg : Int.gcd x z = 1) : Inv x z (inv x z) :=
  (Eg.first h1 h2 h3 h4 hg).inv _ h2 (Nat.le_refl _)

/-- y / x modulo z. -/
noncomputable def quot (x y z : Int) : Int := y % z * inv x z % z
/-- The root: the smaller one of y / x and - y / x modulo z. -/
noncomputable def root (x y z : Int) : Int := min (quot x y z) (z - quot x y z)

theorem Tri.inv {x y z : Int} (h : Tri x y z) (h4 : z ≤ 1000000000) : Inv x z (inv x z) := by
  obtain ⟨h1, h2, h3, _⟩ := id h
  exact inv_of h1 (by omega) (by omega) h4 (h.cop _ (Nat.le_refl _)).2.1

theorem Tri.quot_x {x y z : Int} (h : Tri x y z) (h4 : z ≤ 1000000000) : z ∣ quot x y z * x - y := by
  obtain ⟨_, _, ⟨k, hk⟩⟩ := h.inv h4
  have e1 := Int.mul_ediv_add_emod (y % z * Cam.inv x z) z
  have e2 := Int.mul_ediv_add_emod y z
  unfold quot
  generalize y % z * Cam.inv x z % z = m at *
  generalize y % z * Cam.inv x z / z = q at *
  generalize hi : Cam.inv x z = i at *
  refine ⟨k * (y % z) - q * x - y / z, ?_⟩
  have e3 : z * q = y % z * i - m := by omega
  grind

theorem Tri.quot_range {x y z : Int} (h : Tri x y z) (hz : 2 ≤ z) (h4 : z ≤ 1000000000) : 1 ≤ quot x y z ∧ quot x y z < z := by
  have h0 : 0 ≤ quot x y z := Int.emod_nonneg _ (by omega)
  have h1 : quot x y z < z := Int.emod_lt_of_pos _ (by omega)
  refine ⟨?_, h1⟩
  rcases Int.lt_or_eq_of_le h0 with hlt | heq
  · omega
  · have hd := h.quot_x h4
    rw [← heq] at hd
    have hd' : z ∣ y := by
      have := Int.dvd_neg.2 hd
      rwa [show -(0 * x - y) = y from by omega] at this
    have hg := (h.cop _ (Nat.le_refl _)).2.2
    have := (Int.gcd_eq_right_iff_dvd (show 0 ≤ z by omega)).2 hd'
    omega

theorem Tri.root_neg {x y z : Int} (h : Tri x y z) (hz : 2 ≤ z) (h4 : z ≤ 1000000000) : (-(quot x y z)) % z = z - quot x y z := by
  obtain ⟨h0, h1⟩ := h.quot_range hz h4
  have e : -(quot x y z) = (z - quot x y z) + z * (-1) := by omega
  rw [e, Int.add_mul_emod_self_left, Int.emod_eq_of_lt (by omega) (by omega)]

theorem Tri.root_range {x y z : Int} (h : Tri x y z) (hz : 2 ≤ z) (h4 : z ≤ 1000000000) : 1 ≤ root x y z ∧ 2 * root x y z ≤ z := by
  obtain ⟨h0, h1⟩ := h.quot_range hz h4
  unfold root; omega

theorem Tri.root_x {x y z : Int} (h : Tri x y z) (h4 : z ≤ 1000000000) : z ∣ root x y z * x - y ∨ z ∣ root x y z * x + y := by
  have hd := h.quot_x h4
  rcases Int.le_total (quot x y z) (z - quot x y z) with hc | hc
  · left; unfold root; rw [Int.min_eq_left hc]; exact hd
  · right; unfold root; rw [Int.min_eq_right hc]
    obtain ⟨k, hk⟩ := hd
    exact ⟨x - k, by grind⟩

/-- z divides u u + 1. -/
theorem Tri.root_sq {x y z : Int} (h : Tri x y z) (h4 : z ≤ 1000000000) : z ∣ root x y z * root x y z + 1 := by
  obtain ⟨_, _, ⟨i, hi⟩⟩ := h.inv h4
  have hx : z ∣ (root x y z * root x y z + 1) * (x * x) := by
    have e : x * x + y * y = z * (3 * x * y - z) := h.dual.symm
    rcases h.root_x h4 with ⟨k, hk⟩ | ⟨k, hk⟩
    · exact ⟨k * (root x y z * x + y) + (3 * x * y - z), by grind⟩
    · exact ⟨k * (root x y z * x - y) + (3 * x * y - z), by grind⟩
  obtain ⟨k, hk⟩ := hx
  generalize Cam.inv x z = r at *
  generalize root x y z = u at *
  -- (u u + 1) (x r) (x r) = z k r r and x r = 1 + z i
  have e1 : r * x = 1 + z * i := by omega
  have e2 : (u * u + 1) * ((r * x) * (r * x)) = z * (k * (r * r)) := by grind
  rw [e1] at e2
  exact ⟨k * (r * r) - (u * u + 1) * (2 * i + z * i * i), by grind⟩

/-! Paths. -/
theorem small_tri (x y p : Int) (hx : 1 ≤ x ∧ x ≤ 4) (hy : 1 ≤ y ∧ y ≤ 4) (hp : 1 ≤ p ∧ p ≤ 4) (h : (3 * x * y - p) * p = x * x + y * y) (hxy : x ≤ y) (h3 : 3 ≤ 3 * x * y - p) (hpy : p ≤ y) : x = 1 ∧ y = 2 ∧ 3 * x * y - p = 5 := by
  have hx' : x = 1 ∨ x = 2 ∨ x = 3 ∨ x = 4 := by omega
  have hy' : y = 1 ∨ y = 2 ∨ y = 3 ∨ y = 4 := by omega
  have hp' : p = 1 ∨ p = 2 ∨ p = 3 ∨ p = 4 := by omega
  rcases hx' with rfl | rfl | rfl | rfl <;> rcases hy' with rfl | rfl | rfl | rfl <;> rcases hp' with rfl | rfl | rfl | rfl <;> omega

theorem Tri.small {x y z : Int} (h : Tri x y z) (h3 : 3 ≤ z) (hy : y ≤ 4) : x = 1 ∧ y = 2 ∧ z = 5 := by
  have hd := h.dual
  have hp := h.dual_pos
  have hl := h.dual_le (by omega)
  obtain ⟨h1, h2, _, _⟩ := h
  have := small_tri x y (3 * x * y - z) (by omega) (by omega) (by omega) (by rw [show 3 * x * y - (3 * x * y - z) = z from by omega]; exact hd) h2 (by omega) hl
  omega

/-- The letter that leads to a solution from its parent. -/
def letterOf (x y z : Int) : UInt8 := if 3 * x * y - z ≤ x then 76 else 82

/-- The path, with as many steps as the first number allows. -/
def pathF : Nat → Int → Int → Int → List UInt8
  | 0, _, _, _ => []
  | n + 1, x, y, z => if z ≤ 5 then [] else pathF n (min x (3 * x * y - z)) (max x (3 * x * y - z)) y ++ [letterOf x y z]
def pathOf (x y z : Int) : List UInt8 := pathF z.toNat x y z

theorem pathF_more : ∀ (n m : Nat) {x y z : Int}, Tri x y z → z.toNat ≤ n → z.toNat ≤ m → pathF n x y z = pathF m x y z := by
  intro n
  induction n with
  | zero => intro m x y z h hn; have := h.1; have := h.2.1; have := h.2.2.1; omega
  | succ n ih =>
    intro m x y z h hn hm
    cases m with
    | zero => have := h.1; have := h.2.1; have := h.2.2.1; omega
    | succ m =>
      simp only [pathF]
      by_cases hz : z ≤ 5
      · rw [if_pos hz, if_pos hz]
      · rw [if_neg hz, if_neg hz]
        obtain ⟨hp, hl⟩ := h.parent (by omega)
        rw [ih m hp (by omega) (by omega)]
theorem Tri.path_step {x y z : Int} (h : Tri x y z) (hz : 5 < z) : pathOf x y z = pathOf (min x (3 * x * y - z)) (max x (3 * x * y - z)) y ++ [letterOf x y z] := by
  obtain ⟨hp, hl⟩ := h.parent (by omega)
  obtain ⟨n, hn⟩ : ∃ n, z.toNat = n + 1 := ⟨z.toNat - 1, by omega⟩
  unfold pathOf
  rw [hn]
  simp only [pathF]
  rw [if_neg (by omega), pathF_more n y.toNat hp (by omega) (by omega)]
theorem path_first {x y z : Int} (hz : z ≤ 5) : pathOf x y z = [] := by
  unfold pathOf
  cases z.toNat with
  | zero => rfl
  | succ n => simp only [pathF]; rw [if_pos hz]

/-- The left child of the parent is the solution just where the letter says so. -/
theorem letter_says (x y z : Int) :
    (3 * x * y - z ≤ x → max x (3 * x * y - z) = x ∧ 3 * max x (3 * x * y - z) * y - min x (3 * x * y - z) = z) ∧ (¬ 3 * x * y - z ≤ x → ¬ (max x (3 * x * y - z) = x ∧ y = y ∧ 3 * max x (3 * x * y - z) * y - min x (3 * x * y - z) = z)) := by
  refine ⟨fun hc => ?_, fun hc hq => by omega⟩
  rw [Int.max_eq_left hc, Int.min_eq_right hc]
  omega

end Cam
end Go.Proofs.YtpflmlnkflpbnaaDoor
