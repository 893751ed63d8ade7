/-
  The reference's Other: what its three loops have found. No walk stands in this text.
-/
import Derived.Test.YtpflmlnkflpbnaaDoorW63
namespace Go.Proofs.YtpflmlnkflpbnaaDoor
open Go.RowKit Go.Sort Cam
set_option linter.unusedVariables false
set_option linter.unusedSimpArgs false

theorem triK_pos {k x y z : Int} (h : TriK k x y z) : 1 ≤ x ∧ 1 ≤ y ∧ 1 ≤ z := by
  obtain ⟨h1, h2, h3, _⟩ := h
  omega
/-- The greatest number is from k x y - 2 y to k x y - 1. -/
theorem triK_low {k x y z : Int} (h : TriK k x y z) : k * x * y - 2 * y ≤ z ∧ z < k * x * y := by
  obtain ⟨p1, p2, p3⟩ := triK_pos h
  obtain ⟨h1, h2, h3, h4⟩ := h
  obtain ⟨w, hw⟩ : ∃ w, w = k * x * y - z := ⟨_, rfl⟩
  have hzw : z * w = x * x + y * y := by
    have : z * w = k * x * y * z - z * z := by rw [hw]; grind
    omega
  have xx : x * x ≤ y * y := Int.mul_le_mul h2 h2 (by omega) (by omega)
  have xp : 1 ≤ x * x := by have := Int.mul_le_mul h1 h1 (by omega) (by omega); omega
  have yp : 1 ≤ y * y := by have := Int.mul_le_mul p2 p2 (by omega) (by omega); omega
  have w0 : 0 < w := by
    rcases Int.lt_or_le 0 w with h | h
    · exact h
    · have := Int.mul_nonneg (show 0 ≤ z by omega) (show 0 ≤ -w by omega)
      have e : z * -w = -(z * w) := by grind
      omega
  have w1 : w ≤ 2 * y := by
    rcases Int.lt_or_le (2 * y) w with h | h
    · have := Int.mul_le_mul h3 (show 2 * y + 1 ≤ w by omega) (by omega) (by omega)
      have e : y * (2 * y + 1) = 2 * (y * y) + y := by grind
      omega
    · exact h
  omega
theorem triK_eq {k x y z : Int} (hx : 1 ≤ x) (hxy : x ≤ y) (hyz : y ≤ z) : TriK k x y z ↔ x * x + y * y = z * (k * x * y - z) := by
  have e : z * (k * x * y - z) = k * x * y * z - z * z := by grind
  constructor
  · rintro ⟨_, _, _, h⟩; omega
  · intro h; exact ⟨hx, hxy, hyz, by omega⟩

structure InvR (k most x y z : Int) (ts : List T3') : Prop where
  sorted : ts.Pairwise Bef
  mem : ∀ t, t ∈ ts ↔ (TriK k t.1 t.2.1 t.2.2 ∧ t.2.2 ≤ most ∧ (t.1 < x ∨ (t.1 = x ∧ (t.2.1 < y ∨ (t.2.1 = y ∧ t.2.2 < z)))))
theorem InvR.move {k most x y z x' y' z' : Int} {ts : List T3'} (h : InvR k most x y z ts)
    (e : ∀ a b c, TriK k a b c → c ≤ most → ((a < x ∨ (a = x ∧ (b < y ∨ (b = y ∧ c < z)))) ↔ (a < x' ∨ (a = x' ∧ (b < y' ∨ (b = y' ∧ c < z')))))) : InvR k most x' y' z' ts := by
  refine ⟨h.sorted, fun t => ?_⟩
  rw [h.mem]
  constructor
  · rintro ⟨h1, h2, h3⟩; exact ⟨h1, h2, (e _ _ _ h1 h2).1 h3⟩
  · rintro ⟨h1, h2, h3⟩; exact ⟨h1, h2, (e _ _ _ h1 h2).2 h3⟩
theorem InvR.start (k most : Int) : InvR k most 1 1 0 [] := by
  refine ⟨.nil, fun t => ⟨fun h => absurd h List.not_mem_nil, ?_⟩⟩
  rintro ⟨h1, _, h⟩
  obtain ⟨p1, p2, p3⟩ := triK_pos h1
  omega
theorem InvR.push {k most x y z : Int} {ts : List T3'} (h : InvR k most x y z ts) (hT : TriK k x y z) (hz : z ≤ most) : InvR k most x y (z + 1) (insT ts (x, y, z)) := by
  refine ⟨insT_bef _ _ h.sorted, fun t => ?_⟩
  obtain ⟨a, b, c⟩ := t
  rw [mem_insT, h.mem]
  simp only [Prod.mk.injEq]
  constructor
  · rintro (⟨h1, h2, h3⟩ | ⟨rfl, rfl, rfl⟩)
    · exact ⟨h1, h2, by omega⟩
    · exact ⟨hT, hz, by omega⟩
  · rintro ⟨h1, h2, h3⟩
    by_cases e : a = x ∧ b = y ∧ c = z
    · exact .inr e
    · exact .inl ⟨h1, h2, by omega⟩
theorem InvR.pass {k most x y z : Int} {ts : List T3'} (h : InvR k most x y z ts) (hT : ¬ TriK k x y z) : InvR k most x y (z + 1) ts := by
  refine h.move fun a b c h1 h2 => ⟨fun h3 => by omega, fun h3 => ?_⟩
  by_cases e : a = x ∧ b = y ∧ c = z
  · obtain ⟨rfl, rfl, rfl⟩ := e
    exact absurd h1 hT
  · omega
/-- The first z that is looked at. -/
theorem InvR.low {k most x y : Int} {ts : List T3'} (h : InvR k most x y 0 ts) : InvR k most x y (max y (k * x * y - 2 * y)) ts := by
  refine h.move fun a b c h1 h2 => ?_
  obtain ⟨p1, p2, p3⟩ := triK_pos h1
  have hl := (triK_low h1).1
  have hy := h1.2.2.1
  constructor
  · intro h3; omega
  · rintro (h3 | ⟨rfl, h3 | ⟨rfl, h3⟩⟩)
    · omega
    · omega
    · omega
/-- No further z. -/
theorem InvR.zend {k most x y z : Int} {ts : List T3'} (h : InvR k most x y z ts) (hz : ¬ (z ≤ most ∧ z < k * x * y)) : InvR k most x (y + 1) 0 ts := by
  refine h.move fun a b c h1 h2 => ?_
  obtain ⟨p1, p2, p3⟩ := triK_pos h1
  have hl := (triK_low h1).2
  constructor
  · intro h3; omega
  · rintro (h3 | ⟨rfl, h3 | ⟨rfl, h3⟩⟩)
    · omega
    · rcases Int.lt_or_eq_of_le (show b ≤ y by omega) with h4 | h4
      · omega
      · subst h4
        refine .inr ⟨rfl, .inr ⟨rfl, ?_⟩⟩
        omega
    · omega
/-- No further y: all its z would be too great. -/
theorem InvR.yend {k most x y : Int} {ts : List T3'} (h : InvR k most x y 0 ts) (hx : 1 ≤ x) (hy : 1 ≤ y) (hm : 1 ≤ most) (he : most < k * x * y - 2 * y) : InvR k most (x + 1) (x + 1) 0 ts := by
  refine h.move fun a b c h1 h2 => ?_
  obtain ⟨p1, p2, p3⟩ := triK_pos h1
  have hl := (triK_low h1).1
  have hab := h1.2.1
  constructor
  · intro h3; omega
  · intro h3
    rcases Int.lt_or_eq_of_le (show a ≤ x by omega) with h4 | h4
    · exact .inl h4
    · subst h4
      refine .inr ⟨rfl, ?_⟩
      rcases Int.lt_or_le b y with h5 | h5
      · exact .inl h5
      · exfalso
        have e1 : k * a * y - 2 * y = y * (k * a - 2) := by grind
        have e2 : k * a * b - 2 * b = b * (k * a - 2) := by grind
        have hpos : 0 ≤ k * a - 2 := by
          rcases Int.lt_or_le (k * a - 2) 0 with h6 | h6
          · have := Int.mul_nonneg (show 0 ≤ y by omega) (show 0 ≤ -(k * a - 2) by omega)
            have e3 : y * -(k * a - 2) = -(y * (k * a - 2)) := by grind
            omega
          · exact h6
        have := Int.mul_le_mul_of_nonneg_right h5 hpos
        omega
theorem InvR.ylast {k most x y : Int} {ts : List T3'} (h : InvR k most x y 0 ts) (he : most < y) : InvR k most (x + 1) (x + 1) 0 ts := by
  refine h.move fun a b c h1 h2 => ?_
  obtain ⟨p1, p2, p3⟩ := triK_pos h1
  have h4 := h1.2.1
  have h5 := h1.2.2.1
  omega
/-- The first y of an x. -/
theorem InvR.last {k most x : Int} {ts : List T3'} (h : InvR k most x x 0 ts) (hk : 1 ≤ k) (hm : most ≤ 1000000000) (he : most < x) : ts = otherL k most := by
  refine order_one _ _ h.sorted (otherL_bef k most) fun t => ?_
  obtain ⟨a, b, c⟩ := t
  rw [h.mem, mem_otherL hk hm]
  simp only
  constructor
  · rintro ⟨h1, h2, _⟩; exact ⟨h1, h2⟩
  · rintro ⟨h1, h2⟩
    have h4 := h1.2.1
    have h5 := h1.2.2.1
    exact ⟨h1, h2, by omega⟩
theorem otherL_few (k most : Int) : (otherL k most).length ≤ 88 := by
  have h : ∀ m, (upTo m).length ≤ 88 := fun m => Nat.le_trans (List.length_filter_le _ _) (by decide +kernel)
  unfold otherL
  split
  · exact h _
  · split
    · rw [List.length_map]; exact h _
    · exact Nat.zero_le _
theorem InvR.few {k most x y z : Int} {ts : List T3'} (h : InvR k most x y z ts) (hk : 1 ≤ k) (hm : most ≤ 1000000000) : ts.length ≤ 88 := by
  have hn : ts.Nodup := h.sorted.imp fun {a b} hb e => by subst e; exact bef_asymm hb hb
  refine Nat.le_trans (List.Nodup.length_le_of_subset hn fun t ht => ?_) (otherL_few k most)
  obtain ⟨a, b, c⟩ := t
  obtain ⟨h1, h2, _⟩ := (h.mem _).1 ht
  exact (mem_otherL hk hm).2 ⟨h1, h2⟩
theorem othR_range {k most x y : Int} (hk : 1 ≤ k ∧ k ≤ 5) (hm : 1 ≤ most ∧ most ≤ 1000) (hx : 1 ≤ x) (hxy : x ≤ y) (hy : y ≤ most) :
    (1 ≤ k * x ∧ k * x ≤ 5000) ∧ (1 ≤ k * x * y ∧ k * x * y ≤ 5000000) ∧ (1 ≤ x * x ∧ x * x ≤ 1000000) ∧ (1 ≤ y * y ∧ y * y ≤ 1000000) := by
  have lo : ∀ {a b : Int}, 1 ≤ a → 1 ≤ b → 1 ≤ a * b := fun {a b} h1 h2 => by have := Int.mul_le_mul h1 h2 (by omega) (by omega); omega
  have a1 := lo hk.1 hx
  have a2 : k * x ≤ 5 * 1000 := Int.mul_le_mul hk.2 (by omega) (by omega) (by omega)
  have b1 := lo a1 (show 1 ≤ y by omega)
  have b2 : k * x * y ≤ 5000 * 1000 := Int.mul_le_mul (by omega) (by omega) (by omega) (by omega)
  have d1 := lo hx hx
  have d2 : x * x ≤ 1000 * 1000 := Int.mul_le_mul (by omega) (by omega) (by omega) (by omega)
  have e1 := lo (show 1 ≤ y by omega) (show 1 ≤ y by omega)
  have e2 : y * y ≤ 1000 * 1000 := Int.mul_le_mul (by omega) (by omega) (by omega) (by omega)
  exact ⟨⟨a1, by omega⟩, ⟨b1, by omega⟩, ⟨d1, by omega⟩, ⟨e1, by omega⟩⟩
theorem othR_mul {m z : Int} (hz : 0 ≤ z ∧ z ≤ 1000) (hm : z < m ∧ m ≤ 5000000) : 0 ≤ z * (m - z) ∧ z * (m - z) ≤ 5000000000 := by
  refine ⟨Int.mul_nonneg hz.1 (by omega), ?_⟩
  have : z * (m - z) ≤ 1000 * 5000000 := Int.mul_le_mul hz.2 (by omega) (by omega) (by omega)
  omega
end Go.Proofs.YtpflmlnkflpbnaaDoor
