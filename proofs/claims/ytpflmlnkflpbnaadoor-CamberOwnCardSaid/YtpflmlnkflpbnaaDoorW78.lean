/-
  The square root, and the two numbers that may end a solution.
-/
import Derived.Test.YtpflmlnkflpbnaaDoorW77
namespace Go.Proofs.YtpflmlnkflpbnaaDoor
open Go.RowKit Go.Sort Cam
set_option linter.unusedVariables false
set_option linter.unusedSimpArgs false

theorem root_is : ∀ n : Nat, ∃ s : Nat, s * s ≤ n ∧ n < (s + 1) * (s + 1)
  | 0 => ⟨0, by omega, by omega⟩
  | n + 1 => by
    obtain ⟨s, h1, h2⟩ := root_is n
    by_cases h : n + 1 < (s + 1) * (s + 1)
    · exact ⟨s, by omega, h⟩
    · refine ⟨s + 1, by omega, ?_⟩
      have e : (s + 1 + 1) * (s + 1 + 1) = (s + 1) * (s + 1) + 2 * s + 3 := by grind
      omega
theorem square_any (n : Int) (hn : 0 ≤ n ∧ n ≤ 4611686018427387903) : ∃ s : Int, 0 ≤ s ∧ s ≤ 2147483647 ∧ s * s ≤ n ∧ n < (s + 1) * (s + 1) ∧
    ∀ w : World, Calls Tryd.prog 16 #[.int .i64 n] w fun e w' => e = .returned (.int .i64 s) ∧ w = w' := by
  obtain ⟨s0, h1, h2⟩ := root_is n.toNat
  obtain ⟨s, hs⟩ : ∃ s : Int, s = s0 := ⟨_, rfl⟩
  have g1 : s * s ≤ n := by rw [hs]; have : ((s0 * s0 : Nat) : Int) ≤ n := by omega
                            simpa using this
  have g2 : n < (s + 1) * (s + 1) := by rw [hs]; have : n < (((s0 + 1) * (s0 + 1) : Nat) : Int) := by omega
                                        simpa using this
  have g0 : 0 ≤ s := by omega
  have g3 : s ≤ 2147483647 := by
    rcases Int.lt_or_le 2147483647 s with h | h
    · have := Int.mul_le_mul (show (2147483648 : Int) ≤ s by omega) (show (2147483648 : Int) ≤ s by omega) (by omega) (by omega)
      omega
    · exact h
  clear h1 h2 hs
  refine ⟨s, g0, g3, g1, g2, fun w => ?_⟩
  have HM : Hid (∀ m : Int, 0 ≤ m → m ≤ 2147483648 → (m * m ≤ n ↔ m ≤ s) ∧ 0 ≤ m * m ∧ m * m ≤ 4611686018427387904) := by
    intro m m0 m1
    refine ⟨⟨fun h => ?_, fun h => ?_⟩, Int.mul_nonneg m0 m0, ?_⟩
    · rcases Int.lt_or_le s m with h' | h'
      · have := Int.mul_le_mul (show s + 1 ≤ m by omega) (show s + 1 ≤ m by omega) (by omega) (by omega)
        omega
      · exact h'
    · have := Int.mul_le_mul h h m0 g0
      omega
    · have := Int.mul_le_mul m1 m1 m0 (by omega)
      omega
  clear g1 g2
  go_enter Tryd.func16, Tryd.ntmps16
  go_wp2
  go_loop [3, 4] (fun p q => ∃ lo hi : Int, p = .int .i64 lo ∧ q = .int .i64 hi ∧ 0 ≤ lo ∧ lo ≤ s ∧ s < hi ∧ hi ≤ 2147483648) (fun p q => (intOf q - intOf p).toNat)
  case atStart => exact ⟨0, 2147483648, rfl, rfl, by omega, g0, by omega, by omega⟩
  case round =>
    obtain ⟨lo, hi, rfl, rfl, l0, l1, l2, l3⟩ := hrel
    by_cases h : lo + 1 < hi
    · have e1 : Int.tdiv (lo + hi) 2 = (lo + hi) / 2 := Int.tdiv_eq_ediv_of_nonneg (by omega)
      obtain ⟨m, hm⟩ : ∃ m, m = (lo + hi) / 2 := ⟨_, rfl⟩
      rw [← hm] at e1
      have m0 : lo < m ∧ m < hi := by omega
      obtain ⟨q1, q2, q3⟩ := HM.out m (by omega) (by omega)
      have hm' := Lib.hid hm
      clear hm
      by_cases hc : m ≤ s
      · have hd := q1.2 hc
        clear q1
        go_wp2
        go_round
        case rel => exact ⟨m, hi, rfl, rfl, by omega, by omega, by omega, by omega⟩
        case measure => simp [intOf]; omega
      · have hd : ¬ m * m ≤ n := fun h => hc (q1.1 h)
        clear q1
        go_wp2
        go_round
        case rel => exact ⟨lo, m, rfl, rfl, by omega, by omega, by omega, by omega⟩
        case measure => simp [intOf]; omega
    · have e : lo = s := by omega
      subst e
      go_wp2
      go_ret
      exact ⟨rfl, rfl⟩

theorem triB_iff {k x y z : Int} (hz : z ≤ 1000000000) : triB k x y z = true ↔ TriK k x y z := by
  unfold triB TriK
  simp only [Bool.and_eq_true, decide_eq_true_eq]
  constructor
  · rintro ⟨⟨⟨⟨h1, h2⟩, h3⟩, _⟩, h5, h6⟩
    refine ⟨h1, h2, h3, ?_⟩
    have e := Int.mul_ediv_add_emod (x * x + y * y + z * z) z
    rw [h5, h6] at e
    grind
  · rintro ⟨h1, h2, h3, h4⟩
    refine ⟨⟨⟨⟨h1, h2⟩, h3⟩, hz⟩, ?_, ?_⟩
    · rw [h4]; exact Int.mul_emod_left _ _
    · rw [h4]; exact Int.mul_ediv_cancel _ (by omega)
theorem triK_quad {k x y z : Int} (h : TriK k x y z) : (2 * z - k * x * y) * (2 * z - k * x * y) = k * x * y * (k * x * y) - 4 * (x * x + y * y) := by
  obtain ⟨_, _, _, h⟩ := h
  grind
/-- What z may be: the two roots. -/
theorem triK_root {k x y z s : Int} (h : TriK k x y z) (hs : 0 ≤ s) (h1 : s * s ≤ k * x * y * (k * x * y) - 4 * (x * x + y * y)) (h2 : k * x * y * (k * x * y) - 4 * (x * x + y * y) < (s + 1) * (s + 1)) :
    z = (k * x * y - s) / 2 ∨ z = (k * x * y + s) / 2 := by
  rw [← triK_quad h] at h1 h2
  generalize hb : k * x * y = b at *
  have key : ∀ u : Int, 0 ≤ u → s * s ≤ u * u → u * u < (s + 1) * (s + 1) → u = s := by
    intro u hu a1 a2
    rcases Int.lt_trichotomy u s with h | h | h
    · have := Int.mul_le_mul (show u + 1 ≤ s by omega) (show u + 1 ≤ s by omega) (by omega) (by omega)
      have e : (u + 1) * (u + 1) = u * u + 2 * u + 1 := by grind
      omega
    · exact h
    · have := Int.mul_le_mul (show s + 1 ≤ u by omega) (show s + 1 ≤ u by omega) (by omega) (by omega)
      omega
  rcases Int.le_total 0 (2 * z - b) with h0 | h0
  · have := key _ h0 h1 h2
    right; omega
  · have e : (2 * z - b) * (2 * z - b) = (b - 2 * z) * (b - 2 * z) := by grind
    rw [e] at h1 h2
    have := key (b - 2 * z) (by omega) h1 h2
    left; omega
theorem triK_neg {k x y z : Int} (h : TriK k x y z) : 0 ≤ k * x * y * (k * x * y) - 4 * (x * x + y * y) := by
  rw [← triK_quad h]
  rcases Int.le_total 0 (2 * z - k * x * y) with h0 | h0
  · exact Int.mul_nonneg h0 h0
  · exact Int.mul_nonneg_of_nonpos_of_nonpos h0 h0
end Go.Proofs.YtpflmlnkflpbnaaDoor
