import Derived.Test.YtpmamdadcmcbeaaDoorW31
namespace Go.Proofs.YtpmamdadcmcbeaaDoor
open Go.RowKit Go.Sort Cam
set_option linter.unusedVariables false
set_option linter.unusedSimpArgs false

theorem gcd_mod (a b : Int) : (Int.gcd b (a % b) : Int) = Int.gcd a b := by
  have h : a % b = a - a / b * b := by have := Int.emod_add_ediv_mul a b; omega
  rw [Int.gcd_comm b, h, Int.gcd_sub_mul_right_left]

theorem Gcd_any (a b : Int) (w : World) (ha : 0 ≤ a ∧ a ≤ 9223372036854775807) (hb : 0 ≤ b ∧ b ≤ 9223372036854775807) :
    Calls Tryd.prog 40 #[.int .i64 a, .int .i64 b] w fun e w' => e = .returned (.int .i64 (Int.gcd a b)) ∧ w = w' := by
  obtain ⟨g, hg⟩ : ∃ g : Int, g = Int.gcd a b := ⟨_, rfl⟩
  have HG := Lib.hid hg
  rw [← hg]
  clear hg
  go_enter Tryd.func40, Tryd.ntmps40
  go_wp2
  go_loop [0, 1] (fun p q => ∃ a' b' : Int, p = .int .i64 a' ∧ q = .int .i64 b' ∧ 0 ≤ a' ∧ a' ≤ 9223372036854775807 ∧ 0 ≤ b' ∧ b' ≤ 9223372036854775807 ∧ Hid (g = Int.gcd a' b')) (fun _ b => (intOf b).toNat)
  case atStart => exact ⟨a, b, rfl, rfl, ha.1, ha.2, hb.1, hb.2, HG⟩
  case round =>
    obtain ⟨x, y, rfl, rfl, hx0, hx1, hy0, hy1, H⟩ := hrel
    by_cases h : 1 ≤ y
    · have h1 := Int.emod_nonneg x (show y ≠ 0 by omega)
      have h2 := Int.emod_lt_of_pos x (show 0 < y by omega)
      have HN : Hid (g = Int.gcd y (x % y)) := H.out.trans (gcd_mod x y).symm
      clear H
      go_wp2
      go_round
      case rel => exact ⟨_, _, rfl, rfl, by omega, by omega, h1, by omega, HN⟩
      case measure => simp [intOf]; omega
    · have hy : y = 0 := by omega
      subst hy
      have HN : Hid (g = x) := H.out.trans (by rw [Int.gcd_zero_right]; omega)
      clear H
      go_wp2
      go_ret
      exact ⟨ret_int HN.out.symm, rfl⟩

end Go.Proofs.YtpmamdadcmcbeaaDoor
