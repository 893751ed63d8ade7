import Derived.Test.YtpflmlnkflpbnaaDoorW1
namespace Go.Proofs.YtpflmlnkflpbnaaDoor
open Go.RowKit Cam
set_option linter.unusedVariables false

theorem eg_bounds {x z a b u v : Int} (h : Eg x z a b u v) : 1 ≤ a ∧ 0 ≤ b ∧ a ≤ 1000000000 ∧ b ≤ 1000000000 ∧ -z ≤ u ∧ u ≤ z := by
  obtain ⟨h1, h2, h3, h4, _, _, _, h5, h6, _⟩ := h; exact ⟨h1, h2, h3, h4, h5, h6⟩
theorem eg_zero {x z a b u v : Int} (h : Eg x z a b u v) (hb : ¬ 1 ≤ b) : Eg x z a 0 u v := by
  have : b = 0 := by have := h.2.1; omega
  rwa [this] at h

set_option maxHeartbeats 400000 in
theorem inverse_any (x z : Int) (w : World) (h1 : 1 ≤ x) (h2 : 1 ≤ z) (h3 : x ≤ 1000000000) (h4 : z ≤ 1000000000) (hg : Int.gcd x z = 1) :
    Calls Tryd.prog 76 #[.int .i64 x, .int .i64 z] w fun e w' => e = .returned (.int .i64 (inv x z)) ∧ w = w' := by
  have hF := Eg.first h1 h2 h3 h4 hg
  have HF : Hid (Eg x z x z 1 0) := hF
  clear hF hg
  go_enter Tryd.func76, Tryd.ntmps76
  go_wp2
  go_loop [5, 6, 7, 8] (fun a b u v => ∃ a' b' u' v' : Int, a = .int .i64 a' ∧ b = .int .i64 b' ∧ u = .int .i64 u' ∧ v = .int .i64 v' ∧ Hid (Eg x z a' b' u' v')) (fun _ b _ _ => (intOf b).toNat)
  case atStart => exact ⟨x, z, 1, 0, rfl, rfl, rfl, rfl, HF⟩
  case round =>
    obtain ⟨a, b, u, v, rfl, rfl, rfl, rfl, H⟩ := hrel
    obtain ⟨ha, hb0, ha9, hb9, hu1, hu2⟩ := eg_bounds H.out
    by_cases hb : 1 ≤ b
    · obtain ⟨S, q0, q1, m0, m1, v0, v1, n0, n1, o0, o1, d1, d0⟩ := H.out.step hb h2
      have HS : Hid (Eg x z b (a - a / b * b) v (u - a / b * v)) := S
      clear S H HF
      go_wp2
      go_round
      case rel => exact ⟨_, _, _, _, rfl, rfl, rfl, rfl, HS⟩
      case measure => simp [intOf]; omega
    · obtain ⟨L, l1, l2⟩ := (eg_zero H.out hb).last h2
      have HL : Hid (Inv x z (u.tmod z % z)) := L
      clear L H HF
      go_wp2
      go_ret
      exact ⟨ret_int HL.out.eq, rfl⟩

theorem mod_mul {a b z : Int} (h4 : z ≤ 1000000000) (ha : 0 ≤ a) (ha' : a < z) (hb : 0 ≤ b) (hb' : b < z) : 0 ≤ a * b ∧ a * b ≤ 1000000000000000000 :=
  ⟨Int.mul_nonneg ha hb, by have := Int.mul_le_mul (show a ≤ 1000000000 by omega) (show b ≤ 1000000000 by omega) hb (by omega); omega⟩

theorem root_def (x y z : Int) : y % z * inv x z % z = quot x y z := rfl

set_option maxHeartbeats 400000 in
theorem root_any (x y z : Int) (w : World) (h : Tri x y z) (h2 : 2 ≤ z) (h4 : z ≤ 1000000000) :
    Calls Tryd.prog 64 #[.agg #[.int .i64 x, .int .i64 y, .int .i64 z]] w fun e w' => e = .returned (.int .i64 (root x y z)) ∧ Below w.heap.size w w' := by
  obtain ⟨h1, hxy, hyz, _⟩ := id h
  have HG : Hid (Int.gcd x z = 1) := (h.cop _ (Nat.le_refl _)).2.1
  obtain ⟨i0, i1, _⟩ := h.inv h4
  have y0 : 0 ≤ y % z := Int.emod_nonneg _ (by omega)
  have y1 : y % z < z := Int.emod_lt_of_pos _ (by omega)
  obtain ⟨p0, p1⟩ := mod_mul h4 y0 y1 i0 i1
  have u0 : 0 ≤ y % z * inv x z % z := Int.emod_nonneg _ (by omega)
  have u1 : y % z * inv x z % z < z := Int.emod_lt_of_pos _ (by omega)
  have HR : Hid (-(quot x y z) % z = z - quot x y z) := h.root_neg h2 h4
  have HT : Hid (Tri x y z) := h
  clear h
  go_enter Tryd.func64, Tryd.ntmps64
  go_wp2
  go_quiet ((go_at_call 76; exact quiet_left (inverse_any x z _ h1 (by omega) (by omega) h4 HG.out)))
  go_wp2
  all_goals
    go_ret
    refine ⟨ret_int ?_, bl_drewN (bl_alloc (bl_refl _) _) _⟩
  · have e : -(y % z * inv x z % z) % z < y % z * inv x z % z := by assumption
    show -(y % z * inv x z % z) % z = _
    rw [root_def, HR.out] at e ⊢
    unfold root
    omega
  · have e : y % z * inv x z % z ≤ -(y % z * inv x z % z) % z := by assumption
    show y % z * inv x z % z = _
    rw [root_def, HR.out] at e
    rw [root_def]
    unfold root
    omega

/-- What Root answers: the number, and the error. -/
noncomputable def rootA (x y z : Int) : Int := if triB 3 x y z = true then if z = 1 then 0 else root x y z else 0
def rootE (x y z : Int) : Int := if triB 3 x y z = true then if z = 1 then 6 else 0 else 2

set_option maxHeartbeats 400000 in
theorem Root_any (x y z : Int) (w : World) :
    Calls Tryd.prog 42 #[.agg #[.int .i64 x, .int .i64 y, .int .i64 z]] w fun e w' => e = .returned (.tuple #[.int .i64 (rootA x y z), .int .i64 (rootE x y z)]) ∧ Below w.heap.size w w' := by
  by_cases ht : triB 3 x y z = true
  · obtain ⟨T, h4⟩ := triB_tri ht
    have HT : Hid (Tri x y z) := T
    obtain ⟨h1, hxy, hyz, _⟩ := T
    by_cases hz : z = 1
    · subst hz
      have ea : rootA x y 1 = 0 := by simp [rootA, ht]
      have ee : rootE x y 1 = 6 := by simp [rootE, ht]
      rw [ea, ee]
      have HI : Hid (triB 3 x y 1 = true) := ht
      clear ea ee ht
      go_enter Tryd.func42, Tryd.ntmps42
      go_wp2_with fail
      refine (isTriple_yes 3 x y 1 _ (by omega) HI.out).mono ?_
      rintro e w1 ⟨rfl, hb1⟩
      obtain ⟨hc1, hf1⟩ := bl_cells hb1
      go_wp2_with fail
      go_ret2
      exact ⟨rfl, bl_then (bl_alloc (bl_alloc (bl_refl _) _) _) hb1⟩
    · have ea : rootA x y z = root x y z := by simp [rootA, ht, hz]
      have ee : rootE x y z = 0 := by simp [rootE, ht, hz]
      rw [ea, ee]
      have HI : Hid (triB 3 x y z = true) := ht
      clear ea ee ht
      have hz1 : (z == 1) = false := by simp [hz]
      have hz2 : 2 ≤ z := by omega
      clear hz
      go_enter Tryd.func42, Tryd.ntmps42
      go_wp2_with fail
      refine (isTriple_yes 3 x y z _ (by omega) HI.out).mono ?_
      rintro e w1 ⟨rfl, hb1⟩
      obtain ⟨hc1, hf1⟩ := bl_cells hb1
      go_wp2_with fail
      refine (root_any x y z _ HT.out hz2 h4).mono ?_
      rintro e w2 ⟨rfl, hb2⟩
      go_wp2_with fail
      go_ret2
      exact ⟨rfl, bl_then (bl_then (bl_alloc (bl_alloc (bl_refl _) _) _) hb1) hb2⟩
  · have ht : triB 3 x y z = false := by simpa using ht
    have ea : rootA x y z = 0 := by simp [rootA, ht]
    have ee : rootE x y z = 2 := by simp [rootE, ht]
    rw [ea, ee]
    have HI : Hid (triB 3 x y z = false) := ht
    clear ea ee ht
    go_enter Tryd.func42, Tryd.ntmps42
    go_wp2_with fail
    refine (isTriple_no 3 x y z _ (by omega) HI.out).mono ?_
    rintro e w1 ⟨rfl, hb1⟩
    obtain ⟨hc1, hf1⟩ := bl_cells hb1
    go_wp2_with fail
    go_ret2
    exact ⟨rfl, bl_then (bl_alloc (bl_alloc (bl_refl _) _) _) hb1⟩
end Go.Proofs.YtpflmlnkflpbnaaDoor
