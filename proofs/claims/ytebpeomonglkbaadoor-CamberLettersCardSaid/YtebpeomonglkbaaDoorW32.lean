import Derived.Test.YtebpeomonglkbaaDoorW31
namespace Go.Proofs.YtebpeomonglkbaaDoor
open Go.RowKit Go.Sort Cam
set_option linter.unusedVariables false
set_option linter.unusedSimpArgs false

theorem gcd_mod (a b : Int) : (Int.gcd b (a % b) : Int) = Int.gcd a b := by
  have h : a % b = a - a / b * b := by have := Int.emod_add_ediv_mul a b; omega
  rw [Int.gcd_comm b, h, Int.gcd_sub_mul_right_left]

theorem Gcd_any (a b : Int) (w : World) (ha : 0 ≤ a ∧ a ≤ 9223372036854775807) (hb : 0 ≤ b ∧ b ≤ 9223372036854775807) :
    Calls Tryd.prog 47 #[.int .i64 a, .int .i64 b] w fun e w' => e = .returned (.int .i64 (Int.gcd a b)) ∧ w = w' := by
  obtain ⟨g, hg⟩ : ∃ g : Int, g = Int.gcd a b := ⟨_, rfl⟩
  have HG := Lib.hid hg
  rw [← hg]
  clear hg
  go_enter Tryd.func47, Tryd.ntmps47
  go_wp2
  go_loop [0, 1] (fun p q => ∃ a' b' : Int, p = .int .i64 a' ∧ q = .int .i64 b' ∧ 0 ≤ a' ∧ a' ≤ 9223372036854775807 ∧ 0 ≤ b' ∧ b' ≤ 9223372036854775807 ∧ Hid (g = Int.gcd a' b')) (fun _ b => (intOf b).toNat)
  case atStart => exact ⟨a, b, rfl, rfl, ha.1, ha.2, hb.1, hb.2, HG⟩
  case round =>
    obtain ⟨x, y, rfl, rfl, hx0, hx1, hy0, hy1, H⟩ := hrel
    by_cases h : 1 ≤ y
    · have h1 := Int.emod_nonneg x (show y ≠ 0 by omega)
      have h2 := Int.emod_lt_of_pos x (show 0 < y by omega)
      have HN : Hid (g = Int.gcd y (x % y)) := H.out.trans (gcd_mod x y).symm
      clear H
      go_wp2
      go_round
      case rel => exact ⟨_, _, rfl, rfl, by omega, by omega, h1, by omega, HN⟩
      case measure => simp [intOf]; omega
    · have hy : y = 0 := by omega
      subst hy
      have HN : Hid (g = x) := H.out.trans (by rw [Int.gcd_zero_right]; omega)
      clear H
      go_wp2
      go_ret
      exact ⟨ret_int HN.out.symm, rfl⟩

set_option maxRecDepth 100000 in
set_option maxHeartbeats 1000000 in
theorem CamberCoprime_walk (s : ByteArray) (w : World) (hs : s.size ≤ 140737488351232) (hF : FirstAt w) :
    Calls Tryd.prog 17 #[.string s] w fun e w' => e = .returned (.bool true) ∧ Below w.heap.size w w' := by
  have AW := Lib.hid fun W h => awake_any W h
  have B := Lib.hid fun W => tame_any s W hs
  have M := Lib.hid fun t W h1 h2 => Follow_path t W h1 h2
  have T := Lib.hid fun x y z W h => refTriple_yes x y z W h
  go_enter Tryd.func17, Tryd.ntmps17
  go_wp2_with fail
  refine (B.out _).mono ?_
  rintro e w1 ⟨t, x, y, z, rfl, ⟨hp, ho⟩, hb1⟩
  have hF1 := (hF.kept hb1).kept (bl_alloc (bl_refl _) (.cells #[.int .i64 x, .int .i64 y, .int .i64 z] 22))
  have hbA := bl_alloc hb1 (.cells #[.int .i64 x, .int .i64 y, .int .i64 z] 22)
  obtain ⟨h, h4, h5⟩ := followF_tri _ tri125 (by omega) ho
  have M1 := Lib.hid fun W h => M.out t W hp h
  rw [ho] at M1
  have T1 := Lib.hid fun W => T.out x y z W (tri_triB h h4)
  obtain ⟨⟨x1, x2⟩, ⟨y1, y2⟩, ⟨z1, z2⟩⟩ := Tri.le3 h h4
  obtain ⟨c1, c2, c3⟩ := Tri.cop z.toNat h (Nat.le_refl _)
  have G1 := Lib.hid fun W => Gcd_any y z W (by omega) (by omega)
  have G2 := Lib.hid fun W => Gcd_any x y W (by omega) (by omega)
  have G3 := Lib.hid fun W => Gcd_any x z W (by omega) (by omega)
  rw [c3] at G1
  rw [c1] at G2
  rw [c2] at G3
  simp only [errF, optV, vT, trip] at M1
  clear hp ho h h4 h5 c1 c2 c3
  unfold trip
  go_wp2_with fail
  refine (M1.out _ hF1).mono ?_
  rintro e w2 ⟨rfl, hb2⟩
  have hF2 := (hF1.kept hb2).kept (bl_alloc (bl_refl _) (.cells #[.int .i64 x, .int .i64 y, .int .i64 z] 22))
  have hbB := bl_alloc (bl_then hbA hb2) (.cells #[.int .i64 x, .int .i64 y, .int .i64 z] 22)
  go_wp2_with fail
  refine (T1.out _).mono ?_
  rintro e w3 ⟨rfl, hb3⟩
  obtain ⟨hc3, hf3⟩ := bl_cells hb3
  have hF3 := hF2.kept hb3
  have hbC := bl_then hbB hb3
  go_wp2_with fail
  refine (G1.out _).mono ?_
  rintro e w4 ⟨rfl, rfl⟩
  go_wp2_with fail
  refine (G2.out _).mono ?_
  rintro e w4 ⟨rfl, rfl⟩
  go_wp2_with fail
  refine (G3.out _).mono ?_
  rintro e w4 ⟨rfl, rfl⟩
  go_wp2_with fail
  refine (AW.out _ hF3).mono ?_
  rintro e w5 ⟨rfl, hb5⟩
  go_wp2_with fail
  go_ret
  exact ⟨rfl, bl_then hbC hb5⟩
end Go.Proofs.YtebpeomonglkbaaDoor
