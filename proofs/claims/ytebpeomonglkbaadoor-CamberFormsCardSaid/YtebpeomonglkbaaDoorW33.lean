import Derived.Test.YtebpeomonglkbaaDoorW31
namespace Go.Proofs.YtebpeomonglkbaaDoor
open Go.RowKit Go.Sort Cam
set_option linter.unusedVariables false
set_option linter.unusedSimpArgs false

theorem Root_yes (x y z : Int) (w : World) (h : Tri x y z) (h2 : 2 ≤ z) (h4 : z ≤ 1000000000) :
    Calls Tryd.prog 23 #[trip x y z] w fun e w' => e = .returned (.tuple #[.int .i64 (root x y z), .int .i64 0]) ∧ Below w.heap.size w w' := by
  have k := Root_any x y z w
  have ht := tri_triB h h4
  have hz : ¬ z = 1 := by omega
  have hA : rootA x y z = root x y z := by unfold rootA; rw [if_pos ht, if_neg hz]
  have hE : rootE x y z = 0 := by unfold rootE; rw [if_pos ht, if_neg hz]
  rw [hA, hE] at k
  exact k
theorem Form_yes (x y z : Int) (w : World) (h : Tri x y z) (h2 : 2 ≤ z) (h4 : z ≤ 1000000000) :
    Calls Tryd.prog 24 #[trip x y z] w fun e w' => e = .returned (.tuple #[formV x y z, .int .i64 0]) ∧ Below w.heap.size w w' := by
  have k := Form_any x y z w
  have ht := tri_triB h h4
  have hz : ¬ z = 1 := by omega
  have hE : rootE x y z = 0 := by unfold rootE; rw [if_pos ht, if_neg hz]
  have hA : formA x y z = formV x y z := by unfold formA; rw [if_pos hE]
  rw [hA, hE] at k
  exact k

set_option maxRecDepth 100000 in
set_option maxHeartbeats 1000000 in
theorem CamberRooted_walk (s : ByteArray) (w : World) (hs : s.size ≤ 140737488351232) (hF : FirstAt w) :
    Calls Tryd.prog 6 #[.string s] w fun e w' => e = .returned (.bool true) ∧ Below w.heap.size w w' := by
  have AW := Lib.hid fun W h => awake_any W h
  have B := Lib.hid fun W => tame_any s W hs
  have M := Lib.hid fun x y z W h1 h2 h3 => Root_yes x y z W h1 h2 h3
  go_enter Tryd.func6, Tryd.ntmps6
  go_wp2_with fail
  refine (B.out _).mono ?_
  rintro e w1 ⟨t, x, y, z, rfl, ⟨hp, ho⟩, hb1⟩
  have hF1 := (hF.kept hb1).kept (bl_alloc (bl_refl _) (.cells #[.int .i64 x, .int .i64 y, .int .i64 z] 22))
  have hbA := bl_alloc hb1 (.cells #[.int .i64 x, .int .i64 y, .int .i64 z] 22)
  obtain ⟨h, h4, h5⟩ := followF_tri _ tri125 (by omega) ho
  have M1 := Lib.hid fun W => M.out x y z W h (by omega) h4
  obtain ⟨⟨x1, x2⟩, ⟨y1, y2⟩, ⟨z1, z2⟩⟩ := Tri.le3 h h4
  obtain ⟨u1, u2⟩ := h.root_range (by omega) h4
  have hq := Int.emod_eq_zero_of_dvd (h.root_sq h4)
  have hx := h.root_x h4
  clear hp ho h M
  unfold trip at M1 ⊢
  generalize root x y z = u at *
  have b1 := sq_le u1 (by omega)
  have b2 : 1 ≤ x * u ∧ x * u ≤ 1000000000000000000 := ⟨by have := Int.mul_le_mul x1 u1 (by omega) (by omega); omega, by have := Int.mul_le_mul x2 (show u ≤ 1000000000 by omega) (by omega) (by omega); omega⟩
  have n1 := Int.emod_nonneg (x * u) (show z ≠ 0 by omega)
  have n2 := Int.emod_lt_of_pos (x * u) (show 0 < z by omega)
  have hor : x * u % z = y % z ∨ (¬ x * u % z = y % z ∧ (x * u % z + y) % z = 0) := by
    rcases hx with hx | hx
    · exact .inl (by
        have := Int.emod_eq_emod_iff_emod_sub_eq_zero.2 (Int.emod_eq_zero_of_dvd hx)
        rw [Int.mul_comm x u]; exact this)
    · by_cases e : x * u % z = y % z
      · exact .inl e
      · refine .inr ⟨e, ?_⟩
        have := Int.emod_eq_zero_of_dvd hx
        rw [Int.mul_comm x u, Int.emod_add_emod]; exact this
  clear hx
  obtain ⟨r, hr⟩ : ∃ r, r = x * u % z := ⟨_, rfl⟩
  rcases hor with g1 | ⟨g1, g2⟩
  all_goals
    go_wp2_with fail
    refine (M1.out _).mono ?_
    rintro e w2 ⟨rfl, hb2⟩
    obtain ⟨hc2, hf2⟩ := bl_cells hb2
    have hF2 := hF1.kept hb2
    have hbB := bl_then hbA hb2
    go_wp2_with fail
    refine (AW.out _ hF2).mono ?_
    rintro e w5 ⟨rfl, hb5⟩
    go_wp2_with fail
    go_ret
    exact ⟨rfl, bl_then hbB hb5⟩
end Go.Proofs.YtebpeomonglkbaaDoor
