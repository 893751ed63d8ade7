/-
  CamberBound: the fractions of the greatest and the middle number of a solution.
-/
import Derived.Test.YtpmamdadcmcbeaaDoorW74
import Derived.StillTailTactics
namespace Go.Proofs.YtpmamdadcmcbeaaDoor
open Go.RowKit Go.Sort Cam
set_option linter.unusedVariables false
set_option linter.unusedSimpArgs false

theorem TT_mid' : (TT.all fun t => TT.any fun s => s.2.2 == t.2.1) = true := by decide +kernel
theorem TT_gap' : (TT.all fun t => decide (t.2.2 < 5) || (decide (2 ≤ t.2.1) && decide (2 * t.2.1 < t.2.2))) = true := by decide +kernel
theorem propO_some {x : Int} (h : ∃ t ∈ TT, t.2.2 = x) : (propO x).isSome = true := by
  unfold propO
  rw [List.find?_isSome]
  obtain ⟨t, h1, h2⟩ := h
  exact ⟨t, mem_upTo.2 ⟨h1, by omega⟩, by simpa using h2⟩
theorem TT_mid {x y z : Int} (h : (x, y, z) ∈ TT) : ∃ t ∈ TT, t.2.2 = y := by
  have k := TT_mid'
  rw [List.all_eq_true] at k
  have k1 := k _ h
  rw [List.any_eq_true] at k1
  obtain ⟨t, h1, h2⟩ := k1
  exact ⟨t, h1, by simpa using h2⟩
theorem TT_gap {x y z : Int} (h : (x, y, z) ∈ TT) (h5 : 5 ≤ z) : 2 ≤ y ∧ 2 * y < z := by
  have k := TT_gap'
  rw [List.all_eq_true] at k
  have k1 := k _ h
  simp at k1
  omega

/-- What the fraction of Bound is: its denominator is n² / g and its numerator 9 n² / g - 4 / g, and g divides 4. -/
theorem bnd_form {x : Int} (hx : 1 ≤ x ∧ x ≤ 1000000000) : ∃ d g e : Int, x * x = d * g ∧ 4 = g * e ∧ 1 ≤ g ∧ g ≤ 4 ∧ 1 ≤ d ∧ 1 ≤ e ∧ e ≤ 4 ∧ (9 * x * x - 4) / bndG x = 9 * d - e ∧ x * x / bndG x = d ∧ x * x / d = g ∧ d ≤ 1000000000000000000 := by
  obtain ⟨h1, h2, h3, h4⟩ := bnd_range hx
  have hd2 : bndG x ∣ x * x := Int.gcd_dvd_right _ _
  have hd1 : bndG x ∣ 9 * x * x - 4 := Int.gcd_dvd_left _ _
  have e9 : 9 * x * x = 9 * (x * x) := by grind
  have hd4 : bndG x ∣ 4 := by
    have a : bndG x ∣ 9 * (x * x) := Int.dvd_mul_of_dvd_right hd2
    have b := Int.dvd_sub a (e9 ▸ hd1)
    rwa [show 9 * (x * x) - (9 * (x * x) - 4) = 4 by omega] at b
  generalize bndG x = g at *
  obtain ⟨d, hd⟩ := hd2
  obtain ⟨e, he⟩ := hd4
  have hg4 : g ≤ 4 := Int.le_of_dvd (by omega) ⟨e, he⟩
  have hd0 : 1 ≤ d := by
    rcases Int.lt_or_le 0 d with h | h
    · omega
    · have : g * d ≤ 0 := Int.mul_nonpos_of_nonneg_of_nonpos (by omega) h
      omega
  have he0 : 1 ≤ e ∧ e ≤ 4 := by
    have : 0 < e := by
      rcases Int.lt_or_le 0 e with h | h
      · exact h
      · have : g * e ≤ 0 := Int.mul_nonpos_of_nonneg_of_nonpos (by omega) h
        omega
    have : e ∣ 4 := ⟨g, by rw [Int.mul_comm]; exact he⟩
    exact ⟨by omega, Int.le_of_dvd (by omega) this⟩
  have hdl : d ≤ x * x := Int.le_of_dvd (by omega) ⟨g, hd.trans (Int.mul_comm g d)⟩
  refine ⟨d, g, e, hd.trans (Int.mul_comm g d), he, by omega, hg4, hd0, he0.1, he0.2, ?_, ?_, ?_, by omega⟩
  · rw [show 9 * x * x - 4 = g * (9 * d - e) by rw [e9, hd]; rw [Int.mul_sub, ← he]; grind]
    exact Int.mul_ediv_cancel_left _ (by omega)
  · rw [hd]; exact Int.mul_ediv_cancel_left _ (by omega)
  · rw [hd]; exact Int.mul_ediv_cancel _ (by omega)

theorem bnd_less {y z d g d2 g2 : Int} (hy : 2 ≤ y) (hz : 2 * y < z) (h1 : z * z = d * g) (h2 : y * y = d2 * g2) (hg : 1 ≤ g ∧ g ≤ 4) (hg2 : 1 ≤ g2) (hd : 1 ≤ d) (hd2 : 1 ≤ d2) : d2 < d := by
  have a : (2 * y + 1) * (2 * y + 1) ≤ z * z := Int.mul_le_mul (by omega) (by omega) (by omega) (by omega)
  have b : (2 * y + 1) * (2 * y + 1) = 4 * (y * y) + 4 * y + 1 := by grind
  have c : d * g ≤ d * 4 := Int.mul_le_mul_of_nonneg_left hg.2 (by omega)
  have e : d2 * 1 ≤ d2 * g2 := Int.mul_le_mul_of_nonneg_left hg2 (by omega)
  omega

theorem bnd_val {x d e : Int} (h1 : (9 * x * x - 4) / bndG x = 9 * d - e) (h2 : x * x / bndG x = d) : bndV x = .agg #[.int .i64 (9 * d - e), .int .i64 d] := by
  unfold bndV; rw [h1, h2]

set_option maxRecDepth 100000 in
set_option maxHeartbeats 4000000 in
theorem CamberBound_walk (s : ByteArray) (w : World) (hs : s.size ≤ 140737488351232) (hF : FirstAt w) :
    Calls Tryd.prog 5 #[.string s] w fun e w' => e = .returned (.bool true) ∧ Below w.heap.size w w' := by
  have AW := Lib.hid fun W h => awake_any W h
  have B := Lib.hid fun W => tame_any s W hs
  go_enter Tryd.func5, Tryd.ntmps5
  go_wp2_with fail
  refine (B.out _).mono ?_
  rintro e w1 ⟨t, x, y, z, rfl, ⟨hp, ho⟩, hb1⟩
  have hF1 := (hF.kept hb1).kept (bl_alloc (bl_refl _) (.cells #[.int .i64 x, .int .i64 y, .int .i64 z] 33))
  have hbA := bl_alloc hb1 (.cells #[.int .i64 x, .int .i64 y, .int .i64 z] 33)
  have V1 := Whole.new w1 33 #[.int .i64 x, .int .i64 y, .int .i64 z]
  obtain ⟨h, h4, h5⟩ := followF_tri _ tri125 (by omega) ho
  have hT : (x, y, z) ∈ TT := mem_TT.2 ⟨h, h4⟩
  obtain ⟨y2, y3⟩ := TT_gap hT h5
  have hy := propO_some (TT_mid hT)
  have hz := propO_some (x := z) ⟨_, hT, rfl⟩
  have by1 : 1 ≤ y ∧ y ≤ 1000000000 := by omega
  have bz1 : 1 ≤ z ∧ z ≤ 1000000000 := by omega
  have BZ := Lib.hid fun W => Bound_some z bz1 hz W
  have BY := Lib.hid fun W => Bound_some y by1 hy W
  obtain ⟨d, g, c, a1, a2, a3, a4, a5, a6, a7, a8, a9, a10, a11⟩ := bnd_form bz1
  obtain ⟨d2, g2, c2, c1, c2', c3, c4, c5, c6, c7, c8, c9, c10, c11⟩ := bnd_form by1
  have hl := bnd_less y2 y3 a1 c1 ⟨a3, a4⟩ c3 a5 c5
  rw [bnd_val a8 a9] at BZ
  rw [bnd_val c8 c9] at BY
  obtain ⟨_, ⟨zz1, zz2⟩, _, _⟩ := bnd_range bz1
  obtain ⟨_, ⟨yy1, yy2⟩, _, _⟩ := bnd_range by1
  have p1 : Int.tdiv (z * z) d = g := (Int.tdiv_eq_ediv_of_nonneg (by omega)).trans a10
  have p2 : Int.tdiv (y * y) d2 = g2 := (Int.tdiv_eq_ediv_of_nonneg (by omega)).trans c10
  have p3 : z * z % d = 0 := by rw [a1]; exact Int.mul_emod_right _ _
  have p4 : Int.tmod (z * z) d = 0 := (Int.tmod_eq_emod_of_nonneg (by omega)).trans p3
  have q1 : (4 : Int) / g = c := by rw [a2]; exact Int.mul_ediv_cancel_left _ (by omega)
  have q2 : (4 : Int) / g2 = c2 := by rw [c2']; exact Int.mul_ediv_cancel_left _ (by omega)
  have q3 : Int.tdiv 4 g = c := (Int.tdiv_eq_ediv_of_nonneg (by omega)).trans q1
  have q4 : Int.tdiv 4 g2 = c2 := (Int.tdiv_eq_ediv_of_nonneg (by omega)).trans q2
  have r1 : 9 * d - (9 * d - c) = c := by omega
  have r2 : 9 * d2 - (9 * d2 - c2) = c2 := by omega
  have r3 : max (1 : Int) g2 = g2 := by omega
  have s1 : (9 * d - c) / 9 = d - 1 := by omega
  have s2 : Int.tdiv (9 * d - c) 9 = d - 1 := (Int.tdiv_eq_ediv_of_nonneg (by omega)).trans s1
  clear hp ho h hT hy hz by1 bz1 a1 a2 a8 a9 c1 c2' c8 c9
  unfold trip
  go_wp2_with fail
  refine (BZ.out _).mono ?_
  rintro e w2 ⟨rfl, hb2⟩
  have hF2 := (hF1.kept hb2).kept (bl_alloc (bl_refl _) (.cells #[.int .i64 (9 * d - c), .int .i64 d] 37))
  have hbB := bl_alloc (bl_then hbA hb2) (.cells #[.int .i64 (9 * d - c), .int .i64 d] 37)
  have V2 := V1.kept hb2
  have U2 := Whole.new w2 37 #[.int .i64 (9 * d - c), .int .i64 d]
  have k1 : w2.cell? ⟨w1.heap.size, 1, none⟩ = some (.int .i64 y) := (V2.cell 1).trans rfl
  have k2 : w2.cell? ⟨w1.heap.size, 2, none⟩ = some (.int .i64 z) := (V2.cell 2).trans rfl
  have hs2 := V2.lt
  have V2' := V2.alloc (.cells #[.int .i64 (9 * d - c), .int .i64 d] 37)
  go_wp2_with fail
  refine (BY.out _).mono ?_
  rintro e w3 ⟨rfl, hb3⟩
  have hF3 := (hF2.kept hb3).kept (bl_alloc (bl_refl _) (.cells #[.int .i64 (9 * d2 - c2), .int .i64 d2] 37))
  have hbC := bl_alloc (bl_then hbB hb3) (.cells #[.int .i64 (9 * d2 - c2), .int .i64 d2] 37)
  have V3 := V2'.kept hb3
  have U3 := U2.kept hb3
  have k3 : w3.cell? ⟨w1.heap.size, 1, none⟩ = some (.int .i64 y) := (V3.cell 1).trans rfl
  have k4 : w3.cell? ⟨w1.heap.size, 2, none⟩ = some (.int .i64 z) := (V3.cell 2).trans rfl
  have k5 : w3.cell? ⟨w2.heap.size, 0, none⟩ = some (.int .i64 (9 * d - c)) := (U3.cell 0).trans rfl
  have k6 : w3.cell? ⟨w2.heap.size, 1, none⟩ = some (.int .i64 d) := (U3.cell 1).trans rfl
  have hs3 := V3.lt
  have hs4 := U3.lt
  have hl' : ¬ d ≤ d2 := by omega
  have w1' := wrapI (a := 9 * d) (by omega)
  have w2' := wrapI (a := 9 * d2) (by omega)
  have w3' := wrapI (a := z * z) (by omega)
  have w4' := wrapI (a := y * y) (by omega)
  have w5' := wrapI (a := g) (by omega)
  have w6' := wrapI (a := g2) (by omega)
  have w7' := wrapI (a := c) (by omega)
  have w8' := wrapI (a := c2) (by omega)
  have n1' : ¬ g = 0 := by omega
  have n2' : ¬ g2 = 0 := by omega
  have n3' : ¬ d = 0 := by omega
  have n4' : ¬ d2 = 0 := by omega
  go_wp2_with fail
  refine wp_region_still_tail 36 (by kernel_rfl) (by kernel_rfl) ?_
  simp only [List.take_succ_cons, List.take_zero, List.drop_succ_cons, List.drop_zero]
  change wpStill _ _ (World.drew _) _ _ _
  repeat still_step
  refine wpStill_nil ?_
  change wpList _ _ _ _ _ (World.drew _)
  go_wp2_with fail
  refine (AW.out _ hF3.drew).mono ?_
  rintro e w4 ⟨rfl, hb4⟩
  go_wp2_with fail
  go_ret
  exact ⟨rfl, bl_then (bl_drewN hbC 1) hb4⟩
end Go.Proofs.YtpmamdadcmcbeaaDoor
