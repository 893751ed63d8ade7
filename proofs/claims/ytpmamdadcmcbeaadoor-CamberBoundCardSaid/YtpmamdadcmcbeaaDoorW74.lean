/-
  CamberPropers: the solution whose greatest number is n, and the fraction of Bound.
-/
import Derived.Test.YtpmamdadcmcbeaaDoorW73
namespace Go.Proofs.YtpmamdadcmcbeaaDoor
open Go.RowKit Go.Sort Cam
set_option linter.unusedVariables false
set_option linter.unusedSimpArgs false

theorem eqFrac (p q a b : Int) (W : World) : (binOp .eql 37 (.agg #[.int .i64 p, .int .i64 q]) (.agg #[.int .i64 a, .int .i64 b])).run Tryd.prog W = .ok (.bool (decide (p = a ∧ q = b))) W := by
  rw [run_eql_struct]
  simp [go_sem]
  by_cases h1 : p = a <;> by_cases h2 : q = b <;> simp [h1, h2]
theorem eqFracSelf (p q : Int) (W : World) : (binOp .eql 37 (.agg #[.int .i64 p, .int .i64 q]) (.agg #[.int .i64 p, .int .i64 q])).run Tryd.prog W = .ok (.bool true) W := by
  rw [eqFrac]; simp
theorem eqTriSelf (x y z : Int) (W : World) : (binOp .eql 33 (.agg #[.int .i64 x, .int .i64 y, .int .i64 z]) (.agg #[.int .i64 x, .int .i64 y, .int .i64 z])).run Tryd.prog W = .ok (.bool true) W := by
  rw [eqA]; simp
theorem wrapI {a : Int} (h : -9223372036854775808 ≤ a ∧ a ≤ 9223372036854775807) : IntKind.i64.wrap a = a := by
  rw [IntKind.wrap_i64]; omega
def zeros2 : Value := .agg #[.int .i64 0, .int .i64 0]

set_option maxRecDepth 100000 in
set_option maxHeartbeats 1000000 in
theorem Bound_none (x : Int) (hx : 1 ≤ x ∧ x ≤ 1000000000) (hs : (propO x).isSome = false) (w : World) :
    Calls Tryd.prog 17 #[.int .i64 x] w fun e w' => e = .returned (.tuple #[zeros2, .int .i64 6]) ∧ Below w.heap.size w w' := by
  have K := Lib.hid fun W => within_yes x 1 1000000000 W hx
  have P := Lib.hid fun W => proper_any x hx W
  obtain ⟨a, b, c, hv⟩ := optV_agg' (propO x)
  rw [hv, hs] at P
  unfold zeros2
  clear hv hs
  go_enter Tryd.func17, Tryd.ntmps17
  go_wp2_with fail
  refine (K.out _).mono ?_
  rintro e w1 ⟨rfl, rfl⟩
  go_wp2_with fail
  refine (P.out _).mono ?_
  rintro e w1 ⟨rfl, hb1⟩
  have hR := (Whole.new w 37 #[.int .i64 0, .int .i64 0]).kept hb1
  have hbA := bl_then (bl_alloc (bl_refl w) (.cells #[.int .i64 0, .int .i64 0] 37)) hb1
  have r0 : w1.cell? ⟨w.heap.size, 0, none⟩ = some (.int .i64 0) := (hR.cell 0).trans rfl
  have r1 : w1.cell? ⟨w.heap.size, 1, none⟩ = some (.int .i64 0) := (hR.cell 1).trans rfl
  have f0 := hR.frozen 0
  have f1 := hR.frozen 1
  have hsz := hR.lt
  go_wp2_with fail
  exact bodyPost_ret (res_cell_tmp (g := w.heap.size) Tryd.results17 rfl ((((hR.set 0 _).set 1 _).alloc _).load Tryd.underlying37 rfl arr37f)) rfl ⟨rfl, bl_alloc (bl_set (bl_set hbA (by simp) _) (by simp) _) _⟩
set_option maxRecDepth 100000 in
theorem Bound_no (x : Int) (hx : ¬ (1 ≤ x ∧ x ≤ 1000000000)) (w : World) :
    Calls Tryd.prog 17 #[.int .i64 x] w fun e w' => e = .returned (.tuple #[zeros2, .int .i64 2]) ∧ Below w.heap.size w w' := by
  have K := Lib.hid fun W => within_no x 1 1000000000 W hx
  unfold zeros2
  clear hx
  go_enter Tryd.func17, Tryd.ntmps17
  go_wp2_with fail
  refine (K.out _).mono ?_
  rintro e w1 ⟨rfl, rfl⟩
  go_wp2_with fail
  exact bodyPost_ret (res_cell_tmp (g := w.heap.size) Tryd.results17 rfl ((Whole.new w 37 #[.int .i64 0, .int .i64 0]).load Tryd.underlying37 rfl arr37f)) rfl ⟨rfl, bl_alloc (bl_refl _) _⟩
set_option maxRecDepth 100000 in
set_option maxHeartbeats 2000000 in
theorem Bound_some (x : Int) (hx : 1 ≤ x ∧ x ≤ 1000000000) (hs : (propO x).isSome = true) (w : World) :
    Calls Tryd.prog 17 #[.int .i64 x] w fun e w' => e = .returned (.tuple #[bndV x, .int .i64 0]) ∧ Below w.heap.size w w' := by
  have K := Lib.hid fun W => within_yes x 1 1000000000 W hx
  have P := Lib.hid fun W => proper_any x hx W
  obtain ⟨a, b, c, hv⟩ := optV_agg' (propO x)
  rw [hv, hs] at P
  clear hv hs
  obtain ⟨h1, h2, h3, h4⟩ := bnd_range hx
  obtain ⟨g, hg⟩ : ∃ g : Int, g = bndG x := ⟨_, rfl⟩
  unfold bndV
  rw [← hg] at h4 ⊢
  have t1 : Int.tdiv (9 * x * x - 4) g = (9 * x * x - 4) / g := Int.tdiv_eq_ediv_of_nonneg (by omega)
  have t2 : Int.tdiv (x * x) g = x * x / g := Int.tdiv_eq_ediv_of_nonneg (by omega)
  have b1 : 0 ≤ (9 * x * x - 4) / g ∧ (9 * x * x - 4) / g ≤ 9 * x * x - 4 := ⟨Int.ediv_nonneg (by omega) (by omega), Int.ediv_le_self _ (by omega)⟩
  have b2 : 0 ≤ x * x / g ∧ x * x / g ≤ x * x := ⟨Int.ediv_nonneg (by omega) (by omega), Int.ediv_le_self _ (by omega)⟩
  have HG : Hid (g = Int.gcd (9 * x * x - 4) (x * x)) := hg
  clear hg
  go_enter Tryd.func17, Tryd.ntmps17
  go_wp2_with fail
  refine (K.out _).mono ?_
  rintro e w1 ⟨rfl, rfl⟩
  go_wp2_with fail
  refine (P.out _).mono ?_
  rintro e w1 ⟨rfl, hb1⟩
  have hR := ((Whole.new w 37 #[.int .i64 0, .int .i64 0]).kept hb1).alloc (.cells #[.int .i64 a, .int .i64 b, .int .i64 c] 56)
  have hbA := bl_alloc (bl_then (bl_alloc (bl_refl w) (.cells #[.int .i64 0, .int .i64 0] 37)) hb1) (.cells #[.int .i64 a, .int .i64 b, .int .i64 c] 56)
  go_wp2_with fail
  go_loopw [8, 9] (fun p q wr => ∃ a' b' : Int, p = .int .i64 a' ∧ q = .int .i64 b' ∧ 0 ≤ a' ∧ a' ≤ 9223372036854775807 ∧ 0 ≤ b' ∧ b' ≤ 9223372036854775807 ∧ Hid (g = Int.gcd a' b') ∧ Whole wr w.heap.size 37 #[.int .i64 0, .int .i64 0] ∧ Below w.heap.size w wr) (fun _ b _ => (intOf b).toNat)
  case atStart => exact ⟨_, _, rfl, rfl, by omega, by omega, by omega, by omega, HG, hR, hbA⟩
  case round =>
    obtain ⟨x', y, rfl, rfl, hx0, hx1, hy0, hy1, H, hR, hb⟩ := hrel
    have hsz := hR.lt
    by_cases h : 1 ≤ y
    · have h1 := Int.emod_nonneg x' (show y ≠ 0 by omega)
      have h2 := Int.emod_lt_of_pos x' (show 0 < y by omega)
      have HN : Hid (g = Int.gcd y (x' % y)) := H.out.trans (gcd_mod x' y).symm
      clear H
      go_wp2_with fail
      go_region
      all_goals
        go_wp2_with fail
        go_roundw
        case rel => exact ⟨_, _, rfl, rfl, by omega, by omega, h1, by omega, HN, hR.drewN 1, bl_drewN hb 1⟩
        case measure => simp [intOf]; omega
    · have hy : y = 0 := by omega
      subst hy
      have HN : g = x' := H.out.trans (by rw [Int.gcd_zero_right]; omega)
      subst HN
      clear H
      have r0 : wr.cell? ⟨w.heap.size, 0, none⟩ = some (.int .i64 0) := (hR.cell 0).trans rfl
      have r1 : wr.cell? ⟨w.heap.size, 1, none⟩ = some (.int .i64 0) := (hR.cell 1).trans rfl
      have f0 := hR.frozen 0
      have f1 := hR.frozen 1
      go_wp2_with fail
      go_region
      all_goals
        go_wp2_with fail
        exact bodyPost_ret (res_cell_tmp (g := w.heap.size) Tryd.results17 rfl ((((hR.drewN 1).set 0 _).set 1 _).load Tryd.underlying37 rfl arr37f)) rfl ⟨rfl, bl_set (bl_set (bl_drewN hb 1) (by simp) _) (by simp) _⟩

set_option maxRecDepth 100000 in
set_option maxHeartbeats 20000000 in
theorem CamberPropers_walk (n : Int) (w : World) (hwf : (Lit.int .i64 n).wf = true) (hF : FirstAt w) :
    Calls Tryd.prog 6 #[.int .i64 n] w fun e w' => e = .returned (.bool true) ∧ Below w.heap.size w w' := by
  clear hwf
  have AW := Lib.hid fun W h => awake_any W h
  have z3 := eqTriSelf 0 0 0
  have z2 := eqFracSelf 0 0
  by_cases hm : 1 ≤ n ∧ n ≤ 1000000000
  · have P := Lib.hid fun W => Proper_yes n hm W
    have Q := Lib.hid fun W => refProper_any n hm W
    cases hs : (propO n).isSome
    · have B := Lib.hid fun W => Bound_none n hm hs W
      rw [hs, propO_none hs] at P Q
      clear hs
      unfold zeros3 at P Q
      unfold zeros2 at B
      simp only [Bool.false_eq_true, if_false] at P
      obtain ⟨h1, h2⟩ := hm
      go_enter Tryd.func6, Tryd.ntmps6
      go_wp2_with fail
      refine (P.out _).mono ?_
      rintro e w1 ⟨rfl, hb1⟩
      have hF1 := (hF.kept hb1).kept (bl_alloc (bl_refl _) (.cells #[.int .i64 0, .int .i64 0, .int .i64 0] 33))
      have hbA := bl_alloc hb1 (.cells #[.int .i64 0, .int .i64 0, .int .i64 0] 33)
      have W1 := Whole.new w1 33 #[.int .i64 0, .int .i64 0, .int .i64 0]
      go_wp2_with fail
      refine (B.out _).mono ?_
      rintro e w2 ⟨rfl, hb2⟩
      have hF2 := (hF1.kept hb2).kept (bl_alloc (bl_refl _) (.cells #[.int .i64 0, .int .i64 0] 37))
      have hbB := bl_alloc (bl_then hbA hb2) (.cells #[.int .i64 0, .int .i64 0] 37)
      have W2 := (W1.kept hb2).alloc (.cells #[.int .i64 0, .int .i64 0] 37)
      have V2 := Whole.new w2 37 #[.int .i64 0, .int .i64 0]
      go_wp2_with fail
      refine (Q.out _).mono ?_
      rintro e w3 ⟨rfl, hb3⟩
      have hF3 := (hF2.kept hb3).kept (bl_alloc (bl_refl _) (.cells #[.int .i64 0, .int .i64 0, .int .i64 0] 33))
      have hbC := bl_alloc (bl_then hbB hb3) (.cells #[.int .i64 0, .int .i64 0, .int .i64 0] 33)
      have W3 := W2.kept hb3
      have V3 := V2.kept hb3
      have k0 : w3.cell? ⟨w1.heap.size, 0, none⟩ = some (.int .i64 0) := (W3.cell 0).trans rfl
      have k1 : w3.cell? ⟨w1.heap.size, 1, none⟩ = some (.int .i64 0) := (W3.cell 1).trans rfl
      have k2 : w3.cell? ⟨w1.heap.size, 2, none⟩ = some (.int .i64 0) := (W3.cell 2).trans rfl
      have m0 : w3.cell? ⟨w2.heap.size, 0, none⟩ = some (.int .i64 0) := (V3.cell 0).trans rfl
      have m1 : w3.cell? ⟨w2.heap.size, 1, none⟩ = some (.int .i64 0) := (V3.cell 1).trans rfl
      have s1 := W3.lt
      have s2 := V3.lt
      go_wp2_with fail
      refine (AW.out _ hF3).mono ?_
      rintro e w4 ⟨rfl, hb4⟩
      go_wp2_with fail
      go_ret
      exact ⟨rfl, bl_then hbC hb4⟩
    · have B := Lib.hid fun W => Bound_some n hm hs W
      obtain ⟨a, b, c, hv⟩ := optV_agg' (propO n)
      rw [hs, hv] at P Q
      clear hs hv
      have zp := eqTriSelf a b c
      have RR := Lib.hid fun W => refBound_any n hm W
      obtain ⟨x1, x2, x3, x4⟩ := bnd_range hm
      obtain ⟨u, v, hb⟩ : ∃ u v : Int, bndV n = .agg #[.int .i64 u, .int .i64 v] := ⟨_, _, rfl⟩
      rw [hb] at B RR
      clear hb
      have zb := eqFracSelf u v
      simp only [if_true] at P
      obtain ⟨h1, h2⟩ := hm
      have y1 := wrapI (a := 9 * n) (by omega)
      have y2 := wrapI (a := 9 * n * n) (by omega)
      have y3 := wrapI (a := 9 * n * n - 4) (by omega)
      have y4 := wrapI (a := n * n) (by omega)
      go_enter Tryd.func6, Tryd.ntmps6
      go_wp2_with fail
      refine (P.out _).mono ?_
      rintro e w1 ⟨rfl, hb1⟩
      have hF1 := (hF.kept hb1).kept (bl_alloc (bl_refl _) (.cells #[.int .i64 a, .int .i64 b, .int .i64 c] 33))
      have hbA := bl_alloc hb1 (.cells #[.int .i64 a, .int .i64 b, .int .i64 c] 33)
      have W1 := Whole.new w1 33 #[.int .i64 a, .int .i64 b, .int .i64 c]
      go_wp2_with fail
      refine (B.out _).mono ?_
      rintro e w2 ⟨rfl, hb2⟩
      have hF2 := (hF1.kept hb2).kept (bl_alloc (bl_refl _) (.cells #[.int .i64 u, .int .i64 v] 37))
      have hbB := bl_alloc (bl_then hbA hb2) (.cells #[.int .i64 u, .int .i64 v] 37)
      have W2 := (W1.kept hb2).alloc (.cells #[.int .i64 u, .int .i64 v] 37)
      have V2 := Whole.new w2 37 #[.int .i64 u, .int .i64 v]
      go_wp2_with fail
      refine (Q.out _).mono ?_
      rintro e w3 ⟨rfl, hb3⟩
      have hF3 := (hF2.kept hb3).kept (bl_alloc (bl_refl _) (.cells #[.int .i64 a, .int .i64 b, .int .i64 c] 33))
      have hbC := bl_alloc (bl_then hbB hb3) (.cells #[.int .i64 a, .int .i64 b, .int .i64 c] 33)
      have W3 := W2.kept hb3
      have V3 := V2.kept hb3
      have k0 : w3.cell? ⟨w1.heap.size, 0, none⟩ = some (.int .i64 a) := (W3.cell 0).trans rfl
      have k1 : w3.cell? ⟨w1.heap.size, 1, none⟩ = some (.int .i64 b) := (W3.cell 1).trans rfl
      have k2 : w3.cell? ⟨w1.heap.size, 2, none⟩ = some (.int .i64 c) := (W3.cell 2).trans rfl
      have m0 : w3.cell? ⟨w2.heap.size, 0, none⟩ = some (.int .i64 u) := (V3.cell 0).trans rfl
      have m1 : w3.cell? ⟨w2.heap.size, 1, none⟩ = some (.int .i64 v) := (V3.cell 1).trans rfl
      have s1 := W3.lt
      have s2 := V3.lt
      have V4 := V3.alloc (.cells #[.int .i64 a, .int .i64 b, .int .i64 c] 33)
      have W4 := W3.alloc (.cells #[.int .i64 a, .int .i64 b, .int .i64 c] 33)
      have X4 := Whole.new w3 33 #[.int .i64 a, .int .i64 b, .int .i64 c]
      go_wp2_with fail
      clear k0 k1 k2 m0 m1
      generalize w3.alloc (.cells #[.int .i64 a, .int .i64 b, .int .i64 c] 33) = w9 at *
      have HF := Lib.hid hF3
      have HB := Lib.hid hbC
      have k0 : w9.cell? ⟨w1.heap.size, 0, none⟩ = some (.int .i64 a) := (W4.cell 0).trans rfl
      have k1 : w9.cell? ⟨w1.heap.size, 1, none⟩ = some (.int .i64 b) := (W4.cell 1).trans rfl
      have k2 : w9.cell? ⟨w1.heap.size, 2, none⟩ = some (.int .i64 c) := (W4.cell 2).trans rfl
      have m0 : w9.cell? ⟨w2.heap.size, 0, none⟩ = some (.int .i64 u) := (V4.cell 0).trans rfl
      have m1 : w9.cell? ⟨w2.heap.size, 1, none⟩ = some (.int .i64 v) := (V4.cell 1).trans rfl
      have n0 : w9.cell? ⟨w3.heap.size, 0, none⟩ = some (.int .i64 a) := (X4.cell 0).trans rfl
      have n1 : w9.cell? ⟨w3.heap.size, 1, none⟩ = some (.int .i64 b) := (X4.cell 1).trans rfl
      have n2 : w9.cell? ⟨w3.heap.size, 2, none⟩ = some (.int .i64 c) := (X4.cell 2).trans rfl
      have HV := Lib.hid V4
      have HW4 := Lib.hid W4
      have HX4 := Lib.hid X4
      clear V4 W4 X4 hF3 hbC V3 W3 V2 W2 W1 hbA hbB hF1 hF2 hb1 hb2 hb3 hF s1 s2 B P Q
      go_region_held3 (fun X => X.cell? ⟨w1.heap.size, 0, none⟩ = some (.int .i64 a) ∧ X.cell? ⟨w1.heap.size, 1, none⟩ = some (.int .i64 b) ∧ X.cell? ⟨w1.heap.size, 2, none⟩ = some (.int .i64 c) ∧ X.cell? ⟨w2.heap.size, 0, none⟩ = some (.int .i64 u) ∧ X.cell? ⟨w2.heap.size, 1, none⟩ = some (.int .i64 v) ∧ X.cell? ⟨w3.heap.size, 0, none⟩ = some (.int .i64 a) ∧ X.cell? ⟨w3.heap.size, 1, none⟩ = some (.int .i64 b) ∧ X.cell? ⟨w3.heap.size, 2, none⟩ = some (.int .i64 c)) (first | exact ⟨k0, k1, k2, m0, m1, n0, n1, n2⟩ | exact ⟨i0, i1, i2, i3, i4, i5, i6, i7⟩ | exact ⟨j0, j1, j2, j3, j4, j5, j6, j7⟩ | go_keep)
        (first
        | (go_at_call 20; refine (RR.out _).mono ?_; rintro e w6 ⟨rfl, hb6⟩; have hF6 := HF.out.drew.kept hb6; have hbE := bl_then (bl_drewN HB.out 1) hb6; have V6 := (HV.out.drewN 1).kept hb6; have W6 := (HW4.out.drewN 1).kept hb6; have X6 := (HX4.out.drewN 1).kept hb6; have i0 : w6.cell? ⟨w1.heap.size, 0, none⟩ = some (.int .i64 a) := (W6.cell 0).trans rfl; have i1 : w6.cell? ⟨w1.heap.size, 1, none⟩ = some (.int .i64 b) := (W6.cell 1).trans rfl; have i2 : w6.cell? ⟨w1.heap.size, 2, none⟩ = some (.int .i64 c) := (W6.cell 2).trans rfl; have i3 : w6.cell? ⟨w2.heap.size, 0, none⟩ = some (.int .i64 u) := (V6.cell 0).trans rfl; have i4 : w6.cell? ⟨w2.heap.size, 1, none⟩ = some (.int .i64 v) := (V6.cell 1).trans rfl; have i5 : w6.cell? ⟨w3.heap.size, 0, none⟩ = some (.int .i64 a) := (X6.cell 0).trans rfl; have i6 : w6.cell? ⟨w3.heap.size, 1, none⟩ = some (.int .i64 b) := (X6.cell 1).trans rfl; have i7 : w6.cell? ⟨w3.heap.size, 2, none⟩ = some (.int .i64 c) := (X6.cell 2).trans rfl; skip)
        | (go_at_call 11; refine (AW.out _ hF6).mono ?_; rintro e w7 ⟨rfl, hb7⟩; have j0 := ((W6.kept hb7).cell 0).trans rfl; have j1 := ((W6.kept hb7).cell 1).trans rfl; have j2 := ((W6.kept hb7).cell 2).trans rfl; have j3 := ((V6.kept hb7).cell 0).trans rfl; have j4 := ((V6.kept hb7).cell 1).trans rfl; have j5 := ((X6.kept hb7).cell 0).trans rfl; have j6 := ((X6.kept hb7).cell 1).trans rfl; have j7 := ((X6.kept hb7).cell 2).trans rfl))
      all_goals
        go_wp2_with fail
        go_ret
        exact ⟨rfl, bl_then hbE hb7⟩
  · have P := Lib.hid fun W => Proper_no n hm W
    have B := Lib.hid fun W => Bound_no n hm W
    unfold zeros3 at P
    unfold zeros2 at B
    have h3 : ¬ (1 ≤ n ∧ n ≤ 1000000000) := hm
    by_cases h1 : 1 ≤ n
    · have h2 : 1000000000 < n := by omega
      clear hm h3
      go_enter Tryd.func6, Tryd.ntmps6
      go_wp2_with fail
      refine (P.out _).mono ?_
      rintro e w1 ⟨rfl, hb1⟩
      have hF1 := (hF.kept hb1).kept (bl_alloc (bl_refl _) (.cells #[.int .i64 0, .int .i64 0, .int .i64 0] 33))
      have hbA := bl_alloc hb1 (.cells #[.int .i64 0, .int .i64 0, .int .i64 0] 33)
      have W1 := Whole.new w1 33 #[.int .i64 0, .int .i64 0, .int .i64 0]
      go_wp2_with fail
      refine (B.out _).mono ?_
      rintro e w2 ⟨rfl, hb2⟩
      have hF2 := (hF1.kept hb2).kept (bl_alloc (bl_refl _) (.cells #[.int .i64 0, .int .i64 0] 37))
      have hbB := bl_alloc (bl_then hbA hb2) (.cells #[.int .i64 0, .int .i64 0] 37)
      have W2 := W1.kept hb2
      have k0 : w2.cell? ⟨w1.heap.size, 0, none⟩ = some (.int .i64 0) := (W2.cell 0).trans rfl
      have k1 : w2.cell? ⟨w1.heap.size, 1, none⟩ = some (.int .i64 0) := (W2.cell 1).trans rfl
      have k2 : w2.cell? ⟨w1.heap.size, 2, none⟩ = some (.int .i64 0) := (W2.cell 2).trans rfl
      have s1 := W2.lt
      go_wp2_with fail
      refine (AW.out _ hF2).mono ?_
      rintro e w4 ⟨rfl, hb4⟩
      go_wp2_with fail
      go_ret
      exact ⟨rfl, bl_then hbB hb4⟩
    · have h2 : n < 1 := by omega
      clear hm h3
      go_enter Tryd.func6, Tryd.ntmps6
      go_wp2_with fail
      refine (P.out _).mono ?_
      rintro e w1 ⟨rfl, hb1⟩
      have hF1 := (hF.kept hb1).kept (bl_alloc (bl_refl _) (.cells #[.int .i64 0, .int .i64 0, .int .i64 0] 33))
      have hbA := bl_alloc hb1 (.cells #[.int .i64 0, .int .i64 0, .int .i64 0] 33)
      have W1 := Whole.new w1 33 #[.int .i64 0, .int .i64 0, .int .i64 0]
      go_wp2_with fail
      refine (B.out _).mono ?_
      rintro e w2 ⟨rfl, hb2⟩
      have hF2 := (hF1.kept hb2).kept (bl_alloc (bl_refl _) (.cells #[.int .i64 0, .int .i64 0] 37))
      have hbB := bl_alloc (bl_then hbA hb2) (.cells #[.int .i64 0, .int .i64 0] 37)
      have W2 := W1.kept hb2
      have k0 : w2.cell? ⟨w1.heap.size, 0, none⟩ = some (.int .i64 0) := (W2.cell 0).trans rfl
      have k1 : w2.cell? ⟨w1.heap.size, 1, none⟩ = some (.int .i64 0) := (W2.cell 1).trans rfl
      have k2 : w2.cell? ⟨w1.heap.size, 2, none⟩ = some (.int .i64 0) := (W2.cell 2).trans rfl
      have s1 := W2.lt
      go_wp2_with fail
      refine (AW.out _ hF2).mono ?_
      rintro e w4 ⟨rfl, hb4⟩
      go_wp2_with fail
      go_ret
      exact ⟨rfl, bl_then hbB hb4⟩
end Go.Proofs.YtpmamdadcmcbeaaDoor
