/-
  Proper, Bound, and the reference's fraction in lowest terms.
-/
import Derived.Test.YtpmamdadcmcbeaaDoorW72
import Derived.Test.YtpmamdadcmcbeaaDoorW32
namespace Go.Proofs.YtpmamdadcmcbeaaDoor
open Go.RowKit Go.Sort Cam
set_option linter.unusedVariables false
set_option linter.unusedSimpArgs false

theorem arr37f : (Tryd.prog.info? 37).map (·.size) = some 2 := by kernel_rfl
theorem optV_agg' (o : Option T3) : ∃ x y z : Int, optV o = .agg #[.int .i64 x, .int .i64 y, .int .i64 z] := by
  cases o with
  | none => exact ⟨0, 0, 0, rfl⟩
  | some t => exact ⟨t.1, t.2.1, t.2.2, rfl⟩
theorem propO_none {x : Int} (h : (propO x).isSome = false) : optV (propO x) = zeros3 := by
  cases h' : propO x with
  | none => rfl
  | some t => rw [h'] at h; cases h

set_option maxRecDepth 100000 in
theorem Proper_yes (x : Int) (hx : 1 ≤ x ∧ x ≤ 1000000000) (w : World) :
    Calls Tryd.prog 18 #[.int .i64 x] w fun e w' => e = .returned (.tuple #[optV (propO x), .int .i64 (if (propO x).isSome then 0 else 6)]) ∧ Below w.heap.size w w' := by
  have K := Lib.hid fun W => within_yes x 1 1000000000 W hx
  have P := Lib.hid fun W => proper_any x hx W
  have hz := propO_none (x := x)
  obtain ⟨a, b, c, hv⟩ := optV_agg' (propO x)
  rw [hv] at P hz ⊢
  generalize (propO x).isSome = ok at *
  clear hv
  cases ok
  · have he := hz rfl
    unfold zeros3 at he
    simp only [Value.agg.injEq, Array.mk.injEq, List.cons.injEq, Value.int.injEq, true_and, and_true] at he
    obtain ⟨rfl, rfl, rfl⟩ := he
    clear hz
    simp only [Bool.false_eq_true, if_false]
    go_enter Tryd.func18, Tryd.ntmps18
    go_wp2_with fail
    refine (K.out _).mono ?_
    rintro e w1 ⟨rfl, rfl⟩
    go_wp2_with fail
    refine (P.out _).mono ?_
    rintro e w1 ⟨rfl, hb1⟩
    have hR := (Whole.new w 33 #[.int .i64 0, .int .i64 0, .int .i64 0]).kept hb1
    have hbA := bl_then (bl_alloc (bl_refl w) (.cells #[.int .i64 0, .int .i64 0, .int .i64 0] 33)) hb1
    have r0 : w1.cell? ⟨w.heap.size, 0, none⟩ = some (.int .i64 0) := (hR.cell 0).trans rfl
    have r1 : w1.cell? ⟨w.heap.size, 1, none⟩ = some (.int .i64 0) := (hR.cell 1).trans rfl
    have r2 : w1.cell? ⟨w.heap.size, 2, none⟩ = some (.int .i64 0) := (hR.cell 2).trans rfl
    have f0 := hR.frozen 0
    have f1 := hR.frozen 1
    have f2 := hR.frozen 2
    have hsz := hR.lt
    go_wp2_with fail
    exact bodyPost_ret (res_cell_tmp (g := w.heap.size) Tryd.results18 rfl (((((hR.set 0 _).set 1 _).set 2 _).alloc _).load Tryd.underlying33 rfl arr33)) rfl ⟨rfl, bl_alloc (bl_set (bl_set (bl_set hbA (by simp) _) (by simp) _) (by simp) _) _⟩
  · clear hz
    simp only [if_true]
    go_enter Tryd.func18, Tryd.ntmps18
    go_wp2_with fail
    refine (K.out _).mono ?_
    rintro e w1 ⟨rfl, rfl⟩
    go_wp2_with fail
    refine (P.out _).mono ?_
    rintro e w1 ⟨rfl, hb1⟩
    have hR := (Whole.new w 33 #[.int .i64 0, .int .i64 0, .int .i64 0]).kept hb1
    have hbA := bl_then (bl_alloc (bl_refl w) (.cells #[.int .i64 0, .int .i64 0, .int .i64 0] 33)) hb1
    have r0 : w1.cell? ⟨w.heap.size, 0, none⟩ = some (.int .i64 0) := (hR.cell 0).trans rfl
    have r1 : w1.cell? ⟨w.heap.size, 1, none⟩ = some (.int .i64 0) := (hR.cell 1).trans rfl
    have r2 : w1.cell? ⟨w.heap.size, 2, none⟩ = some (.int .i64 0) := (hR.cell 2).trans rfl
    have f0 := hR.frozen 0
    have f1 := hR.frozen 1
    have f2 := hR.frozen 2
    have hsz := hR.lt
    go_wp2_with fail
    exact bodyPost_ret (res_cell_tmp (g := w.heap.size) Tryd.results18 rfl (((((hR.set 0 _).set 1 _).set 2 _).alloc _).load Tryd.underlying33 rfl arr33)) rfl ⟨rfl, bl_alloc (bl_set (bl_set (bl_set hbA (by simp) _) (by simp) _) (by simp) _) _⟩
set_option maxRecDepth 100000 in
theorem Proper_no (x : Int) (hx : ¬ (1 ≤ x ∧ x ≤ 1000000000)) (w : World) :
    Calls Tryd.prog 18 #[.int .i64 x] w fun e w' => e = .returned (.tuple #[zeros3, .int .i64 2]) ∧ Below w.heap.size w w' := by
  have K := Lib.hid fun W => within_no x 1 1000000000 W hx
  unfold zeros3
  clear hx
  go_enter Tryd.func18, Tryd.ntmps18
  go_wp2_with fail
  refine (K.out _).mono ?_
  rintro e w1 ⟨rfl, rfl⟩
  go_wp2_with fail
  exact bodyPost_ret (res_cell_tmp (g := w.heap.size) Tryd.results18 rfl ((Whole.new w 33 #[.int .i64 0, .int .i64 0, .int .i64 0]).load Tryd.underlying33 rfl arr33)) rfl ⟨rfl, bl_alloc (bl_refl _) _⟩

/-- The fraction of Bound. -/
def bndG (x : Int) : Int := Int.gcd (9 * x * x - 4) (x * x)
theorem bnd_range {x : Int} (hx : 1 ≤ x ∧ x ≤ 1000000000) : (5 ≤ 9 * x * x - 4 ∧ 9 * x * x - 4 ≤ 9000000000000000000) ∧ (1 ≤ x * x ∧ x * x ≤ 1000000000000000000) ∧ (1 ≤ 9 * x ∧ 9 * x ≤ 9000000000) ∧ 1 ≤ bndG x ∧ bndG x ≤ 1000000000000000000 := by
  have h1 : 1 ≤ x * x := by have := Int.mul_le_mul hx.1 hx.1 (by omega) (by omega); omega
  have h2 : x * x ≤ 1000000000 * 1000000000 := Int.mul_le_mul hx.2 hx.2 (by omega) (by omega)
  have e : 9 * x * x = 9 * (x * x) := by grind
  have hg : ((Int.gcd (9 * x * x - 4) (x * x) : Nat) : Int) ∣ x * x := Int.gcd_dvd_right _ _
  have hg0 : 0 < Int.gcd (9 * x * x - 4) (x * x) := Int.gcd_pos_of_ne_zero_right _ (by omega)
  have hg1 := Int.le_of_dvd (by omega) hg
  refine ⟨⟨by omega, by omega⟩, ⟨h1, by omega⟩, by omega, ?_, ?_⟩ <;> unfold bndG <;> omega
def bndV (x : Int) : Value := .agg #[.int .i64 ((9 * x * x - 4) / bndG x), .int .i64 (x * x / bndG x)]

set_option maxRecDepth 100000 in
theorem refBound_any (x : Int) (hx : 1 ≤ x ∧ x ≤ 1000000000) (w : World) :
    Calls Tryd.prog 20 #[.int .i64 (9 * x * x - 4), .int .i64 (x * x)] w fun e w' => e = .returned (bndV x) ∧ Below w.heap.size w w' := by
  obtain ⟨h1, h2, h3, h4⟩ := bnd_range hx
  have G := Lib.hid fun W => Gcd_any (9 * x * x - 4) (x * x) W (by omega) (by omega)
  unfold bndV
  rw [show ((Int.gcd (9 * x * x - 4) (x * x) : Nat) : Int) = bndG x from rfl] at G
  generalize bndG x = g at *
  generalize 9 * x * x - 4 = p at *
  generalize x * x = q at *
  have t1 : Int.tdiv p g = p / g := Int.tdiv_eq_ediv_of_nonneg (by omega)
  have t2 : Int.tdiv q g = q / g := Int.tdiv_eq_ediv_of_nonneg (by omega)
  have b1 : 0 ≤ p / g ∧ p / g ≤ p := ⟨Int.ediv_nonneg (by omega) (by omega), Int.ediv_le_self _ (by omega)⟩
  have b2 : 0 ≤ q / g ∧ q / g ≤ q := ⟨Int.ediv_nonneg (by omega) (by omega), Int.ediv_le_self _ (by omega)⟩
  go_enter Tryd.func20, Tryd.ntmps20
  go_wp2_with fail
  refine (G.out _).mono ?_
  rintro e w1 ⟨rfl, rfl⟩
  go_wp2_with fail
  go_region
  all_goals
    go_wp2_with fail
    exact bodyPost_ret (res_cell (g := w.heap.size) Tryd.results20 rfl (((Whole.new w 37 #[.int .i64 (p / g), .int .i64 (q / g)]).drewN 1).load Tryd.underlying37 rfl arr37f)) rfl ⟨rfl, bl_drewN (bl_alloc (bl_refl _) _) 1⟩
end Go.Proofs.YtpmamdadcmcbeaaDoor
