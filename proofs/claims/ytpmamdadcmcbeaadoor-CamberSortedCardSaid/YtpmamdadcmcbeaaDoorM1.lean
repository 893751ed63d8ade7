/-
  Several texts in one: XW35, XLib6, XW72, XW73, XW74, XW75, XW76.
-/
import Derived.Test.YtpmamdadcmcbeaaDoorW31
import Derived.Test.YtpmamdadcmcbeaaDoorW16
import Derived.Test.YtpmamdadcmcbeaaDoorLib5
import Derived.BigQuiet
import Derived.Test.YtpmamdadcmcbeaaDoorW71
import Derived.Test.YtpmamdadcmcbeaaDoorW32
import Derived.StillTailTactics
namespace Go.Proofs.YtpmamdadcmcbeaaDoor
open Go.RowKit Go.Sort Cam
set_option linter.unusedVariables false
set_option linter.unusedSimpArgs false

theorem mod_any (x n : Int) (w : World) (hx : (Lit.int .i64 x).wf = true) (hn : 1 ≤ n ∧ n ≤ 1000000000000) :
    Calls Tryd.prog 21 #[.int .i64 x, .int .i64 n] w fun e w' => (∃ r : Int, 0 ≤ r ∧ r < n ∧ e = .returned (.int .i64 r)) ∧ w = w' := by
  have h0 : 0 ≤ IntKind.u64.wrap x := by rw [IntKind.wrap_u64]; omega
  have hm : (IntKind.u64.wrap x).tmod n = IntKind.u64.wrap x % n := Int.tmod_eq_emod_of_nonneg h0
  have h1 := Int.emod_nonneg (IntKind.u64.wrap x) (show n ≠ 0 by omega)
  have h2 := Int.emod_lt_of_pos (IntKind.u64.wrap x) (show 0 < n by omega)
  have hw : wrap64 ((IntKind.u64.wrap x).tmod n) = IntKind.u64.wrap x % n := by
    rw [hm]
    generalize IntKind.u64.wrap x % n = r at *
    unfold wrap64; omega
  go_enter Tryd.func21, Tryd.ntmps21
  go_wp2
  go_ret
  exact ⟨⟨_, h1, h2, by rw [← hw]; rfl⟩, rfl⟩

abbrev Post (w : World) := fun (e : Ending) (w' : World) => e = .returned (.bool true) ∧ Below w.heap.size w w'
end Go.Proofs.YtpmamdadcmcbeaaDoor

namespace Go.RowKit
open Go
structure Cls (C0 : World → Prop) where
  w : World
  h : C0 w
theorem wp_region_class {P : Program} {id : Nat} {Q : Exit → Act → World → Prop} {a : Act} {w : World} {l : List Oper} (C0 : World → Prop) (hC : C0 w.drew) (hm : P.follows .mixedOrders = true) (hB : Region.lexB .any l.toArray = true)
    (h : wpQuiet P l.toArray (fun w' => ∃ s : Cls C0, w' = s.w) (fun a' => ∀ w', (∃ s : Cls C0, w' = s.w) → Q .normal a' w') l a) : (Code.region id l.toArray true).wp P Q a w :=
  wp_region_quiet (C := fun w' => ∃ s : Cls C0, w' = s.w) hm hB ⟨⟨_, hC⟩, rfl⟩ (by simpa using h)
end Go.RowKit

namespace Go.Proofs.YtpmamdadcmcbeaaDoor
open Go.RowKit Go.Sort Cam
set_option linter.unusedVariables false
set_option linter.unusedSimpArgs false

theorem find_at {p : T3' → Bool} : ∀ (ts : List T3') (k : Nat) (hk : k < ts.length), (∀ j (h : j < ts.length), j < k → p ts[j] = false) → p ts[k] = true → ts.find? p = some ts[k]
  | [], k, hk, _, _ => by cases hk
  | a :: l, 0, hk, _, h => by simp [List.find?_cons, show p a = true from h]
  | a :: l, k + 1, hk, hn, h => by
    have h0 : p a = false := hn 0 (by simp) (by omega)
    rw [List.find?_cons, h0]
    exact find_at l k (by simpa using hk) (fun j hj hjk => hn (j + 1) (by simpa using hj) (by omega)) h
theorem find_none {p : T3' → Bool} : ∀ (ts : List T3'), (∀ j (h : j < ts.length), p ts[j] = false) → ts.find? p = none
  | [], _ => rfl
  | a :: l, h => by
    have h0 : p a = false := h 0 (by simp)
    rw [List.find?_cons, h0]
    exact find_none l fun j hj => h (j + 1) (by simpa using hj)
/-- The solution whose greatest number is x. -/
def propO (x : Int) : Option T3' := (upTo x).find? fun t => decide (t.2.2 = x)
theorem arr56 : (Tryd.prog.info? 56).map (·.size) = some 3 := by kernel_rfl
theorem arr33 : (Tryd.prog.info? 33).map (·.size) = some 3 := by kernel_rfl

set_option maxRecDepth 100000 in
set_option maxHeartbeats 1000000 in
theorem proper_any (x : Int) (hx : 1 ≤ x ∧ x ≤ 1000000000) (w : World) :
    Calls Tryd.prog 39 #[.int .i64 x] w fun e w' => e = .returned (.tuple #[optV (propO x), .bool (propO x).isSome]) ∧ Below w.heap.size w w' := by
  have A := Lib.hid fun W => all_any x hx W
  obtain ⟨hn1, hn2⟩ := upTo_len hx.1
  have HP : Hid (propO x = (upTo x).find? fun t => decide (t.2.2 = x)) := rfl
  generalize propO x = V at *
  generalize upTo x = ts at *
  go_enter Tryd.func39, Tryd.ntmps39
  go_wp2_with fail
  refine (A.out _).mono ?_
  rintro e w1 ⟨v, rfl, hown, hb1⟩
  obtain ⟨g, cap, rfl, hg0, _⟩ := own_form hown (by omega)
  have hR := (Whole.new w 56 #[.int .i64 0, .int .i64 0, .int .i64 0]).kept hb1
  have hbA := bl_then (bl_alloc (bl_refl w) (.cells #[.int .i64 0, .int .i64 0, .int .i64 0] 56)) hb1
  go_wp2_with fail
  obtain ⟨N, hN⟩ : ∃ N, N = ts.length := ⟨_, rfl⟩
  have HN := Lib.hid hN
  rw [← hN] at hown hn1 hn2 ⊢
  clear hN
  go_loopw [9] (fun i wr => ∃ k : Nat, k ≤ N ∧ i = .int .i64 k ∧ Hid (∀ j (h : j < ts.length), j < k → decide (ts[j].2.2 = x) = false) ∧ Whole wr w.heap.size 56 #[.int .i64 0, .int .i64 0, .int .i64 0] ∧ Hid (RowT wr (.slice (some ⟨g, 0, none⟩) N cap) ts) ∧ Below w.heap.size w wr) (fun i _ => N - (intOf i).toNat)
  case atStart => exact ⟨0, Nat.zero_le _, rfl, fun j h k => absurd k (Nat.not_lt_zero _), hR, by rw [HN.out] at hown ⊢; exact rowT_own hown, hbA⟩
  case round =>
    obtain ⟨k, hk, rfl, HQ, hR, HR, hb⟩ := hrel
    have r0 : wr.cell? ⟨w.heap.size, 0, none⟩ = some (.int .i64 0) := (hR.cell 0).trans rfl
    have r1 : wr.cell? ⟨w.heap.size, 1, none⟩ = some (.int .i64 0) := (hR.cell 1).trans rfl
    have r2 : wr.cell? ⟨w.heap.size, 2, none⟩ = some (.int .i64 0) := (hR.cell 2).trans rfl
    have f0 := hR.frozen 0
    have f1 := hR.frozen 1
    have f2 := hR.frozen 2
    have hsz := hR.lt
    by_cases hlt : k < N
    · have hk1 : k < ts.length := by have := HN.out; omega
      obtain ⟨c0, c1, c2⟩ := (RowT.cellsAt (n := N) (cap := cap) HR.out).2 k hk1
      have hgl := (RowT.cellsAt (n := N) (cap := cap) HR.out).1
      obtain ⟨⟨p, q, r⟩, hc⟩ : ∃ c, c = ts[k] := ⟨_, rfl⟩
      rw [← hc] at c0 c1 c2
      simp only at c0 c1 c2
      by_cases hr : r = x
      · have HV : Hid (V = some (p, q, r)) := by
          show _ = _
          rw [HP.out, find_at ts k hk1 HQ.out (by rw [← hc]; simp [hr]), hc]
        have hr1 : (r == x) = true := by simp [hr]
        have HE := Lib.hid hr
        clear hr hc
        go_wp2_with fail
        exact bodyPost_ret (res_cell_tmp (g := w.heap.size) Tryd.results39 rfl (((((hR.set 0 _).set 1 _).set 2 _).alloc _).load Tryd.underlying56 rfl arr56)) rfl ⟨by rw [HV.out]; rfl, bl_alloc (bl_set (bl_set (bl_set hb (by simp) _) (by simp) _) (by simp) _) _⟩
      · have hr1 : (r == x) = false := by simp [hr]
        have HQ2 : Hid (∀ j (h : j < ts.length), j < k + 1 → decide (ts[j].2.2 = x) = false) := by
          intro j h hj
          rcases Nat.lt_or_ge j k with h1 | h1
          · exact HQ.out j h h1
          · obtain rfl : j = k := by omega
            rw [← hc]; simp [hr]
        clear hr hc HQ
        go_wp2_with fail
        go_roundw
        case rel => exact ⟨k + 1, by omega, by go_num, HQ2, hR.alloc _, Lib.hid (HR.out.kept (bl_alloc (bl_refl _) _)), bl_alloc hb _⟩
        case measure => simp [intOf]; omega
    · have HV : Hid (V = none) := by
        show _ = _
        rw [HP.out, find_none ts fun j h => HQ.out j h (by have := HN.out; omega)]
      clear HQ
      go_wp2_with fail
      exact bodyPost_ret (res_cell_tmp (g := w.heap.size) Tryd.results39 rfl ((((hR.set 0 _).set 1 _).set 2 _).load Tryd.underlying56 rfl arr56)) rfl ⟨by rw [HV.out]; rfl, bl_set (bl_set (bl_set hb (by simp) _) (by simp) _) (by simp) _⟩

set_option maxRecDepth 100000 in
set_option maxHeartbeats 1000000 in
theorem refProper_any (x : Int) (hx : 1 ≤ x ∧ x ≤ 1000000000) (w : World) :
    Calls Tryd.prog 19 #[.int .i64 x] w fun e w' => e = .returned (.tuple #[optV (propO x), .bool (propO x).isSome]) ∧ Below w.heap.size w w' := by
  have A := Lib.hid fun W => refAll_any x W hx
  obtain ⟨hn1, hn2⟩ := upTo_len hx.1
  have HP : Hid (propO x = (upTo x).find? fun t => decide (t.2.2 = x)) := rfl
  generalize propO x = V at *
  generalize upTo x = ts at *
  go_enter Tryd.func19, Tryd.ntmps19
  go_wp2_with fail
  refine (A.out _).mono ?_
  rintro e w1 ⟨v, rfl, hrow, hb1⟩
  obtain ⟨g, cap, rfl⟩ : ∃ g cap, v = .slice (some ⟨g, 0, none⟩) ts.length cap := by
    rcases hrow with ⟨_, h0⟩ | ⟨g, cap, h, _⟩
    · rw [h0] at hn1; simp at hn1
    · exact ⟨g, cap, h⟩
  have hR := (Whole.new w 33 #[.int .i64 0, .int .i64 0, .int .i64 0]).kept hb1
  have hbA := bl_then (bl_alloc (bl_refl w) (.cells #[.int .i64 0, .int .i64 0, .int .i64 0] 33)) hb1
  have HR0 := Lib.hid hrow
  clear hrow
  go_wp2_with fail
  obtain ⟨N, hN⟩ : ∃ N, N = ts.length := ⟨_, rfl⟩
  have HN := Lib.hid hN
  rw [← hN] at HR0 hn1 hn2 ⊢
  clear hN
  go_loopw [5] (fun i wr => ∃ k : Nat, k ≤ N ∧ i = .int .i64 k ∧ Hid (∀ j (h : j < ts.length), j < k → decide (ts[j].2.2 = x) = false) ∧ Whole wr w.heap.size 33 #[.int .i64 0, .int .i64 0, .int .i64 0] ∧ Hid (RowT wr (.slice (some ⟨g, 0, none⟩) N cap) ts) ∧ Below w.heap.size w wr) (fun i _ => N - (intOf i).toNat)
  case atStart => exact ⟨0, Nat.zero_le _, rfl, fun j h k => absurd k (Nat.not_lt_zero _), hR, HR0, hbA⟩
  case round =>
    obtain ⟨k, hk, rfl, HQ, hR, HR, hb⟩ := hrel
    have r0 : wr.cell? ⟨w.heap.size, 0, none⟩ = some (.int .i64 0) := (hR.cell 0).trans rfl
    have r1 : wr.cell? ⟨w.heap.size, 1, none⟩ = some (.int .i64 0) := (hR.cell 1).trans rfl
    have r2 : wr.cell? ⟨w.heap.size, 2, none⟩ = some (.int .i64 0) := (hR.cell 2).trans rfl
    have f0 := hR.frozen 0
    have f1 := hR.frozen 1
    have f2 := hR.frozen 2
    have hsz := hR.lt
    by_cases hlt : k < N
    · have hk1 : k < ts.length := by have := HN.out; omega
      obtain ⟨c0, c1, c2⟩ := (RowT.cellsAt (n := N) (cap := cap) HR.out).2 k hk1
      have hgl := (RowT.cellsAt (n := N) (cap := cap) HR.out).1
      obtain ⟨⟨p, q, r⟩, hc⟩ : ∃ c, c = ts[k] := ⟨_, rfl⟩
      rw [← hc] at c0 c1 c2
      simp only at c0 c1 c2
      by_cases hr : r = x
      · have HV : Hid (V = some (p, q, r)) := by
          show _ = _
          rw [HP.out, find_at ts k hk1 HQ.out (by rw [← hc]; simp [hr]), hc]
        have hr1 : (r == x) = true := by simp [hr]
        have HE := Lib.hid hr
        clear hr hc
        go_wp2_with fail
        exact bodyPost_ret (res_cell_tmp (g := w.heap.size) Tryd.results19 rfl ((((hR.set 0 _).set 1 _).set 2 _).load Tryd.underlying33 rfl arr33)) rfl ⟨by rw [HV.out]; rfl, bl_set (bl_set (bl_set hb (by simp) _) (by simp) _) (by simp) _⟩
      · have hr1 : (r == x) = false := by simp [hr]
        have HQ2 : Hid (∀ j (h : j < ts.length), j < k + 1 → decide (ts[j].2.2 = x) = false) := by
          intro j h hj
          rcases Nat.lt_or_ge j k with h1 | h1
          · exact HQ.out j h h1
          · obtain rfl : j = k := by omega
            rw [← hc]; simp [hr]
        clear hr hc HQ
        go_wp2_with fail
        go_roundw
        case rel => exact ⟨k + 1, by omega, by go_num, HQ2, hR, HR, hb⟩
        case measure => simp [intOf]; omega
    · have HV : Hid (V = none) := by
        show _ = _
        rw [HP.out, find_none ts fun j h => HQ.out j h (by have := HN.out; omega)]
      clear HQ
      go_wp2_with fail
      exact bodyPost_ret (res_cell_tmp (g := w.heap.size) Tryd.results19 rfl ((((hR.set 0 _).set 1 _).set 2 _).load Tryd.underlying33 rfl arr33)) rfl ⟨by rw [HV.out]; rfl, bl_set (bl_set (bl_set hb (by simp) _) (by simp) _) (by simp) _⟩
end Go.Proofs.YtpmamdadcmcbeaaDoor

namespace Go.Proofs.YtpmamdadcmcbeaaDoor
open Go.RowKit Go.Sort Cam
set_option linter.unusedVariables false
set_option linter.unusedSimpArgs false

theorem arr37f : (Tryd.prog.info? 37).map (·.size) = some 2 := by kernel_rfl
theorem optV_agg' (o : Option T3) : ∃ x y z : Int, optV o = .agg #[.int .i64 x, .int .i64 y, .int .i64 z] := by
  cases o with
  | none => exact ⟨0, 0, 0, rfl⟩
  | some t => exact ⟨t.1, t.2.1, t.2.2, rfl⟩
theorem propO_none {x : Int} (h : (propO x).isSome = false) : optV (propO x) = zeros3 := by
  cases h' : propO x with
  | none => rfl
  | some t => rw [h'] at h; cases h

set_option maxRecDepth 100000 in
theorem Proper_yes (x : Int) (hx : 1 ≤ x ∧ x ≤ 1000000000) (w : World) :
    Calls Tryd.prog 18 #[.int .i64 x] w fun e w' => e = .returned (.tuple #[optV (propO x), .int .i64 (if (propO x).isSome then 0 else 6)]) ∧ Below w.heap.size w w' := by
  have K := Lib.hid fun W => within_yes x 1 1000000000 W hx
  have P := Lib.hid fun W => proper_any x hx W
  have hz := propO_none (x := x)
  obtain ⟨a, b, c, hv⟩ := optV_agg' (propO x)
  rw [hv] at P hz ⊢
  generalize (propO x).isSome = ok at *
  clear hv
  cases ok
  · have he := hz rfl
    unfold zeros3 at he
    simp only [Value.agg.injEq, Array.mk.injEq, List.cons.injEq, Value.int.injEq, true_and, and_true] at he
    obtain ⟨rfl, rfl, rfl⟩ := he
    clear hz
    simp only [Bool.false_eq_true, if_false]
    go_enter Tryd.func18, Tryd.ntmps18
    go_wp2_with fail
    refine (K.out _).mono ?_
    rintro e w1 ⟨rfl, rfl⟩
    go_wp2_with fail
    refine (P.out _).mono ?_
    rintro e w1 ⟨rfl, hb1⟩
    have hR := (Whole.new w 33 #[.int .i64 0, .int .i64 0, .int .i64 0]).kept hb1
    have hbA := bl_then (bl_alloc (bl_refl w) (.cells #[.int .i64 0, .int .i64 0, .int .i64 0] 33)) hb1
    have r0 : w1.cell? ⟨w.heap.size, 0, none⟩ = some (.int .i64 0) := (hR.cell 0).trans rfl
    have r1 : w1.cell? ⟨w.heap.size, 1, none⟩ = some (.int .i64 0) := (hR.cell 1).trans rfl
    have r2 : w1.cell? ⟨w.heap.size, 2, none⟩ = some (.int .i64 0) := (hR.cell 2).trans rfl
    have f0 := hR.frozen 0
    have f1 := hR.frozen 1
    have f2 := hR.frozen 2
    have hsz := hR.lt
    go_wp2_with fail
    exact bodyPost_ret (res_cell_tmp (g := w.heap.size) Tryd.results18 rfl (((((hR.set 0 _).set 1 _).set 2 _).alloc _).load Tryd.underlying33 rfl arr33)) rfl ⟨rfl, bl_alloc (bl_set (bl_set (bl_set hbA (by simp) _) (by simp) _) (by simp) _) _⟩
  · clear hz
    simp only [if_true]
    go_enter Tryd.func18, Tryd.ntmps18
    go_wp2_with fail
    refine (K.out _).mono ?_
    rintro e w1 ⟨rfl, rfl⟩
    go_wp2_with fail
    refine (P.out _).mono ?_
    rintro e w1 ⟨rfl, hb1⟩
    have hR := (Whole.new w 33 #[.int .i64 0, .int .i64 0, .int .i64 0]).kept hb1
    have hbA := bl_then (bl_alloc (bl_refl w) (.cells #[.int .i64 0, .int .i64 0, .int .i64 0] 33)) hb1
    have r0 : w1.cell? ⟨w.heap.size, 0, none⟩ = some (.int .i64 0) := (hR.cell 0).trans rfl
    have r1 : w1.cell? ⟨w.heap.size, 1, none⟩ = some (.int .i64 0) := (hR.cell 1).trans rfl
    have r2 : w1.cell? ⟨w.heap.size, 2, none⟩ = some (.int .i64 0) := (hR.cell 2).trans rfl
    have f0 := hR.frozen 0
    have f1 := hR.frozen 1
    have f2 := hR.frozen 2
    have hsz := hR.lt
    go_wp2_with fail
    exact bodyPost_ret (res_cell_tmp (g := w.heap.size) Tryd.results18 rfl (((((hR.set 0 _).set 1 _).set 2 _).alloc _).load Tryd.underlying33 rfl arr33)) rfl ⟨rfl, bl_alloc (bl_set (bl_set (bl_set hbA (by simp) _) (by simp) _) (by simp) _) _⟩
set_option maxRecDepth 100000 in
theorem Proper_no (x : Int) (hx : ¬ (1 ≤ x ∧ x ≤ 1000000000)) (w : World) :
    Calls Tryd.prog 18 #[.int .i64 x] w fun e w' => e = .returned (.tuple #[zeros3, .int .i64 2]) ∧ Below w.heap.size w w' := by
  have K := Lib.hid fun W => within_no x 1 1000000000 W hx
  unfold zeros3
  clear hx
  go_enter Tryd.func18, Tryd.ntmps18
  go_wp2_with fail
  refine (K.out _).mono ?_
  rintro e w1 ⟨rfl, rfl⟩
  go_wp2_with fail
  exact bodyPost_ret (res_cell_tmp (g := w.heap.size) Tryd.results18 rfl ((Whole.new w 33 #[.int .i64 0, .int .i64 0, .int .i64 0]).load Tryd.underlying33 rfl arr33)) rfl ⟨rfl, bl_alloc (bl_refl _) _⟩

/-- The fraction of Bound. -/
def bndG (x : Int) : Int := Int.gcd (9 * x * x - 4) (x * x)
theorem bnd_range {x : Int} (hx : 1 ≤ x ∧ x ≤ 1000000000) : (5 ≤ 9 * x * x - 4 ∧ 9 * x * x - 4 ≤ 9000000000000000000) ∧ (1 ≤ x * x ∧ x * x ≤ 1000000000000000000) ∧ (1 ≤ 9 * x ∧ 9 * x ≤ 9000000000) ∧ 1 ≤ bndG x ∧ bndG x ≤ 1000000000000000000 := by
  have h1 : 1 ≤ x * x := by have := Int.mul_le_mul hx.1 hx.1 (by omega) (by omega); omega
  have h2 : x * x ≤ 1000000000 * 1000000000 := Int.mul_le_mul hx.2 hx.2 (by omega) (by omega)
  have e : 9 * x * x = 9 * (x * x) := by grind
  have hg : ((Int.gcd (9 * x * x - 4) (x * x) : Nat) : Int) ∣ x * x := Int.gcd_dvd_right _ _
  have hg0 : 0 < Int.gcd (9 * x * x - 4) (x * x) := Int.gcd_pos_of_ne_zero_right _ (by omega)
  have hg1 := Int.le_of_dvd (by omega) hg
  refine ⟨⟨by omega, by omega⟩, ⟨h1, by omega⟩, by omega, ?_, ?_⟩ <;> unfold bndG <;> omega
def bndV (x : Int) : Value := .agg #[.int .i64 ((9 * x * x - 4) / bndG x), .int .i64 (x * x / bndG x)]

set_option maxRecDepth 100000 in
theorem refBound_any (x : Int) (hx : 1 ≤ x ∧ x ≤ 1000000000) (w : World) :
    Calls Tryd.prog 20 #[.int .i64 (9 * x * x - 4), .int .i64 (x * x)] w fun e w' => e = .returned (bndV x) ∧ Below w.heap.size w w' := by
  obtain ⟨h1, h2, h3, h4⟩ := bnd_range hx
  have G := Lib.hid fun W => Gcd_any (9 * x * x - 4) (x * x) W (by omega) (by omega)
  unfold bndV
  rw [show ((Int.gcd (9 * x * x - 4) (x * x) : Nat) : Int) = bndG x from rfl] at G
  generalize bndG x = g at *
  generalize 9 * x * x - 4 = p at *
  generalize x * x = q at *
  have t1 : Int.tdiv p g = p / g := Int.tdiv_eq_ediv_of_nonneg (by omega)
  have t2 : Int.tdiv q g = q / g := Int.tdiv_eq_ediv_of_nonneg (by omega)
  have b1 : 0 ≤ p / g ∧ p / g ≤ p := ⟨Int.ediv_nonneg (by omega) (by omega), Int.ediv_le_self _ (by omega)⟩
  have b2 : 0 ≤ q / g ∧ q / g ≤ q := ⟨Int.ediv_nonneg (by omega) (by omega), Int.ediv_le_self _ (by omega)⟩
  go_enter Tryd.func20, Tryd.ntmps20
  go_wp2_with fail
  refine (G.out _).mono ?_
  rintro e w1 ⟨rfl, rfl⟩
  go_wp2_with fail
  go_region
  all_goals
    go_wp2_with fail
    exact bodyPost_ret (res_cell (g := w.heap.size) Tryd.results20 rfl (((Whole.new w 37 #[.int .i64 (p / g), .int .i64 (q / g)]).drewN 1).load Tryd.underlying37 rfl arr37f)) rfl ⟨rfl, bl_drewN (bl_alloc (bl_refl _) _) 1⟩
end Go.Proofs.YtpmamdadcmcbeaaDoor

namespace Go.Proofs.YtpmamdadcmcbeaaDoor
open Go.RowKit Go.Sort Cam
set_option linter.unusedVariables false
set_option linter.unusedSimpArgs false

theorem eqFrac (p q a b : Int) (W : World) : (binOp .eql 37 (.agg #[.int .i64 p, .int .i64 q]) (.agg #[.int .i64 a, .int .i64 b])).run Tryd.prog W = .ok (.bool (decide (p = a ∧ q = b))) W := by
  rw [run_eql_struct]
  simp [go_sem]
  by_cases h1 : p = a <;> by_cases h2 : q = b <;> simp [h1, h2]
theorem eqFracSelf (p q : Int) (W : World) : (binOp .eql 37 (.agg #[.int .i64 p, .int .i64 q]) (.agg #[.int .i64 p, .int .i64 q])).run Tryd.prog W = .ok (.bool true) W := by
  rw [eqFrac]; simp
theorem eqTriSelf (x y z : Int) (W : World) : (binOp .eql 33 (.agg #[.int .i64 x, .int .i64 y, .int .i64 z]) (.agg #[.int .i64 x, .int .i64 y, .int .i64 z])).run Tryd.prog W = .ok (.bool true) W := by
  rw [eqA]; simp
theorem wrapI {a : Int} (h : -9223372036854775808 ≤ a ∧ a ≤ 9223372036854775807) : IntKind.i64.wrap a = a := by
  rw [IntKind.wrap_i64]; omega
def zeros2 : Value := .agg #[.int .i64 0, .int .i64 0]

set_option maxRecDepth 100000 in
set_option maxHeartbeats 1000000 in
theorem Bound_none (x : Int) (hx : 1 ≤ x ∧ x ≤ 1000000000) (hs : (propO x).isSome = false) (w : World) :
    Calls Tryd.prog 17 #[.int .i64 x] w fun e w' => e = .returned (.tuple #[zeros2, .int .i64 6]) ∧ Below w.heap.size w w' := by
  have K := Lib.hid fun W => within_yes x 1 1000000000 W hx
  have P := Lib.hid fun W => proper_any x hx W
  obtain ⟨a, b, c, hv⟩ := optV_agg' (propO x)
  rw [hv, hs] at P
  unfold zeros2
  clear hv hs
  go_enter Tryd.func17, Tryd.ntmps17
  go_wp2_with fail
  refine (K.out _).mono ?_
  rintro e w1 ⟨rfl, rfl⟩
  go_wp2_with fail
  refine (P.out _).mono ?_
  rintro e w1 ⟨rfl, hb1⟩
  have hR := (Whole.new w 37 #[.int .i64 0, .int .i64 0]).kept hb1
  have hbA := bl_then (bl_alloc (bl_refl w) (.cells #[.int .i64 0, .int .i64 0] 37)) hb1
  have r0 : w1.cell? ⟨w.heap.size, 0, none⟩ = some (.int .i64 0) := (hR.cell 0).trans rfl
  have r1 : w1.cell? ⟨w.heap.size, 1, none⟩ = some (.int .i64 0) := (hR.cell 1).trans rfl
  have f0 := hR.frozen 0
  have f1 := hR.frozen 1
  have hsz := hR.lt
  go_wp2_with fail
  exact bodyPost_ret (res_cell_tmp (g := w.heap.size) Tryd.results17 rfl ((((hR.set 0 _).set 1 _).alloc _).load Tryd.underlying37 rfl arr37f)) rfl ⟨rfl, bl_alloc (bl_set (bl_set hbA (by simp) _) (by simp) _) _⟩
set_option maxRecDepth 100000 in
theorem Bound_no (x : Int) (hx : ¬ (1 ≤ x ∧ x ≤ 1000000000)) (w : World) :
    Calls Tryd.prog 17 #[.int .i64 x] w fun e w' => e = .returned (.tuple #[zeros2, .int .i64 2]) ∧ Below w.heap.size w w' := by
  have K := Lib.hid fun W => within_no x 1 1000000000 W hx
  unfold zeros2
  clear hx
  go_enter Tryd.func17, Tryd.ntmps17
  go_wp2_with fail
  refine (K.out _).mono ?_
  rintro e w1 ⟨rfl, rfl⟩
  go_wp2_with fail
  exact bodyPost_ret (res_cell_tmp (g := w.heap.size) Tryd.results17 rfl ((Whole.new w 37 #[.int .i64 0, .int .i64 0]).load Tryd.underlying37 rfl arr37f)) rfl ⟨rfl, bl_alloc (bl_refl _) _⟩
set_option maxRecDepth 100000 in
set_option maxHeartbeats 2000000 in
theorem Bound_some (x : Int) (hx : 1 ≤ x ∧ x ≤ 1000000000) (hs : (propO x).isSome = true) (w : World) :
    Calls Tryd.prog 17 #[.int .i64 x] w fun e w' => e = .returned (.tuple #[bndV x, .int .i64 0]) ∧ Below w.heap.size w w' := by
  have K := Lib.hid fun W => within_yes x 1 1000000000 W hx
  have P := Lib.hid fun W => proper_any x hx W
  obtain ⟨a, b, c, hv⟩ := optV_agg' (propO x)
  rw [hv, hs] at P
  clear hv hs
  obtain ⟨h1, h2, h3, h4⟩ := bnd_range hx
  obtain ⟨g, hg⟩ : ∃ g : Int, g = bndG x := ⟨_, rfl⟩
  unfold bndV
  rw [← hg] at h4 ⊢
  have t1 : Int.tdiv (9 * x * x - 4) g = (9 * x * x - 4) / g := Int.tdiv_eq_ediv_of_nonneg (by omega)
  have t2 : Int.tdiv (x * x) g = x * x / g := Int.tdiv_eq_ediv_of_nonneg (by omega)
  have b1 : 0 ≤ (9 * x * x - 4) / g ∧ (9 * x * x - 4) / g ≤ 9 * x * x - 4 := ⟨Int.ediv_nonneg (by omega) (by omega), Int.ediv_le_self _ (by omega)⟩
  have b2 : 0 ≤ x * x / g ∧ x * x / g ≤ x * x := ⟨Int.ediv_nonneg (by omega) (by omega), Int.ediv_le_self _ (by omega)⟩
  have HG : Hid (g = Int.gcd (9 * x * x - 4) (x * x)) := hg
  clear hg
  go_enter Tryd.func17, Tryd.ntmps17
  go_wp2_with fail
  refine (K.out _).mono ?_
  rintro e w1 ⟨rfl, rfl⟩
  go_wp2_with fail
  refine (P.out _).mono ?_
  rintro e w1 ⟨rfl, hb1⟩
  have hR := ((Whole.new w 37 #[.int .i64 0, .int .i64 0]).kept hb1).alloc (.cells #[.int .i64 a, .int .i64 b, .int .i64 c] 56)
  have hbA := bl_alloc (bl_then (bl_alloc (bl_refl w) (.cells #[.int .i64 0, .int .i64 0] 37)) hb1) (.cells #[.int .i64 a, .int .i64 b, .int .i64 c] 56)
  go_wp2_with fail
  go_loopw [8, 9] (fun p q wr => ∃ a' b' : Int, p = .int .i64 a' ∧ q = .int .i64 b' ∧ 0 ≤ a' ∧ a' ≤ 9223372036854775807 ∧ 0 ≤ b' ∧ b' ≤ 9223372036854775807 ∧ Hid (g = Int.gcd a' b') ∧ Whole wr w.heap.size 37 #[.int .i64 0, .int .i64 0] ∧ Below w.heap.size w wr) (fun _ b _ => (intOf b).toNat)
  case atStart => exact ⟨_, _, rfl, rfl, by omega, by omega, by omega, by omega, HG, hR, hbA⟩
  case round =>
    obtain ⟨x', y, rfl, rfl, hx0, hx1, hy0, hy1, H, hR, hb⟩ := hrel
    have hsz := hR.lt
    by_cases h : 1 ≤ y
    · have h1 := Int.emod_nonneg x' (show y ≠ 0 by omega)
      have h2 := Int.emod_lt_of_pos x' (show 0 < y by omega)
      have HN : Hid (g = Int.gcd y (x' % y)) := H.out.trans (gcd_mod x' y).symm
      clear H
      go_wp2_with fail
      go_region
      all_goals
        go_wp2_with fail
        go_roundw
        case rel => exact ⟨_, _, rfl, rfl, by omega, by omega, h1, by omega, HN, hR.drewN 1, bl_drewN hb 1⟩
        case measure => simp [intOf]; omega
    · have hy : y = 0 := by omega
      subst hy
      have HN : g = x' := H.out.trans (by rw [Int.gcd_zero_right]; omega)
      subst HN
      clear H
      have r0 : wr.cell? ⟨w.heap.size, 0, none⟩ = some (.int .i64 0) := (hR.cell 0).trans rfl
      have r1 : wr.cell? ⟨w.heap.size, 1, none⟩ = some (.int .i64 0) := (hR.cell 1).trans rfl
      have f0 := hR.frozen 0
      have f1 := hR.frozen 1
      go_wp2_with fail
      go_region
      all_goals
        go_wp2_with fail
        exact bodyPost_ret (res_cell_tmp (g := w.heap.size) Tryd.results17 rfl ((((hR.drewN 1).set 0 _).set 1 _).load Tryd.underlying37 rfl arr37f)) rfl ⟨rfl, bl_set (bl_set (bl_drewN hb 1) (by simp) _) (by simp) _⟩

set_option maxRecDepth 100000 in
set_option maxHeartbeats 20000000 in
theorem CamberPropers_walk (n : Int) (w : World) (hwf : (Lit.int .i64 n).wf = true) (hF : FirstAt w) :
    Calls Tryd.prog 6 #[.int .i64 n] w fun e w' => e = .returned (.bool true) ∧ Below w.heap.size w w' := by
  clear hwf
  have AW := Lib.hid fun W h => awake_any W h
  have z3 := eqTriSelf 0 0 0
  have z2 := eqFracSelf 0 0
  by_cases hm : 1 ≤ n ∧ n ≤ 1000000000
  · have P := Lib.hid fun W => Proper_yes n hm W
    have Q := Lib.hid fun W => refProper_any n hm W
    cases hs : (propO n).isSome
    · have B := Lib.hid fun W => Bound_none n hm hs W
      rw [hs, propO_none hs] at P Q
      clear hs
      unfold zeros3 at P Q
      unfold zeros2 at B
      simp only [Bool.false_eq_true, if_false] at P
      obtain ⟨h1, h2⟩ := hm
      go_enter Tryd.func6, Tryd.ntmps6
      go_wp2_with fail
      refine (P.out _).mono ?_
      rintro e w1 ⟨rfl, hb1⟩
      have hF1 := (hF.kept hb1).kept (bl_alloc (bl_refl _) (.cells #[.int .i64 0, .int .i64 0, .int .i64 0] 33))
      have hbA := bl_alloc hb1 (.cells #[.int .i64 0, .int .i64 0, .int .i64 0] 33)
      have W1 := Whole.new w1 33 #[.int .i64 0, .int .i64 0, .int .i64 0]
      go_wp2_with fail
      refine (B.out _).mono ?_
      rintro e w2 ⟨rfl, hb2⟩
      have hF2 := (hF1.kept hb2).kept (bl_alloc (bl_refl _) (.cells #[.int .i64 0, .int .i64 0] 37))
      have hbB := bl_alloc (bl_then hbA hb2) (.cells #[.int .i64 0, .int .i64 0] 37)
      have W2 := (W1.kept hb2).alloc (.cells #[.int .i64 0, .int .i64 0] 37)
      have V2 := Whole.new w2 37 #[.int .i64 0, .int .i64 0]
      go_wp2_with fail
      refine (Q.out _).mono ?_
      rintro e w3 ⟨rfl, hb3⟩
      have hF3 := (hF2.kept hb3).kept (bl_alloc (bl_refl _) (.cells #[.int .i64 0, .int .i64 0, .int .i64 0] 33))
      have hbC := bl_alloc (bl_then hbB hb3) (.cells #[.int .i64 0, .int .i64 0, .int .i64 0] 33)
      have W3 := W2.kept hb3
      have V3 := V2.kept hb3
      have k0 : w3.cell? ⟨w1.heap.size, 0, none⟩ = some (.int .i64 0) := (W3.cell 0).trans rfl
      have k1 : w3.cell? ⟨w1.heap.size, 1, none⟩ = some (.int .i64 0) := (W3.cell 1).trans rfl
      have k2 : w3.cell? ⟨w1.heap.size, 2, none⟩ = some (.int .i64 0) := (W3.cell 2).trans rfl
      have m0 : w3.cell? ⟨w2.heap.size, 0, none⟩ = some (.int .i64 0) := (V3.cell 0).trans rfl
      have m1 : w3.cell? ⟨w2.heap.size, 1, none⟩ = some (.int .i64 0) := (V3.cell 1).trans rfl
      have s1 := W3.lt
      have s2 := V3.lt
      go_wp2_with fail
      refine (AW.out _ hF3).mono ?_
      rintro e w4 ⟨rfl, hb4⟩
      go_wp2_with fail
      go_ret
      exact ⟨rfl, bl_then hbC hb4⟩
    · have B := Lib.hid fun W => Bound_some n hm hs W
      obtain ⟨a, b, c, hv⟩ := optV_agg' (propO n)
      rw [hs, hv] at P Q
      clear hs hv
      have zp := eqTriSelf a b c
      have RR := Lib.hid fun W => refBound_any n hm W
      obtain ⟨x1, x2, x3, x4⟩ := bnd_range hm
      obtain ⟨u, v, hb⟩ : ∃ u v : Int, bndV n = .agg #[.int .i64 u, .int .i64 v] := ⟨_, _, rfl⟩
      rw [hb] at B RR
      clear hb
      have zb := eqFracSelf u v
      simp only [if_true] at P
      obtain ⟨h1, h2⟩ := hm
      have y1 := wrapI (a := 9 * n) (by omega)
      have y2 := wrapI (a := 9 * n * n) (by omega)
      have y3 := wrapI (a := 9 * n * n - 4) (by omega)
      have y4 := wrapI (a := n * n) (by omega)
      go_enter Tryd.func6, Tryd.ntmps6
      go_wp2_with fail
      refine (P.out _).mono ?_
      rintro e w1 ⟨rfl, hb1⟩
      have hF1 := (hF.kept hb1).kept (bl_alloc (bl_refl _) (.cells #[.int .i64 a, .int .i64 b, .int .i64 c] 33))
      have hbA := bl_alloc hb1 (.cells #[.int .i64 a, .int .i64 b, .int .i64 c] 33)
      have W1 := Whole.new w1 33 #[.int .i64 a, .int .i64 b, .int .i64 c]
      go_wp2_with fail
      refine (B.out _).mono ?_
      rintro e w2 ⟨rfl, hb2⟩
      have hF2 := (hF1.kept hb2).kept (bl_alloc (bl_refl _) (.cells #[.int .i64 u, .int .i64 v] 37))
      have hbB := bl_alloc (bl_then hbA hb2) (.cells #[.int .i64 u, .int .i64 v] 37)
      have W2 := (W1.kept hb2).alloc (.cells #[.int .i64 u, .int .i64 v] 37)
      have V2 := Whole.new w2 37 #[.int .i64 u, .int .i64 v]
      go_wp2_with fail
      refine (Q.out _).mono ?_
      rintro e w3 ⟨rfl, hb3⟩
      have hF3 := (hF2.kept hb3).kept (bl_alloc (bl_refl _) (.cells #[.int .i64 a, .int .i64 b, .int .i64 c] 33))
      have hbC := bl_alloc (bl_then hbB hb3) (.cells #[.int .i64 a, .int .i64 b, .int .i64 c] 33)
      have W3 := W2.kept hb3
      have V3 := V2.kept hb3
      have k0 : w3.cell? ⟨w1.heap.size, 0, none⟩ = some (.int .i64 a) := (W3.cell 0).trans rfl
      have k1 : w3.cell? ⟨w1.heap.size, 1, none⟩ = some (.int .i64 b) := (W3.cell 1).trans rfl
      have k2 : w3.cell? ⟨w1.heap.size, 2, none⟩ = some (.int .i64 c) := (W3.cell 2).trans rfl
      have m0 : w3.cell? ⟨w2.heap.size, 0, none⟩ = some (.int .i64 u) := (V3.cell 0).trans rfl
      have m1 : w3.cell? ⟨w2.heap.size, 1, none⟩ = some (.int .i64 v) := (V3.cell 1).trans rfl
      have s1 := W3.lt
      have s2 := V3.lt
      have V4 := V3.alloc (.cells #[.int .i64 a, .int .i64 b, .int .i64 c] 33)
      have W4 := W3.alloc (.cells #[.int .i64 a, .int .i64 b, .int .i64 c] 33)
      have X4 := Whole.new w3 33 #[.int .i64 a, .int .i64 b, .int .i64 c]
      go_wp2_with fail
      clear k0 k1 k2 m0 m1
      generalize w3.alloc (.cells #[.int .i64 a, .int .i64 b, .int .i64 c] 33) = w9 at *
      have HF := Lib.hid hF3
      have HB := Lib.hid hbC
      have k0 : w9.cell? ⟨w1.heap.size, 0, none⟩ = some (.int .i64 a) := (W4.cell 0).trans rfl
      have k1 : w9.cell? ⟨w1.heap.size, 1, none⟩ = some (.int .i64 b) := (W4.cell 1).trans rfl
      have k2 : w9.cell? ⟨w1.heap.size, 2, none⟩ = some (.int .i64 c) := (W4.cell 2).trans rfl
      have m0 : w9.cell? ⟨w2.heap.size, 0, none⟩ = some (.int .i64 u) := (V4.cell 0).trans rfl
      have m1 : w9.cell? ⟨w2.heap.size, 1, none⟩ = some (.int .i64 v) := (V4.cell 1).trans rfl
      have n0 : w9.cell? ⟨w3.heap.size, 0, none⟩ = some (.int .i64 a) := (X4.cell 0).trans rfl
      have n1 : w9.cell? ⟨w3.heap.size, 1, none⟩ = some (.int .i64 b) := (X4.cell 1).trans rfl
      have n2 : w9.cell? ⟨w3.heap.size, 2, none⟩ = some (.int .i64 c) := (X4.cell 2).trans rfl
      have HV := Lib.hid V4
      have HW4 := Lib.hid W4
      have HX4 := Lib.hid X4
      clear V4 W4 X4 hF3 hbC V3 W3 V2 W2 W1 hbA hbB hF1 hF2 hb1 hb2 hb3 hF s1 s2 B P Q
      go_region_held3 (fun X => X.cell? ⟨w1.heap.size, 0, none⟩ = some (.int .i64 a) ∧ X.cell? ⟨w1.heap.size, 1, none⟩ = some (.int .i64 b) ∧ X.cell? ⟨w1.heap.size, 2, none⟩ = some (.int .i64 c) ∧ X.cell? ⟨w2.heap.size, 0, none⟩ = some (.int .i64 u) ∧ X.cell? ⟨w2.heap.size, 1, none⟩ = some (.int .i64 v) ∧ X.cell? ⟨w3.heap.size, 0, none⟩ = some (.int .i64 a) ∧ X.cell? ⟨w3.heap.size, 1, none⟩ = some (.int .i64 b) ∧ X.cell? ⟨w3.heap.size, 2, none⟩ = some (.int .i64 c)) (first | exact ⟨k0, k1, k2, m0, m1, n0, n1, n2⟩ | exact ⟨i0, i1, i2, i3, i4, i5, i6, i7⟩ | exact ⟨j0, j1, j2, j3, j4, j5, j6, j7⟩ | go_keep)
        (first
        | (go_at_call 20; refine (RR.out _).mono ?_; rintro e w6 ⟨rfl, hb6⟩; have hF6 := HF.out.drew.kept hb6; have hbE := bl_then (bl_drewN HB.out 1) hb6; have V6 := (HV.out.drewN 1).kept hb6; have W6 := (HW4.out.drewN 1).kept hb6; have X6 := (HX4.out.drewN 1).kept hb6; have i0 : w6.cell? ⟨w1.heap.size, 0, none⟩ = some (.int .i64 a) := (W6.cell 0).trans rfl; have i1 : w6.cell? ⟨w1.heap.size, 1, none⟩ = some (.int .i64 b) := (W6.cell 1).trans rfl; have i2 : w6.cell? ⟨w1.heap.size, 2, none⟩ = some (.int .i64 c) := (W6.cell 2).trans rfl; have i3 : w6.cell? ⟨w2.heap.size, 0, none⟩ = some (.int .i64 u) := (V6.cell 0).trans rfl; have i4 : w6.cell? ⟨w2.heap.size, 1, none⟩ = some (.int .i64 v) := (V6.cell 1).trans rfl; have i5 : w6.cell? ⟨w3.heap.size, 0, none⟩ = some (.int .i64 a) := (X6.cell 0).trans rfl; have i6 : w6.cell? ⟨w3.heap.size, 1, none⟩ = some (.int .i64 b) := (X6.cell 1).trans rfl; have i7 : w6.cell? ⟨w3.heap.size, 2, none⟩ = some (.int .i64 c) := (X6.cell 2).trans rfl; skip)
        | (go_at_call 11; refine (AW.out _ hF6).mono ?_; rintro e w7 ⟨rfl, hb7⟩; have j0 := ((W6.kept hb7).cell 0).trans rfl; have j1 := ((W6.kept hb7).cell 1).trans rfl; have j2 := ((W6.kept hb7).cell 2).trans rfl; have j3 := ((V6.kept hb7).cell 0).trans rfl; have j4 := ((V6.kept hb7).cell 1).trans rfl; have j5 := ((X6.kept hb7).cell 0).trans rfl; have j6 := ((X6.kept hb7).cell 1).trans rfl; have j7 := ((X6.kept hb7).cell 2).trans rfl))
      all_goals
        go_wp2_with fail
        go_ret
        exact ⟨rfl, bl_then hbE hb7⟩
  · have P := Lib.hid fun W => Proper_no n hm W
    have B := Lib.hid fun W => Bound_no n hm W
    unfold zeros3 at P
    unfold zeros2 at B
    have h3 : ¬ (1 ≤ n ∧ n ≤ 1000000000) := hm
    by_cases h1 : 1 ≤ n
    · have h2 : 1000000000 < n := by omega
      clear hm h3
      go_enter Tryd.func6, Tryd.ntmps6
      go_wp2_with fail
      refine (P.out _).mono ?_
      rintro e w1 ⟨rfl, hb1⟩
      have hF1 := (hF.kept hb1).kept (bl_alloc (bl_refl _) (.cells #[.int .i64 0, .int .i64 0, .int .i64 0] 33))
      have hbA := bl_alloc hb1 (.cells #[.int .i64 0, .int .i64 0, .int .i64 0] 33)
      have W1 := Whole.new w1 33 #[.int .i64 0, .int .i64 0, .int .i64 0]
      go_wp2_with fail
      refine (B.out _).mono ?_
      rintro e w2 ⟨rfl, hb2⟩
      have hF2 := (hF1.kept hb2).kept (bl_alloc (bl_refl _) (.cells #[.int .i64 0, .int .i64 0] 37))
      have hbB := bl_alloc (bl_then hbA hb2) (.cells #[.int .i64 0, .int .i64 0] 37)
      have W2 := W1.kept hb2
      have k0 : w2.cell? ⟨w1.heap.size, 0, none⟩ = some (.int .i64 0) := (W2.cell 0).trans rfl
      have k1 : w2.cell? ⟨w1.heap.size, 1, none⟩ = some (.int .i64 0) := (W2.cell 1).trans rfl
      have k2 : w2.cell? ⟨w1.heap.size, 2, none⟩ = some (.int .i64 0) := (W2.cell 2).trans rfl
      have s1 := W2.lt
      go_wp2_with fail
      refine (AW.out _ hF2).mono ?_
      rintro e w4 ⟨rfl, hb4⟩
      go_wp2_with fail
      go_ret
      exact ⟨rfl, bl_then hbB hb4⟩
    · have h2 : n < 1 := by omega
      clear hm h3
      go_enter Tryd.func6, Tryd.ntmps6
      go_wp2_with fail
      refine (P.out _).mono ?_
      rintro e w1 ⟨rfl, hb1⟩
      have hF1 := (hF.kept hb1).kept (bl_alloc (bl_refl _) (.cells #[.int .i64 0, .int .i64 0, .int .i64 0] 33))
      have hbA := bl_alloc hb1 (.cells #[.int .i64 0, .int .i64 0, .int .i64 0] 33)
      have W1 := Whole.new w1 33 #[.int .i64 0, .int .i64 0, .int .i64 0]
      go_wp2_with fail
      refine (B.out _).mono ?_
      rintro e w2 ⟨rfl, hb2⟩
      have hF2 := (hF1.kept hb2).kept (bl_alloc (bl_refl _) (.cells #[.int .i64 0, .int .i64 0] 37))
      have hbB := bl_alloc (bl_then hbA hb2) (.cells #[.int .i64 0, .int .i64 0] 37)
      have W2 := W1.kept hb2
      have k0 : w2.cell? ⟨w1.heap.size, 0, none⟩ = some (.int .i64 0) := (W2.cell 0).trans rfl
      have k1 : w2.cell? ⟨w1.heap.size, 1, none⟩ = some (.int .i64 0) := (W2.cell 1).trans rfl
      have k2 : w2.cell? ⟨w1.heap.size, 2, none⟩ = some (.int .i64 0) := (W2.cell 2).trans rfl
      have s1 := W2.lt
      go_wp2_with fail
      refine (AW.out _ hF2).mono ?_
      rintro e w4 ⟨rfl, hb4⟩
      go_wp2_with fail
      go_ret
      exact ⟨rfl, bl_then hbB hb4⟩
end Go.Proofs.YtpmamdadcmcbeaaDoor

namespace Go.Proofs.YtpmamdadcmcbeaaDoor
open Go.RowKit Go.Sort Cam
set_option linter.unusedVariables false
set_option linter.unusedSimpArgs false

theorem TT_mid' : (TT.all fun t => TT.any fun s => s.2.2 == t.2.1) = true := by decide +kernel
theorem TT_gap' : (TT.all fun t => decide (t.2.2 < 5) || (decide (2 ≤ t.2.1) && decide (2 * t.2.1 < t.2.2))) = true := by decide +kernel
theorem propO_some {x : Int} (h : ∃ t ∈ TT, t.2.2 = x) : (propO x).isSome = true := by
  unfold propO
  rw [List.find?_isSome]
  obtain ⟨t, h1, h2⟩ := h
  exact ⟨t, mem_upTo.2 ⟨h1, by omega⟩, by simpa using h2⟩
theorem TT_mid {x y z : Int} (h : (x, y, z) ∈ TT) : ∃ t ∈ TT, t.2.2 = y := by
  have k := TT_mid'
  rw [List.all_eq_true] at k
  have k1 := k _ h
  rw [List.any_eq_true] at k1
  obtain ⟨t, h1, h2⟩ := k1
  exact ⟨t, h1, by simpa using h2⟩
theorem TT_gap {x y z : Int} (h : (x, y, z) ∈ TT) (h5 : 5 ≤ z) : 2 ≤ y ∧ 2 * y < z := by
  have k := TT_gap'
  rw [List.all_eq_true] at k
  have k1 := k _ h
  simp at k1
  omega

/-- What the fraction of Bound is: its denominator is n² / g and its numerator 9 n² / g - 4 / g, and g divides 4. -/
theorem bnd_form {x : Int} (hx : 1 ≤ x ∧ x ≤ 1000000000) : ∃ d g e : Int, x * x = d * g ∧ 4 = g * e ∧ 1 ≤ g ∧ g ≤ 4 ∧ 1 ≤ d ∧ 1 ≤ e ∧ e ≤ 4 ∧ (9 * x * x - 4) / bndG x = 9 * d - e ∧ x * x / bndG x = d ∧ x * x / d = g ∧ d ≤ 1000000000000000000 := by
  obtain ⟨h1, h2, h3, h4⟩ := bnd_range hx
  have hd2 : bndG x ∣ x * x := Int.gcd_dvd_right _ _
  have hd1 : bndG x ∣ 9 * x * x - 4 := Int.gcd_dvd_left _ _
  have e9 : 9 * x * x = 9 * (x * x) := by grind
  have hd4 : bndG x ∣ 4 := by
    have a : bndG x ∣ 9 * (x * x) := Int.dvd_mul_of_dvd_right hd2
    have b := Int.dvd_sub a (e9 ▸ hd1)
    rwa [show 9 * (x * x) - (9 * (x * x) - 4) = 4 by omega] at b
  generalize bndG x = g at *
  obtain ⟨d, hd⟩ := hd2
  obtain ⟨e, he⟩ := hd4
  have hg4 : g ≤ 4 := Int.le_of_dvd (by omega) ⟨e, he⟩
  have hd0 : 1 ≤ d := by
    rcases Int.lt_or_le 0 d with h | h
    · omega
    · have : g * d ≤ 0 := Int.mul_nonpos_of_nonneg_of_nonpos (by omega) h
      omega
  have he0 : 1 ≤ e ∧ e ≤ 4 := by
    have : 0 < e := by
      rcases Int.lt_or_le 0 e with h | h
      · exact h
      · have : g * e ≤ 0 := Int.mul_nonpos_of_nonneg_of_nonpos (by omega) h
        omega
    have : e ∣ 4 := ⟨g, by rw [Int.mul_comm]; exact he⟩
    exact ⟨by omega, Int.le_of_dvd (by omega) this⟩
  have hdl : d ≤ x * x := Int.le_of_dvd (by omega) ⟨g, hd.trans (Int.mul_comm g d)⟩
  refine ⟨d, g, e, hd.trans (Int.mul_comm g d), he, by omega, hg4, hd0, he0.1, he0.2, ?_, ?_, ?_, by omega⟩
  · rw [show 9 * x * x - 4 = g * (9 * d - e) by rw [e9, hd]; rw [Int.mul_sub, ← he]; grind]
    exact Int.mul_ediv_cancel_left _ (by omega)
  · rw [hd]; exact Int.mul_ediv_cancel_left _ (by omega)
  · rw [hd]; exact Int.mul_ediv_cancel _ (by omega)

theorem bnd_less {y z d g d2 g2 : Int} (hy : 2 ≤ y) (hz : 2 * y < z) (h1 : z * z = d * g) (h2 : y * y = d2 * g2) (hg : 1 ≤ g ∧ g ≤ 4) (hg2 : 1 ≤ g2) (hd : 1 ≤ d) (hd2 : 1 ≤ d2) : d2 < d := by
  have a : (2 * y + 1) * (2 * y + 1) ≤ z * z := Int.mul_le_mul (by omega) (by omega) (by omega) (by omega)
  have b : (2 * y + 1) * (2 * y + 1) = 4 * (y * y) + 4 * y + 1 := by grind
  have c : d * g ≤ d * 4 := Int.mul_le_mul_of_nonneg_left hg.2 (by omega)
  have e : d2 * 1 ≤ d2 * g2 := Int.mul_le_mul_of_nonneg_left hg2 (by omega)
  omega

theorem bnd_val {x d e : Int} (h1 : (9 * x * x - 4) / bndG x = 9 * d - e) (h2 : x * x / bndG x = d) : bndV x = .agg #[.int .i64 (9 * d - e), .int .i64 d] := by
  unfold bndV; rw [h1, h2]

set_option maxRecDepth 100000 in
set_option maxHeartbeats 4000000 in
theorem CamberBound_walk (s : ByteArray) (w : World) (hs : s.size ≤ 140737488351232) (hF : FirstAt w) :
    Calls Tryd.prog 5 #[.string s] w fun e w' => e = .returned (.bool true) ∧ Below w.heap.size w w' := by
  have AW := Lib.hid fun W h => awake_any W h
  have B := Lib.hid fun W => tame_any s W hs
  go_enter Tryd.func5, Tryd.ntmps5
  go_wp2_with fail
  refine (B.out _).mono ?_
  rintro e w1 ⟨t, x, y, z, rfl, ⟨hp, ho⟩, hb1⟩
  have hF1 := (hF.kept hb1).kept (bl_alloc (bl_refl _) (.cells #[.int .i64 x, .int .i64 y, .int .i64 z] 33))
  have hbA := bl_alloc hb1 (.cells #[.int .i64 x, .int .i64 y, .int .i64 z] 33)
  have V1 := Whole.new w1 33 #[.int .i64 x, .int .i64 y, .int .i64 z]
  obtain ⟨h, h4, h5⟩ := followF_tri _ tri125 (by omega) ho
  have hT : (x, y, z) ∈ TT := mem_TT.2 ⟨h, h4⟩
  obtain ⟨y2, y3⟩ := TT_gap hT h5
  have hy := propO_some (TT_mid hT)
  have hz := propO_some (x := z) ⟨_, hT, rfl⟩
  have by1 : 1 ≤ y ∧ y ≤ 1000000000 := by omega
  have bz1 : 1 ≤ z ∧ z ≤ 1000000000 := by omega
  have BZ := Lib.hid fun W => Bound_some z bz1 hz W
  have BY := Lib.hid fun W => Bound_some y by1 hy W
  obtain ⟨d, g, c, a1, a2, a3, a4, a5, a6, a7, a8, a9, a10, a11⟩ := bnd_form bz1
  obtain ⟨d2, g2, c2, c1, c2', c3, c4, c5, c6, c7, c8, c9, c10, c11⟩ := bnd_form by1
  have hl := bnd_less y2 y3 a1 c1 ⟨a3, a4⟩ c3 a5 c5
  rw [bnd_val a8 a9] at BZ
  rw [bnd_val c8 c9] at BY
  obtain ⟨_, ⟨zz1, zz2⟩, _, _⟩ := bnd_range bz1
  obtain ⟨_, ⟨yy1, yy2⟩, _, _⟩ := bnd_range by1
  have p1 : Int.tdiv (z * z) d = g := (Int.tdiv_eq_ediv_of_nonneg (by omega)).trans a10
  have p2 : Int.tdiv (y * y) d2 = g2 := (Int.tdiv_eq_ediv_of_nonneg (by omega)).trans c10
  have p3 : z * z % d = 0 := by rw [a1]; exact Int.mul_emod_right _ _
  have p4 : Int.tmod (z * z) d = 0 := (Int.tmod_eq_emod_of_nonneg (by omega)).trans p3
  have q1 : (4 : Int) / g = c := by rw [a2]; exact Int.mul_ediv_cancel_left _ (by omega)
  have q2 : (4 : Int) / g2 = c2 := by rw [c2']; exact Int.mul_ediv_cancel_left _ (by omega)
  have q3 : Int.tdiv 4 g = c := (Int.tdiv_eq_ediv_of_nonneg (by omega)).trans q1
  have q4 : Int.tdiv 4 g2 = c2 := (Int.tdiv_eq_ediv_of_nonneg (by omega)).trans q2
  have r1 : 9 * d - (9 * d - c) = c := by omega
  have r2 : 9 * d2 - (9 * d2 - c2) = c2 := by omega
  have r3 : max (1 : Int) g2 = g2 := by omega
  have s1 : (9 * d - c) / 9 = d - 1 := by omega
  have s2 : Int.tdiv (9 * d - c) 9 = d - 1 := (Int.tdiv_eq_ediv_of_nonneg (by omega)).trans s1
  clear hp ho h hT hy hz by1 bz1 a1 a2 a8 a9 c1 c2' c8 c9
  unfold trip
  go_wp2_with fail
  refine (BZ.out _).mono ?_
  rintro e w2 ⟨rfl, hb2⟩
  have hF2 := (hF1.kept hb2).kept (bl_alloc (bl_refl _) (.cells #[.int .i64 (9 * d - c), .int .i64 d] 37))
  have hbB := bl_alloc (bl_then hbA hb2) (.cells #[.int .i64 (9 * d - c), .int .i64 d] 37)
  have V2 := V1.kept hb2
  have U2 := Whole.new w2 37 #[.int .i64 (9 * d - c), .int .i64 d]
  have k1 : w2.cell? ⟨w1.heap.size, 1, none⟩ = some (.int .i64 y) := (V2.cell 1).trans rfl
  have k2 : w2.cell? ⟨w1.heap.size, 2, none⟩ = some (.int .i64 z) := (V2.cell 2).trans rfl
  have hs2 := V2.lt
  have V2' := V2.alloc (.cells #[.int .i64 (9 * d - c), .int .i64 d] 37)
  go_wp2_with fail
  refine (BY.out _).mono ?_
  rintro e w3 ⟨rfl, hb3⟩
  have hF3 := (hF2.kept hb3).kept (bl_alloc (bl_refl _) (.cells #[.int .i64 (9 * d2 - c2), .int .i64 d2] 37))
  have hbC := bl_alloc (bl_then hbB hb3) (.cells #[.int .i64 (9 * d2 - c2), .int .i64 d2] 37)
  have V3 := V2'.kept hb3
  have U3 := U2.kept hb3
  have k3 : w3.cell? ⟨w1.heap.size, 1, none⟩ = some (.int .i64 y) := (V3.cell 1).trans rfl
  have k4 : w3.cell? ⟨w1.heap.size, 2, none⟩ = some (.int .i64 z) := (V3.cell 2).trans rfl
  have k5 : w3.cell? ⟨w2.heap.size, 0, none⟩ = some (.int .i64 (9 * d - c)) := (U3.cell 0).trans rfl
  have k6 : w3.cell? ⟨w2.heap.size, 1, none⟩ = some (.int .i64 d) := (U3.cell 1).trans rfl
  have hs3 := V3.lt
  have hs4 := U3.lt
  have hl' : ¬ d ≤ d2 := by omega
  have w1' := wrapI (a := 9 * d) (by omega)
  have w2' := wrapI (a := 9 * d2) (by omega)
  have w3' := wrapI (a := z * z) (by omega)
  have w4' := wrapI (a := y * y) (by omega)
  have w5' := wrapI (a := g) (by omega)
  have w6' := wrapI (a := g2) (by omega)
  have w7' := wrapI (a := c) (by omega)
  have w8' := wrapI (a := c2) (by omega)
  have n1' : ¬ g = 0 := by omega
  have n2' : ¬ g2 = 0 := by omega
  have n3' : ¬ d = 0 := by omega
  have n4' : ¬ d2 = 0 := by omega
  go_wp2_with fail
  refine wp_region_still_tail 36 (by kernel_rfl) (by kernel_rfl) ?_
  simp only [List.take_succ_cons, List.take_zero, List.drop_succ_cons, List.drop_zero]
  change wpStill _ _ (World.drew _) _ _ _
  repeat still_step
  refine wpStill_nil ?_
  change wpList _ _ _ _ _ (World.drew _)
  go_wp2_with fail
  refine (AW.out _ hF3.drew).mono ?_
  rintro e w4 ⟨rfl, hb4⟩
  go_wp2_with fail
  go_ret
  exact ⟨rfl, bl_then (bl_drewN hbC 1) hb4⟩
end Go.Proofs.YtpmamdadcmcbeaaDoor

namespace Go.Proofs.YtpmamdadcmcbeaaDoor
open Go.RowKit Go.Sort Cam
set_option linter.unusedVariables false
set_option linter.unusedSimpArgs false

theorem TT_propO' : (TT.all fun t => propO t.2.2 == some t) = true := by decide +kernel
theorem propO_eq {t : T3'} (h : t ∈ TT) : propO t.2.2 = some t := by
  have k := TT_propO'
  rw [List.all_eq_true] at k
  simpa using k _ h
theorem upTo_first {m : Int} (h : 1 ≤ m) (h0 : 0 < (upTo m).length) : (upTo m)[0] = (1, 1, 1) := by
  have e : ∃ l, upTo m = (1, 1, 1) :: l := by
    unfold upTo TT
    rw [List.filter_cons, if_pos (by simpa using h)]
    exact ⟨_, rfl⟩
  obtain ⟨l, e⟩ := e
  simp [e]
theorem upTo_at {m : Int} (i : Nat) (h : i < (upTo m).length) : Tri (upTo m)[i].1 (upTo m)[i].2.1 (upTo m)[i].2.2 ∧ (upTo m)[i].2.2 ≤ m ∧ (upTo m)[i].2.2 ≤ 1000000000 ∧ (upTo m)[i] ∈ TT := by
  have k := mem_upTo.1 (List.getElem_mem h)
  exact ⟨(TT_tri k.1).1, k.2, (TT_tri k.1).2, k.1⟩
theorem upTo_lt {m : Int} (i : Nat) (h' : i < (upTo m).length) (h : i + 1 < (upTo m).length) : (upTo m)[i].2.2 < (upTo m)[i + 1].2.2 :=
  List.pairwise_iff_getElem.1 (upTo_sorted m) i (i + 1) (by omega) h (by omega)
def has (ts : List T3') (u : T3') (k : Nat) : Bool := decide (u ∈ ts.take k)
theorem has_next {ts : List T3'} {u : T3'} {k : Nat} (h : k < ts.length) : has ts u (k + 1) = (has ts u k || decide (u = ts[k])) := by
  unfold has
  apply Bool.eq_iff_iff.2
  simp only [decide_eq_true_eq, Bool.or_eq_true]
  rw [List.take_succ_eq_append_getElem h, List.mem_append, List.mem_singleton]
theorem has_all {ts : List T3'} {u : T3'} (h : u ∈ ts) : has ts u ts.length = true := by
  unfold has; simpa using h
theorem neTriSelf (x y z : Int) (W : World) : (binOp .neq 33 (.agg #[.int .i64 x, .int .i64 y, .int .i64 z]) (.agg #[.int .i64 x, .int .i64 y, .int .i64 z])).run Tryd.prog W = .ok (.bool false) W := by
  rw [neA]; simp
theorem decide_tri {x y z a b c : Int} : decide (((a, b, c) : T3') = (x, y, z)) = decide (x = a ∧ y = b ∧ z = c) := by
  apply Bool.eq_iff_iff.2
  simp only [decide_eq_true_eq, Prod.mk.injEq]
  constructor
  · rintro ⟨rfl, rfl, rfl⟩; exact ⟨rfl, rfl, rfl⟩
  · rintro ⟨rfl, rfl, rfl⟩; exact ⟨rfl, rfl, rfl⟩

theorem RowT.at {w : World} {g n cap : Nat} {ts : List T3} (h : RowT w (.slice (some ⟨g, 0, none⟩) n cap) ts) {i : Nat} (hi : i < ts.length) {x y z : Int} (e : (x, y, z) = ts[i]) :
    w.cell? ⟨g, i * 3, none⟩ = some (.int .i64 x) ∧ w.cell? ⟨g, i * 3 + 1, none⟩ = some (.int .i64 y) ∧ w.cell? ⟨g, i * 3 + 2, none⟩ = some (.int .i64 z) := by
  have k := (RowT.cellsAt h).2 i hi
  rw [← e] at k
  exact k

set_option maxRecDepth 100000 in
set_option maxHeartbeats 4000000 in
theorem CamberSorted_walk (a b : Int) (w : World) (hwa : (Lit.int .i64 a).wf = true) (hwb : (Lit.int .i64 b).wf = true) (hF : FirstAt w) :
    Calls Tryd.prog 7 #[.int .i64 a, .int .i64 b] w fun e w' => e = .returned (.bool true) ∧ Below w.heap.size w w' := by
  have AW := Lib.hid fun W h => awake_any W h
  have M1 := Lib.hid fun W => mod_any a 1000000000 W hwa (by omega)
  have M2 := Lib.hid fun n W h => mod_any b n W hwb h
  have T3 := Lib.hid fun x y z W h => refTriple_yes x y z W h
  have n1 := neTriSelf 1 1 1
  clear hwa hwb
  go_enter Tryd.func7, Tryd.ntmps7
  go_wp2_with fail
  refine (M1.out _).mono ?_
  rintro e w0 ⟨⟨r, hr0, hr1, rfl⟩, rfl⟩
  go_wp2_with fail
  have A := Lib.hid fun W => All_any (1 + r) W (by omega)
  obtain ⟨hn1, hn2⟩ := upTo_len (most := 1 + r) (by omega)
  have HZ := Lib.hid fun h => upTo_first (m := 1 + r) (by omega) h
  have HA := Lib.hid fun i h => upTo_at (m := 1 + r) i h
  have HL := Lib.hid fun i h' h => upTo_lt (m := 1 + r) i h' h
  have HM := Lib.hid fun u h1 h2 => (mem_upTo (most := 1 + r) (t := u)).2 ⟨h1, h2⟩
  generalize upTo (1 + r) = ts at *
  refine (A.out _).mono ?_
  rintro e w1 ⟨v, rfl, hown, hb1⟩
  obtain ⟨g, cap, rfl, hg0, _⟩ := own_form hown (by omega)
  have HR0 : Hid (RowT w1 (.slice (some ⟨g, 0, none⟩) ts.length cap) ts) := rowT_own hown
  clear hown
  have h00 : 0 < ts.length := by omega
  obtain ⟨c0, c1, c2⟩ := (RowT.cellsAt HR0.out).2 0 h00
  rw [HZ.out h00] at c0 c1 c2
  simp only [Nat.zero_mul, Nat.zero_add] at c0 c1 c2
  have hgl := (RowT.cellsAt HR0.out).1
  have hF1 := hF.kept hb1
  obtain ⟨N, hN⟩ : ∃ N, N = ts.length := ⟨_, rfl⟩
  have HN := Lib.hid hN
  rw [← hN] at HR0 hn1 hn2 h00 ⊢
  clear hN
  go_wp2_with fail
  go_loopw [7] (fun i wr => ∃ k : Nat, k ≤ N ∧ i = .int .i64 k ∧ Hid (FirstAt wr) ∧ Hid (RowT wr (.slice (some ⟨g, 0, none⟩) N cap) ts) ∧ Hid (Below w.heap.size w wr)) (fun i _ => N - (intOf i).toNat)
  case atStart => exact ⟨0, Nat.zero_le _, rfl, hF1, HR0, hb1⟩
  case round =>
    clear HR0 hF1 c0 c1 c2 hgl hb1
    obtain ⟨k, hk, rfl, HF, HR, HB⟩ := hrel
    by_cases hlt : k < N
    · have hk1 : k < ts.length := by have := HN.out; omega
      obtain ⟨T, z1, z2, _⟩ := HA.out k hk1
      obtain ⟨c0, c1, c2⟩ := (RowT.cellsAt HR.out).2 k hk1
      have hgl := (RowT.cellsAt HR.out).1
      obtain ⟨⟨x, y, z⟩, hc⟩ : ∃ c, c = ts[k] := ⟨_, rfl⟩
      have HT := Lib.hid fun W => T3.out _ _ _ W (tri_triB T z2)
      have HC := Lib.hid hc
      rw [← hc] at c0 c1 c2 HT z1
      simp only at c0 c1 c2 HT z1
      have z3 : decide (1 + r < z) = false := by simp; omega
      have y1 : (0 : Int) ≤ k := by omega
      have y2 : (k : Int) < N := by omega
      clear T z2 c0 c1 c2
      obtain ⟨C0, hC0⟩ : ∃ C : World → Prop, ∀ X, C X ↔ (RowT X (.slice (some ⟨g, 0, none⟩) N cap) ts ∧ FirstAt X ∧ Below w.heap.size w X) := ⟨_, fun _ => Iff.rfl⟩
      have HC0 := Lib.hid hC0
      have hC : C0 wr.drew := (hC0 _).2 ⟨HR.out.kept (bl_drewN (bl_refl _) 1), HF.out.drew, bl_drewN HB.out 1⟩
      have c0 : ∀ s : Cls C0, s.w.cell? ⟨g, k * 3, none⟩ = some (.int .i64 x) := fun s => (RowT.at ((hC0 _).1 s.h).1 hk1 hc).1
      have c1 : ∀ s : Cls C0, s.w.cell? ⟨g, k * 3 + 1, none⟩ = some (.int .i64 y) := fun s => (RowT.at ((hC0 _).1 s.h).1 hk1 hc).2.1
      have c2 : ∀ s : Cls C0, s.w.cell? ⟨g, k * 3 + 2, none⟩ = some (.int .i64 z) := fun s => (RowT.at ((hC0 _).1 s.h).1 hk1 hc).2.2
      have HK : Hid (∀ (s : Cls C0) (w' : World), Below s.w.heap.size s.w w' → ∃ s' : Cls C0, w' = s'.w) := fun s w' hb => ⟨⟨w', (hC0 _).2 ⟨((hC0 _).1 s.h).1.kept hb, ((hC0 _).1 s.h).2.1.kept hb, bl_then ((hC0 _).1 s.h).2.2 hb⟩⟩, rfl⟩
      clear hC0
      by_cases hk0 : k = 0
      · have z5 : decide (0 < (k : Int)) = false := by simp; omega
        have z5' : decide (0 < k) = false := by simp; omega
        clear hc hk0
        go_wp2_with fail
        haveI : Nonempty (Cls C0) := ⟨⟨_, hC⟩⟩
        refine wp_region_class C0 hC (by kernel_rfl) (by kernel_rfl) ?_
        repeat (go_big_quiet_step ((rename_i s; go_at_call 22; refine (HT.out _).mono ?_; rintro e w6 ⟨rfl, hb6⟩; exact ⟨rfl, HK.out s w6 hb6⟩)))
        refine wpQuiet_nil ?_
        intro _ hw'
        obtain ⟨cs, hw''⟩ := hw'
        subst hw''
        obtain ⟨q1, q2, q3⟩ := (HC0.out _).1 cs.h
        go_wp2_with fail
        go_roundw
        case rel => exact ⟨k + 1, by omega, by go_num, q2, q1, q3⟩
        case measure => simp [intOf]; omega
      · obtain ⟨j, hj⟩ : ∃ j, k = j + 1 := ⟨k - 1, by omega⟩
        have hj1 : j < ts.length := by omega
        have hlast := HL.out j hj1 (by omega)
        obtain ⟨⟨x', y', z'⟩, hc'⟩ : ∃ c, c = ts[j] := ⟨_, rfl⟩
        have e2 : (x, y, z) = ts[j + 1] := by rw [hc]; congr 1
        rw [← e2, ← hc'] at hlast
        simp only at hlast
        have d2 : ∀ s : Cls C0, s.w.cell? ⟨g, j * 3 + 2, none⟩ = some (.int .i64 z') := fun s => (RowT.at ((HC0.out _).1 s.h).1 hj1 hc').2.2
        have z4 : decide (z ≤ z') = false := by simp; omega
        have z5 : decide (0 < (k : Int)) = true := by simp; omega
        have z5' : decide (0 < k) = true := by simp; omega
        have z6 : (k : Int) - 1 = j := by omega
        have y3 : (0 : Int) ≤ j := by omega
        have y4 : (j : Int) < N := by omega
        have q1 := wrapI (a := (j : Int)) (by omega)
        clear hc hc' e2 hk0 hlast hj
        go_wp2_with fail
        haveI : Nonempty (Cls C0) := ⟨⟨_, hC⟩⟩
        refine wp_region_class C0 hC (by kernel_rfl) (by kernel_rfl) ?_
        repeat (go_big_quiet_step ((rename_i s; go_at_call 22; refine (HT.out _).mono ?_; rintro e w6 ⟨rfl, hb6⟩; exact ⟨rfl, HK.out s w6 hb6⟩)))
        refine wpQuiet_nil ?_
        intro _ hw'
        obtain ⟨cs, hw''⟩ := hw'
        subst hw''
        obtain ⟨q1, q2, q3⟩ := (HC0.out _).1 cs.h
        go_wp2_with fail
        go_roundw
        case rel => exact ⟨k + 1, by omega, by go_num, q2, q1, q3⟩
        case measure => simp [intOf]; omega
    · have hkN : k = N := by omega
      clear hk hkN HZ HL
      go_wp2_with fail
      refine (M2.out N _ (by omega)).mono ?_
      rintro e w' ⟨⟨q, hq0, hq1, rfl⟩, rfl⟩
      obtain ⟨j, rfl⟩ : ∃ j : Nat, q = j := ⟨q.toNat, by omega⟩
      have hj1 : j < ts.length := by have := HN.out; omega
      have hj2 : j < N := by omega
      obtain ⟨T, z1, z2, hm⟩ := HA.out j hj1
      have hp := propO_eq hm
      obtain ⟨⟨x, y, z⟩, hc⟩ : ∃ c, c = ts[j] := ⟨_, rfl⟩
      obtain ⟨d0, d1, d2⟩ := RowT.at HR.out hj1 hc
      have hgl := (RowT.cellsAt HR.out).1
      rw [← hc] at T z1 z2 hm hp
      simp only at T z1 z2 hp
      have zl : 1 ≤ z ∧ z ≤ 1000000000 := ⟨by have := T.1; have := T.2.1; have := T.2.2.1; omega, z2⟩
      have P : Hid (∀ W, Calls Tryd.prog 18 #[.int .i64 z] W fun e w' => e = .returned (.tuple #[.agg #[.int .i64 x, .int .i64 y, .int .i64 z], .int .i64 0]) ∧ Below W.heap.size W w') := by
        intro W
        have k := Proper_yes z zl W
        rw [hp] at k
        exact k
      have ne := neTriSelf x y z
      have W1 := Whole.new wr 33 #[.int .i64 x, .int .i64 y, .int .i64 z]
      have HB1 := Lib.hid (bl_alloc HB.out (.cells #[.int .i64 x, .int .i64 y, .int .i64 z] 33))
      have HF1 := Lib.hid (HF.out.kept (bl_alloc (bl_refl _) (.cells #[.int .i64 x, .int .i64 y, .int .i64 z] 33)))
      have HR1 := Lib.hid (HR.out.kept (bl_alloc (bl_refl _) (.cells #[.int .i64 x, .int .i64 y, .int .i64 z] 33)))
      by_cases hz : z = 1
      · obtain ⟨rfl, rfl, rfl⟩ : x = 1 ∧ y = 1 ∧ z = 1 := ⟨by have := T.1; have := T.2.1; have := T.2.2.1; omega, by have := T.1; have := T.2.1; have := T.2.2.1; omega, hz⟩
        have PP := Lib.hid fun W => Parent_one W
        unfold trip zeros3 at PP
        clear T z1 z2 hm hp hc zl hz
        go_wp2_with fail
        refine (P.out _).mono ?_
        rintro e w2 ⟨rfl, hb2⟩
        have W2 := W1.kept hb2
        have k0 : w2.cell? ⟨wr.heap.size, 0, none⟩ = some (.int .i64 1) := (W2.cell 0).trans rfl
        have k1 : w2.cell? ⟨wr.heap.size, 1, none⟩ = some (.int .i64 1) := (W2.cell 1).trans rfl
        have k2 : w2.cell? ⟨wr.heap.size, 2, none⟩ = some (.int .i64 1) := (W2.cell 2).trans rfl
        have hs2 := W2.lt
        have W2' := W2.alloc (.cells #[.int .i64 1, .int .i64 1, .int .i64 1] 33)
        have HB2 := Lib.hid (bl_alloc (bl_then HB1.out hb2) (.cells #[.int .i64 1, .int .i64 1, .int .i64 1] 33))
        have HF2 := Lib.hid ((HF1.out.kept hb2).kept (bl_alloc (bl_refl _) (.cells #[.int .i64 1, .int .i64 1, .int .i64 1] 33)))
        go_wp2_with fail
        refine (PP.out _).mono ?_
        rintro e w3 ⟨rfl, hb3⟩
        have W3 := W2'.kept hb3
        have m2 : w3.cell? ⟨wr.heap.size, 2, none⟩ = some (.int .i64 1) := (W3.cell 2).trans rfl
        have hs3 := W3.lt
        have HB3 := Lib.hid (bl_alloc (bl_then HB2.out hb3) (.cells #[.int .i64 0, .int .i64 0, .int .i64 0] 33))
        have HF3 := Lib.hid ((HF2.out.kept hb3).kept (bl_alloc (bl_refl _) (.cells #[.int .i64 0, .int .i64 0, .int .i64 0] 33)))
        go_wp2_with fail
        refine (AW.out _ HF3.out).mono ?_
        rintro e w4 ⟨rfl, hb4⟩
        go_wp2_with fail
        go_ret
        exact ⟨rfl, bl_then HB3.out hb4⟩
      · have PP := Lib.hid fun W => Parent_yes x y z W T z2 (by omega)
        obtain ⟨TP, hyz⟩ := T.parent (by omega)
        obtain ⟨p, hp'⟩ : ∃ p, p = min x (3 * x * y - z) := ⟨_, rfl⟩
        obtain ⟨q, hq'⟩ : ∃ q, q = max x (3 * x * y - z) := ⟨_, rfl⟩
        rw [← hp', ← hq'] at PP TP
        have HU := Lib.hid (HM.out (p, q, y) (mem_TT.2 ⟨TP, by omega⟩) (show y ≤ 1 + r by omega))
        unfold trip at PP
        clear T z1 z2 hm hp hc zl hz TP hyz hp' hq'
        go_wp2_with fail
        refine (P.out _).mono ?_
        rintro e w2 ⟨rfl, hb2⟩
        have W2 := W1.kept hb2
        have k0 : w2.cell? ⟨wr.heap.size, 0, none⟩ = some (.int .i64 x) := (W2.cell 0).trans rfl
        have k1 : w2.cell? ⟨wr.heap.size, 1, none⟩ = some (.int .i64 y) := (W2.cell 1).trans rfl
        have k2 : w2.cell? ⟨wr.heap.size, 2, none⟩ = some (.int .i64 z) := (W2.cell 2).trans rfl
        have hs2 := W2.lt
        have HB2 := Lib.hid (bl_alloc (bl_then HB1.out hb2) (.cells #[.int .i64 x, .int .i64 y, .int .i64 z] 33))
        have HF2 := Lib.hid ((HF1.out.kept hb2).kept (bl_alloc (bl_refl _) (.cells #[.int .i64 x, .int .i64 y, .int .i64 z] 33)))
        have HR2 := Lib.hid ((HR1.out.kept hb2).kept (bl_alloc (bl_refl _) (.cells #[.int .i64 x, .int .i64 y, .int .i64 z] 33)))
        go_wp2_with fail
        refine (PP.out _).mono ?_
        rintro e w3 ⟨rfl, hb3⟩
        have V3 := Whole.new w3 33 #[.int .i64 p, .int .i64 q, .int .i64 y]
        have HB3 := Lib.hid (bl_alloc (bl_then HB2.out hb3) (.cells #[.int .i64 p, .int .i64 q, .int .i64 y] 33))
        have HF3 := Lib.hid ((HF2.out.kept hb3).kept (bl_alloc (bl_refl _) (.cells #[.int .i64 p, .int .i64 q, .int .i64 y] 33)))
        have HR3 := Lib.hid ((HR2.out.kept hb3).kept (bl_alloc (bl_refl _) (.cells #[.int .i64 p, .int .i64 q, .int .i64 y] 33)))
        obtain ⟨G, hG⟩ : ∃ G, G = w3.heap.size := ⟨_, rfl⟩
        rw [← hG] at V3
        clear P PP W1 W2 k0 k1 k2 hs2 d0 d1 d2 hgl hb2 hb3 HR2 HF2 HB2 HR1 HF1 HB1 HR HF HB
        go_wp2_with fail
        rw [← hG]
        clear hG
        go_loopw [13, 14] (fun f i wx => ∃ (c : Bool) (n : Nat), n ≤ N ∧ f = .bool c ∧ i = .int .i64 n ∧ Hid (c = has ts (p, q, y) n) ∧ Hid (FirstAt wx) ∧ Hid (RowT wx (.slice (some ⟨g, 0, none⟩) N cap) ts) ∧ Hid (Whole wx G 33 #[.int .i64 p, .int .i64 q, .int .i64 y]) ∧ Hid (Below w.heap.size w wx)) (fun _ i _ => N - (intOf i).toNat)
        case atStart => exact ⟨false, 0, Nat.zero_le _, rfl, rfl, rfl, HF3, HR3, V3, HB3⟩
        case round =>
          clear HF3 HR3 V3 HB3
          obtain ⟨c, n, hn, rfl, rfl, HH, HF, HR, HV, HB⟩ := hrel
          have v0 : wr.cell? ⟨G, 0, none⟩ = some (.int .i64 p) := (HV.out.cell 0).trans rfl
          have v1 : wr.cell? ⟨G, 1, none⟩ = some (.int .i64 q) := (HV.out.cell 1).trans rfl
          have v2 : wr.cell? ⟨G, 2, none⟩ = some (.int .i64 y) := (HV.out.cell 2).trans rfl
          have hGl := HV.out.lt
          by_cases hlt2 : n < N
          · have hn1 : n < ts.length := by have := HN.out; omega
            obtain ⟨⟨x', y', z'⟩, hc⟩ : ∃ c, c = ts[n] := ⟨_, rfl⟩
            obtain ⟨d0, d1, d2⟩ := RowT.at HR.out hn1 hc
            have hgl := (RowT.cellsAt HR.out).1
            have HX := Lib.hid (has_next (u := (p, q, y)) hn1)
            rw [← hc] at HX
            have y1 : (0 : Int) ≤ n := by omega
            have y2 : (n : Int) < N := by omega
            have E := eqA x' y' z' p q y
            obtain ⟨d, hd⟩ : ∃ d, d = decide (x' = p ∧ y' = q ∧ z' = y) := ⟨_, rfl⟩
            have HX2 : Hid (has ts (p, q, y) (n + 1) = (c || d)) := by
              show _ = _
              rw [HX.out, ← HH.out, decide_tri, hd]
            rw [← hd] at E
            clear hd hc HX HH
            cases c
            · go_wp2_with fail
              go_quiet (fail)
              go_wp2_with fail
              go_roundw
              case rel => exact ⟨_, n + 1, by omega, rfl, by go_num, HX2.out.symm, Lib.hid (HF.out.kept (bl_drewN (bl_refl _) _)), Lib.hid (HR.out.kept (bl_drewN (bl_refl _) _)), Lib.hid (HV.out.drewN _), Lib.hid (bl_drewN HB.out _)⟩
              case measure => simp [intOf]; omega
            · go_wp2_with fail
              go_quiet (fail)
              go_wp2_with fail
              go_roundw
              case rel => exact ⟨_, n + 1, by omega, rfl, by go_num, HX2.out.symm, Lib.hid (HF.out.kept (bl_drewN (bl_refl _) _)), Lib.hid (HR.out.kept (bl_drewN (bl_refl _) _)), Lib.hid (HV.out.drewN _), Lib.hid (bl_drewN HB.out _)⟩
              case measure => simp [intOf]; omega
          · have hnN : n = ts.length := by have := HN.out; omega
            have hc : c = true := by rw [HH.out, hnN]; exact has_all HU.out
            subst hc
            clear HH hnN
            go_wp2_with fail
            refine (AW.out _ HF.out).mono ?_
            rintro e w4 ⟨rfl, hb4⟩
            go_wp2_with fail
            go_ret
            exact ⟨rfl, bl_then HB.out hb4⟩
end Go.Proofs.YtpmamdadcmcbeaaDoor
