/-
  proper, Proper, and the reference's.
-/
import Derived.Test.YtpmamdadcmcbeaaDoorW71
import Derived.Test.YtpmamdadcmcbeaaDoorW31
namespace Go.Proofs.YtpmamdadcmcbeaaDoor
open Go.RowKit Go.Sort Cam
set_option linter.unusedVariables false
set_option linter.unusedSimpArgs false

theorem find_at {p : T3' → Bool} : ∀ (ts : List T3') (k : Nat) (hk : k < ts.length), (∀ j (h : j < ts.length), j < k → p ts[j] = false) → p ts[k] = true → ts.find? p = some ts[k]
  | [], k, hk, _, _ => by cases hk
  | a :: l, 0, hk, _, h => by simp [List.find?_cons, show p a = true from h]
  | a :: l, k + 1, hk, hn, h => by
    have h0 : p a = false := hn 0 (by simp) (by omega)
    rw [List.find?_cons, h0]
    exact find_at l k (by simpa using hk) (fun j hj hjk => hn (j + 1) (by simpa using hj) (by omega)) h
theorem find_none {p : T3' → Bool} : ∀ (ts : List T3'), (∀ j (h : j < ts.length), p ts[j] = false) → ts.find? p = none
  | [], _ => rfl
  | a :: l, h => by
    have h0 : p a = false := h 0 (by simp)
    rw [List.find?_cons, h0]
    exact find_none l fun j hj => h (j + 1) (by simpa using hj)
/-- The solution whose greatest number is x. -/
def propO (x : Int) : Option T3' := (upTo x).find? fun t => decide (t.2.2 = x)
theorem arr56 : (Tryd.prog.info? 56).map (·.size) = some 3 := by kernel_rfl
theorem arr33 : (Tryd.prog.info? 33).map (·.size) = some 3 := by kernel_rfl

set_option maxRecDepth 100000 in
set_option maxHeartbeats 1000000 in
theorem proper_any (x : Int) (hx : 1 ≤ x ∧ x ≤ 1000000000) (w : World) :
    Calls Tryd.prog 39 #[.int .i64 x] w fun e w' => e = .returned (.tuple #[optV (propO x), .bool (propO x).isSome]) ∧ Below w.heap.size w w' := by
  have A := Lib.hid fun W => all_any x hx W
  obtain ⟨hn1, hn2⟩ := upTo_len hx.1
  have HP : Hid (propO x = (upTo x).find? fun t => decide (t.2.2 = x)) := rfl
  generalize propO x = V at *
  generalize upTo x = ts at *
  go_enter Tryd.func39, Tryd.ntmps39
  go_wp2_with fail
  refine (A.out _).mono ?_
  rintro e w1 ⟨v, rfl, hown, hb1⟩
  obtain ⟨g, cap, rfl, hg0, _⟩ := own_form hown (by omega)
  have hR := (Whole.new w 56 #[.int .i64 0, .int .i64 0, .int .i64 0]).kept hb1
  have hbA := bl_then (bl_alloc (bl_refl w) (.cells #[.int .i64 0, .int .i64 0, .int .i64 0] 56)) hb1
  go_wp2_with fail
  obtain ⟨N, hN⟩ : ∃ N, N = ts.length := ⟨_, rfl⟩
  have HN := Lib.hid hN
  rw [← hN] at hown hn1 hn2 ⊢
  clear hN
  go_loopw [9] (fun i wr => ∃ k : Nat, k ≤ N ∧ i = .int .i64 k ∧ Hid (∀ j (h : j < ts.length), j < k → decide (ts[j].2.2 = x) = false) ∧ Whole wr w.heap.size 56 #[.int .i64 0, .int .i64 0, .int .i64 0] ∧ Hid (RowT wr (.slice (some ⟨g, 0, none⟩) N cap) ts) ∧ Below w.heap.size w wr) (fun i _ => N - (intOf i).toNat)
  case atStart => exact ⟨0, Nat.zero_le _, rfl, fun j h k => absurd k (Nat.not_lt_zero _), hR, by rw [HN.out] at hown ⊢; exact rowT_own hown, hbA⟩
  case round =>
    obtain ⟨k, hk, rfl, HQ, hR, HR, hb⟩ := hrel
    have r0 : wr.cell? ⟨w.heap.size, 0, none⟩ = some (.int .i64 0) := (hR.cell 0).trans rfl
    have r1 : wr.cell? ⟨w.heap.size, 1, none⟩ = some (.int .i64 0) := (hR.cell 1).trans rfl
    have r2 : wr.cell? ⟨w.heap.size, 2, none⟩ = some (.int .i64 0) := (hR.cell 2).trans rfl
    have f0 := hR.frozen 0
    have f1 := hR.frozen 1
    have f2 := hR.frozen 2
    have hsz := hR.lt
    by_cases hlt : k < N
    · have hk1 : k < ts.length := by have := HN.out; omega
      obtain ⟨c0, c1, c2⟩ := (RowT.cellsAt (n := N) (cap := cap) HR.out).2 k hk1
      have hgl := (RowT.cellsAt (n := N) (cap := cap) HR.out).1
      obtain ⟨⟨p, q, r⟩, hc⟩ : ∃ c, c = ts[k] := ⟨_, rfl⟩
      rw [← hc] at c0 c1 c2
      simp only at c0 c1 c2
      by_cases hr : r = x
      · have HV : Hid (V = some (p, q, r)) := by
          show _ = _
          rw [HP.out, find_at ts k hk1 HQ.out (by rw [← hc]; simp [hr]), hc]
        have hr1 : (r == x) = true := by simp [hr]
        have HE := Lib.hid hr
        clear hr hc
        go_wp2_with fail
        exact bodyPost_ret (res_cell_tmp (g := w.heap.size) Tryd.results39 rfl (((((hR.set 0 _).set 1 _).set 2 _).alloc _).load Tryd.underlying56 rfl arr56)) rfl ⟨by rw [HV.out]; rfl, bl_alloc (bl_set (bl_set (bl_set hb (by simp) _) (by simp) _) (by simp) _) _⟩
      · have hr1 : (r == x) = false := by simp [hr]
        have HQ2 : Hid (∀ j (h : j < ts.length), j < k + 1 → decide (ts[j].2.2 = x) = false) := by
          intro j h hj
          rcases Nat.lt_or_ge j k with h1 | h1
          · exact HQ.out j h h1
          · obtain rfl : j = k := by omega
            rw [← hc]; simp [hr]
        clear hr hc HQ
        go_wp2_with fail
        go_roundw
        case rel => exact ⟨k + 1, by omega, by go_num, HQ2, hR.alloc _, Lib.hid (HR.out.kept (bl_alloc (bl_refl _) _)), bl_alloc hb _⟩
        case measure => simp [intOf]; omega
    · have HV : Hid (V = none) := by
        show _ = _
        rw [HP.out, find_none ts fun j h => HQ.out j h (by have := HN.out; omega)]
      clear HQ
      go_wp2_with fail
      exact bodyPost_ret (res_cell_tmp (g := w.heap.size) Tryd.results39 rfl ((((hR.set 0 _).set 1 _).set 2 _).load Tryd.underlying56 rfl arr56)) rfl ⟨by rw [HV.out]; rfl, bl_set (bl_set (bl_set hb (by simp) _) (by simp) _) (by simp) _⟩

set_option maxRecDepth 100000 in
set_option maxHeartbeats 1000000 in
theorem refProper_any (x : Int) (hx : 1 ≤ x ∧ x ≤ 1000000000) (w : World) :
    Calls Tryd.prog 19 #[.int .i64 x] w fun e w' => e = .returned (.tuple #[optV (propO x), .bool (propO x).isSome]) ∧ Below w.heap.size w w' := by
  have A := Lib.hid fun W => refAll_any x W hx
  obtain ⟨hn1, hn2⟩ := upTo_len hx.1
  have HP : Hid (propO x = (upTo x).find? fun t => decide (t.2.2 = x)) := rfl
  generalize propO x = V at *
  generalize upTo x = ts at *
  go_enter Tryd.func19, Tryd.ntmps19
  go_wp2_with fail
  refine (A.out _).mono ?_
  rintro e w1 ⟨v, rfl, hrow, hb1⟩
  obtain ⟨g, cap, rfl⟩ : ∃ g cap, v = .slice (some ⟨g, 0, none⟩) ts.length cap := by
    rcases hrow with ⟨_, h0⟩ | ⟨g, cap, h, _⟩
    · rw [h0] at hn1; simp at hn1
    · exact ⟨g, cap, h⟩
  have hR := (Whole.new w 33 #[.int .i64 0, .int .i64 0, .int .i64 0]).kept hb1
  have hbA := bl_then (bl_alloc (bl_refl w) (.cells #[.int .i64 0, .int .i64 0, .int .i64 0] 33)) hb1
  have HR0 := Lib.hid hrow
  clear hrow
  go_wp2_with fail
  obtain ⟨N, hN⟩ : ∃ N, N = ts.length := ⟨_, rfl⟩
  have HN := Lib.hid hN
  rw [← hN] at HR0 hn1 hn2 ⊢
  clear hN
  go_loopw [5] (fun i wr => ∃ k : Nat, k ≤ N ∧ i = .int .i64 k ∧ Hid (∀ j (h : j < ts.length), j < k → decide (ts[j].2.2 = x) = false) ∧ Whole wr w.heap.size 33 #[.int .i64 0, .int .i64 0, .int .i64 0] ∧ Hid (RowT wr (.slice (some ⟨g, 0, none⟩) N cap) ts) ∧ Below w.heap.size w wr) (fun i _ => N - (intOf i).toNat)
  case atStart => exact ⟨0, Nat.zero_le _, rfl, fun j h k => absurd k (Nat.not_lt_zero _), hR, HR0, hbA⟩
  case round =>
    obtain ⟨k, hk, rfl, HQ, hR, HR, hb⟩ := hrel
    have r0 : wr.cell? ⟨w.heap.size, 0, none⟩ = some (.int .i64 0) := (hR.cell 0).trans rfl
    have r1 : wr.cell? ⟨w.heap.size, 1, none⟩ = some (.int .i64 0) := (hR.cell 1).trans rfl
    have r2 : wr.cell? ⟨w.heap.size, 2, none⟩ = some (.int .i64 0) := (hR.cell 2).trans rfl
    have f0 := hR.frozen 0
    have f1 := hR.frozen 1
    have f2 := hR.frozen 2
    have hsz := hR.lt
    by_cases hlt : k < N
    · have hk1 : k < ts.length := by have := HN.out; omega
      obtain ⟨c0, c1, c2⟩ := (RowT.cellsAt (n := N) (cap := cap) HR.out).2 k hk1
      have hgl := (RowT.cellsAt (n := N) (cap := cap) HR.out).1
      obtain ⟨⟨p, q, r⟩, hc⟩ : ∃ c, c = ts[k] := ⟨_, rfl⟩
      rw [← hc] at c0 c1 c2
      simp only at c0 c1 c2
      by_cases hr : r = x
      · have HV : Hid (V = some (p, q, r)) := by
          show _ = _
          rw [HP.out, find_at ts k hk1 HQ.out (by rw [← hc]; simp [hr]), hc]
        have hr1 : (r == x) = true := by simp [hr]
        have HE := Lib.hid hr
        clear hr hc
        go_wp2_with fail
        exact bodyPost_ret (res_cell_tmp (g := w.heap.size) Tryd.results19 rfl ((((hR.set 0 _).set 1 _).set 2 _).load Tryd.underlying33 rfl arr33)) rfl ⟨by rw [HV.out]; rfl, bl_set (bl_set (bl_set hb (by simp) _) (by simp) _) (by simp) _⟩
      · have hr1 : (r == x) = false := by simp [hr]
        have HQ2 : Hid (∀ j (h : j < ts.length), j < k + 1 → decide (ts[j].2.2 = x) = false) := by
          intro j h hj
          rcases Nat.lt_or_ge j k with h1 | h1
          · exact HQ.out j h h1
          · obtain rfl : j = k := by omega
            rw [← hc]; simp [hr]
        clear hr hc HQ
        go_wp2_with fail
        go_roundw
        case rel => exact ⟨k + 1, by omega, by go_num, HQ2, hR, HR, hb⟩
        case measure => simp [intOf]; omega
    · have HV : Hid (V = none) := by
        show _ = _
        rw [HP.out, find_none ts fun j h => HQ.out j h (by have := HN.out; omega)]
      clear HQ
      go_wp2_with fail
      exact bodyPost_ret (res_cell_tmp (g := w.heap.size) Tryd.results19 rfl ((((hR.set 0 _).set 1 _).set 2 _).load Tryd.underlying33 rfl arr33)) rfl ⟨by rw [HV.out]; rfl, bl_set (bl_set (bl_set hb (by simp) _) (by simp) _) (by simp) _⟩
end Go.Proofs.YtpmamdadcmcbeaaDoor
