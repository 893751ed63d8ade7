/-
  Fraction.
-/
import Derived.Test.YtebpeomonglkbaaDoorW45
namespace Go.Proofs.YtebpeomonglkbaaDoor
open Go.RowKit Go.Sort Cam
set_option linter.unusedVariables false
set_option linter.unusedSimpArgs false

theorem cntT_few {s : ByteArray} (h : sumP (cntP s.data.toList) ≤ 1000000000) : addP (cntT s).1 (cntT s).2 = cntP s.data.toList := by
  have e : cntT s = grG addP s.data.toList true (1, 0) (0, 1) := by
    refine grT_few sum_add _ _ _ _ _ ?_
    have : sumP (addP (grG addP s.data.toList true (1, 0) (0, 1)).1 (grG addP s.data.toList true (1, 0) (0, 1)).2) ≤ 1000000000 := h
    rw [sum_add] at this
    exact this
  rw [e]; rfl
theorem cntT_many {s : ByteArray} (h : 1000000000 < sumP (cntP s.data.toList)) : 1000000000 < sumP (addP (cntT s).1 (cntT s).2) := by
  rw [sum_add]
  refine grT_many sum_add _ _ _ _ _ ?_
  have : 1000000000 < sumP (addP (grG addP s.data.toList true (1, 0) (0, 1)).1 (grG addP s.data.toList true (1, 0) (0, 1)).2) := h
  rw [sum_add] at this
  exact this
theorem arr60 : (Tryd.prog.info? 60).map (·.size) = some 2 := by kernel_rfl
def zeros2 : Value := .agg #[.int .i64 0, .int .i64 0]
def fracA (s : ByteArray) : Value := if isPathB s then if sumP (cntP s.data.toList) ≤ 1000000000 then .agg #[.int .i64 (cntP s.data.toList).2, .int .i64 (cntP s.data.toList).1] else zeros2 else zeros2
def fracE (s : ByteArray) : Int := if isPathB s then if sumP (cntP s.data.toList) ≤ 1000000000 then 0 else 5 else 2

set_option maxRecDepth 100000 in
set_option maxHeartbeats 1000000 in
theorem Fraction_any (s : ByteArray) (w : World) (hs : s.size ≤ 61) :
    Calls Tryd.prog 41 #[.string s] w fun e w' => e = .returned (.tuple #[fracA s, .int .i64 (fracE s)]) ∧ Below w.heap.size w w' := by
  have Q := Lib.hid fun W => isPath_any s W (by omega)
  by_cases hp : isPathB s = true
  · rw [hp] at Q
    by_cases hl : sumP (cntP s.data.toList) ≤ 1000000000
    · have ea : fracA s = .agg #[.int .i64 (cntP s.data.toList).2, .int .i64 (cntP s.data.toList).1] := by unfold fracA; rw [if_pos hp, if_pos hl]
      have ee : fracE s = 0 := by unfold fracE; rw [if_pos hp, if_pos hl]
      have hk := cntT_few hl
      rw [ea, ee]
      obtain ⟨⟨p, q⟩, hpq⟩ : ∃ pq, pq = cntP s.data.toList := ⟨_, rfl⟩
      rw [← hpq] at hl hk ⊢
      have G := Lib.hid fun W => (growP_any s W hs).mono (R' := fun e w' => e = .returned (.tuple #[.agg #[.int .i64 p, .int .i64 q], .bool true]) ∧ Below W.heap.size W w') (by
        rintro e w' ⟨p', q', rfl, h, hb⟩
        have := h.out.trans hk
        injection this with h1 h2
        subst h1 h2
        unfold sumP at hl
        exact ⟨ret2b (by simpa using hl), hb⟩)
      clear ea ee hp hk hpq
      unfold sumP at hl
      go_enter Tryd.func41, Tryd.ntmps41
      go_wp2_with fail
      refine (Q.out _).mono ?_
      rintro e w1 ⟨rfl, rfl⟩
      go_wp2_with fail
      refine (G.out _).mono ?_
      rintro e w1 ⟨rfl, hb1⟩
      have hR := (Whole.new w 60 #[.int .i64 0, .int .i64 0]).kept hb1
      have hs1 := hR.lt
      have f0 := hR.frozen 0
      have f1 := hR.frozen 1
      have r0 : w1.cell? ⟨w.heap.size, 0, none⟩ = some (.int .i64 0) := (hR.cell 0).trans rfl
      have r1 : w1.cell? ⟨w.heap.size, 1, none⟩ = some (.int .i64 0) := (hR.cell 1).trans rfl
      have hbA := bl_then (bl_alloc (bl_refl w) (.cells #[.int .i64 0, .int .i64 0] 60)) hb1
      go_wp2_with fail
      exact bodyPost_ret (res_cell_tmp (g := w.heap.size) Tryd.results41 rfl ((((hR.set 0 _).set 1 _).alloc _).load Tryd.underlying60 rfl arr60)) rfl ⟨rfl, bl_alloc (bl_set (bl_set hbA (by simp) _) (by simp) _) _⟩
    · have ea : fracA s = zeros2 := by unfold fracA; rw [if_pos hp, if_neg hl]
      have ee : fracE s = 5 := by unfold fracE; rw [if_pos hp, if_neg hl]
      have hk := cntT_many (show 1000000000 < sumP (cntP s.data.toList) by omega)
      rw [ea, ee]
      have G := Lib.hid fun W => (growP_any s W hs).mono (R' := fun e w' => ∃ p q : Nat, e = .returned (.tuple #[.agg #[.int .i64 p, .int .i64 q], .bool false]) ∧ Below W.heap.size W w') (by
        rintro e w' ⟨p', q', rfl, h, hb⟩
        rw [← h.out] at hk
        unfold sumP at hk
        exact ⟨p', q', ret2b (by simpa using hk), hb⟩)
      clear ea ee hp hk hl
      unfold zeros2
      go_enter Tryd.func41, Tryd.ntmps41
      go_wp2_with fail
      refine (Q.out _).mono ?_
      rintro e w1 ⟨rfl, rfl⟩
      go_wp2_with fail
      refine (G.out _).mono ?_
      rintro e w1 ⟨p, q, rfl, hb1⟩
      have hR := (Whole.new w 60 #[.int .i64 0, .int .i64 0]).kept hb1
      have hs1 := hR.lt
      have f0 := hR.frozen 0
      have f1 := hR.frozen 1
      have r0 : w1.cell? ⟨w.heap.size, 0, none⟩ = some (.int .i64 0) := (hR.cell 0).trans rfl
      have r1 : w1.cell? ⟨w.heap.size, 1, none⟩ = some (.int .i64 0) := (hR.cell 1).trans rfl
      have hbA := bl_then (bl_alloc (bl_refl w) (.cells #[.int .i64 0, .int .i64 0] 60)) hb1
      go_wp2_with fail
      exact bodyPost_ret (res_cell_tmp (g := w.heap.size) Tryd.results41 rfl ((((hR.set 0 _).set 1 _).alloc _).load Tryd.underlying60 rfl arr60)) rfl ⟨rfl, bl_alloc (bl_set (bl_set hbA (by simp) _) (by simp) _) _⟩
  · have hp : isPathB s = false := by simpa using hp
    have ea : fracA s = zeros2 := by unfold fracA; rw [hp]; rfl
    have ee : fracE s = 2 := by unfold fracE; rw [hp]; rfl
    rw [ea, ee]
    rw [hp] at Q
    clear ea ee hp
    unfold zeros2
    go_enter Tryd.func41, Tryd.ntmps41
    go_wp2_with fail
    refine (Q.out _).mono ?_
    rintro e w1 ⟨rfl, rfl⟩
    go_wp2_with fail
    exact bodyPost_ret (res_cell_tmp (g := w.heap.size) Tryd.results41 rfl ((Whole.new w 60 #[.int .i64 0, .int .i64 0]).load Tryd.underlying60 rfl arr60)) rfl ⟨rfl, bl_alloc (bl_refl _) _⟩
end Go.Proofs.YtebpeomonglkbaaDoor
