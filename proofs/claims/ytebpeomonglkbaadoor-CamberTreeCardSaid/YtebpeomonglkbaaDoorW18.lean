import Derived.Test.YtebpeomonglkbaaDoorW17
namespace Go.Proofs.YtebpeomonglkbaaDoor
open Go.RowKit Go.Sort Cam
set_option linter.unusedVariables false

/-- A solution with one number exchanged. -/
def exF (at' x y z : Int) : T3 := if at' = 0 then (y, z, 3 * y * z - x) else if at' = 1 then (x, z, 3 * x * z - y) else if z = 1 then (1, 1, 2) else (min x (3 * x * y - z), max x (3 * x * y - z), y)
def vT (t : T3) : Value := trip t.1 t.2.1 t.2.2
def okB (t : T3) : Bool := decide (t.2.2 ≤ 1000000000)

theorem Tri.one {x y : Int} (h : Tri x y 1) : x = 1 ∧ y = 1 := by
  obtain ⟨h1, h2, h3, _⟩ := h; omega
theorem exch_any (a x y z : Int) (w : World) (h : Tri x y z) (h4 : z ≤ 1000000000) (h0 : 0 ≤ a ∧ a ≤ 2) :
    Calls Tryd.prog 65 #[trip x y z, .int .i64 a] w fun e w' => e = .returned (.tuple #[vT (exF a x y z), .bool (okB (exF a x y z))]) ∧ Below w.heap.size w w' := by
  have : a = 0 ∨ a = 1 ∨ a = 2 := by omega
  rcases this with rfl | rfl | rfl
  · exact exch0 x y z w h h4
  · exact exch1 x y z w h h4
  · by_cases hz : z = 1
    · subst hz
      obtain ⟨rfl, rfl⟩ := Tri.one h
      have k := exchanged2 1 1 1 w (by omega) (by omega) (by omega)
      have e : srt 1 1 (3 * 1 * 1 - 1) = vT (exF 2 1 1 1) := by unfold srt vT; rfl
      rw [e] at k
      exact k
    · have k := exch2 x y z w h h4 (by have := h.1; have := h.2.1; have := h.2.2.1; omega)
      have e : exF 2 x y z = (min x (3 * x * y - z), max x (3 * x * y - z), y) := by simp [exF, hz]
      rw [e]
      have ey : okB (min x (3 * x * y - z), max x (3 * x * y - z), y) = true := by have := h.2.2.1; simp [okB]; omega
      rw [ey]
      exact k
theorem refExch_any (a x y z : Int) (w : World) (h : Tri x y z) (h4 : z ≤ 1000000000) (h0 : 0 ≤ a ∧ a ≤ 2) :
    Calls Tryd.prog 36 #[trip x y z, .int .i64 a] w fun e w' => e = .returned (.tuple #[vT (exF a x y z), .bool (okB (exF a x y z))]) ∧ Below w.heap.size w w' := by
  have : a = 0 ∨ a = 1 ∨ a = 2 := by omega
  rcases this with rfl | rfl | rfl
  · exact refEx0 x y z w h h4
  · exact refEx1 x y z w h h4
  · by_cases hz : z = 1
    · subst hz
      obtain ⟨rfl, rfl⟩ := Tri.one h
      have k := refExchange2 1 1 1 w (by omega) (by omega) (by omega)
      have e : srt 1 1 (3 * 1 * 1 - 1) = vT (exF 2 1 1 1) := by unfold srt vT; rfl
      rw [e] at k
      exact k
    · have k := refEx2 x y z w h h4 (by have := h.1; have := h.2.1; have := h.2.2.1; omega)
      have e : exF 2 x y z = (min x (3 * x * y - z), max x (3 * x * y - z), y) := by simp [exF, hz]
      rw [e]
      have ey : okB (min x (3 * x * y - z), max x (3 * x * y - z), y) = true := by have := h.2.2.1; simp [okB]; omega
      rw [ey]
      exact k

def zeros3 : Value := .agg #[.int .i64 0, .int .i64 0, .int .i64 0]

theorem Exchange_no (a x y z : Int) (w : World) (h : triB 3 x y z = false) :
    Calls Tryd.prog 35 #[trip x y z, .int .i64 a] w fun e w' => e = .returned (.tuple #[zeros3, .int .i64 2]) ∧ Below w.heap.size w w' := by
  have I := Lib.hid fun W => isTriple_no 3 x y z W (by omega) h
  clear h
  unfold trip zeros3
  go_enter Tryd.func35, Tryd.ntmps35
  go_wp2_with fail
  refine (I.out _).mono ?_
  rintro e w1 ⟨rfl, hb1⟩
  obtain ⟨hc1, hf1⟩ := bl_cells hb1
  have hs1 : w.heap.size + 1 < w1.heap.size := by have := hb1.size; simp at this; omega
  go_wp2_with fail
  have hb := bl_then (bl_alloc (bl_alloc (bl_alloc (bl_refl w) _) _) _) hb1
  have hW : Whole w1 (w.heap.size + 1) 22 #[.int .i64 0, .int .i64 0, .int .i64 0] := ((Whole.new2 w _ _ _).alloc _).kept hb1
  exact bodyPost_ret (res_cell_tmp (g := w.heap.size + 1) Tryd.results35 rfl ((((hW.set 0 _).set 1 _).set 2 _).load Tryd.underlying22 rfl arr22)) rfl ⟨rfl, bl_set (bl_set (bl_set hb (by simp) _) (by simp) _) (by simp) _⟩
theorem Exchange_at (a x y z : Int) (w : World) (h : triB 3 x y z = true) (ha : ¬ (0 ≤ a ∧ a ≤ 2)) :
    Calls Tryd.prog 35 #[trip x y z, .int .i64 a] w fun e w' => e = .returned (.tuple #[zeros3, .int .i64 2]) ∧ Below w.heap.size w w' := by
  have I := Lib.hid fun W => isTriple_yes 3 x y z W (by omega) h
  have J := Lib.hid fun W => within_no a 0 2 W ha
  clear h ha
  unfold trip zeros3
  go_enter Tryd.func35, Tryd.ntmps35
  go_wp2_with fail
  refine (I.out _).mono ?_
  rintro e w1 ⟨rfl, hb1⟩
  obtain ⟨hc1, hf1⟩ := bl_cells hb1
  have hs1 : w.heap.size + 1 < w1.heap.size := by have := hb1.size; simp at this; omega
  go_wp2_with fail
  refine (J.out _).mono ?_
  rintro e w2 ⟨rfl, rfl⟩
  go_wp2_with fail
  have hb := bl_then (bl_alloc (bl_alloc (bl_alloc (bl_refl w) _) _) _) hb1
  have hW : Whole w1 (w.heap.size + 1) 22 #[.int .i64 0, .int .i64 0, .int .i64 0] := ((Whole.new2 w _ _ _).alloc _).kept hb1
  exact bodyPost_ret (res_cell_tmp (g := w.heap.size + 1) Tryd.results35 rfl ((((hW.set 0 _).set 1 _).set 2 _).load Tryd.underlying22 rfl arr22)) rfl ⟨rfl, bl_set (bl_set (bl_set hb (by simp) _) (by simp) _) (by simp) _⟩
theorem Exchange_in (a x y z p q r : Int) (ok : Bool) (w : World) (h : Tri x y z) (h4 : z ≤ 1000000000) (h0 : 0 ≤ a ∧ a ≤ 2) (hp : exF a x y z = (p, q, r)) (hk : okB (p, q, r) = ok) :
    Calls Tryd.prog 35 #[trip x y z, .int .i64 a] w fun e w' => e = .returned (.tuple #[if ok then trip p q r else zeros3, .int .i64 (if ok then 0 else 5)]) ∧ Below w.heap.size w w' := by
  have I := Lib.hid fun W => isTriple_yes 3 x y z W (by omega) (tri_triB h h4)
  have J := Lib.hid fun W => within_yes a 0 2 W h0
  have E := Lib.hid fun W => exch_any a x y z W h h4 h0
  rw [hp, hk] at E
  clear h hp hk
  unfold vT at E
  unfold trip zeros3 at *
  go_enter Tryd.func35, Tryd.ntmps35
  go_wp2_with fail
  refine (I.out _).mono ?_
  rintro e w1 ⟨rfl, hb1⟩
  obtain ⟨hc1, hf1⟩ := bl_cells hb1
  have hs1 : w.heap.size + 2 < w1.heap.size := by have := hb1.size; simp at this; omega
  go_wp2_with fail
  refine (J.out _).mono ?_
  rintro e w2 ⟨rfl, rfl⟩
  go_wp2_with fail
  refine (E.out _).mono ?_
  rintro e w2 ⟨rfl, hb2⟩
  obtain ⟨hc2, hf2⟩ := bl_cells hb2
  have hs2 : w.heap.size + 2 < w2.heap.size := Nat.lt_of_lt_of_le hs1 hb2.size
  have hs2' : w.heap.size + 1 < w2.heap.size := by omega
  have hs1' : w.heap.size + 1 < w1.heap.size := by omega
  have hb := bl_then (bl_then (bl_alloc (bl_alloc (bl_alloc (bl_refl w) (.cells #[.int .i64 x, .int .i64 y, .int .i64 z] 22)) (.cells #[.int .i64 0, .int .i64 0, .int .i64 0] 22)) (.cells #[.int .i64 x, .int .i64 y, .int .i64 z] 70)) hb1) hb2
  have hW : Whole w2 (w.heap.size + 1) 22 #[.int .i64 0, .int .i64 0, .int .i64 0] := (((Whole.new2 w _ _ _).alloc _).kept hb1).kept hb2
  cases ok
  all_goals
    go_wp2_with fail
    exact bodyPost_ret (res_cell_tmp (g := w.heap.size + 1) Tryd.results35 rfl (((((hW.set 0 _).set 1 _).set 2 _).alloc _).load Tryd.underlying22 rfl arr22)) rfl ⟨rfl, bl_alloc (bl_set (bl_set (bl_set hb (by simp) _) (by simp) _) (by simp) _) _⟩
end Go.Proofs.YtebpeomonglkbaaDoor
