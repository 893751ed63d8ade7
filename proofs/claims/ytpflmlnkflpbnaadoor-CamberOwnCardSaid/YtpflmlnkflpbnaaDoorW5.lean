import Derived.Test.YtpflmlnkflpbnaaDoorW4
import Derived.Test.YtpflmlnkflpbnaaDoorW3
namespace Go.Proofs.YtpflmlnkflpbnaaDoor
open Go.RowKit Go.Sort Cam
set_option linter.unusedVariables false

theorem srt_eq {a b v p q r : Int} (h0 : min a (min b v) = p) (h1 : mid a b v = q) (h2 : max a (max b v) = r) : srt a b v = trip p q r := by
  unfold srt; rw [h0, h1, h2]

theorem Tri.le3 {x y z : Int} (h : Tri x y z) (h4 : z ≤ 1000000000) : (1 ≤ x ∧ x ≤ 1000000000) ∧ (1 ≤ y ∧ y ≤ 1000000000) ∧ (1 ≤ z ∧ z ≤ 1000000000) := by
  obtain ⟨h1, h2, h3, _⟩ := h; omega

/-- 'exchanged' at a solution: its left child, its right child, its parent. -/
theorem exch0 (x y z : Int) (w : World) (h : Tri x y z) (h4 : z ≤ 1000000000) :
    Calls Tryd.prog 60 #[trip x y z, .int .i64 0] w fun e w' =>
      e = .returned (.tuple #[trip y z (3 * y * z - x), .bool (decide (3 * y * z - x ≤ 1000000000))]) ∧ Below w.heap.size w w' := by
  obtain ⟨a, b, c⟩ := Tri.le3 h h4
  have l := h.left
  have e1 : min (3 * y * z - x) (min y z) = y := by have := l.2.1; have := l.2.2.1; omega
  have e2 : mid (3 * y * z - x) y z = z := by unfold mid; have := l.2.1; have := l.2.2.1; omega
  have e3 : max (3 * y * z - x) (max y z) = 3 * y * z - x := by have := l.2.1; have := l.2.2.1; omega
  have k := exchanged0 x y z w a b c
  rw [srt_eq e1 e2 e3, e3] at k
  exact k
theorem exch1 (x y z : Int) (w : World) (h : Tri x y z) (h4 : z ≤ 1000000000) :
    Calls Tryd.prog 60 #[trip x y z, .int .i64 1] w fun e w' =>
      e = .returned (.tuple #[trip x z (3 * x * z - y), .bool (decide (3 * x * z - y ≤ 1000000000))]) ∧ Below w.heap.size w w' := by
  obtain ⟨a, b, c⟩ := Tri.le3 h h4
  have l := h.right
  have e0 : 3 * z * x = 3 * x * z := by grind
  have k := exchanged1 x y z w a b c
  rw [e0] at k
  have e1 : min x (min (3 * x * z - y) z) = x := by have := l.2.1; have := l.2.2.1; omega
  have e2 : mid x (3 * x * z - y) z = z := by unfold mid; have := l.2.1; have := l.2.2.1; omega
  have e3 : max x (max (3 * x * z - y) z) = 3 * x * z - y := by have := l.2.1; have := l.2.2.1; omega
  rw [srt_eq e1 e2 e3, e3] at k
  exact k
theorem exch2 (x y z : Int) (w : World) (h : Tri x y z) (h4 : z ≤ 1000000000) (h2 : 2 ≤ z) :
    Calls Tryd.prog 60 #[trip x y z, .int .i64 2] w fun e w' =>
      e = .returned (.tuple #[trip (min x (3 * x * y - z)) (max x (3 * x * y - z)) y, .bool true]) ∧ Below w.heap.size w w' := by
  obtain ⟨a, b, c⟩ := Tri.le3 h h4
  obtain ⟨p, l⟩ := h.parent h2
  have e1 : min x (min y (3 * x * y - z)) = min x (3 * x * y - z) := by have := p.2.1; have := p.2.2.1; omega
  have e2 : mid x y (3 * x * y - z) = max x (3 * x * y - z) := by unfold mid; have := p.2.1; have := p.2.2.1; omega
  have e3 : max x (max y (3 * x * y - z)) = y := by have := p.2.1; have := p.2.2.1; omega
  have k := exchanged2 x y z w a b c
  rw [srt_eq e1 e2 e3, e3, show decide (y ≤ 1000000000) = true from by simp; omega] at k
  exact k

/-- A one-row method over 'exchanged'. -/
theorem left_any (x y z : Int) (w : World) (h : Tri x y z) (h4 : z ≤ 1000000000) :
    Calls Tryd.prog 33 #[trip x y z] w fun e w' =>
      e = .returned (.tuple #[trip y z (3 * y * z - x), .bool (decide ((3 * y * z - x) ≤ 1000000000))]) ∧ Below w.heap.size w w' := by
  have K := Lib.hid fun W => exch0 x y z W h h4
  clear h
  generalize (3 * y * z - x) = m at *
  generalize decide (m ≤ 1000000000) = ok at *
  unfold trip at K ⊢
  go_enter Tryd.func33, Tryd.ntmps33
  go_wp2_with fail
  refine (K.out _).mono ?_
  rintro e w1 ⟨rfl, hb1⟩
  obtain ⟨hc1, hf1⟩ := bl_cells hb1
  have hb := bl_then (bl_alloc (bl_alloc (bl_refl w) (.cells #[.int .i64 x, .int .i64 y, .int .i64 z] 42)) (.cells #[.int .i64 0, .int .i64 0, .int .i64 0] 42)) hb1
  have hW : Whole w1 (w.heap.size + 1) 42 #[.int .i64 0, .int .i64 0, .int .i64 0] := (Whole.new2 w _ _ _).kept hb1
  go_wp2_with fail
  exact bodyPost_ret (res_cell_tmp (g := w.heap.size + 1) Tryd.results33 rfl ((((hW.set 0 _).set 1 _).set 2 _).load Tryd.underlying42 rfl arr70)) rfl ⟨rfl, bl_set (bl_set (bl_set hb (by simp) _) (by simp) _) (by simp) _⟩
theorem right_any (x y z : Int) (w : World) (h : Tri x y z) (h4 : z ≤ 1000000000) :
    Calls Tryd.prog 46 #[trip x y z] w fun e w' =>
      e = .returned (.tuple #[trip x z (3 * x * z - y), .bool (decide ((3 * x * z - y) ≤ 1000000000))]) ∧ Below w.heap.size w w' := by
  have K := Lib.hid fun W => exch1 x y z W h h4
  clear h
  generalize (3 * x * z - y) = m at *
  generalize decide (m ≤ 1000000000) = ok at *
  unfold trip at K ⊢
  go_enter Tryd.func46, Tryd.ntmps46
  go_wp2_with fail
  refine (K.out _).mono ?_
  rintro e w1 ⟨rfl, hb1⟩
  obtain ⟨hc1, hf1⟩ := bl_cells hb1
  have hb := bl_then (bl_alloc (bl_alloc (bl_refl w) (.cells #[.int .i64 x, .int .i64 y, .int .i64 z] 42)) (.cells #[.int .i64 0, .int .i64 0, .int .i64 0] 42)) hb1
  have hW : Whole w1 (w.heap.size + 1) 42 #[.int .i64 0, .int .i64 0, .int .i64 0] := (Whole.new2 w _ _ _).kept hb1
  go_wp2_with fail
  exact bodyPost_ret (res_cell_tmp (g := w.heap.size + 1) Tryd.results46 rfl ((((hW.set 0 _).set 1 _).set 2 _).load Tryd.underlying42 rfl arr70)) rfl ⟨rfl, bl_set (bl_set (bl_set hb (by simp) _) (by simp) _) (by simp) _⟩

theorem parent_any (x y z : Int) (w : World) (h : Tri x y z) (h4 : z ≤ 1000000000) (h2 : 2 ≤ z) :
    Calls Tryd.prog 32 #[trip x y z] w fun e w' =>
      e = .returned (.tuple #[trip (min x (3 * x * y - z)) (max x (3 * x * y - z)) y, .bool true]) ∧ Below w.heap.size w w' := by
  have K := Lib.hid fun W => exch2 x y z W h h4 h2
  have hz : (z == 1) = false := by simp; omega
  clear h
  generalize min x (3 * x * y - z) = p at *
  generalize max x (3 * x * y - z) = q at *
  unfold trip at K ⊢
  go_enter Tryd.func32, Tryd.ntmps32
  go_wp2_with fail
  refine (K.out _).mono ?_
  rintro e w1 ⟨rfl, hb1⟩
  obtain ⟨hc1, hf1⟩ := bl_cells hb1
  have hb := bl_then (bl_alloc (bl_alloc (bl_refl w) (.cells #[.int .i64 x, .int .i64 y, .int .i64 z] 42)) (.cells #[.int .i64 0, .int .i64 0, .int .i64 0] 42)) hb1
  have hW : Whole w1 (w.heap.size + 1) 42 #[.int .i64 0, .int .i64 0, .int .i64 0] := (Whole.new2 w _ _ _).kept hb1
  go_wp2_with fail
  exact bodyPost_ret (res_cell_tmp (g := w.heap.size + 1) Tryd.results32 rfl ((((hW.set 0 _).set 1 _).set 2 _).load Tryd.underlying42 rfl arr70)) rfl ⟨rfl, bl_set (bl_set (bl_set hb (by simp) _) (by simp) _) (by simp) _⟩

theorem parent_one (x y : Int) (w : World) :
    Calls Tryd.prog 32 #[trip x y 1] w fun e w' => e = .returned (.tuple #[trip x y 1, .bool false]) ∧ Below w.heap.size w w' := by
  unfold trip
  go_enter Tryd.func32, Tryd.ntmps32
  go_wp2_with fail
  exact bodyPost_ret (v := .tuple #[.agg #[.int .i64 x, .int .i64 y, .int .i64 1], .bool false]) (by simp [results, Tryd.results32, go_sem]) rfl ⟨rfl, bl_alloc (bl_alloc (bl_refl _) _) _⟩

theorem sorted_any (a b c : Int) (w : World) (ha : 0 ≤ a ∧ a ≤ 4000000000000000000) (hb : 0 ≤ b ∧ b ≤ 1000000000) (hc : -1000000000 ≤ c ∧ c ≤ 3000000000000000000) (ha' : a ≤ 1000000000) :
    Calls Tryd.prog 48 #[.int .i64 a, .int .i64 b, .int .i64 c] w fun e w' => e = .returned (srt a b c) ∧ Below w.heap.size w w' := by
  unfold srt trip mid
  generalize e0 : min a (min b c) = lo
  generalize e1 : a + b + c - lo - max a (max b c) = md
  generalize e2 : max a (max b c) = hi at *
  have E0 := Lib.hid e0
  have E1 := Lib.hid e1
  have E2 := Lib.hid e2
  have l0 : -1000000000 ≤ lo := by omega
  have l1 : lo ≤ 1000000000 := by omega
  have l2 : 0 ≤ hi := by omega
  have l3 : hi ≤ 3000000000000000000 := by omega
  clear e0 e1 e2
  obtain ⟨ha0, ha1⟩ := ha
  obtain ⟨hb0, hb1⟩ := hb
  obtain ⟨hc0, hc1⟩ := hc
  go_enter Tryd.func48, Tryd.ntmps48
  go_wp2_with fail
  all_goals
    refine bodyPost_ret (res_cell (g := w.heap.size) Tryd.results48 rfl ((Whole.new w 32 _).load Tryd.underlying32 rfl arr22)) rfl ⟨ret_eq ?_, bl_alloc (bl_refl _) _⟩
    have q0 := E0.out
    have q1 := E1.out
    have q2 := E2.out
    clear E0 E1 E2
    rw [Value.agg.injEq]
    congr 1
    refine List.cons_eq_cons.2 ⟨?_, List.cons_eq_cons.2 ⟨?_, List.cons_eq_cons.2 ⟨?_, rfl⟩⟩⟩
    all_goals
      rw [Value.int.injEq]
      refine ⟨rfl, ?_⟩
      omega
end Go.Proofs.YtpflmlnkflpbnaaDoor
