import Derived.Test.YtpmamdadcmcbeaaDoorW19
namespace Go.Proofs.YtpmamdadcmcbeaaDoor
open Go.RowKit Go.Sort Cam
set_option linter.unusedVariables false

theorem Parent_no (x y z : Int) (w : World) (h : triB 3 x y z = false) :
    Calls Tryd.prog 23 #[trip x y z] w fun e w' => e = .returned (.tuple #[zeros3, .int .i64 2]) ∧ Below w.heap.size w w' := by
  have I := Lib.hid fun W => isTriple_no 3 x y z W (by omega) h
  clear h
  unfold trip zeros3
  go_enter Tryd.func23, Tryd.ntmps23
  go_wp2_with fail
  refine (I.out _).mono ?_
  rintro e w1 ⟨rfl, hb1⟩
  obtain ⟨hc1, hf1⟩ := bl_cells hb1
  have hs1 : w.heap.size + 1 < w1.heap.size := by have := hb1.size; simp at this; omega
  go_wp2_with fail
  have hb := bl_then (bl_alloc (bl_alloc (bl_alloc (bl_refl w) _) _) _) hb1
  have hW : Whole w1 (w.heap.size + 1) 33 #[.int .i64 0, .int .i64 0, .int .i64 0] := ((Whole.new2 w _ _ _).alloc _).kept hb1
  exact bodyPost_ret (res_cell_tmp (g := w.heap.size + 1) Tryd.results23 rfl ((((hW.set 0 _).set 1 _).set 2 _).load Tryd.underlying33 rfl arr22)) rfl ⟨rfl, bl_set (bl_set (bl_set hb (by simp) _) (by simp) _) (by simp) _⟩
theorem Parent_in (x y z p q r : Int) (ok : Bool) (w : World) (h : triB 3 x y z = true)
    (hP : ∀ W, Calls Tryd.prog 41 #[trip x y z] W fun e w' => e = .returned (.tuple #[trip p q r, .bool ok]) ∧ Below W.heap.size W w') :
    Calls Tryd.prog 23 #[trip x y z] w fun e w' => e = .returned (.tuple #[if ok then trip p q r else zeros3, .int .i64 (if ok then 0 else 6)]) ∧ Below w.heap.size w w' := by
  have I := Lib.hid fun W => isTriple_yes 3 x y z W (by omega) h
  have E := Lib.hid hP
  clear h hP
  unfold trip zeros3 at *
  go_enter Tryd.func23, Tryd.ntmps23
  go_wp2_with fail
  refine (I.out _).mono ?_
  rintro e w1 ⟨rfl, hb1⟩
  obtain ⟨hc1, hf1⟩ := bl_cells hb1
  have hs1 : w.heap.size + 2 < w1.heap.size := by have := hb1.size; simp at this; omega
  go_wp2_with fail
  refine (E.out _).mono ?_
  rintro e w2 ⟨rfl, hb2⟩
  obtain ⟨hc2, hf2⟩ := bl_cells hb2
  have hs2 : w.heap.size + 2 < w2.heap.size := Nat.lt_of_lt_of_le hs1 hb2.size
  have hs2' : w.heap.size + 1 < w2.heap.size := by omega
  have hs1' : w.heap.size + 1 < w1.heap.size := by omega
  have hb := bl_then (bl_then (bl_alloc (bl_alloc (bl_alloc (bl_refl w) (.cells #[.int .i64 x, .int .i64 y, .int .i64 z] 33)) (.cells #[.int .i64 0, .int .i64 0, .int .i64 0] 33)) (.cells #[.int .i64 x, .int .i64 y, .int .i64 z] 56)) hb1) hb2
  have hW : Whole w2 (w.heap.size + 1) 33 #[.int .i64 0, .int .i64 0, .int .i64 0] := (((Whole.new2 w _ _ _).alloc _).kept hb1).kept hb2
  cases ok
  all_goals
    go_wp2_with fail
    exact bodyPost_ret (res_cell_tmp (g := w.heap.size + 1) Tryd.results23 rfl (((((hW.set 0 _).set 1 _).set 2 _).alloc _).load Tryd.underlying33 rfl arr22)) rfl ⟨rfl, bl_alloc (bl_set (bl_set (bl_set hb (by simp) _) (by simp) _) (by simp) _) _⟩
theorem Parent_yes (x y z : Int) (w : World) (h : Tri x y z) (h4 : z ≤ 1000000000) (h2 : 2 ≤ z) :
    Calls Tryd.prog 23 #[trip x y z] w fun e w' => e = .returned (.tuple #[trip (min x (3 * x * y - z)) (max x (3 * x * y - z)) y, .int .i64 0]) ∧ Below w.heap.size w w' :=
  Parent_in x y z _ _ _ true w (tri_triB h h4) fun W => parent_any x y z W h h4 h2
theorem Parent_one (w : World) :
    Calls Tryd.prog 23 #[trip 1 1 1] w fun e w' => e = .returned (.tuple #[zeros3, .int .i64 6]) ∧ Below w.heap.size w w' :=
  Parent_in 1 1 1 1 1 1 false w (by decide) fun W => parent_one 1 1 W
theorem Children_no (x y z : Int) (w : World) (h : triB 3 x y z = false) :
    Calls Tryd.prog 24 #[trip x y z] w fun e w' => e = .returned (.tuple #[.slice none 0 0, .int .i64 2]) ∧ Below w.heap.size w w' := by
  have I := Lib.hid fun W => isTriple_no 3 x y z W (by omega) h
  clear h
  unfold trip
  go_enter Tryd.func24, Tryd.ntmps24
  go_wp2_with fail
  refine (I.out _).mono ?_
  rintro e w1 ⟨rfl, hb1⟩
  go_wp2_with fail
  go_ret2
  exact ⟨rfl, bl_then (bl_alloc (bl_alloc (bl_refl w) _) _) hb1⟩
end Go.Proofs.YtpmamdadcmcbeaaDoor
