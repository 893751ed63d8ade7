import Derived.Test.YtebpeomonglkbaaDoorW14
namespace Go.Proofs.YtebpeomonglkbaaDoor
open Go.RowKit Go.Sort Cam
set_option linter.unusedVariables false

theorem Path_no (x y z : Int) (w : World) (h : triB 3 x y z = false) :
    Calls Tryd.prog 19 #[trip x y z] w fun e w' => e = .returned (.tuple #[.string ⟨#[]⟩, .int .i64 2]) ∧ Below w.heap.size w w' := by
  have K := Lib.hid fun W => isTriple_no 3 x y z W (by omega) h
  clear h
  unfold trip
  go_enter Tryd.func19, Tryd.ntmps19
  go_wp2_with fail
  refine (K.out _).mono ?_
  rintro e w1 ⟨rfl, hb1⟩
  go_wp2_with fail
  go_ret2
  exact ⟨rfl, bl_then (bl_alloc (bl_alloc (bl_refl _) _) _) hb1⟩
theorem Path_small (x y z : Int) (w : World) (h : Tri x y z) (h2 : z ≤ 2) :
    Calls Tryd.prog 19 #[trip x y z] w fun e w' => e = .returned (.tuple #[.string ⟨#[]⟩, .int .i64 6]) ∧ Below w.heap.size w w' := by
  have K := Lib.hid fun W => isTriple_yes 3 x y z W (by omega) (tri_triB h (by omega))
  clear h
  unfold trip
  go_enter Tryd.func19, Tryd.ntmps19
  go_wp2_with fail
  refine (K.out _).mono ?_
  rintro e w1 ⟨rfl, hb1⟩
  obtain ⟨hc1, hf1⟩ := bl_cells hb1
  go_wp2_with fail
  go_ret2
  exact ⟨rfl, bl_then (bl_alloc (bl_alloc (bl_refl _) _) _) hb1⟩

set_option maxRecDepth 100000 in
set_option maxHeartbeats 1000000 in
theorem CamberPaths_walk (x y z : Int) (w : World) (hF : FirstAt w) :
    Calls Tryd.prog 3 #[trip x y z] w fun e w' => e = .returned (.bool true) ∧ Below w.heap.size w w' := by
  have AW := Lib.hid fun W h => awake_any W h
  by_cases ht : triB 3 x y z = true
  · obtain ⟨T, h4⟩ := triB_tri ht
    have R := Lib.hid fun W => refTriple_yes x y z W ht
    have Q := Lib.hid fun W => refPath_any x y z W T h4
    by_cases h2 : z ≤ 2
    · have P := Lib.hid fun W => Path_small x y z W T h2
      rw [show decide (3 ≤ z) = false from by simp; omega] at Q
      unfold trip at P Q ⊢
      clear T ht h2
      generalize pathV x y z = V at *
      go_enter Tryd.func3, Tryd.ntmps3
      go_wp2_with fail
      refine (P.out _).mono ?_
      rintro e w1 ⟨rfl, hb1⟩
      obtain ⟨hc1, hf1⟩ := bl_cells hb1
      have hF1 := (hF.kept (bl_alloc (bl_refl _) _)).kept hb1
      have hbA := bl_then (bl_alloc (bl_refl w) _) hb1
      go_wp2_with fail
      refine (R.out _).mono ?_
      rintro e w2 ⟨rfl, hb2⟩
      obtain ⟨hc2, hf2⟩ := bl_cells hb2
      have hF2 := hF1.kept hb2
      have hbB := bl_then hbA hb2
      have hs1 : w.heap.size < w1.heap.size := by have := hb1.size; simp at this; omega
      go_wp2_with fail
      refine (Q.out _).mono ?_
      rintro e w3 ⟨rfl, hb3⟩
      have hF3 := hF2.kept hb3
      have hbC := bl_then hbB hb3
      clear hc1 hf1 hc2 hf2
      go_wp2_with fail
      refine (AW.out _ hF3).mono ?_
      rintro e w4 ⟨rfl, hb4⟩
      go_wp2_with fail
      go_ret
      exact ⟨rfl, bl_then hbC hb4⟩
    · have P := Lib.hid fun W h => Path_any x y z W T h4 (by omega) h
      rw [show decide (3 ≤ z) = true from by simp; omega] at Q
      obtain ⟨l, hl⟩ : ∃ l, pathV x y z = .string l := ⟨_, rfl⟩
      rw [hl] at P Q
      unfold trip at P Q ⊢
      clear T ht h2 hl
      go_enter Tryd.func3, Tryd.ntmps3
      go_wp2_with fail
      have hF0 := hF.kept (bl_alloc (bl_refl _) (.cells #[.int .i64 x, .int .i64 y, .int .i64 z] 22))
      refine (P.out _ hF0).mono ?_
      rintro e w1 ⟨rfl, hb1⟩
      obtain ⟨hc1, hf1⟩ := bl_cells hb1
      have hF1 := hF0.kept hb1
      have hbA := bl_then (bl_alloc (bl_refl w) _) hb1
      go_wp2_with fail
      refine (R.out _).mono ?_
      rintro e w2 ⟨rfl, hb2⟩
      obtain ⟨hc2, hf2⟩ := bl_cells hb2
      have hF2 := hF1.kept hb2
      have hbB := bl_then hbA hb2
      have hs1 : w.heap.size < w1.heap.size := by have := hb1.size; simp at this; omega
      go_wp2_with fail
      refine (Q.out _).mono ?_
      rintro e w3 ⟨rfl, hb3⟩
      have hF3 := hF2.kept hb3
      have hbC := bl_then hbB hb3
      clear hc1 hf1 hc2 hf2
      go_wp2_with fail
      refine (AW.out _ hF3).mono ?_
      rintro e w4 ⟨rfl, hb4⟩
      go_wp2_with fail
      go_ret
      exact ⟨rfl, bl_then hbC hb4⟩
  · have ht : triB 3 x y z = false := by simpa using ht
    have R := Lib.hid fun W => refTriple_no x y z W ht
    have P := Lib.hid fun W => Path_no x y z W ht
    unfold trip at P ⊢
    clear ht
    go_enter Tryd.func3, Tryd.ntmps3
    go_wp2_with fail
    refine (P.out _).mono ?_
    rintro e w1 ⟨rfl, hb1⟩
    obtain ⟨hc1, hf1⟩ := bl_cells hb1
    have hF1 := (hF.kept (bl_alloc (bl_refl _) _)).kept hb1
    have hbA := bl_then (bl_alloc (bl_refl w) _) hb1
    go_wp2_with fail
    refine (R.out _).mono ?_
    rintro e w2 ⟨rfl, hb2⟩
    have hF2 := hF1.kept hb2
    have hbB := bl_then hbA hb2
    clear hc1 hf1
    go_wp2_with fail
    refine (AW.out _ hF2).mono ?_
    rintro e w4 ⟨rfl, hb4⟩
    go_wp2_with fail
    go_ret
    exact ⟨rfl, bl_then hbB hb4⟩
end Go.Proofs.YtebpeomonglkbaaDoor
