import Derived.Test.YtebpeomonglkbaaDoorW14
namespace Go.Proofs.YtebpeomonglkbaaDoor
open Go.RowKit Go.Sort Cam
set_option linter.unusedVariables false

theorem FirstAt.drew {w : World} (h : FirstAt w) : FirstAt w.drew := h.kept (bl_drewN (bl_refl _) 1)
theorem eq000 (W : World) : (binOp .eql 22 (.agg #[.int .i64 0, .int .i64 0, .int .i64 0]) (.agg #[.int .i64 0, .int .i64 0, .int .i64 0])).run Tryd.prog W = .ok (.bool true) W := by kernel_rfl

set_option maxRecDepth 100000 in
set_option maxHeartbeats 1000000 in
theorem CamberRoots_walk (x y z : Int) (w : World) (hF : FirstAt w) :
    Calls Tryd.prog 4 #[trip x y z] w fun e w' => e = .returned (.bool true) ∧ Below w.heap.size w w' := by
  have AW := Lib.hid fun W h => awake_any W h
  have P := Lib.hid fun W => Root_any x y z W
  have Q := Lib.hid fun W => Form_any x y z W
  have e0 := eq000
  by_cases ht : triB 3 x y z = true
  · have R := Lib.hid fun W => refTriple_yes x y z W ht
    obtain ⟨T, h4⟩ := triB_tri ht
    by_cases hz : z = 1
    · subst hz
      have hA : rootA x y 1 = 0 := by simp [rootA]
      have hE : rootE x y 1 = 6 := by unfold rootE; rw [if_pos ht, if_pos rfl]
      have hV : formA x y 1 = .agg #[.int .i64 0, .int .i64 0, .int .i64 0] := by simp [formA, hE]
      rw [hA, hE] at P
      rw [hV, hE] at Q
      unfold trip
      clear ht T hA hE hV
      go_enter Tryd.func4, Tryd.ntmps4
      go_wp2_with fail
      refine (P.out _).mono ?_
      rintro e w1 ⟨rfl, hb1⟩
      obtain ⟨hc1, hf1⟩ := bl_cells hb1
      have hF1 := (hF.kept (bl_alloc (bl_refl _) _)).kept hb1
      have hbA := bl_then (bl_alloc (bl_refl w) _) hb1
      have hs1 : w.heap.size < w1.heap.size := by have := hb1.size; simp at this; omega
      go_wp2_with fail
      refine (Q.out _).mono ?_
      rintro e w2 ⟨rfl, hb2⟩
      obtain ⟨hc2, hf2⟩ := bl_cells hb2
      have hF2 := hF1.kept hb2
      have hbB := bl_then hbA hb2
      have hs2 : w.heap.size < w2.heap.size := Nat.lt_of_lt_of_le hs1 hb2.size
      go_wp2_with fail
      refine (R.out _).mono ?_
      rintro e w3 ⟨rfl, hb3⟩
      have hF3 := (hF2.kept (bl_alloc (bl_refl _) _)).kept hb3
      have hbC := bl_then (bl_alloc hbB _) hb3
      obtain ⟨hc3, hf3⟩ := bl_cells hb3
      go_wp2_with fail
      refine (AW.out _ hF3).mono ?_
      rintro e w4 ⟨rfl, hb4⟩
      go_wp2_with fail
      go_ret
      exact ⟨rfl, bl_then hbC hb4⟩
    · have hA : rootA x y z = root x y z := by simp [rootA, hz, ht]
      have hE : rootE x y z = 0 := by simp [rootE, ht, hz]
      have hV : formA x y z = formV x y z := by simp [formA, hE]
      have hz2 : 2 ≤ z := by have := T.1; have := T.2.1; have := T.2.2.1; omega
      have R2 := Lib.hid fun W => refRoot_any x y z W T hz2 h4
      have F2 := Lib.hid fun W => refForm_any x y z W T hz2 h4
      have eV : ∀ W, (binOp .eql 22 (formV x y z) (formV x y z)).run Tryd.prog W = .ok (.bool true) W := by
        intro W; unfold formV; rw [eqA]; simp
      obtain ⟨f0, f1, f2, hf⟩ : ∃ a b c : Int, formV x y z = .agg #[.int .i64 a, .int .i64 b, .int .i64 c] := ⟨_, _, _, rfl⟩
      rw [hA, hE] at P
      rw [hV, hE, hf] at Q
      rw [hf] at F2 eV
      clear ht T hA hE hV hf
      generalize root x y z = u at *
      unfold trip
      go_enter Tryd.func4, Tryd.ntmps4
      go_wp2_with fail
      refine (P.out _).mono ?_
      rintro e w1 ⟨rfl, hb1⟩
      obtain ⟨hc1, hf1⟩ := bl_cells hb1
      have hF1 := (hF.kept (bl_alloc (bl_refl _) _)).kept hb1
      have hbA := bl_then (bl_alloc (bl_refl w) _) hb1
      have hs1 : w.heap.size < w1.heap.size := by have := hb1.size; simp at this; omega
      go_wp2_with fail
      refine (Q.out _).mono ?_
      rintro e w2 ⟨rfl, hb2⟩
      obtain ⟨hc2, hf2⟩ := bl_cells hb2
      have hF2 := hF1.kept hb2
      have hbB := bl_then hbA hb2
      have hs2 : w.heap.size < w2.heap.size := Nat.lt_of_lt_of_le hs1 hb2.size
      go_wp2_with fail
      refine (R.out _).mono ?_
      rintro e w3 ⟨rfl, hb3⟩
      have hF3 := (hF2.kept (bl_alloc (bl_refl _) _)).kept hb3
      have hbC := bl_then (bl_alloc hbB _) hb3
      obtain ⟨hc3, hf3⟩ := bl_cells hb3
      have hs3 : w2.heap.size < w3.heap.size := by have := hb3.size; simp at this; omega
      go_wp2_with fail
      go_region_with (first
        | (go_at_call 25; refine (R2.out _).mono ?_; rintro e w4 ⟨rfl, hb4⟩; have hc4 : ∀ b o, b < w3.heap.size → w4.cell? ⟨b, o, none⟩ = w3.cell? ⟨b, o, none⟩ := (bl_cells hb4).1; have hF4 := hF3.drew.kept hb4; have hbD := bl_then (bl_drewN hbC 1) hb4; have hs4 : w2.heap.size < w4.heap.size := Nat.lt_of_lt_of_le hs3 hb4.size; have hs4' : w.heap.size < w4.heap.size := Nat.lt_trans hs2 hs4; have hs5' : w.heap.size < w3.heap.size := Nat.lt_trans hs2 hs3)
        | (go_at_call 26; refine (F2.out _).mono ?_; rintro e w5 ⟨rfl, hb5⟩; obtain ⟨hc5, hf5⟩ := bl_cells hb5; have hF5 := hF4.kept hb5; have hbE := bl_then hbD hb5)
        | (go_at_call 21; refine (AW.out _ hF5).mono ?_; rintro e w6 ⟨rfl, hb6⟩))
      all_goals
        go_wp2_with fail
        go_ret
        exact ⟨rfl, bl_then hbE hb6⟩
  · have ht : triB 3 x y z = false := by simpa using ht
    have hA : rootA x y z = 0 := by simp [rootA, ht]
    have hE : rootE x y z = 2 := by simp [rootE, ht]
    have hV : formA x y z = .agg #[.int .i64 0, .int .i64 0, .int .i64 0] := by simp [formA, hE]
    rw [hA, hE] at P
    rw [hV, hE] at Q
    have R := Lib.hid fun W => refTriple_no x y z W ht
    unfold trip
    clear ht hA hE hV
    go_enter Tryd.func4, Tryd.ntmps4
    go_wp2_with fail
    refine (P.out _).mono ?_
    rintro e w1 ⟨rfl, hb1⟩
    obtain ⟨hc1, hf1⟩ := bl_cells hb1
    have hF1 := (hF.kept (bl_alloc (bl_refl _) _)).kept hb1
    have hbA := bl_then (bl_alloc (bl_refl w) _) hb1
    have hs1 : w.heap.size < w1.heap.size := by have := hb1.size; simp at this; omega
    go_wp2_with fail
    refine (Q.out _).mono ?_
    rintro e w2 ⟨rfl, hb2⟩
    obtain ⟨hc2, hf2⟩ := bl_cells hb2
    have hF2 := hF1.kept hb2
    have hbB := bl_then hbA hb2
    have hs2 : w.heap.size < w2.heap.size := Nat.lt_of_lt_of_le hs1 hb2.size
    go_wp2_with fail
    refine (R.out _).mono ?_
    rintro e w3 ⟨rfl, hb3⟩
    have hF3 := (hF2.kept (bl_alloc (bl_refl _) _)).kept hb3
    have hbC := bl_then (bl_alloc hbB _) hb3
    obtain ⟨hc3, hf3⟩ := bl_cells hb3
    go_wp2_with fail
    refine (AW.out _ hF3).mono ?_
    rintro e w4 ⟨rfl, hb4⟩
    go_wp2_with fail
    go_ret
    exact ⟨rfl, bl_then hbC hb4⟩
end Go.Proofs.YtebpeomonglkbaaDoor
