import Derived.Test.YtebpeomonglkbaaDoorW18
namespace Go.Proofs.YtebpeomonglkbaaDoor
open Go.RowKit Go.Sort Cam
set_option linter.unusedVariables false

theorem eqSelf (p q r : Int) (W : World) : (binOp .eql 22 (.agg #[.int .i64 p, .int .i64 q, .int .i64 r]) (.agg #[.int .i64 p, .int .i64 q, .int .i64 r])).run Tryd.prog W = .ok (.bool true) W := by
  rw [eqA]; simp

set_option maxRecDepth 100000 in
set_option maxHeartbeats 1000000 in
theorem CamberExchanges_walk (x y z a : Int) (w : World) (ha : (Lit.int .i64 a).wf = true) (hF : FirstAt w) :
    Calls Tryd.prog 11 #[trip x y z, .int .i64 a] w fun e w' => e = .returned (.bool true) ∧ Below w.heap.size w w' := by
  have AW := Lib.hid fun W h => awake_any W h
  have e0 := eq000
  by_cases ht : triB 3 x y z = true
  · have R := Lib.hid fun W => refTriple_yes x y z W ht
    obtain ⟨T, h4⟩ := triB_tri ht
    by_cases h0 : 0 ≤ a ∧ a ≤ 2
    · obtain ⟨p, q, r, hp⟩ : ∃ p q r, exF a x y z = (p, q, r) := ⟨_, _, _, rfl⟩
      obtain ⟨ok, hk⟩ : ∃ ok, okB (p, q, r) = ok := ⟨_, rfl⟩
      have P := Lib.hid fun W => Exchange_in a x y z p q r ok W T h4 h0 hp hk
      have E := Lib.hid fun W => refExch_any a x y z W T h4 h0
      have eV := Lib.hid fun W => eqSelf p q r W
      rw [hp, hk] at E
      have g1 : ¬ a < 0 := by omega
      have g2 : ¬ 2 < a := by omega
      unfold vT at E
      unfold trip zeros3 at *
      clear hp hk T h4 ht h0
      have eV := eV.out
      cases ok
      all_goals
        simp only [if_true, if_false, Bool.false_eq_true] at P
        go_enter Tryd.func11, Tryd.ntmps11
        go_wp2_with fail
        refine (P.out _).mono ?_
        rintro e w1 ⟨rfl, hb1⟩
        obtain ⟨hc1, hf1⟩ := bl_cells hb1
        have hF1 := (hF.kept (bl_alloc (bl_refl _) _)).kept hb1
        have hbA := bl_then (bl_alloc (bl_refl w) _) hb1
        have hs1 : w.heap.size < w1.heap.size := by have := hb1.size; simp at this; omega
        go_wp2_with fail
        refine (R.out _).mono ?_
        rintro e w3 ⟨rfl, hb3⟩
        have hF3 := (hF1.kept (bl_alloc (bl_refl _) _)).kept hb3
        have hbC := bl_then (bl_alloc hbA _) hb3
        obtain ⟨hc3, hf3⟩ := bl_cells hb3
        have hs3 : w1.heap.size < w3.heap.size := by have := hb3.size; simp at this; omega
        have hs3' : w.heap.size < w3.heap.size := Nat.lt_trans hs1 hs3
        go_wp2_with fail
        refine (E.out _).mono ?_
        rintro e w4 ⟨rfl, hb4⟩
        have hF4 := (hF3.kept hb4).kept (bl_alloc (bl_refl _) (.cells #[.int .i64 p, .int .i64 q, .int .i64 r] 22))
        have hbD := bl_alloc (bl_then hbC hb4) (.cells #[.int .i64 p, .int .i64 q, .int .i64 r] 22)
        obtain ⟨hc4, hf4⟩ := bl_cells hb4
        have hs4 : w1.heap.size < w4.heap.size := Nat.lt_of_lt_of_le hs3 hb4.size
        go_wp2_with fail
        refine (AW.out _ hF4).mono ?_
        rintro e w5 ⟨rfl, hb5⟩
        go_wp2_with fail
        go_ret
        exact ⟨rfl, bl_then hbD hb5⟩
    · have P := Lib.hid fun W => Exchange_at a x y z W ht h0
      have h1 : a < 0 ∨ (¬ a < 0 ∧ 2 < a) := by omega
      unfold trip zeros3 at *
      clear ht T h4 h0
      rcases h1 with h1 | ⟨h1, h2⟩
      all_goals
        go_enter Tryd.func11, Tryd.ntmps11
        go_wp2_with fail
        refine (P.out _).mono ?_
        rintro e w1 ⟨rfl, hb1⟩
        obtain ⟨hc1, hf1⟩ := bl_cells hb1
        have hF1 := (hF.kept (bl_alloc (bl_refl _) _)).kept hb1
        have hbA := bl_then (bl_alloc (bl_refl w) _) hb1
        have hs1 : w.heap.size < w1.heap.size := by have := hb1.size; simp at this; omega
        go_wp2_with fail
        refine (R.out _).mono ?_
        rintro e w3 ⟨rfl, hb3⟩
        have hF3 := (hF1.kept (bl_alloc (bl_refl _) _)).kept hb3
        have hbC := bl_then (bl_alloc hbA _) hb3
        obtain ⟨hc3, hf3⟩ := bl_cells hb3
        have hs3 : w1.heap.size < w3.heap.size := by have := hb3.size; simp at this; omega
        go_wp2_with fail
        refine (AW.out _ hF3).mono ?_
        rintro e w5 ⟨rfl, hb5⟩
        go_wp2_with fail
        go_ret
        exact ⟨rfl, bl_then hbC hb5⟩
  · have ht : triB 3 x y z = false := by simpa using ht
    have R := Lib.hid fun W => refTriple_no x y z W ht
    have P := Lib.hid fun W => Exchange_no a x y z W ht
    unfold trip zeros3 at *
    clear ht
    go_enter Tryd.func11, Tryd.ntmps11
    go_wp2_with fail
    refine (P.out _).mono ?_
    rintro e w1 ⟨rfl, hb1⟩
    obtain ⟨hc1, hf1⟩ := bl_cells hb1
    have hF1 := (hF.kept (bl_alloc (bl_refl _) _)).kept hb1
    have hbA := bl_then (bl_alloc (bl_refl w) _) hb1
    have hs1 : w.heap.size < w1.heap.size := by have := hb1.size; simp at this; omega
    go_wp2_with fail
    refine (R.out _).mono ?_
    rintro e w3 ⟨rfl, hb3⟩
    have hF3 := (hF1.kept (bl_alloc (bl_refl _) _)).kept hb3
    have hbC := bl_then (bl_alloc hbA _) hb3
    obtain ⟨hc3, hf3⟩ := bl_cells hb3
    have hs3 : w1.heap.size < w3.heap.size := by have := hb3.size; simp at this; omega
    go_wp2_with fail
    refine (AW.out _ hF3).mono ?_
    rintro e w5 ⟨rfl, hb5⟩
    go_wp2_with fail
    go_ret
    exact ⟨rfl, bl_then hbC hb5⟩
end Go.Proofs.YtebpeomonglkbaaDoor
