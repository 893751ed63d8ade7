import Derived.Test.YtebpeomonglkbaaDoorW21
namespace Go.Proofs.YtebpeomonglkbaaDoor
open Go.RowKit Go.Sort Cam
set_option linter.unusedVariables false
set_option linter.unusedSimpArgs false

set_option maxRecDepth 100000 in
set_option maxHeartbeats 1000000 in
theorem CamberParents_walk (x y z : Int) (w : World) (hF : FirstAt w) :
    Calls Tryd.prog 12 #[trip x y z] w fun e w' => e = .returned (.bool true) ∧ Below w.heap.size w w' := by
  have AW := Lib.hid fun W h => awake_any W h
  have e0 := eq000
  by_cases ht : triB 3 x y z = true
  · have R := Lib.hid fun W => refTriple_yes x y z W ht
    obtain ⟨T, h4⟩ := triB_tri ht
    have C := Lib.hid fun W => Children_any x y z W T h4
    have D := Lib.hid fun W => refChildren_any x y z W T h4
    have hkl := kids_len x y z
    have S := Lib.hid fun a b W h1 h2 => same_any a b (kids x y z) (kids x y z) W h1 h2 (by omega) (by omega)
    simp only [decide_true] at S
    by_cases hz : z = 1
    · subst hz
      obtain ⟨rfl, rfl⟩ := Tri.one T
      have P := Lib.hid fun W => Parent_one W
      unfold trip zeros3 at *
      clear T ht hkl h4
      generalize kids 1 1 1 = ts at *
      go_enter Tryd.func12, Tryd.ntmps12
      go_wp2_with fail
      refine (P.out _).mono ?_
      rintro e w1 ⟨rfl, hb1⟩
      obtain ⟨hc1, hf1⟩ := bl_cells hb1
      have hF1 := (hF.kept (bl_alloc (bl_refl _) _)).kept hb1
      have hbA := bl_then (bl_alloc (bl_refl w) _) hb1
      have hs1 : w.heap.size < w1.heap.size := by have := hb1.size; simp at this; omega
      go_wp2_with fail
      refine (C.out _).mono ?_
      rintro e w2 ⟨v, rfl, hv2, hb2⟩
      have hF2 := (hF1.kept (bl_alloc (bl_refl _) _)).kept hb2
      have hbB := bl_then (bl_alloc hbA _) hb2
      obtain ⟨hc2, hf2⟩ := bl_cells hb2
      have hs2 : w1.heap.size < w2.heap.size := by have := hb2.size; simp at this; omega
      have hs2' : w.heap.size < w2.heap.size := Nat.lt_trans hs1 hs2
      have hq1 : w.heap.size < w1.heap.size + 1 := by omega
      go_wp2_with fail
      refine (R.out _).mono ?_
      rintro e w3 ⟨rfl, hb3⟩
      have hF3 := hF2.kept hb3
      have hbC := bl_then hbB hb3
      have hv3 := hv2.kept hb3
      obtain ⟨hc3, hf3⟩ := bl_cells hb3
      have hs3 : w1.heap.size < w3.heap.size := Nat.lt_of_lt_of_le hs2 hb3.size
      have hs3' : w.heap.size < w3.heap.size := Nat.lt_trans hs1 hs3
      go_wp2_with fail
      refine (D.out _).mono ?_
      rintro e w4 ⟨v4, rfl, hown4, hb4⟩
      have hF4 := hF3.kept hb4
      have hbD := bl_then hbC hb4
      have HS := Lib.hid (S.out v v4 _ (hv3.kept hb4) (rowT_own hown4))
      obtain ⟨hc4, hf4⟩ := bl_cells hb4
      have hs4 : w1.heap.size < w4.heap.size := Nat.lt_of_lt_of_le hs3 hb4.size
      have hs4' : w.heap.size < w4.heap.size := Nat.lt_trans hs1 hs4
      clear hown4 hv3 hv2
      go_wp2_with fail
      refine HS.out.mono ?_
      rintro e w5 ⟨rfl, n, rfl⟩
      have hF5 := hF4.kept (bl_drewN (bl_refl _) n)
      have hbE := bl_drewN hbD n
      go_wp2_with fail
      refine (AW.out _ hF5).mono ?_
      rintro e w6 ⟨rfl, hb6⟩
      go_wp2_with fail
      go_ret
      exact ⟨rfl, bl_then hbE hb6⟩
    · have hz2 : 2 ≤ z := by have := T.1; have := T.2.1; have := T.2.2.1; omega
      have P := Lib.hid fun W => Parent_yes x y z W T h4 hz2
      have E := Lib.hid fun W => refEx2 x y z W T h4 hz2
      obtain ⟨p, hp⟩ : ∃ p, p = min x (3 * x * y - z) := ⟨_, rfl⟩
      obtain ⟨q, hq⟩ : ∃ q, q = max x (3 * x * y - z) := ⟨_, rfl⟩
      rw [← hp, ← hq] at P E
      have eV := eqSelf p q y
      unfold trip at *
      clear T ht hkl h4 hp hq
      generalize kids x y z = ts at *
      go_enter Tryd.func12, Tryd.ntmps12
      go_wp2_with fail
      refine (P.out _).mono ?_
      rintro e w1 ⟨rfl, hb1⟩
      obtain ⟨hc1, hf1⟩ := bl_cells hb1
      have hF1 := (hF.kept (bl_alloc (bl_refl _) _)).kept hb1
      have hbA := bl_then (bl_alloc (bl_refl w) _) hb1
      have hs1 : w.heap.size < w1.heap.size := by have := hb1.size; simp at this; omega
      go_wp2_with fail
      refine (C.out _).mono ?_
      rintro e w2 ⟨v, rfl, hv2, hb2⟩
      have hF2 := (hF1.kept (bl_alloc (bl_refl _) _)).kept hb2
      have hbB := bl_then (bl_alloc hbA _) hb2
      obtain ⟨hc2, hf2⟩ := bl_cells hb2
      have hs2 : w1.heap.size < w2.heap.size := by have := hb2.size; simp at this; omega
      have hs2' : w.heap.size < w2.heap.size := Nat.lt_trans hs1 hs2
      have hq1 : w.heap.size < w1.heap.size + 1 := by omega
      go_wp2_with fail
      refine (R.out _).mono ?_
      rintro e w3 ⟨rfl, hb3⟩
      have hF3 := hF2.kept hb3
      have hbC := bl_then hbB hb3
      have hv3 := hv2.kept hb3
      obtain ⟨hc3, hf3⟩ := bl_cells hb3
      have hs3 : w1.heap.size < w3.heap.size := Nat.lt_of_lt_of_le hs2 hb3.size
      have hs3' : w.heap.size < w3.heap.size := Nat.lt_trans hs1 hs3
      go_wp2_with fail
      refine (D.out _).mono ?_
      rintro e w4 ⟨v4, rfl, hown4, hb4⟩
      have hF4 := hF3.kept hb4
      have hbD := bl_then hbC hb4
      have HS := Lib.hid (S.out v v4 _ (hv3.kept hb4) (rowT_own hown4))
      obtain ⟨hc4, hf4⟩ := bl_cells hb4
      have hs4 : w1.heap.size < w4.heap.size := Nat.lt_of_lt_of_le hs3 hb4.size
      have hs4' : w.heap.size < w4.heap.size := Nat.lt_trans hs1 hs4
      clear hown4 hv3 hv2
      go_wp2_with fail
      refine HS.out.mono ?_
      rintro e w5 ⟨rfl, n, rfl⟩
      have hF5 := hF4.kept (bl_drewN (bl_refl _) n)
      have hbE := bl_drewN hbD n
      go_wp2_with fail
      refine (E.out _).mono ?_
      rintro e w6 ⟨rfl, hb6⟩
      have hF6 := (hF5.kept hb6).kept (bl_alloc (bl_refl _) (.cells #[.int .i64 p, .int .i64 q, .int .i64 y] 22))
      have hbF := bl_alloc (bl_then hbE hb6) (.cells #[.int .i64 p, .int .i64 q, .int .i64 y] 22)
      have hc6 : ∀ b o, b < w4.heap.size → w6.cell? ⟨b, o, none⟩ = w4.cell? ⟨b, o, none⟩ := (bl_cells hb6).1
      have hs6 : w1.heap.size < w6.heap.size := Nat.lt_of_lt_of_le hs4 hb6.size
      go_wp2_with fail
      refine (AW.out _ hF6).mono ?_
      rintro e w7 ⟨rfl, hb7⟩
      go_wp2_with fail
      go_ret
      exact ⟨rfl, bl_then hbF hb7⟩
  · have ht : triB 3 x y z = false := by simpa using ht
    have R := Lib.hid fun W => refTriple_no x y z W ht
    have P := Lib.hid fun W => Parent_no x y z W ht
    have C := Lib.hid fun W => Children_no x y z W ht
    unfold trip zeros3 at *
    clear ht
    go_enter Tryd.func12, Tryd.ntmps12
    go_wp2_with fail
    refine (P.out _).mono ?_
    rintro e w1 ⟨rfl, hb1⟩
    obtain ⟨hc1, hf1⟩ := bl_cells hb1
    have hF1 := (hF.kept (bl_alloc (bl_refl _) _)).kept hb1
    have hbA := bl_then (bl_alloc (bl_refl w) _) hb1
    have hs1 : w.heap.size < w1.heap.size := by have := hb1.size; simp at this; omega
    go_wp2_with fail
    refine (C.out _).mono ?_
    rintro e w2 ⟨rfl, hb2⟩
    have hF2 := (hF1.kept (bl_alloc (bl_refl _) _)).kept hb2
    have hbB := bl_then (bl_alloc hbA _) hb2
    obtain ⟨hc2, hf2⟩ := bl_cells hb2
    have hs2 : w1.heap.size < w2.heap.size := by have := hb2.size; simp at this; omega
    have hs2' : w.heap.size < w2.heap.size := Nat.lt_trans hs1 hs2
    have hq1 : w.heap.size < w1.heap.size + 1 := by omega
    go_wp2_with fail
    refine (R.out _).mono ?_
    rintro e w3 ⟨rfl, hb3⟩
    have hF3 := hF2.kept hb3
    have hbC := bl_then hbB hb3
    obtain ⟨hc3, hf3⟩ := bl_cells hb3
    go_wp2_with fail
    refine (AW.out _ hF3).mono ?_
    rintro e w5 ⟨rfl, hb5⟩
    go_wp2_with fail
    go_ret
    exact ⟨rfl, bl_then hbC hb5⟩
end Go.Proofs.YtebpeomonglkbaaDoor
