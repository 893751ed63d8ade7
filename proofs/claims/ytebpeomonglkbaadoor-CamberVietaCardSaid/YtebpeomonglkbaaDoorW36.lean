import Derived.Test.YtebpeomonglkbaaDoorW35
namespace Go.Proofs.YtebpeomonglkbaaDoor
open Go.RowKit Go.Sort Cam
set_option linter.unusedVariables false
set_option linter.unusedSimpArgs false

theorem div_law {L F S : Int} (hL : 1 ≤ L) (h : L * F = S) : S % L = 0 ∧ S / L = F := by
  subst h
  exact ⟨Int.mul_emod_right _ _, Int.mul_ediv_cancel_left _ (by omega)⟩

set_option maxRecDepth 100000 in
set_option maxHeartbeats 4000000 in
theorem CamberVieta_walk (s : ByteArray) (a0 : Int) (w : World) (hs : s.size ≤ 140737488351232) (ha : (Lit.int .i64 a0).wf = true) (hF : FirstAt w) :
    Calls Tryd.prog 14 #[.string s, .int .i64 a0] w fun e w' => e = .returned (.bool true) ∧ Below w.heap.size w w' := by
  have AW := Lib.hid fun W h => awake_any W h
  have B := Lib.hid fun W => tame_any s W hs
  have MO := Lib.hid fun W => mod_any a0 3 W ha (by omega)
  go_enter Tryd.func14, Tryd.ntmps14
  go_wp2_with fail
  refine (B.out _).mono ?_
  rintro e w1 ⟨t, x, y, z, rfl, ⟨hp, ho⟩, hb1⟩
  have hF1 := (hF.kept hb1).kept (bl_alloc (bl_refl _) (.cells #[.int .i64 x, .int .i64 y, .int .i64 z] 22))
  have hbA := bl_alloc hb1 (.cells #[.int .i64 x, .int .i64 y, .int .i64 z] 22)
  obtain ⟨h, h4, h5⟩ := followF_tri _ tri125 (by omega) ho
  obtain ⟨⟨x1, x2⟩, ⟨y1, y2⟩, ⟨z1, z2⟩⟩ := Tri.le3 h h4
  clear ho hs
  unfold trip
  go_wp2_with fail
  refine (MO.out _).mono ?_
  rintro e w2 ⟨⟨a, a1, a2, rfl⟩, rfl⟩
  have h3 : a = 0 ∨ a = 1 ∨ a = 2 := by omega
  clear a1 a2 MO
  rcases h3 with rfl | rfl | rfl
  · have hT := h.left
    have hd : 3 * y * (3 * y * z - x) - z = 3 * y * (3 * y * z - x) - z := rfl
    obtain ⟨r, hr0⟩ : ∃ r, r = 3 * y * z - x := ⟨_, rfl⟩
    rw [← hr0] at hT
    by_cases hr : r ≤ 1000000000
    · have P := Lib.hid fun W => Exchange_ok 0 x y z y z r W h h4 (by omega) (by rw [hr0]; rfl) hr
      have hyr := hT.lt_of_two (by have := hT.2.2.1; omega)
      have hback : exF 2 y z r = (x, y, z) := by
        have e : 3 * y * z - r = x := by omega
        have n : ¬ r = 1 := by have := hT.2.2.1; omega
        simp only [exF, if_neg (show ¬ (2 : Int) = 0 by decide), if_neg (show ¬ (2 : Int) = 1 by decide), if_neg n, e, Prod.mk.injEq, and_true]
        have := h.2.1; omega
      have hdl := div_law (L := x) (F := r) (S := y * y + z * z) x1 (by have := h.2.2.2; rw [hr0]; grind)
      obtain ⟨d1, d2⟩ := hdl
      have hfr : y + z + r - y - z = r := by omega
      have n0 : ¬ y = r := by have := hT.2.1; omega
      have n1 : ¬ z = r := by omega
      clear hr0 hd hyr
      have TL := tri_triB hT hr
      have I := Lib.hid fun W => IsTriple_yes y z r W hT hr
      have T := Lib.hid fun W => refTriple_yes y z r W TL
      have E := Lib.hid fun W => Exchange_ok 2 y z r x y z W hT hr (by omega) hback h4
      have eV := eqSelf x y z
      have sA := sq_le (show 1 ≤ y by omega) (show y ≤ 1000000000 by omega)
      have sB := sq_le (show 1 ≤ z by omega) (show z ≤ 1000000000 by omega)
      have sL := hT.1
      have sL2 := hT.2.1
      have sL3 := hT.2.2.1
      unfold trip at P I E
      clear TL hT hback h B hp
      go_wp2_with fail
      refine (P.out _).mono ?_
      rintro e w3 ⟨rfl, hb3⟩
      obtain ⟨hc3, hf3⟩ := bl_cells hb3
      have hs3 : w1.heap.size < w3.heap.size := by have := hb3.size; simp at this; omega
      have hs3' : w1.heap.size < w3.heap.size + 1 := by omega
      have hF3 := (hF1.kept hb3).kept (bl_alloc (bl_refl _) (.cells #[.int .i64 y, .int .i64 z, .int .i64 r] 22))
      have hbB := bl_alloc (bl_then hbA hb3) (.cells #[.int .i64 y, .int .i64 z, .int .i64 r] 22)
      go_wp2_with fail
      refine (I.out _).mono ?_
      rintro e w4 ⟨rfl, hb4⟩
      obtain ⟨hc4, hf4⟩ := bl_cells hb4
      have hs4 : w3.heap.size < w4.heap.size := by have := hb4.size; simp at this; omega
      have hs4' : w1.heap.size < w4.heap.size := by omega
      have hF4 := hF3.kept hb4
      have hbC := bl_then hbB hb4
      go_wp2_with fail
      refine (T.out _).mono ?_
      rintro e w5 ⟨rfl, hb5⟩
      have hF5 := hF4.kept hb5
      have hbD := bl_then hbC hb5
      have W6 : Whole w5 w1.heap.size 22 #[.int .i64 x, .int .i64 y, .int .i64 z] := (((((Whole.new w1 _ _).kept hb3).alloc _).kept hb4).kept hb5)
      have W7 : Whole w5 w3.heap.size 22 #[.int .i64 y, .int .i64 z, .int .i64 r] := (((Whole.new w3 _ _).kept hb4).kept hb5)
      have k0 : w5.cell? ⟨w1.heap.size, 0, none⟩ = some (.int .i64 x) := (W6.cell 0).trans rfl
      have k1 : w5.cell? ⟨w1.heap.size, 1, none⟩ = some (.int .i64 y) := (W6.cell 1).trans rfl
      have k2 : w5.cell? ⟨w1.heap.size, 2, none⟩ = some (.int .i64 z) := (W6.cell 2).trans rfl
      have j0 : w5.cell? ⟨w3.heap.size, 0, none⟩ = some (.int .i64 y) := (W7.cell 0).trans rfl
      have j1 : w5.cell? ⟨w3.heap.size, 1, none⟩ = some (.int .i64 z) := (W7.cell 1).trans rfl
      have j2 : w5.cell? ⟨w3.heap.size, 2, none⟩ = some (.int .i64 r) := (W7.cell 2).trans rfl
      have hs5 := W7.lt
      have hs5' := W6.lt
      clear hc3 hf3 hc4 hf4 W6 W7
      go_wp2_with fail
      go_quiet (fail)
      go_wp2_with fail
      refine wp_loop_rounds 3 ?_; rw [rounds_succ]
      go_wp2_with fail
      rw [rounds_succ]
      go_wp2_with fail
      rw [rounds_succ]
      go_wp2_with fail
      refine (E.out _).mono ?_
      rintro e w6 ⟨rfl, hb6⟩
      have hc6 : ∀ b o, b < w5.heap.size → w6.cell? ⟨b, o, none⟩ = w5.cell? ⟨b, o, none⟩ := (bl_cells hb6).1
      have hs6 : w1.heap.size < w6.heap.size := Nat.lt_of_lt_of_le hs5' hb6.size
      have hF6 := ((hF5.kept (bl_drewN (bl_refl _) nq)).kept hb6).kept (bl_alloc (bl_refl _) (.cells #[.int .i64 x, .int .i64 y, .int .i64 z] 22))
      have hbE := bl_alloc (bl_then (bl_drewN hbD nq) hb6) (.cells #[.int .i64 x, .int .i64 y, .int .i64 z] 22)
      go_wp2_with fail
      refine (AW.out _ hF6).mono ?_
      rintro e w7 ⟨rfl, hb7⟩
      go_wp2_with fail
      go_ret
      exact ⟨rfl, bl_then hbE hb7⟩
    · have P := Lib.hid fun W => Exchange_over 0 x y z y z r W h h4 (by omega) (by rw [hr0]; rfl) (by omega)
      clear hr0 hd hT
      unfold trip zeros3 at P
      clear h B hp
      go_wp2_with fail
      refine (P.out _).mono ?_
      rintro e w3 ⟨rfl, hb3⟩
      have hF3 := (hF1.kept hb3).kept (bl_alloc (bl_refl _) (.cells #[.int .i64 0, .int .i64 0, .int .i64 0] 22))
      have hbB := bl_alloc (bl_then hbA hb3) (.cells #[.int .i64 0, .int .i64 0, .int .i64 0] 22)
      go_wp2_with fail
      refine (AW.out _ hF3).mono ?_
      rintro e w7 ⟨rfl, hb7⟩
      go_wp2_with fail
      go_ret
      exact ⟨rfl, bl_then hbB hb7⟩
  · have hT := h.right
    obtain ⟨r, hr0⟩ : ∃ r, r = 3 * x * z - y := ⟨_, rfl⟩
    rw [← hr0] at hT
    by_cases hr : r ≤ 1000000000
    · have P := Lib.hid fun W => Exchange_ok 1 x y z x z r W h h4 (by omega) (by rw [hr0]; rfl) hr
      have hyr := hT.lt_of_two (by have := hT.2.2.1; omega)
      have hback : exF 2 x z r = (x, y, z) := by
        have e : 3 * x * z - r = y := by omega
        have n : ¬ r = 1 := by have := hT.2.2.1; omega
        simp only [exF, if_neg (show ¬ (2 : Int) = 0 by decide), if_neg (show ¬ (2 : Int) = 1 by decide), if_neg n, e, Prod.mk.injEq, and_true]
        have := h.2.1; omega
      have hdl := div_law (L := y) (F := r) (S := z * z + x * x) y1 (by have := h.2.2.2; rw [hr0]; grind)
      obtain ⟨d1, d2⟩ := hdl
      have hfr : x + z + r - z - x = r := by omega
      have n0 : ¬ x = r := by have := hT.2.1; omega
      have n1 : ¬ z = r := by omega
      clear hr0 hyr
      have TL := tri_triB hT hr
      have I := Lib.hid fun W => IsTriple_yes x z r W hT hr
      have T := Lib.hid fun W => refTriple_yes x z r W TL
      have E := Lib.hid fun W => Exchange_ok 2 x z r x y z W hT hr (by omega) hback h4
      have eV := eqSelf x y z
      have sA := sq_le (show 1 ≤ z by omega) (show z ≤ 1000000000 by omega)
      have sB := sq_le (show 1 ≤ x by omega) (show x ≤ 1000000000 by omega)
      have sL := hT.1
      have sL2 := hT.2.1
      have sL3 := hT.2.2.1
      unfold trip at P I E
      clear TL hT hback h B hp
      go_wp2_with fail
      refine (P.out _).mono ?_
      rintro e w3 ⟨rfl, hb3⟩
      obtain ⟨hc3, hf3⟩ := bl_cells hb3
      have hs3 : w1.heap.size < w3.heap.size := by have := hb3.size; simp at this; omega
      have hs3' : w1.heap.size < w3.heap.size + 1 := by omega
      have hF3 := (hF1.kept hb3).kept (bl_alloc (bl_refl _) (.cells #[.int .i64 x, .int .i64 z, .int .i64 r] 22))
      have hbB := bl_alloc (bl_then hbA hb3) (.cells #[.int .i64 x, .int .i64 z, .int .i64 r] 22)
      go_wp2_with fail
      refine (I.out _).mono ?_
      rintro e w4 ⟨rfl, hb4⟩
      obtain ⟨hc4, hf4⟩ := bl_cells hb4
      have hs4 : w3.heap.size < w4.heap.size := by have := hb4.size; simp at this; omega
      have hs4' : w1.heap.size < w4.heap.size := by omega
      have hF4 := hF3.kept hb4
      have hbC := bl_then hbB hb4
      go_wp2_with fail
      refine (T.out _).mono ?_
      rintro e w5 ⟨rfl, hb5⟩
      have hF5 := hF4.kept hb5
      have hbD := bl_then hbC hb5
      have W6 : Whole w5 w1.heap.size 22 #[.int .i64 x, .int .i64 y, .int .i64 z] := (((((Whole.new w1 _ _).kept hb3).alloc _).kept hb4).kept hb5)
      have W7 : Whole w5 w3.heap.size 22 #[.int .i64 x, .int .i64 z, .int .i64 r] := (((Whole.new w3 _ _).kept hb4).kept hb5)
      have k0 : w5.cell? ⟨w1.heap.size, 0, none⟩ = some (.int .i64 x) := (W6.cell 0).trans rfl
      have k1 : w5.cell? ⟨w1.heap.size, 1, none⟩ = some (.int .i64 y) := (W6.cell 1).trans rfl
      have k2 : w5.cell? ⟨w1.heap.size, 2, none⟩ = some (.int .i64 z) := (W6.cell 2).trans rfl
      have j0 : w5.cell? ⟨w3.heap.size, 0, none⟩ = some (.int .i64 x) := (W7.cell 0).trans rfl
      have j1 : w5.cell? ⟨w3.heap.size, 1, none⟩ = some (.int .i64 z) := (W7.cell 1).trans rfl
      have j2 : w5.cell? ⟨w3.heap.size, 2, none⟩ = some (.int .i64 r) := (W7.cell 2).trans rfl
      have hs5 := W7.lt
      have hs5' := W6.lt
      clear hc3 hf3 hc4 hf4 W6 W7
      go_wp2_with fail
      go_quiet (fail)
      go_wp2_with fail
      refine wp_loop_rounds 3 ?_; rw [rounds_succ]
      go_wp2_with fail
      rw [rounds_succ]
      go_wp2_with fail
      rw [rounds_succ]
      go_wp2_with fail
      refine (E.out _).mono ?_
      rintro e w6 ⟨rfl, hb6⟩
      have hc6 : ∀ b o, b < w5.heap.size → w6.cell? ⟨b, o, none⟩ = w5.cell? ⟨b, o, none⟩ := (bl_cells hb6).1
      have hs6 : w1.heap.size < w6.heap.size := Nat.lt_of_lt_of_le hs5' hb6.size
      have hF6 := ((hF5.kept (bl_drewN (bl_refl _) nq)).kept hb6).kept (bl_alloc (bl_refl _) (.cells #[.int .i64 x, .int .i64 y, .int .i64 z] 22))
      have hbE := bl_alloc (bl_then (bl_drewN hbD nq) hb6) (.cells #[.int .i64 x, .int .i64 y, .int .i64 z] 22)
      go_wp2_with fail
      refine (AW.out _ hF6).mono ?_
      rintro e w7 ⟨rfl, hb7⟩
      go_wp2_with fail
      go_ret
      exact ⟨rfl, bl_then hbE hb7⟩
    · have P := Lib.hid fun W => Exchange_over 1 x y z x z r W h h4 (by omega) (by rw [hr0]; rfl) (by omega)
      clear hr0 hT
      unfold trip zeros3 at P
      clear h B hp
      go_wp2_with fail
      refine (P.out _).mono ?_
      rintro e w3 ⟨rfl, hb3⟩
      have hF3 := (hF1.kept hb3).kept (bl_alloc (bl_refl _) (.cells #[.int .i64 0, .int .i64 0, .int .i64 0] 22))
      have hbB := bl_alloc (bl_then hbA hb3) (.cells #[.int .i64 0, .int .i64 0, .int .i64 0] 22)
      go_wp2_with fail
      refine (AW.out _ hF3).mono ?_
      rintro e w7 ⟨rfl, hb7⟩
      go_wp2_with fail
      go_ret
      exact ⟨rfl, bl_then hbB hb7⟩
  · obtain ⟨hT, hyz⟩ := h.parent (by omega)
    obtain ⟨v, hv0⟩ : ∃ v, v = 3 * x * y - z := ⟨_, rfl⟩
    have hr : y ≤ 1000000000 := by omega
    have hdl := div_law (L := z) (F := v) (S := x * x + y * y) z1 (by have := h.2.2.2; rw [hv0]; grind)
    obtain ⟨d1, d2⟩ := hdl
    have n : ¬ z = 1 := by omega
    have hex : exF 2 x y z = (min x v, max x v, y) := by
      simp only [exF, if_neg (show ¬ (2 : Int) = 0 by decide), if_neg (show ¬ (2 : Int) = 1 by decide), if_neg n, hv0]
    rw [← hv0] at hT
    by_cases hvx : v ≤ x
    · rw [show min x v = v by omega, show max x v = x by omega] at hT hex
      have P := Lib.hid fun W => Exchange_ok 2 x y z v x y W h h4 (by omega) hex hr
      have hback : exF 0 v x y = (x, y, z) := by
        have e : 3 * x * y - v = z := by omega
        simp only [exF, if_true, e]
      have hfr : v + x + y - x - y = v := by omega
      clear hex hv0 n
      have TL := tri_triB hT hr
      have I := Lib.hid fun W => IsTriple_yes v x y W hT hr
      have T := Lib.hid fun W => refTriple_yes v x y W TL
      have E := Lib.hid fun W => Exchange_ok 0 v x y x y z W hT hr (by omega) hback h4
      have eV := eqSelf x y z
      have sA := sq_le (show 1 ≤ x by omega) (show x ≤ 1000000000 by omega)
      have sB := sq_le (show 1 ≤ y by omega) (show y ≤ 1000000000 by omega)
      have sL := hT.1
      have sL2 := hT.2.1
      have sL3 := hT.2.2.1
      unfold trip at P I E
      clear TL hT hback h B hp
      go_wp2_with fail
      refine (P.out _).mono ?_
      rintro e w3 ⟨rfl, hb3⟩
      obtain ⟨hc3, hf3⟩ := bl_cells hb3
      have hs3 : w1.heap.size < w3.heap.size := by have := hb3.size; simp at this; omega
      have hs3' : w1.heap.size < w3.heap.size + 1 := by omega
      have hF3 := (hF1.kept hb3).kept (bl_alloc (bl_refl _) (.cells #[.int .i64 v, .int .i64 x, .int .i64 y] 22))
      have hbB := bl_alloc (bl_then hbA hb3) (.cells #[.int .i64 v, .int .i64 x, .int .i64 y] 22)
      go_wp2_with fail
      refine (I.out _).mono ?_
      rintro e w4 ⟨rfl, hb4⟩
      obtain ⟨hc4, hf4⟩ := bl_cells hb4
      have hs4 : w3.heap.size < w4.heap.size := by have := hb4.size; simp at this; omega
      have hs4' : w1.heap.size < w4.heap.size := by omega
      have hF4 := hF3.kept hb4
      have hbC := bl_then hbB hb4
      go_wp2_with fail
      refine (T.out _).mono ?_
      rintro e w5 ⟨rfl, hb5⟩
      have hF5 := hF4.kept hb5
      have hbD := bl_then hbC hb5
      have W6 : Whole w5 w1.heap.size 22 #[.int .i64 x, .int .i64 y, .int .i64 z] := (((((Whole.new w1 _ _).kept hb3).alloc _).kept hb4).kept hb5)
      have W7 : Whole w5 w3.heap.size 22 #[.int .i64 v, .int .i64 x, .int .i64 y] := (((Whole.new w3 _ _).kept hb4).kept hb5)
      have k0 : w5.cell? ⟨w1.heap.size, 0, none⟩ = some (.int .i64 x) := (W6.cell 0).trans rfl
      have k1 : w5.cell? ⟨w1.heap.size, 1, none⟩ = some (.int .i64 y) := (W6.cell 1).trans rfl
      have k2 : w5.cell? ⟨w1.heap.size, 2, none⟩ = some (.int .i64 z) := (W6.cell 2).trans rfl
      have j0 : w5.cell? ⟨w3.heap.size, 0, none⟩ = some (.int .i64 v) := (W7.cell 0).trans rfl
      have j1 : w5.cell? ⟨w3.heap.size, 1, none⟩ = some (.int .i64 x) := (W7.cell 1).trans rfl
      have j2 : w5.cell? ⟨w3.heap.size, 2, none⟩ = some (.int .i64 y) := (W7.cell 2).trans rfl
      have hs5 := W7.lt
      have hs5' := W6.lt
      clear hc3 hf3 hc4 hf4 W6 W7
      go_wp2_with fail
      go_quiet (fail)
      go_wp2_with fail
      refine wp_loop_rounds 3 ?_; rw [rounds_succ]
      go_wp2_with fail
      refine (E.out _).mono ?_
      rintro e w6 ⟨rfl, hb6⟩
      have hc6 : ∀ b o, b < w5.heap.size → w6.cell? ⟨b, o, none⟩ = w5.cell? ⟨b, o, none⟩ := (bl_cells hb6).1
      have hs6 : w1.heap.size < w6.heap.size := Nat.lt_of_lt_of_le hs5' hb6.size
      have hF6 := ((hF5.kept (bl_drewN (bl_refl _) nq)).kept hb6).kept (bl_alloc (bl_refl _) (.cells #[.int .i64 x, .int .i64 y, .int .i64 z] 22))
      have hbE := bl_alloc (bl_then (bl_drewN hbD nq) hb6) (.cells #[.int .i64 x, .int .i64 y, .int .i64 z] 22)
      go_wp2_with fail
      refine (AW.out _ hF6).mono ?_
      rintro e w7 ⟨rfl, hb7⟩
      go_wp2_with fail
      go_ret
      exact ⟨rfl, bl_then hbE hb7⟩
    · rw [show min x v = x by omega, show max x v = v by omega] at hT hex
      have P := Lib.hid fun W => Exchange_ok 2 x y z x v y W h h4 (by omega) hex hr
      have hback : exF 1 x v y = (x, y, z) := by
        have e : 3 * x * y - v = z := by omega
        simp only [exF, if_neg (show ¬ (1 : Int) = 0 by decide), if_true, e]
      have hfr : x + v + y - x - y = v := by omega
      have n0 : ¬ x = v := by omega
      clear hex hv0 n
      have TL := tri_triB hT hr
      have I := Lib.hid fun W => IsTriple_yes x v y W hT hr
      have T := Lib.hid fun W => refTriple_yes x v y W TL
      have E := Lib.hid fun W => Exchange_ok 1 x v y x y z W hT hr (by omega) hback h4
      have eV := eqSelf x y z
      have sA := sq_le (show 1 ≤ x by omega) (show x ≤ 1000000000 by omega)
      have sB := sq_le (show 1 ≤ y by omega) (show y ≤ 1000000000 by omega)
      have sL := hT.1
      have sL2 := hT.2.1
      have sL3 := hT.2.2.1
      unfold trip at P I E
      clear TL hT hback h B hp
      go_wp2_with fail
      refine (P.out _).mono ?_
      rintro e w3 ⟨rfl, hb3⟩
      obtain ⟨hc3, hf3⟩ := bl_cells hb3
      have hs3 : w1.heap.size < w3.heap.size := by have := hb3.size; simp at this; omega
      have hs3' : w1.heap.size < w3.heap.size + 1 := by omega
      have hF3 := (hF1.kept hb3).kept (bl_alloc (bl_refl _) (.cells #[.int .i64 x, .int .i64 v, .int .i64 y] 22))
      have hbB := bl_alloc (bl_then hbA hb3) (.cells #[.int .i64 x, .int .i64 v, .int .i64 y] 22)
      go_wp2_with fail
      refine (I.out _).mono ?_
      rintro e w4 ⟨rfl, hb4⟩
      obtain ⟨hc4, hf4⟩ := bl_cells hb4
      have hs4 : w3.heap.size < w4.heap.size := by have := hb4.size; simp at this; omega
      have hs4' : w1.heap.size < w4.heap.size := by omega
      have hF4 := hF3.kept hb4
      have hbC := bl_then hbB hb4
      go_wp2_with fail
      refine (T.out _).mono ?_
      rintro e w5 ⟨rfl, hb5⟩
      have hF5 := hF4.kept hb5
      have hbD := bl_then hbC hb5
      have W6 : Whole w5 w1.heap.size 22 #[.int .i64 x, .int .i64 y, .int .i64 z] := (((((Whole.new w1 _ _).kept hb3).alloc _).kept hb4).kept hb5)
      have W7 : Whole w5 w3.heap.size 22 #[.int .i64 x, .int .i64 v, .int .i64 y] := (((Whole.new w3 _ _).kept hb4).kept hb5)
      have k0 : w5.cell? ⟨w1.heap.size, 0, none⟩ = some (.int .i64 x) := (W6.cell 0).trans rfl
      have k1 : w5.cell? ⟨w1.heap.size, 1, none⟩ = some (.int .i64 y) := (W6.cell 1).trans rfl
      have k2 : w5.cell? ⟨w1.heap.size, 2, none⟩ = some (.int .i64 z) := (W6.cell 2).trans rfl
      have j0 : w5.cell? ⟨w3.heap.size, 0, none⟩ = some (.int .i64 x) := (W7.cell 0).trans rfl
      have j1 : w5.cell? ⟨w3.heap.size, 1, none⟩ = some (.int .i64 v) := (W7.cell 1).trans rfl
      have j2 : w5.cell? ⟨w3.heap.size, 2, none⟩ = some (.int .i64 y) := (W7.cell 2).trans rfl
      have hs5 := W7.lt
      have hs5' := W6.lt
      clear hc3 hf3 hc4 hf4 W6 W7
      go_wp2_with fail
      go_quiet (fail)
      go_wp2_with fail
      refine wp_loop_rounds 3 ?_; rw [rounds_succ]
      go_wp2_with fail
      rw [rounds_succ]
      go_wp2_with fail
      refine (E.out _).mono ?_
      rintro e w6 ⟨rfl, hb6⟩
      have hc6 : ∀ b o, b < w5.heap.size → w6.cell? ⟨b, o, none⟩ = w5.cell? ⟨b, o, none⟩ := (bl_cells hb6).1
      have hs6 : w1.heap.size < w6.heap.size := Nat.lt_of_lt_of_le hs5' hb6.size
      have hF6 := ((hF5.kept (bl_drewN (bl_refl _) nq)).kept hb6).kept (bl_alloc (bl_refl _) (.cells #[.int .i64 x, .int .i64 y, .int .i64 z] 22))
      have hbE := bl_alloc (bl_then (bl_drewN hbD nq) hb6) (.cells #[.int .i64 x, .int .i64 y, .int .i64 z] 22)
      go_wp2_with fail
      refine (AW.out _ hF6).mono ?_
      rintro e w7 ⟨rfl, hb7⟩
      go_wp2_with fail
      go_ret
      exact ⟨rfl, bl_then hbE hb7⟩
end Go.Proofs.YtebpeomonglkbaaDoor
