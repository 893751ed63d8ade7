/-
  Few.
-/
import Derived.Test.YtnamafakjkcmjaaT23
import Derived.Test.YtnamafakjkcmjaaMB
namespace Go.Proofs.Ytnamafakjkcmjaa
open Go.RowKit Go.Shelf
set_option linter.unusedVariables false
set_option linter.unusedSimpArgs false

theorem clone_any (L : List Str) (b n c base : Nat) (w : World) (hn : n = L.length) (h0 : 0 < n) (hs : n ≤ 100000) (hv : w.ownsRow base 9 1 (.slice (some ⟨b, 0, none⟩) n c) n (encS L)) :
    Calls Try.prog 56 #[.slice (some ⟨b, 0, none⟩) n c] w fun e w' => ∃ v', e = .returned v' ∧ w'.ownsRow w.heap.size 9 1 v' n (encS L) ∧ Below w.heap.size w w' := by
  have CL := Try.slices_Clone_string b 0 n c (L.map bs) w (by simp; omega) (by omega) (fun j hj => by
    have hj' : j < L.length := by simpa using hj
    rw [Nat.zero_add, hv.cellAt j (by omega)]
    unfold encS
    rw [List.getElem?_map, List.getElem?_eq_getElem hj', List.getD_eq_getElem?_getD, List.getElem?_map, List.getElem?_eq_getElem hj']
    rfl)
  refine CL.mono ?_
  rintro e w1 ⟨v1, rfl, ho, _, r1⟩
  have he : ((L.map bs).take n).map Value.string = encS L := by
    rw [List.take_of_length_le (by simp; omega), List.map_map]
    rfl
  rw [he] at ho
  exact ⟨v1, rfl, ho, r1⟩
theorem ringsL_few {q n : Nat} (hq : q ≤ 3) (hn : n ≤ 5) : (ringsL q n).length ≤ 243 := by
  have h := ringsF_len n (wordsL q n) _ (Nat.le_refl _)
  rw [List.take_length] at h
  exact Nat.le_trans h (words_few hq hn)
set_option maxRecDepth 100000 in
set_option maxHeartbeats 4000000 in
theorem Few_no (q n : Int) (w : World) (h : ¬ ((1 ≤ q ∧ q ≤ 3) ∧ (1 ≤ n ∧ n ≤ 5))) :
    Calls Try.prog 37 #[.int .i64 q, .int .i64 n] w fun e w' => e = .returned (.tuple #[.slice none 0 0, .int .i64 2]) ∧ Below w.heap.size w w' := by
  have K := Lib.hid fun n lo hi W => within_any n lo hi W
  have B0 := Lib.hid (bl_alloc (bl_refl w) (.cells #[.int .i64 n] 3))
  by_cases hq : 1 ≤ q ∧ q ≤ 3
  · have K1 : Hid (∀ W, Calls Try.prog 44 #[.int .i64 q, .int .i64 1, .int .i64 3] W fun e w' => e = .returned (.bool true) ∧ W = w') := fun W => by
      have := K.out q 1 3 W
      rw [show (decide (1 ≤ q) && decide (q ≤ 3)) = true by simp; omega] at this
      exact this
    have K2 : Hid (∀ W, Calls Try.prog 44 #[.int .i64 n, .int .i64 1, .int .i64 5] W fun e w' => e = .returned (.bool false) ∧ W = w') := fun W => by
      have := K.out n 1 5 W
      rw [show (decide (1 ≤ n) && decide (n ≤ 5)) = false by simp; omega] at this
      exact this
    clear K hq h
    go_enter Try.func37, Try.ntmps37
    go_wp2_with fail
    refine (K1.out _).mono ?_
    rintro e w1 ⟨rfl, rfl⟩
    go_wp2_with fail
    refine (K2.out _).mono ?_
    rintro e w1 ⟨rfl, rfl⟩
    go_wp2_with fail
    go_ret2
    exact ⟨rfl, B0.out⟩
  · have K1 : Hid (∀ W, Calls Try.prog 44 #[.int .i64 q, .int .i64 1, .int .i64 3] W fun e w' => e = .returned (.bool false) ∧ W = w') := fun W => by
      have := K.out q 1 3 W
      rw [show (decide (1 ≤ q) && decide (q ≤ 3)) = false by simp; omega] at this
      exact this
    clear K hq h
    go_enter Try.func37, Try.ntmps37
    go_wp2_with fail
    refine (K1.out _).mono ?_
    rintro e w1 ⟨rfl, rfl⟩
    go_wp2_with fail
    go_ret2
    exact ⟨rfl, B0.out⟩
set_option maxRecDepth 100000 in
set_option maxHeartbeats 4000000 in
theorem Few_big (q n : Nat) (hq : 1 ≤ q ∧ q ≤ 3) (hn : 1 ≤ n ∧ n ≤ 5) (hl : 12 < (ringsL q n).length) (w : World) :
    Calls Try.prog 37 #[.int .i64 q, .int .i64 n] w fun e w' => e = .returned (.tuple #[.slice none 0 0, .int .i64 2]) ∧ Below w.heap.size w w' := by
  have K1 : Hid (∀ W, Calls Try.prog 44 #[.int .i64 (q : Int), .int .i64 1, .int .i64 3] W fun e w' => e = .returned (.bool true) ∧ W = w') := fun W => by
    have := within_any q 1 3 W
    rw [show (decide ((1 : Int) ≤ q) && decide ((q : Int) ≤ 3)) = true by simp; omega] at this
    exact this
  have K2 : Hid (∀ W, Calls Try.prog 44 #[.int .i64 (n : Int), .int .i64 1, .int .i64 5] W fun e w' => e = .returned (.bool true) ∧ W = w') := fun W => by
    have := within_any n 1 5 W
    rw [show (decide ((1 : Int) ≤ n) && decide ((n : Int) ≤ 5)) = true by simp; omega] at this
    exact this
  have RA := Lib.hid fun W => rings_any q n hq hn W
  obtain ⟨N, hN⟩ : ∃ N, N = (ringsL q n).length := ⟨_, rfl⟩
  rw [← hN] at RA hl
  have HL := Lib.hid hl
  have hl2 : (12 : Int) < (N : Int) := by omega
  clear hN hl
  have B0 := Lib.hid (bl_alloc (bl_refl w) (.cells #[.int .i64 (n : Int)] 3))
  go_enter Try.func37, Try.ntmps37
  go_wp2_with fail
  refine (K1.out _).mono ?_
  rintro e w1 ⟨rfl, rfl⟩
  go_wp2_with fail
  refine (K2.out _).mono ?_
  rintro e w1 ⟨rfl, rfl⟩
  go_wp2_with fail
  refine (RA.out _).mono ?_
  rintro e w1 ⟨v1, hdrs, rfl, h1, h2, h3⟩
  obtain ⟨g, cap, rfl, _, _⟩ := own_form h1 (by have := HL.out; omega)
  have H3 := Lib.hid (bl_then B0.out h3)
  clear h1 h2 h3
  go_wp2_with fail
  go_ret2
  exact ⟨rfl, H3.out⟩
set_option maxRecDepth 100000 in
set_option maxHeartbeats 4000000 in
theorem Few_any (q n : Nat) (hq : 1 ≤ q ∧ q ≤ 3) (hn : 1 ≤ n ∧ n ≤ 5) (hl : (ringsL q n).length ≤ 12) (hl0 : 0 < (ringsL q n).length) (hne : 0 < (chooseL n (ringsL q n) ⟨[], [], 0⟩).2.out.length) (w : World) :
    Calls Try.prog 37 #[.int .i64 q, .int .i64 n] w fun e w' => ∃ v, e = .returned (.tuple #[v, .int .i64 0]) ∧ w'.ownsRow w.heap.size 9 1 v (fewL q n).length (encS (fewL q n)) ∧ Below w.heap.size w w' := by
  have K1 : Hid (∀ W, Calls Try.prog 44 #[.int .i64 (q : Int), .int .i64 1, .int .i64 3] W fun e w' => e = .returned (.bool true) ∧ W = w') := fun W => by
    have := within_any q 1 3 W
    rw [show (decide ((1 : Int) ≤ q) && decide ((q : Int) ≤ 3)) = true by simp; omega] at this
    exact this
  have K2 : Hid (∀ W, Calls Try.prog 44 #[.int .i64 (n : Int), .int .i64 1, .int .i64 5] W fun e w' => e = .returned (.bool true) ∧ W = w') := fun W => by
    have := within_any n 1 5 W
    rw [show (decide ((1 : Int) ≤ n) && decide ((n : Int) ≤ 5)) = true by simp; omega] at this
    exact this
  have RA := Lib.hid fun W => rings_any q n hq hn W
  have hROK : RingsOk n (ringsL q n) := ⟨hl, fun r hr => Nat.le_trans (ringsL_ok q n r hr).1 hn.2, fun r hr => (ringsL_ok q n r hr).2⟩
  obtain ⟨R, hR⟩ : ∃ R, R = ringsL q n := ⟨_, rfl⟩
  have hfew : fewL q n = sortS (chooseL n R ⟨[], [], 0⟩).2.out := by rw [hR]; rfl
  rw [← hR] at RA hl hl0 hne hROK
  rw [hfew]
  obtain ⟨N, hN⟩ : ∃ N, N = R.length := ⟨_, rfl⟩
  have HN := Lib.hid hN
  rw [← hN] at RA hl hl0
  have HL0 := Lib.hid hl0
  have hl2 : ¬ (12 : Int) < (N : Int) := by omega
  have hl3 : (decide ((12 : Int) < (N : Int))) = false := by simp; omega
  have hl4 : (N : Int) ≤ 12 := by omega
  have HROK := Lib.hid hROK
  have HNE := Lib.hid hne
  have CC := Lib.hid fun c hR hn m k s W h1 h2 h3 h4 => choose_calls c hR hn m k s W h1 h2 h3 h4
  have SA := Lib.hid fun L b n c base W h1 h2 h3 h4 => sorted_any L b n c base W h1 h2 h3 h4
  have hmm := @run_makeMap Try.prog
  have B0 := Lib.hid (bl_alloc (bl_refl w) (.cells #[.int .i64 (n : Int)] 3))
  have X0 := Lib.hid (Boxed.new w 3 (.int .i64 (n : Int)))
  have XC := Lib.hid X0.out.cell
  have lw : w.heap.size < w.heap.size + 1 := Nat.lt_succ_self _
  clear hR hfew hN hROK hne hl hl0
  go_enter Try.func37, Try.ntmps37
  go_wp2_with fail
  refine (K1.out _).mono ?_
  rintro e w1 ⟨rfl, rfl⟩
  go_wp2_with fail
  refine (K2.out _).mono ?_
  rintro e w1 ⟨rfl, rfl⟩
  go_wp2_with fail
  refine (RA.out _).mono ?_
  rintro e w2 ⟨v1, hdrs1, rfl, h1, _, h3⟩
  obtain ⟨g1, cap1, rfl, _, _⟩ := own_form h1 HL0.out
  have B2 := Lib.hid (bl_then B0.out h3)
  have X2 := boxed_below X0.out h3
  have HX2 := Lib.hid X2
  have c2 := X2.cell
  have l2 := X2.lt
  clear h1 h3 X2
  go_wp2_with fail
  refine (RA.out _).mono ?_
  rintro e w3 ⟨v3, hdrs, rfl, h1, h2, h3⟩
  obtain ⟨gA, cA, rfl, hgA, hgA2⟩ := own_form h1 HL0.out
  have X3 := Lib.hid (boxed_below HX2.out h3)
  have B3 := Lib.hid (bl_then B2.out h3)
  have HD := Lib.hid h1
  have HRW := Lib.hid h2
  have hs23 := h3.size
  have hsw := B2.out.size
  clear h1 h2 h3 c2 l2
  go_wp2_with fail
  obtain ⟨z, hz⟩ : ∃ z, z = w3.heap.size := ⟨_, rfl⟩
  obtain ⟨W4, hW4⟩ : ∃ W4, W4 = (((((w3.alloc (.cells #[.slice (some ⟨gA, 0, none⟩) N cA] 89)).alloc (.map #[] 0)).alloc (.cells #[.map (some (w3.heap.size + 1))] 91)).alloc (.cells #[.func (.func 52) #[] #[.pointer (some ⟨w.heap.size, 0, none⟩)]] 94)).alloc (.cells #[.slice none 0 0] 22)).alloc
      (.cells #[.func (.func 53) #[] #[.pointer (some ⟨w3.heap.size, 0, none⟩), .pointer (some ⟨w3.heap.size + 1 + 1, 0, none⟩), .pointer (some ⟨w3.heap.size + 1 + 1 + 1, 0, none⟩), .pointer (some ⟨w3.heap.size + 1 + 1 + 1 + 1, 0, none⟩), .pointer (some ⟨w3.heap.size + 1 + 1 + 1 + 1 + 1, 0, none⟩)]] 95) := ⟨_, rfl⟩
  rw [← hW4]
  have hsz : W4.heap.size = z + 6 := by rw [hW4, hz]; simp
  have hb : Below w3.heap.size w3 W4 := by rw [hW4]; exact bl_alloc (bl_alloc (bl_alloc (bl_alloc (bl_alloc (bl_alloc (bl_refl w3) _) _) _) _) _) _
  have hC : CAt ⟨w, z, n, w.heap.size, z, z + 1 + 1, z + 1 + 1 + 1, z + 1 + 1 + 1 + 1, z + 1 + 1 + 1 + 1 + 1, z + 1, gA, cA, hdrs, R⟩ W4 ⟨[], [], 0⟩ := by
    refine ⟨B3.out.trans (hb.mono (by omega)), ?_, ?_, ?_, boxed_below X3.out hb, ?_, ⟨.slice none 0 0, ?_, World.ownsRow_nil _ _ _ _⟩, ?_, ?_, ?_, by dsimp only; omega, by dsimp only; omega, by dsimp only; omega, by dsimp only; omega, by dsimp only; omega, ⟨.nil, fun b h => absurd h List.not_mem_nil⟩⟩
    · dsimp only
      rw [← HN.out, hW4, hz]
      exact (((((Boxed.new w3 _ _).alloc _).alloc _).alloc _).alloc _).alloc _
    · have := Boxed.new ((w3.alloc (.cells #[.slice (some ⟨gA, 0, none⟩) N cA] 89)).alloc (.map #[] 0)) 91 (.map (some (w3.heap.size + 1)))
      simp only [World.size_alloc] at this
      dsimp only
      rw [hW4, hz]
      exact ((this.alloc _).alloc _).alloc _
    · have := Boxed.new (((w3.alloc (.cells #[.slice (some ⟨gA, 0, none⟩) N cA] 89)).alloc (.map #[] 0)).alloc (.cells #[.map (some (w3.heap.size + 1))] 91)) 94 (.func (.func 52) #[] #[.pointer (some ⟨w.heap.size, 0, none⟩)])
      simp only [World.size_alloc] at this
      dsimp only
      rw [hW4, hz]
      exact (this.alloc _).alloc _
    · have := Boxed.new (((((w3.alloc (.cells #[.slice (some ⟨gA, 0, none⟩) N cA] 89)).alloc (.map #[] 0)).alloc (.cells #[.map (some (w3.heap.size + 1))] 91)).alloc (.cells #[.func (.func 52) #[] #[.pointer (some ⟨w.heap.size, 0, none⟩)]] 94)).alloc (.cells #[.slice none 0 0] 22)) 95
        (.func (.func 53) #[] #[.pointer (some ⟨w3.heap.size, 0, none⟩), .pointer (some ⟨w3.heap.size + 1 + 1, 0, none⟩), .pointer (some ⟨w3.heap.size + 1 + 1 + 1, 0, none⟩), .pointer (some ⟨w3.heap.size + 1 + 1 + 1 + 1, 0, none⟩), .pointer (some ⟨w3.heap.size + 1 + 1 + 1 + 1 + 1, 0, none⟩)])
      simp only [World.size_alloc] at this
      dsimp only
      rw [hW4, hz]
      exact this
    · have := Boxed.new ((((w3.alloc (.cells #[.slice (some ⟨gA, 0, none⟩) N cA] 89)).alloc (.map #[] 0)).alloc (.cells #[.map (some (w3.heap.size + 1))] 91)).alloc (.cells #[.func (.func 52) #[] #[.pointer (some ⟨w.heap.size, 0, none⟩)]] 94)) 22 (.slice none 0 0)
      simp only [World.size_alloc] at this
      dsimp only
      rw [hW4, hz]
      exact this.alloc _
    · dsimp only
      rw [← HN.out]
      exact own_low (own_kept HD.out hb) (by omega)
    · dsimp only
      rw [hz]
      exact HRW.out.kept hb
    · have := (MapF.made kindBB (w3.alloc (.cells #[.slice (some ⟨gA, 0, none⟩) N cA] 89))).same (g := brF []) (fun x => by simp [brF])
      simp only [World.size_alloc] at this
      dsimp only
      rw [hW4, hz]
      exact this.below (bl_alloc (bl_alloc (bl_alloc (bl_alloc (bl_refl _) _) _) _) _)
  have C0 := Lib.hid (CC.out _ HROK.out hn N 0 ⟨[], [], 0⟩ W4 (by dsimp only; have := HN.out; omega) hC (by have := cost_le HROK.out.few; rw [← HN.out] at this; dsimp only; omega) (Nat.le_refl _))
  dsimp only at C0
  rw [List.drop_zero, hz] at C0
  clear hC hb hsz hW4 hz B2 X3 HX2 X0 XC B0 RA HD HRW
  refine C0.out.mono ?_
  rintro e w5 ⟨rfl, hC5⟩
  obtain ⟨L, hL⟩ : ∃ L, L = (chooseL n R ⟨[], [], 0⟩).2.out := ⟨_, rfl⟩
  obtain ⟨vo, hvo, hro⟩ := hC5.u
  dsimp only at hvo hro
  have HNE' := HNE.out
  have HL := Lib.hid hL
  have hol := chooseL_olen n R ⟨[], [], 0⟩
  rw [← hL] at hro HNE' hol
  obtain ⟨LN, hLN⟩ : ∃ LN, LN = L.length := ⟨_, rfl⟩
  rw [← hLN] at hro HNE'
  obtain ⟨go, co, rfl, _, _⟩ := own_form hro HNE'
  have hlow := Lib.hid hC5.low
  dsimp only at hlow
  have hlq : LN ≤ 100000 := by
    have := HROK.out.few
    rw [← hLN] at hol
    simp at hol
    omega
  have CL := Lib.hid (clone_any L go LN co _ w5 hLN HNE' hlq hro)
  have d5 := hvo.cell
  have k5 := hvo.lt
  have HLN := Lib.hid hLN
  clear hro hL hLN hC5 hvo C0 hol
  go_wp2_with fail
  refine CL.out.mono ?_
  rintro e w6 ⟨v6, rfl, ho6, r6⟩
  obtain ⟨g6, c6, rfl, _, _⟩ := own_form ho6 HNE'
  have S6 := Lib.hid (SA.out L g6 LN c6 _ w6 HLN.out HNE' hlq ho6)
  have B6 := Lib.hid (bl_then hlow.out r6)
  clear ho6 r6 CL d5 k5
  go_wp2_with fail
  refine S6.out.mono ?_
  rintro e w7 ⟨v7, rfl, ho7, r7⟩
  have B7 := Lib.hid (bl_then B6.out r7)
  have HF : Hid (w7.ownsRow w.heap.size 9 1 v7 (sortS L).length (encS (sortS L))) := Lib.hid (by
    rw [sortS_len, ← HLN.out]
    exact own_low ho7 B6.out.size)
  clear ho7 r7 S6
  go_wp2_with fail
  go_ret2
  rw [← HL.out]
  exact ⟨_, rfl, HF.out, B7.out⟩
end Go.Proofs.Ytnamafakjkcmjaa
