/-
  CamberOwn: results are new memory.
-/
import Derived.Test.YtpflmlnkflpbnaaDoorW84
import Derived.Test.YtpflmlnkflpbnaaDoorW21
namespace Go.Proofs.YtpflmlnkflpbnaaDoor
open Go.RowKit Go.Sort Cam
set_option linter.unusedVariables false
set_option linter.unusedSimpArgs false

set_option maxRecDepth 100000 in
set_option maxHeartbeats 2000000 in
theorem Children_own (x y z : Int) (w : World) (h : Tri x y z) (h4 : z ≤ 1000000000) :
    Calls Tryd.prog 12 #[trip x y z] w fun e w' => ∃ v, e = .returned (.tuple #[v, .int .i64 0]) ∧ w'.ownsRow w.heap.size 32 3 v (kids x y z).length (flat (kids x y z)) ∧ Below w.heap.size w w' := by
  have K := Lib.hid fun W => isTriple_yes 3 x y z W (by omega) (tri_triB h h4)
  have C := Lib.hid fun W => children_any x y z W h h4
  obtain ⟨i0, hi, hz0, hz1, hz2⟩ := info_parts info22
  have hkl := kids_len x y z
  clear h
  generalize kids x y z = ts at *
  unfold trip at C ⊢
  go_enter Tryd.func12, Tryd.ntmps12
  go_wp2_with fail
  refine (K.out _).mono ?_
  rintro e w1 ⟨rfl, hb1⟩
  obtain ⟨hc1, hf1⟩ := bl_cells hb1
  have hbA := bl_then (bl_alloc (bl_alloc (bl_refl w) _) _) hb1
  go_wp2_with fail
  refine (C.out _).mono ?_
  rintro e w2 ⟨v, rfl, hown, hb2⟩
  have hbB := bl_then hbA hb2
  have hs1 := hbA.size
  clear hc1 hf1
  rcases own_forms hown with ⟨rfl, h0⟩ | ⟨g, cap, rfl⟩
  · obtain rfl := List.eq_nil_of_length_eq_zero h0
    go_wp2_with fail
    refine wp_loop_rounds 1 ?_; rw [rounds_succ]
    go_wp2_with fail
    go_ret2
    exact ⟨_, rfl, World.ownsRow_nil _ _ _ _, hbB⟩
  · go_wp2_with fail
    obtain ⟨N, hN⟩ : ∃ N, N = ts.length := ⟨_, rfl⟩
    have HN := Lib.hid hN
    rw [← hN] at hown hkl ⊢
    clear hN
    go_loopw [5, 15] (fun v i wr => ∃ k : Nat, k ≤ N ∧ i = .int .i64 k ∧ wr.ownsRow w.heap.size 32 3 v k (flat (ts.take k)) ∧ wr.ownsRow w1.heap.size 42 3 (.slice (some ⟨g, 0, none⟩) N cap) N (flat ts) ∧ Below w.heap.size w wr) (fun _ i _ => N - (intOf i).toNat)
    case atStart => exact ⟨0, Nat.zero_le _, rfl, World.ownsRow_nil _ _ _ _, hown, hbB⟩
    case round =>
      obtain ⟨k, hk, rfl, ho, hs, hb⟩ := hrel
      by_cases hlt : k < N
      · have hk1 : k < ts.length := by have := HN.out; omega
        obtain ⟨x0, x1, x2⟩ := flat_get ts k hk1
        have s0 := (hs.cellAt (k * 3) (by omega)).trans x0
        have s1 := (hs.cellAt (k * 3 + 1) (by omega)).trans x1
        have s2 := (hs.cellAt (k * 3 + 2) (by omega)).trans x2
        have ET : Hid (flat (ts.take (k + 1)) = flat (ts.take k) ++ [.int .i64 ts[k].1, .int .i64 ts[k].2.1, .int .i64 ts[k].2.2]) := by
          rw [List.take_succ_eq_append_getElem hk1]; exact flat_append _ _
        generalize ts[k] = t at *
        clear x0 x1 x2 hk1
        have hsz := hb.size
        go_wp2_with (at_builtin; refine wpList_append_own _ rfl (.tmp 19) (.tmp 21) _ rfl w.heap.size 32 i0 _ 3 24 Tryd.underlying22 hi hz0 hz1 hz2 rfl (by decide) _ k (flat (ts.take k)) rfl ((ho.alloc _).alloc _) ⟨wr.heap.size + 1, 0, none⟩ 1 1 [.int .i64 t.1, .int .i64 t.2.1, .int .i64 t.2.2] rfl rfl (cells_new2 _ _ _ _) (three_one _ _ _) (by unfold maxLen; omega) (by omega) (by simp; omega) ?_; intro v3 w3 hown3 hg3 _)
        have hB := bl_grown (bl_alloc (bl_alloc hb _) _) ((ho.alloc _).alloc _) (Nat.le_refl _) hg3
        have hs3 := ((hs.alloc _).alloc _).kept hg3 (own_ne ((hs.alloc (.cells #[.int .i64 t.1, .int .i64 t.2.1, .int .i64 t.2.2] 32)).alloc (.cells #[.int .i64 t.1, .int .i64 t.2.1, .int .i64 t.2.2] 32)) ((ho.alloc _).alloc _) (by decide))
        rw [← ET.out] at hown3
        clear hg3 ho hs s0 s1 s2
        go_wp2_with fail
        go_roundw
        case rel => exact ⟨k + 1, by omega, by go_num, hown3, hs3, hB⟩
        case measure => simp [intOf]; omega
      · have ek : k = N := by omega
        rw [List.take_of_length_le (by have := HN.out; omega), ek, HN.out] at ho
        clear hs
        have hR := Lib.hid ho
        have ek' := Lib.hid ek
        clear ek ho
        go_wp2_with fail
        go_ret2
        exact ⟨_, rfl, hR.out, hb⟩

/-- A slice of the call's own into which may be written: n rows of three numbers. -/
def FillV (base : Nat) (w : World) (v : Value) (n : Nat) : Prop := ∃ A c, v = .slice A n c ∧ (0 < n → ∃ g, A = some ⟨g, 0, none⟩ ∧ base ≤ g ∧ g < w.heap.size ∧ ∀ j, j < n * 3 → (w.cell? ⟨g, j, none⟩).isSome = true ∧ w.frozen? ⟨g, j, none⟩ = false)
theorem FillV.own {w : World} {base : Nat} {v : Value} {ts : List T3} (h : w.ownsRow base 32 3 v ts.length (flat ts)) : FillV base w v ts.length := by
  obtain ⟨A, c, rfl⟩ := own_slice h
  refine ⟨A, c, rfl, fun h0 => ?_⟩
  obtain ⟨g, cc, e, hg, hl⟩ := own_form h h0
  simp only [Value.slice.injEq, true_and] at e
  obtain ⟨rfl, rfl⟩ := e
  refine ⟨g, rfl, hg, hl, fun j hj => ⟨?_, ?_⟩⟩
  · rw [h.cellAt j hj, List.getElem?_eq_getElem (by rw [flat_length]; exact hj)]; rfl
  · rcases h.2 with ⟨h1, _⟩ | ⟨g', cap', cur, h1, _, hh, _⟩
    · cases h1
    · simp only [Value.slice.injEq, Option.some.injEq, Addr.mk.injEq] at h1
      obtain ⟨⟨rfl, _⟩, _⟩ := h1
      simp [World.frozen?, hh]
theorem FillV.kept {base n : Nat} {w w' : World} {v : Value} (h : FillV base w v n) (hb : Below w.heap.size w w') : FillV base w' v n := by
  obtain ⟨A, c, rfl, h⟩ := h
  refine ⟨A, c, rfl, fun h0 => ?_⟩
  obtain ⟨g, rfl, hg, hl, hc⟩ := h h0
  refine ⟨g, rfl, hg, Nat.lt_of_lt_of_le hl hb.size, fun j hj => ?_⟩
  rw [hb.cell (p := ⟨g, j, none⟩) hl, hb.frozen (p := ⟨g, j, none⟩) hl]
  exact hc j hj
theorem FillV.at {base n c : Nat} {w : World} {A : Option Addr} (h : FillV base w (.slice A n c) n) (h0 : 0 < n) : ∃ g, A = some ⟨g, 0, none⟩ ∧ base ≤ g ∧ g < w.heap.size ∧ ∀ j, j < n * 3 → (∃ u, w.cell? ⟨g, j, none⟩ = some u) ∧ w.frozen? ⟨g, j, none⟩ = false := by
  obtain ⟨A', c', e, h⟩ := h
  simp only [Value.slice.injEq, true_and] at e
  obtain ⟨rfl, rfl⟩ := e
  obtain ⟨g, h1, h2, h3, h4⟩ := h h0
  exact ⟨g, h1, h2, h3, fun j hj => ⟨Option.isSome_iff_exists.1 (h4 j hj).1, (h4 j hj).2⟩⟩
theorem isSome_set (w : World) (p q : Addr) (u : Value) (h : (w.cell? q).isSome = true) : ((w.setCell p u).cell? q).isSome = true := by
  obtain ⟨x, hx⟩ := Option.isSome_iff_exists.1 h
  obtain ⟨v', hy'⟩ := cell?_setCell_some (w := w) (p := p) (x := u) (q := q) (v := x) hx
  rw [hy']; rfl
theorem FillV.set {base n : Nat} {w : World} {v : Value} (h : FillV base w v n) (p : Addr) (u : Value) : FillV base (w.setCell p u) v n := by
  obtain ⟨A, c, rfl, h⟩ := h
  refine ⟨A, c, rfl, fun h0 => ?_⟩
  obtain ⟨g, rfl, hg, hl, hc⟩ := h h0
  refine ⟨g, rfl, hg, by simpa [World.setCell] using hl, fun j hj => ⟨isSome_set _ _ _ _ (hc j hj).1, ?_⟩⟩
  rw [World.frozen?_setCell]
  exact (hc j hj).2

set_option maxRecDepth 100000 in
set_option maxHeartbeats 8000000 in
theorem CamberOwn_walk (most0 : Int) (w : World) (hwm : (Lit.int .i64 most0).wf = true) (hF : FirstAt w) :
    Calls Tryd.prog 5 #[.int .i64 most0] w fun e w' => e = .returned (.bool true) ∧ Below w.heap.size w w' := by
  have M1 := Lib.hid fun W => mod_any most0 500 W hwm (by omega)
  have AW := Lib.hid fun W h => awake_any W h
  have OA := Lib.hid fun k most W h1 h2 => Other_any k most W h1 h2
  have AL := Lib.hid fun m W h => All_any m W h
  have RA := Lib.hid fun m W h => refAll_any m W h
  have hT : Tri 1 2 5 := by unfold Tri; omega
  have CH := Lib.hid fun W => Children_own 1 2 5 W hT (by omega)
  have RC := Lib.hid fun W => refChildren_any 1 2 5 W hT (by omega)
  have S := Lib.hid fun v u ts us W h1 h2 h3 h4 => same_any v u ts us W h1 h2 h3 h4
  unfold trip at CH RC
  clear hwm hT
  go_enter Tryd.func5, Tryd.ntmps5
  go_wp2_with fail
  refine (M1.out _).mono ?_
  rintro e w1 ⟨⟨r, hr1, hr2, rfl⟩, rfl⟩
  obtain ⟨U, hU⟩ : ∃ U, U = upTo (5 + r) := ⟨_, rfl⟩
  obtain ⟨KD, hKD⟩ : ∃ KD, KD = kids 1 2 5 := ⟨_, rfl⟩
  have hul := (upTo_len (show 1 ≤ 5 + r by omega)).2
  have hkl := kids_len 1 2 5
  have hO3 : otherL 3 (5 + r) = upTo (5 + r) := by unfold otherL; rw [if_pos rfl]
  have AL1 := Lib.hid fun W => AL.out (5 + r) W (by omega)
  have RA1 := Lib.hid fun W => RA.out (5 + r) W (by omega)
  have OA1 := Lib.hid fun W => OA.out 3 (5 + r) W (by omega) (by omega)
  rw [hO3] at OA1
  rw [← hU] at AL1 RA1 OA1 hul
  rw [← hKD] at CH RC hkl
  clear hO3 hU hKD
  go_wp2_with fail
  refine (AL1.out _).mono ?_
  rintro e w1 ⟨va, rfl, hown1, hb1⟩
  have FA1 := Lib.hid (FillV.own hown1)
  clear hown1
  go_wp2_with fail
  refine (CH.out _).mono ?_
  rintro e w2 ⟨vc, rfl, hown2, hb2⟩
  have FA2 := Lib.hid (FA1.out.kept hb2)
  have FC2 := Lib.hid (FillV.own hown2)
  have hB2 := bl_then hb1 hb2
  clear hown2
  go_wp2_with fail
  refine (OA1.out _).mono ?_
  rintro e w3 ⟨vo, rfl, hown3, hb3⟩
  have FA3 := Lib.hid (FA2.out.kept hb3)
  have FC3 := Lib.hid (FC2.out.kept hb3)
  have FO3 := Lib.hid (FillV.own hown3)
  have hB3 := bl_then hB2 hb3
  have hsz1 := hb1.size
  have hsz2 := hb2.size
  clear hown3 FA1 FA2 FC2
  obtain ⟨N1, hN1⟩ : ∃ N1, N1 = U.length := ⟨_, rfl⟩
  obtain ⟨N2, hN2⟩ : ∃ N2, N2 = KD.length := ⟨_, rfl⟩
  rw [← hN1] at FA3 FO3
  rw [← hN2] at FC3
  have hN1' : N1 ≤ 88 := by omega
  have hN2' : N2 ≤ 2 := by omega
  obtain ⟨A1, c1, rfl, _⟩ := id FA3.out
  obtain ⟨A2, c2, rfl, _⟩ := id FC3.out
  obtain ⟨A3, c3, rfl, _⟩ := id FO3.out
  have HN1 := Lib.hid hN1
  have HN2 := Lib.hid hN2
  have hFs := Lib.hid (hF.kept hB3)
  have hF0 := Lib.hid hF
  have hB3 := Lib.hid hB3
  clear hN1 hN2 hF hb1 hb2 hb3 hB2
  go_wp2_with fail
  go_loopw [9] (fun i wr => ∃ k : Nat, k ≤ N1 ∧ i = .int .i64 k ∧ Hid (FillV w.heap.size wr (.slice A1 N1 c1) N1) ∧ Hid (FillV w1.heap.size wr (.slice A2 N2 c2) N2) ∧ Hid (FillV w2.heap.size wr (.slice A3 N1 c3) N1) ∧ Hid (FirstAt wr) ∧ Hid (Below w.heap.size w wr)) (fun i _ => N1 - (intOf i).toNat)
  case atStart => exact ⟨0, Nat.zero_le _, rfl, FA3, FC3, FO3, hFs, hB3⟩
  case round =>
    clear FA3 FC3 FO3 hFs hB3
    obtain ⟨k, hk, rfl, FA, FC, FO, HF, HB⟩ := hrel
    by_cases hlt : k < N1
    · obtain ⟨g, rfl, hg1, hg2, hgc⟩ := FA.out.at (by omega)
      have hz1 : g < wr.heap.size := hg2
      obtain ⟨u0, q0⟩ := (hgc (k * 3) (by omega)).1
      obtain ⟨u1, q1⟩ := (hgc (k * 3 + 1) (by omega)).1
      obtain ⟨u2, q2⟩ := (hgc (k * 3 + 2) (by omega)).1
      have f0 := (hgc (k * 3) (by omega)).2
      have f1 := (hgc (k * 3 + 1) (by omega)).2
      have f2 := (hgc (k * 3 + 2) (by omega)).2
      clear hgc
      have FA4 := Lib.hid (((FA.out.set ⟨g, k * 3, none⟩ (.int .i64 (-7))).set ⟨g, k * 3 + 1, none⟩ (.int .i64 (-7))).set ⟨g, k * 3 + 2, none⟩ (.int .i64 (-7)))
      have FC4 := Lib.hid (((FC.out.set ⟨g, k * 3, none⟩ (.int .i64 (-7))).set ⟨g, k * 3 + 1, none⟩ (.int .i64 (-7))).set ⟨g, k * 3 + 2, none⟩ (.int .i64 (-7)))
      have FO4 := Lib.hid (((FO.out.set ⟨g, k * 3, none⟩ (.int .i64 (-7))).set ⟨g, k * 3 + 1, none⟩ (.int .i64 (-7))).set ⟨g, k * 3 + 2, none⟩ (.int .i64 (-7)))
      have HB4 := Lib.hid (bl_set (p := ⟨g, k * 3 + 2, none⟩) (bl_set (p := ⟨g, k * 3 + 1, none⟩) (bl_set (p := ⟨g, k * 3, none⟩) HB.out (by show _ ≤ g; omega) (.int .i64 (-7))) (by show _ ≤ g; omega) (.int .i64 (-7))) (by show _ ≤ g; omega) (.int .i64 (-7)))
      have HF4 := Lib.hid (hF0.out.kept HB4.out)
      clear FA FC FO HF HB
      go_wp2_with fail
      go_roundw
      case rel => exact ⟨k + 1, by omega, by go_num, FA4, FC4, FO4, HF4, HB4⟩
      case measure => simp [intOf]; omega
    · go_wp2_with fail
      go_loopw [10] (fun i wr => ∃ k : Nat, k ≤ N2 ∧ i = .int .i64 k ∧ Hid (FillV w.heap.size wr (.slice A1 N1 c1) N1) ∧ Hid (FillV w1.heap.size wr (.slice A2 N2 c2) N2) ∧ Hid (FillV w2.heap.size wr (.slice A3 N1 c3) N1) ∧ Hid (FirstAt wr) ∧ Hid (Below w.heap.size w wr)) (fun i _ => N2 - (intOf i).toNat)
      case atStart => exact ⟨0, Nat.zero_le _, rfl, FA, FC, FO, HF, HB⟩
      case round =>
        clear FA FC FO HF HB
        obtain ⟨k, hk, rfl, FA, FC, FO, HF, HB⟩ := hrel
        by_cases hlt : k < N2
        · obtain ⟨g, rfl, hg1, hg2, hgc⟩ := FC.out.at (by omega)
          have hz1 : g < wr.heap.size := hg2
          obtain ⟨u0, q0⟩ := (hgc (k * 3) (by omega)).1
          obtain ⟨u1, q1⟩ := (hgc (k * 3 + 1) (by omega)).1
          obtain ⟨u2, q2⟩ := (hgc (k * 3 + 2) (by omega)).1
          have f0 := (hgc (k * 3) (by omega)).2
          have f1 := (hgc (k * 3 + 1) (by omega)).2
          have f2 := (hgc (k * 3 + 2) (by omega)).2
          clear hgc
          have FA4 := Lib.hid (((FA.out.set ⟨g, k * 3, none⟩ (.int .i64 (-7))).set ⟨g, k * 3 + 1, none⟩ (.int .i64 (-7))).set ⟨g, k * 3 + 2, none⟩ (.int .i64 (-7)))
          have FC4 := Lib.hid (((FC.out.set ⟨g, k * 3, none⟩ (.int .i64 (-7))).set ⟨g, k * 3 + 1, none⟩ (.int .i64 (-7))).set ⟨g, k * 3 + 2, none⟩ (.int .i64 (-7)))
          have FO4 := Lib.hid (((FO.out.set ⟨g, k * 3, none⟩ (.int .i64 (-7))).set ⟨g, k * 3 + 1, none⟩ (.int .i64 (-7))).set ⟨g, k * 3 + 2, none⟩ (.int .i64 (-7)))
          have HB4 := Lib.hid (bl_set (p := ⟨g, k * 3 + 2, none⟩) (bl_set (p := ⟨g, k * 3 + 1, none⟩) (bl_set (p := ⟨g, k * 3, none⟩) HB.out (by show _ ≤ g; omega) (.int .i64 (-7))) (by show _ ≤ g; omega) (.int .i64 (-7))) (by show _ ≤ g; omega) (.int .i64 (-7)))
          have HF4 := Lib.hid (hF0.out.kept HB4.out)
          clear FA FC FO HF HB
          go_wp2_with fail
          go_roundw
          case rel => exact ⟨k + 1, by omega, by go_num, FA4, FC4, FO4, HF4, HB4⟩
          case measure => simp [intOf]; omega
        · go_wp2_with fail
          go_loopw [11] (fun i wr => ∃ k : Nat, k ≤ N1 ∧ i = .int .i64 k ∧ Hid (FillV w.heap.size wr (.slice A1 N1 c1) N1) ∧ Hid (FillV w1.heap.size wr (.slice A2 N2 c2) N2) ∧ Hid (FillV w2.heap.size wr (.slice A3 N1 c3) N1) ∧ Hid (FirstAt wr) ∧ Hid (Below w.heap.size w wr)) (fun i _ => N1 - (intOf i).toNat)
          case atStart => exact ⟨0, Nat.zero_le _, rfl, FA, FC, FO, HF, HB⟩
          case round =>
            clear FA FC FO HF HB
            obtain ⟨k, hk, rfl, FA, FC, FO, HF, HB⟩ := hrel
            by_cases hlt : k < N1
            · obtain ⟨g, rfl, hg1, hg2, hgc⟩ := FO.out.at (by omega)
              have hz1 : g < wr.heap.size := hg2
              obtain ⟨u0, q0⟩ := (hgc (k * 3) (by omega)).1
              obtain ⟨u1, q1⟩ := (hgc (k * 3 + 1) (by omega)).1
              obtain ⟨u2, q2⟩ := (hgc (k * 3 + 2) (by omega)).1
              have f0 := (hgc (k * 3) (by omega)).2
              have f1 := (hgc (k * 3 + 1) (by omega)).2
              have f2 := (hgc (k * 3 + 2) (by omega)).2
              clear hgc
              have FA4 := Lib.hid (((FA.out.set ⟨g, k * 3, none⟩ (.int .i64 (-7))).set ⟨g, k * 3 + 1, none⟩ (.int .i64 (-7))).set ⟨g, k * 3 + 2, none⟩ (.int .i64 (-7)))
              have FC4 := Lib.hid (((FC.out.set ⟨g, k * 3, none⟩ (.int .i64 (-7))).set ⟨g, k * 3 + 1, none⟩ (.int .i64 (-7))).set ⟨g, k * 3 + 2, none⟩ (.int .i64 (-7)))
              have FO4 := Lib.hid (((FO.out.set ⟨g, k * 3, none⟩ (.int .i64 (-7))).set ⟨g, k * 3 + 1, none⟩ (.int .i64 (-7))).set ⟨g, k * 3 + 2, none⟩ (.int .i64 (-7)))
              have HB4 := Lib.hid (bl_set (p := ⟨g, k * 3 + 2, none⟩) (bl_set (p := ⟨g, k * 3 + 1, none⟩) (bl_set (p := ⟨g, k * 3, none⟩) HB.out (by show _ ≤ g; omega) (.int .i64 (-7))) (by show _ ≤ g; omega) (.int .i64 (-7))) (by show _ ≤ g; omega) (.int .i64 (-7)))
              have HF4 := Lib.hid (hF0.out.kept HB4.out)
              clear FA FC FO HF HB
              go_wp2_with fail
              go_roundw
              case rel => exact ⟨k + 1, by omega, by go_num, FA4, FC4, FO4, HF4, HB4⟩
              case measure => simp [intOf]; omega
            · go_wp2_with fail
              refine (AL1.out _).mono ?_
              rintro e w4 ⟨vb, rfl, hown4, hb4⟩
              have RB4 := Lib.hid (rowT_own hown4)
              have HF4 := Lib.hid (HF.out.kept hb4)
              have HB4 := Lib.hid (bl_then HB.out hb4)
              clear hown4 FA FC FO HF HB hb4
              go_wp2_with fail
              refine (CH.out _).mono ?_
              rintro e w5 ⟨vd, rfl, hown5, hb5⟩
              have RB5 := Lib.hid (RB4.out.kept hb5)
              have RD5 := Lib.hid (rowT_own hown5)
              have HF5 := Lib.hid (HF4.out.kept hb5)
              have HB5 := Lib.hid (bl_then HB4.out hb5)
              clear hown5 RB4 HF4 HB4 hb5
              go_wp2_with fail
              refine (OA1.out _).mono ?_
              rintro e w6 ⟨vq, rfl, hown6, hb6⟩
              have RB6 := Lib.hid (RB5.out.kept hb6)
              have RD6 := Lib.hid (RD5.out.kept hb6)
              have RQ6 := Lib.hid (rowT_own hown6)
              have HF6 := Lib.hid (HF5.out.kept hb6)
              have HB6 := Lib.hid (bl_then HB5.out hb6)
              clear hown6 RB5 RD5 HF5 HB5 hb6
              go_wp2_with fail
              refine (RA1.out _).mono ?_
              rintro e w7 ⟨ra, rfl, hra, hb7⟩
              have HRA := Lib.hid hra
              have RB7 := Lib.hid (RB6.out.kept hb7)
              have RD7 := Lib.hid (RD6.out.kept hb7)
              have RQ7 := Lib.hid (RQ6.out.kept hb7)
              have HF7 := Lib.hid (HF6.out.kept hb7)
              have HB7 := Lib.hid (bl_then HB6.out hb7)
              clear hra RB6 RD6 RQ6 HF6 HB6 hb7
              go_wp2_with fail
              refine (S.out _ _ U U _ RB7.out HRA.out (by omega) (by omega)).mono ?_
              rintro e w8 ⟨rfl, n8, rfl⟩
              go_wp2_with fail
              refine (RC.out _).mono ?_
              rintro e w9 ⟨rc, rfl, hrc, hb9⟩
              have RB9 := Lib.hid ((RB7.out.kept (bl_drewN (bl_refl _) n8)).kept hb9)
              have RD9 := Lib.hid ((RD7.out.kept (bl_drewN (bl_refl _) n8)).kept hb9)
              have RQ9 := Lib.hid ((RQ7.out.kept (bl_drewN (bl_refl _) n8)).kept hb9)
              have HF9 := Lib.hid ((HF7.out.kept (bl_drewN (bl_refl _) n8)).kept hb9)
              have HB9 := Lib.hid (bl_then (bl_drewN HB7.out n8) hb9)
              have HRC := Lib.hid (rowT_own hrc)
              clear hrc HRA RB7 RD7 RQ7 HF7 HB7 hb9
              go_wp2_with fail
              refine (S.out _ _ KD KD _ RD9.out HRC.out (by omega) (by omega)).mono ?_
              rintro e w10 ⟨rfl, n10, rfl⟩
              go_wp2_with fail
              refine (S.out _ _ U U _ (RQ9.out.kept (bl_drewN (bl_refl _) n10)) (RB9.out.kept (bl_drewN (bl_refl _) n10)) (by omega) (by omega)).mono ?_
              rintro e w11 ⟨rfl, n11, rfl⟩
              have HF11 := Lib.hid (HF9.out.kept (bl_drewN (bl_refl _) (n10 + n11)))
              have HB11 := Lib.hid (bl_drewN HB9.out (n10 + n11))
              go_wp2_with fail
              refine (AW.out _ HF11.out).mono ?_
              rintro e w12 ⟨rfl, hb12⟩
              have HB12 := Lib.hid (bl_then HB11.out hb12)
              clear hb12 HF11 HB11
              go_wp2_with fail
              go_ret
              exact ⟨rfl, HB12.out⟩
end Go.Proofs.YtpflmlnkflpbnaaDoor
