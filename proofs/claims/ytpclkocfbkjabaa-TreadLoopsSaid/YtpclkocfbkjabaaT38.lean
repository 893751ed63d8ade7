/-
  The reference: Loop.
-/
import Derived.Test.YtpclkocfbkjabaaT34
import Derived.Test.YtpclkocfbkjabaaA18
namespace Go.Proofs.Ytpclkocfbkjabaa
open Go.RowKit Go.Shelf
set_option linter.unusedVariables false
set_option linter.unusedSimpArgs false

theorem keeps_rc (T : Tab) (f N n : Nat) : Keeps (rc T f) T N n := fun m i _ _ h => by
  have h : ((stp T i).any fun p => rc T f m p.2) = true := h
  rw [List.any_eq_true] at h
  obtain ⟨⟨c, j⟩, h1, h2⟩ := h
  exact ⟨c, j, h1, h2⟩
set_option maxRecDepth 100000 in
set_option maxHeartbeats 8000000 in
theorem RLoop_any (q N : Nat) (hq : 1 ≤ q ∧ q ≤ 3) (v : Value) (ss : List ByteArray) (w : World) (T : Tab) (S : List Str) (hTd : T = tabL (pats ss) q) (hSd : S = stL (pats ss) q) (hN : N = S.length) (hv : StrsAt w v ss) (hz : ∀ p ∈ ss, p.size ≤ 1000) (hl : ss.length ≤ 1000) (h0 : okL (pats ss) [] = true) :
    Calls Try.prog 20 #[.int .i64 q, v] w fun e w' => ((endsB T = true ∧ e = .returned (.tuple #[.string ⟨#[]⟩, .bool false])) ∨ (endsB T = false ∧ ∃ best, BestAt T N N best ∧ e = .returned (.tuple #[.string (bs best), .bool true]))) ∧ Below w.heap.size w w' := by
  have hmix : Try.prog.follows .mixedOrders = true := by kernel_rfl
  obtain ⟨r0, hr, rz0, rz1, rz2⟩ := info_parts infoR
  have OF := Lib.hid fun W h => Of_any q hq v ss W h hz hl h0
  have UN := Lib.hid fun W h => Unav_any q hq v ss W h hz hl h0
  have hT := tab_ok (q := q) h0
  have hSf : (stL (pats ss) q).length ≤ 121 := stL_few _ hq.2
  have hS0 : 0 < (stL (pats ss) q).length := by rw [stL_fix h0]; simp
  have HV := Lib.hid hv
  rw [← hTd, ← hSd] at OF hT
  rw [← hTd] at UN
  rw [← hSd, ← hN] at hSf hS0
  rw [← hN] at hT
  have HT2 := Lib.hid hT
  have HN := Lib.hid hN
  have hTl := hT.len
  have hmk : ∀ W : World, (Instr.makeSlice 45 (.int .i64 (N : Int)) (.int .i64 (N : Int))).run Try.prog W = .ok (.slice (some ⟨W.heap.size, 0, none⟩) N N) (W.alloc (.cells (madeCells #[.int .i64 0] N) 3)) :=
    fun W => run_make_row' (P := Try.prog) 45 3 (.int .i64 0) 8 (by kernel_rfl) infoI rfl .i64 .i64 N (by omega) (by omega) W
  clear hv hz hl h0 hT hTd hSd hN
  cases hends : endsB T with
  | true =>
    rw [hends] at UN
    go_enter Try.func20, Try.ntmps20
    go_wp2_with fail
    refine (UN.out _ HV.out).mono ?_
    rintro e w1 ⟨rfl, r1⟩
    go_wp2_with fail
    go_ret2
    exact ⟨.inl ⟨by first | rfl | trivial, rfl⟩, r1⟩
  | false =>
    rw [hends] at UN
    go_enter Try.func20, Try.ntmps20
    go_wp2_with fail
    refine (UN.out _ HV.out).mono ?_
    rintro e w0 ⟨rfl, r0⟩
    have R0 := Lib.hid r0
    have HV0 := Lib.hid (HV.out.kept r0)
    clear r0
    go_wp2_with fail
    refine (OF.out _ HV0.out).mono ?_
    rintro e w1 ⟨g, rfl, hG, r1⟩
    obtain ⟨vS, vT, thdrs, rfl, g1, g2, g3⟩ := hG
    rw [hTl] at g2
    rw [← HN.out] at g1
    obtain ⟨gS, cS, rfl, _, hgS2⟩ := own_form g1 hS0
    obtain ⟨gT, cT, rfl, _, hgT2⟩ := own_form g2 hS0
    have HG := Lib.hid (show GraphV w1 w0.heap.size (.agg #[.slice (some ⟨gS, 0, none⟩) N cS, .slice (some ⟨gT, 0, none⟩) N cT]) S T from ⟨_, _, thdrs, rfl, by rw [← HN.out]; exact g1, by rw [hTl]; exact g2, g3⟩)
    obtain ⟨B, hB⟩ : ∃ B, B = w1.heap.size := ⟨_, rfl⟩
    obtain ⟨W1, hW1⟩ : ∃ W1, W1 = w1.alloc (.cells #[.slice (some ⟨gS, 0, none⟩) N cS, .slice (some ⟨gT, 0, none⟩) N cT] 71) := ⟨_, rfl⟩
    have hb1 : Below w1.heap.size w1 W1 := by rw [hW1]; exact bl_alloc (bl_refl w1) _
    have hx1 : Whole W1 B 71 #[.slice (some ⟨gS, 0, none⟩) N cS, .slice (some ⟨gT, 0, none⟩) N cT] := by rw [hW1, hB]; exact Whole.new w1 _ _
    have HROW : Hid (∀ i, i < N → ∃ b c, b < W1.heap.size ∧ gT < W1.heap.size ∧ B < W1.heap.size ∧ ∀ W', Below W1.heap.size W1 W' → W'.cell? ⟨gT, i, none⟩ = some (.slice (some ⟨b, 0, none⟩) q c) ∧ ∀ j, j < q → W'.cell? ⟨b, j, none⟩ = some (.int .i64 ((T.getD i []).getD j 0))) := Lib.hid fun i hi => by
      obtain ⟨b, c, e1, e2, e3⟩ := g3.row (W := w1) (i := i) (by omega)
      rw [(HT2.out.at hi).1] at e1 e3
      refine ⟨b, c, Nat.lt_of_lt_of_le e2 hb1.size, Nat.lt_of_lt_of_le hgT2 hb1.size, hx1.lt, fun W' hb => ⟨?_, fun j hjq => ?_⟩⟩
      · have hb' := hb1.trans (hb.mono hb1.size)
        exact (hb'.cell (p := ⟨gT, i, none⟩) hgT2).trans ((g2.cellAt i (by omega)).trans e1)
      · have hb' := hb1.trans (hb.mono hb1.size)
        exact (hb'.cell (p := ⟨b, j, none⟩) e2).trans (e3 j hjq)
    have HX : Hid (∀ W', Below W1.heap.size W1 W' → W'.cell? ⟨B, 0, none⟩ = some (.slice (some ⟨gS, 0, none⟩) N cS) ∧ W'.cell? ⟨B, 1, none⟩ = some (.slice (some ⟨gT, 0, none⟩) N cT) ∧ B < W'.heap.size) := Lib.hid fun W' hb => by
      have := hx1.kept hb
      exact ⟨(this.cell 0).trans rfl, (this.cell 1).trans rfl, this.lt⟩
    have HG1 := Lib.hid (HG.out.kept hb1)
    have HB1 := Lib.hid (bl_then R0.out (bl_then r1 hb1))
    have hB' := hB
    clear g1 g2 g3 hb1 hx1 hgS2 hgT2 hB r1 HV HV0 OF UN hTl HG R0
    go_wp2_with fail
    rw [← hW1, ← hB']
    clear hW1 hB'
    go_loopw [7, 8] (fun bv sv wr => ∃ (s : Nat) (best : Str), s ≤ N ∧ sv = .int .i64 s ∧ bv = .string (bs best) ∧ best.length ≤ N ∧ Hid (BestAt T N s best) ∧ Hid (Below W1.heap.size W1 wr)) (fun _ sv _ => N - (intOf sv).toNat)
    case atStart => exact ⟨0, [], Nat.zero_le _, rfl, rfl, Nat.zero_le _, Lib.hid (BestAt.zero T N), Lib.hid (bl_refl W1)⟩
    case round =>
      obtain ⟨s, best, hs, rfl, rfl, hbl, HBA, HB⟩ := hrel
      obtain ⟨x1, x2, x3⟩ := HX.out wr HB.out
      by_cases hsN : s < N
      · have hs1 : (s : Int) < (N : Int) := by omega
        have hs0 : (0 : Int) ≤ (s : Int) := by omega
        obtain ⟨W2, hW2⟩ : ∃ W2, W2 = (wr.alloc (.cells (madeCells #[.int .i64 0] N) 3)).alloc (.cells #[.slice (some ⟨wr.heap.size, 0, none⟩) N N] 45) := ⟨_, rfl⟩
        have o1 : W2.ownsRow wr.heap.size 3 1 (.slice (some ⟨wr.heap.size, 0, none⟩) N N) N (List.replicate N (.int .i64 0)) := by
          rw [hW2, ← toList_madeCells_one]
          exact ((World.ownsRow_lit wr (madeCells #[.int .i64 0] N) N (Nat.le_refl _) (by unfold maxLen; omega) (by rw [← Array.length_toList, toList_madeCells_one]; simp)).alloc _)
        have s1 := o1.cellAt s (by omega)
        have s2 := o1.frozenAt s
        rw [List.getElem?_replicate, if_pos hsN] at s1
        rw [hW2] at s1 s2
        go_wp2_with fail
        obtain ⟨W3, hW3⟩ : ∃ W3, W3 = (wr.alloc (.cells ((madeCells #[.int .i64 0] N).setIfInBounds s (.int .i64 1)) 3)).alloc (.cells #[.slice (some ⟨wr.heap.size, 0, none⟩) N N] 45) := ⟨_, rfl⟩
        have hl0 : ((madeCells #[.int .i64 0] N).setIfInBounds s (.int .i64 1)).toList = encI (rcRowI T s N 0) := by
          rw [Array.toList_setIfInBounds, toList_madeCells_one]
          apply List.ext_getElem?
          intro j
          unfold encI rcRowI
          rw [List.map_map, List.getElem?_map]
          by_cases hj : j < N
          · rw [List.getElem?_range hj]
            by_cases hjf : s = j
            · subst hjf
              rw [List.getElem?_set_self (by simpa using hj)]
              simp [rcI, rc]
            · rw [List.getElem?_set_ne hjf, List.getElem?_replicate, if_pos hj]
              have : (j == s) = false := by simpa using fun e => hjf e.symm
              simp [rcI, rc, this]
          · rw [List.getElem?_eq_none (by simp; omega), List.getElem?_eq_none (by simp; omega)]
            rfl
        have o2 : W3.ownsRow wr.heap.size 3 1 (.slice (some ⟨wr.heap.size, 0, none⟩) N N) N (encI (rcRowI T s N 0)) := by
          rw [hW3, ← hl0]
          exact ((World.ownsRow_lit wr _ N (Nat.le_refl _) (by unfold maxLen; omega) (by rw [← Array.length_toList, hl0, encI, List.length_map, rcRowI_len]; omega)).alloc _)
        have r2 := (RowsAt.nil W3 wr.heap.size).snoc (row := rcRowI T s N 0) (by rw [hW3]; simp; omega) o2 (rcRowI_len T s N 0).symm hS0
        have o3 : W3.ownsRow wr.heap.size 45 1 (.slice (some ⟨wr.heap.size + 1, 0, none⟩) 1 1) 1 [.slice (some ⟨wr.heap.size, 0, none⟩) N N] := by
          have := World.ownsRow_lit (base := wr.heap.size) (e := 45) (size := 1) (wr.alloc (.cells ((madeCells #[.int .i64 0] N).setIfInBounds s (.int .i64 1)) 3)) #[.slice (some ⟨wr.heap.size, 0, none⟩) N N] 1 (by simp) (by unfold maxLen; omega) rfl
          simp only [World.size_alloc] at this
          rw [hW3]; exact this
        have hb3 : Below wr.heap.size wr W3 := by rw [hW3]; exact bl_alloc (bl_alloc (bl_refl wr) _) _
        have O3 := Lib.hid o3
        have R3 : Hid (RowsAt W3 W3.heap.size [.slice (some ⟨wr.heap.size, 0, none⟩) N N] (rcRowsI T s N (0 + 1))) := Lib.hid r2
        have B3 := Lib.hid hb3
        rw [← hW3]
        clear s1 s2 o1 hW2 hl0 o2 r2 o3 hb3 hW3
        obtain ⟨W0, hW0⟩ : ∃ W0, W0 = wr := ⟨_, rfl⟩
        rw [← hW0] at HB x1 x2 x3 O3 R3 B3 ⊢
        clear hW0 x1 x2 x3
        go_loopw [7, 9, 10] (fun bv bk nv wx => ∃ (m : Nat) (hdrs : List Value), m ≤ N ∧ bv = .string (bs best) ∧ nv = .int .i64 ((m + 1 : Nat) : Int) ∧ Hid (wx.ownsRow W0.heap.size 45 1 bk (m + 1) hdrs) ∧ Hid (RowsAt wx wx.heap.size hdrs (rcRowsI T s N (m + 1))) ∧
          Hid (∀ k, 1 ≤ k → k ≤ m → rc T s k s = false) ∧ Hid (Below W0.heap.size W0 wx)) (fun _ _ nv _ => N + 1 - (intOf nv).toNat)
        case atStart => exact ⟨0, _, Nat.zero_le _, rfl, rfl, O3, R3, Lib.hid (fun k h1 h2 => by omega), B3⟩
        case round =>
          obtain ⟨m, hdrs, hm, rfl, rfl, HO, HR, HNO, HBx⟩ := hrel
          obtain ⟨x1, x2, x3⟩ := HX.out wr (bl_then HB.out HBx.out)
          obtain ⟨n, hn⟩ : ∃ n : Nat, n = m + 1 := ⟨_, rfl⟩
          have HNM := Lib.hid hn
          rw [← hn] at HO HR ⊢
          clear hn
          have hbs : (bs best).size = best.length := rfl
          have hbt := bs_toList best
          have hnil := bs_toList []
          by_cases hgo : n ≤ N ∧ (best = [] ∨ n ≤ best.length)
          · have HGO := Lib.hid hgo
            obtain ⟨gC, cC, rfl, _, hgC2⟩ := own_form HO.out (by have := HNM.out; omega)
            have hnN := hgo.1
            have hcs : best = [] ∨ (¬ best = [] ∧ n ≤ best.length) := by
              by_cases e : best = []
              · exact .inl e
              · exact .inr ⟨e, by rcases hgo.2 with h | h; exact absurd h e; exact h⟩
            clear hgo
            rcases hcs with c1 | ⟨c1, c2⟩
            all_goals
              go_wp2_with fail
              try clear c2
              clear c1 hbt hnil hbs x1 x2 x3
              obtain ⟨Y, hY⟩ : ∃ Y, Y = wr := ⟨_, rfl⟩
              rw [← hY] at HO HR HBx hgC2 ⊢
              clear hY
              obtain ⟨W4, hW4⟩ : ∃ W4, W4 = Y.alloc (.cells (madeCells #[.int .i64 0] N) 3) := ⟨_, rfl⟩
              have O4 : Hid (W4.ownsRow Y.heap.size 3 1 (.slice (some ⟨Y.heap.size, 0, none⟩) N N) N (upto (fun j => .int .i64 (rcI T s n j)) (.int .i64 0) N 0)) := Lib.hid (by
                rw [hW4, upto_zero, ← toList_madeCells_one]
                exact World.ownsRow_lit Y (madeCells #[.int .i64 0] N) N (Nat.le_refl _) (by unfold maxLen; omega) (by rw [← Array.length_toList, toList_madeCells_one]; simp))
              have B4 : Hid (Below Y.heap.size Y W4) := Lib.hid (by rw [hW4]; exact bl_alloc (bl_refl Y) _)
              rw [← hW4]
              clear hW4
              have HCR : Hid (∃ b c, b < Y.heap.size ∧ ∀ W', Below Y.heap.size Y W' → W'.cell? ⟨gC, m, none⟩ = some (.slice (some ⟨b, 0, none⟩) N c) ∧ ∀ j, j < N → W'.cell? ⟨b, j, none⟩ = some (.int .i64 (rcI T s m j))) := Lib.hid (by
                have := HNM.out
                obtain ⟨b, c, e1, e2, e3⟩ := HR.out.row (W := Y) (i := m) (by rw [rcRowsI_len]; omega)
                rw [rcRowsI_at (by omega), rcRowI_len] at e1 e3
                refine ⟨b, c, e2, fun W' hb => ⟨(hb.cell (p := ⟨gC, m, none⟩) hgC2).trans ((HO.out.cellAt m (by omega)).trans e1), fun j hj => ?_⟩⟩
                rw [(hb.cell (p := ⟨b, j, none⟩) e2).trans (e3 j hj), rcRowI_at hj])
              obtain ⟨bR, cR, lbR, hcr⟩ := HCR.out
              have HCRR := Lib.hid hcr
              clear hcr HCR
              go_loopw [12] (fun iv wx => ∃ i : Nat, i ≤ N ∧ iv = .int .i64 i ∧ Hid (wx.ownsRow Y.heap.size 3 1 (.slice (some ⟨Y.heap.size, 0, none⟩) N N) N (upto (fun j => .int .i64 (rcI T s n j)) (.int .i64 0) N i)) ∧ Hid (Below Y.heap.size Y wx)) (fun iv _ => N - (intOf iv).toNat)
              case atStart => exact ⟨0, Nat.zero_le _, rfl, O4, B4⟩
              case round =>
                obtain ⟨i, hi, rfl, HL, HBi⟩ := hrel
                by_cases hiN : i < N
                · have hi1 : (i : Int) < (N : Int) := by omega
                  have hi0 : (0 : Int) ≤ (i : Int) := by omega
                  obtain ⟨bT, cT', lbT, lT, lB, hrow⟩ := HROW.out i hiN
                  have HRW := Lib.hid hrow
                  clear hrow
                  go_wp2_with fail
                  go_loopw [13] (fun cv wx => ∃ c : Nat, c ≤ q ∧ cv = .int .i64 c ∧ Hid (wx.ownsRow Y.heap.size 3 1 (.slice (some ⟨Y.heap.size, 0, none⟩) N N) N ((upto (fun j => .int .i64 (rcI T s n j)) (.int .i64 0) N i).set i (.int .i64 (mxC (rcI T s m) (stepsL ((T.getD i []).take c)))))) ∧ Hid (Below Y.heap.size Y wx)) (fun cv _ => q - (intOf cv).toNat)
                  case atStart => exact ⟨0, Nat.zero_le _, rfl, Lib.hid (by rw [show mxC (rcI T s m) (stepsL ((T.getD i []).take 0)) = 0 from rfl, upto_same _ _ hiN]; exact HL.out), HBi⟩
                  case round =>
                    obtain ⟨c, hc, rfl, HLc, HBc⟩ := hrel
                    have HBW := Lib.hid (bl_then (bl_then HB.out HBx.out) HBc.out)
                    obtain ⟨x1, x2, x3⟩ := HX.out wr HBW.out
                    by_cases hcq : c < q
                    · obtain ⟨y1, y2⟩ := HRW.out wr HBW.out
                      obtain ⟨z1, z2⟩ := HCRR.out wr HBc.out
                      have lT' := Nat.lt_of_lt_of_le lT HBW.out.size
                      have lbT' := Nat.lt_of_lt_of_le lbT HBW.out.size
                      have lgC' := Nat.lt_of_lt_of_le hgC2 HBc.out.size
                      have lbR' := Nat.lt_of_lt_of_le lbR HBc.out.size
                      have lY := (HLc.out.lt Y.heap.size rfl).2
                      have hc1 : (c : Int) < (q : Int) := by omega
                      have y3 := y2 c hcq
                      have hTr := HT2.out.at hiN
                      have hsn := steps_snoc (row := T.getD i []) (k := c) (by rw [hTr.1]; exact hcq)
                      have hxr0 : (T.getD i []).getD c 0 = -1 ∨ (0 ≤ (T.getD i []).getD c 0 ∧ (T.getD i []).getD c 0 < N) := by
                        have hl := hTr.1
                        rw [List.getD_eq_getElem?_getD, List.getElem?_eq_getElem (by omega)]
                        exact hTr.2 _ (List.getElem_mem _)
                      obtain ⟨x, hx⟩ : ∃ x, x = (T.getD i []).getD c 0 := ⟨_, rfl⟩
                      rw [← hx] at y3 hsn hxr0
                      by_cases hx0 : 0 ≤ x
                      · obtain ⟨j, rfl⟩ : ∃ j : Nat, x = j := ⟨x.toNat, by omega⟩
                        have hjN : j < N := by omega
                        have hj1 : (j : Int) < (N : Int) := by omega
                        have z3 := z2 j hjN
                        rw [if_pos (by omega), Int.toNat_natCast] at hsn
                        obtain ⟨a, ha⟩ : ∃ a, a = mxC (rcI T s m) (stepsL ((T.getD i []).take c)) := ⟨_, rfl⟩
                        obtain ⟨r, hr⟩ : ∃ r, r = rcI T s m j := ⟨_, rfl⟩
                        have q7 := HLc.out.cellAt i (by omega)
                        rw [List.getElem?_set_self (by rw [upto_len]; exact hiN), ← ha] at q7
                        have q8 := HLc.out.frozenAt i
                        have HMX : Hid (mxC (rcI T s m) (stepsL ((T.getD i []).take (c + 1))) = max a r) := Lib.hid (by rw [hsn, mxC_snoc, ha, hr])
                        rw [← hr] at z3
                        have hnm : (n : Int) - 1 = (m : Int) := by have := HNM.out; omega
                        have hmn : (m : Int) < (n : Int) := by omega
                        have hm0 : (0 : Int) ≤ (m : Int) := by omega
                        clear hr ha hsn hx hxr0 hTr y2 z2 hx0
                        go_wp2_with fail
                        have hw1 := wrapN (D := m) (by omega)
                        go_still_tail 23, hmix
                        change wpList _ _ _ _ _ wr.drew
                        have HLZ := Lib.hid (own_kept HLc.out (bl_drewN (bl_refl wr) 1))
                        have HBZ := Lib.hid (bl_drewN HBc.out 1)
                        have q7Z : wr.drew.cell? ⟨Y.heap.size, i, none⟩ = some (.int .i64 a) := q7
                        have q8Z : wr.drew.frozen? ⟨Y.heap.size, i, none⟩ = false := q8
                        obtain ⟨Z, hZ⟩ : ∃ Z, Z = wr.drew := ⟨_, rfl⟩
                        change Hid (Below Y.heap.size Y wr.drew) at HBZ
                        change Hid (World.ownsRow wr.drew _ _ _ _ _ _) at HLZ
                        rw [← hZ] at HLZ HBZ q7Z q8Z ⊢
                        have HLS := Lib.hid ((HLZ.out.stored i (.int .i64 (max a r))).1)
                        have HLS2 : Hid ((Z.setCell ⟨Y.heap.size, i, none⟩ (.int .i64 (max a r))).ownsRow Y.heap.size 3 1 (.slice (some ⟨Y.heap.size, 0, none⟩) N N) N ((upto (fun j => .int .i64 (rcI T s n j)) (.int .i64 0) N i).set i (.int .i64 (mxC (rcI T s m) (stepsL ((T.getD i []).take (c + 1))))))) := Lib.hid (by
                          have h := HLS.out
                          rw [List.set_set] at h
                          rw [HMX.out]
                          exact h)
                        have HBS : Hid (Below Y.heap.size Y (Z.setCell ⟨Y.heap.size, i, none⟩ (.int .i64 (max a r)))) := Lib.hid (HBZ.out.setCell (by show Y.heap.size ≤ Y.heap.size; omega) _)
                        clear hZ HLZ HBZ HLS q7 q8 hw1 z1 z3 y1 y3 x1 x2 x3 HLc HBc HBW
                        go_wp2_with fail
                        go_roundw
                        case rel => exact ⟨c + 1, by omega, by go_num, HLS2, HBS⟩
                        case measure => simp [intOf]; omega
                      · have hx1 : x = -1 := by omega
                        subst hx1
                        have HL2 : Hid (wr.ownsRow Y.heap.size 3 1 (.slice (some ⟨Y.heap.size, 0, none⟩) N N) N ((upto (fun j => .int .i64 (rcI T s n j)) (.int .i64 0) N i).set i (.int .i64 (mxC (rcI T s m) (stepsL ((T.getD i []).take (c + 1))))))) := Lib.hid (by
                          rw [hsn, if_neg (by omega), List.append_nil]; exact HLc.out)
                        clear hsn hx hxr0 hTr y2 z2 hx0
                        go_wp2_with fail
                        go_roundw
                        case rel => exact ⟨c + 1, by omega, by go_num, HL2, HBc⟩
                        case measure => simp [intOf]; omega
                    · have ec : c = q := by omega
                      subst ec
                      have HL2 : Hid (wr.ownsRow Y.heap.size 3 1 (.slice (some ⟨Y.heap.size, 0, none⟩) N N) N (upto (fun j => .int .i64 (rcI T s n j)) (.int .i64 0) N (i + 1))) := Lib.hid (by
                        have h := HLc.out
                        rw [List.take_of_length_le (by rw [(HT2.out.at hiN).1]; exact Nat.le_refl _), mx_rc] at h
                        rw [← upto_set _ _ hiN, HNM.out]
                        rw [HNM.out] at h
                        exact h)
                      clear HLc
                      go_wp2_with fail
                      go_roundw
                      case rel => exact ⟨i + 1, by omega, by go_num, HL2, HBc⟩
                      case measure => simp [intOf]; omega
                · have ei : N = i := by omega
                  subst ei
                  have HM : Hid (wr.ownsRow Y.heap.size 3 1 (.slice (some ⟨Y.heap.size, 0, none⟩) N N) N (encI (rcRowI T s N n))) := Lib.hid (by
                    have h := HL.out
                    rw [upto_full] at h
                    unfold encI rcRowI
                    rw [List.map_map]
                    exact h)
                  have HCS : Hid ((encI (rcRowI T s N n))[s]? = some (.int .i64 (rcI T s n s))) := Lib.hid (by
                    unfold encI rcRowI
                    rw [List.map_map, List.getElem?_map, List.getElem?_range hsN]; rfl)
                  have HR3 : Hid (RowsAt wr wr.heap.size (hdrs ++ [.slice (some ⟨Y.heap.size, 0, none⟩) N N]) (rcRowsI T s N (n + 1))) := Lib.hid (by
                    rw [rcRowsI_succ]
                    exact (HR.out.kept HBi.out).snoc HBi.out.size HM.out (rcRowI_len T s N n).symm hS0)
                  have ho2 := own_kept HO.out HBi.out
                  have HBW := Lib.hid (bl_then HBx.out HBi.out)
                  have hz3 := HBW.out.size
                  obtain ⟨rr, hrr⟩ : ∃ rr, rr = rcI T s n s := ⟨_, rfl⟩
                  have HRR := Lib.hid hrr
                  rw [← hrr] at HCS
                  clear HL hrr
                  by_cases hr0 : rr = 0
                  · have HNO2 : Hid (∀ k, 1 ≤ k → k ≤ n → rc T s k s = false) := Lib.hid fun k h1 h2 => by
                      have := HNM.out
                      rcases Nat.lt_or_ge m k with h | h
                      · have e : k = n := by omega
                        rw [e]
                        cases hc : rc T s n s with
                        | false => rfl
                        | true => exact absurd (HRR.out.symm.trans hr0) ((rcI_ne T s n s).2 hc)
                      · exact HNO.out k h1 h
                    go_wp2_with (at_builtin; refine wpList_append_own _ rfl (.tmp 102) (.tmp 104) _ rfl W0.heap.size 45 r0 _ 1 24 Try.underlying69 hr rz0 rz1 rz2 rfl (by decide) _ n hdrs rfl (ho2.alloc _) ⟨wr.heap.size, 0, none⟩ 1 1 [.slice (some ⟨Y.heap.size, 0, none⟩) N N] rfl rfl (cells_new _ _ _) (by intro u hu; rw [List.mem_singleton.1 hu]; rfl) (by unfold maxLen; omega) (by omega) (by simp; omega) ?_; intro v6 w6 hown6 hg6 _; have hoA := ho2.alloc (.cells #[.slice (some ⟨Y.heap.size, 0, none⟩) N N] 45); have HB6 := Lib.hid (bl_grown (bl_alloc HBW.out (.cells #[.slice (some ⟨Y.heap.size, 0, none⟩) N N] 45)) hoA (Nat.le_refl _) hg6); have hM6 := (HM.out.alloc (.cells #[.slice (some ⟨Y.heap.size, 0, none⟩) N N] 45)).kept hg6 (own_ne (HM.out.alloc _) (own_typ' hoA (by decide) gC rfl)); have cS6 := (hM6.cellAt s (by omega)).trans HCS.out; have lS6 := (hM6.lt _ rfl).2; have HM6 := Lib.hid hM6; clear hM6)
                    have hs6 := hg6.size
                    simp only [World.size_alloc] at hs6
                    have HR6 : Hid (RowsAt w6 w6.heap.size (hdrs ++ [.slice (some ⟨Y.heap.size, 0, none⟩) N N]) (rcRowsI T s N (n + 1))) := Lib.hid (((HR3.out.alloc (.cells #[.slice (some ⟨Y.heap.size, 0, none⟩) N N] 45)).grown hg6 (fun r hr => own_not_int hoA (by decide) r hr _)).mono (by omega))
                    have HO6 := Lib.hid hown6
                    clear hg6 hoA hown6 ho2 cS6 lS6 HM6
                    go_roundw
                    case rel => exact ⟨n, _, HGO.out.1, rfl, by go_num, HO6, HR6, HNO2, HB6⟩
                    case measure => simp [intOf]; have := HGO.out.1; omega
                  · have hrb : (rr == 0) = false := beq_false_of_ne hr0
                    have HRC : Hid (rc T s n s = true) := Lib.hid ((rcI_ne T s n s).1 (by rw [← HRR.out]; exact hr0))
                    go_wp2_with (at_builtin; refine wpList_append_own _ rfl (.tmp 102) (.tmp 104) _ rfl W0.heap.size 45 r0 _ 1 24 Try.underlying69 hr rz0 rz1 rz2 rfl (by decide) _ n hdrs rfl (ho2.alloc _) ⟨wr.heap.size, 0, none⟩ 1 1 [.slice (some ⟨Y.heap.size, 0, none⟩) N N] rfl rfl (cells_new _ _ _) (by intro u hu; rw [List.mem_singleton.1 hu]; rfl) (by unfold maxLen; omega) (by omega) (by simp; omega) ?_; intro v6 w6 hown6 hg6 _; have hoA := ho2.alloc (.cells #[.slice (some ⟨Y.heap.size, 0, none⟩) N N] 45); have HB6 := Lib.hid (bl_grown (bl_alloc HBW.out (.cells #[.slice (some ⟨Y.heap.size, 0, none⟩) N N] 45)) hoA (Nat.le_refl _) hg6); have hM6 := (HM.out.alloc (.cells #[.slice (some ⟨Y.heap.size, 0, none⟩) N N] 45)).kept hg6 (own_ne (HM.out.alloc _) (own_typ' hoA (by decide) gC rfl)); have cS6 := (hM6.cellAt s (by omega)).trans HCS.out; have lS6 := (hM6.lt _ rfl).2; have HM6 := Lib.hid hM6; clear hM6; obtain ⟨x1, x2, x3⟩ := HX.out w6 (bl_then HB.out HB6.out))
                    have hs6 := hg6.size
                    simp only [World.size_alloc] at hs6
                    have HR6 : Hid (RowsAt w6 w6.heap.size (hdrs ++ [.slice (some ⟨Y.heap.size, 0, none⟩) N N]) (rcRowsI T s N (n + 1))) := Lib.hid (((HR3.out.alloc (.cells #[.slice (some ⟨Y.heap.size, 0, none⟩) N N] 45)).grown hg6 (fun r hr => own_not_int hoA (by decide) r hr _)).mono (by omega))
                    have HO6 := Lib.hid hown6
                    clear hg6 hoA hown6 ho2 cS6 lS6 HM6
                    have HBB := Lib.hid (bl_then HB.out HB6.out)
                    have HGG := Lib.hid (HG1.out.kept HBB.out)
                    refine (First_any q n w0.heap.size W0.heap.size (n + 1) s hq (by have := HGO.out.1; omega) (Nat.le_succ n) _ _ S T (rcRowsI T s N (n + 1)) (hdrs ++ [.slice (some ⟨Y.heap.size, 0, none⟩) N N]) (rc T s) w6 HGG.out (HN.out ▸ HT2.out) (HN.out ▸ hSf) (HN.out ▸ hsN) HO6.out HR6.out (rcRowsI_len _ _ _ _)
                      (fun i hi => by rw [rcRowsI_at (by omega), rcRowI_len]; exact HN.out) (fun i j hi hj => by rw [rcRowsI_at (by omega), rcRowI_at (by rw [HN.out]; exact hj)]; exact rcI_ne T s i j) (keeps_rc _ _ _ _) HRC.out).mono ?_
                    rintro e w7 ⟨rfl, r7⟩
                    have HFD := Lib.hid (HBA.out.found (n := n) (by have := HNM.out; omega) HGO.out.1 HGO.out.2 (fun k h1 h2 => HNO.out k h1 (by have := HNM.out; omega)) HRC.out)
                    have hwl := rc_len HRC.out
                    obtain ⟨Wy, hWy⟩ : ∃ Wy, Wy = wayG (rc T s) T n s := ⟨_, rfl⟩
                    rw [← hWy] at HFD hwl ⊢
                    have HB7 := Lib.hid (bl_then HBB.out r7)
                    have hbs : (bs best).size = best.length := rfl
                    have hbt := bs_toList best
                    have hnil := bs_toList []
                    have hws : (bs Wy).size = n := hwl
                    have hwt := bs_toList Wy
                    have hle := HGO.out.1
                    clear hWy r7 x1 x2 x3
                    by_cases c1 : best = []
                    · have HF2 : Hid (BestAt T N (s + 1) Wy) := Lib.hid (by have h := HFD.out; rw [if_pos (.inl c1)] at h; exact h)
                      go_wp2_with fail
                      go_roundw
                      case rel => exact ⟨s + 1, Wy, by omega, by go_num, rfl, by omega, HF2, HB7⟩
                      case measure => simp [intOf]; omega
                    · have c3 : List.isEmpty best = false := by cases best with | nil => exact absurd rfl c1 | cons a l => rfl
                      by_cases c2 : n < best.length
                      · have HF2 : Hid (BestAt T N (s + 1) Wy) := Lib.hid (by have h := HFD.out; rw [if_pos (.inr (.inl c2))] at h; exact h)
                        go_wp2_with fail
                        go_roundw
                        case rel => exact ⟨s + 1, Wy, by omega, by go_num, rfl, by omega, HF2, HB7⟩
                        case measure => simp [intOf]; omega
                      · cases c4 : Op.bytesLess Wy best with
                        | true =>
                          have HF2 : Hid (BestAt T N (s + 1) Wy) := Lib.hid (by have h := HFD.out; rw [if_pos (.inr (.inr (by unfold lessS; rw [hwt, hbt]; exact c4)))] at h; exact h)
                          go_wp2_with fail
                          go_roundw
                          case rel => exact ⟨s + 1, Wy, by omega, by go_num, rfl, by omega, HF2, HB7⟩
                          case measure => simp [intOf]; omega
                        | false =>
                          have HF2 : Hid (BestAt T N (s + 1) best) := Lib.hid (by
                            have h := HFD.out
                            rw [if_neg (by
                              rintro (h | h | h)
                              · exact c1 h
                              · exact c2 h
                              · unfold lessS at h; rw [hwt, hbt, c4] at h; cases h)] at h
                            exact h)
                          go_wp2_with fail
                          go_roundw
                          case rel => exact ⟨s + 1, best, by omega, by go_num, rfl, hbl, HF2, HB7⟩
                          case measure => simp [intOf]; omega
          · have HNX : Hid (BestAt T N (s + 1) best) := Lib.hid (HBA.out.none fun k h1 h2 h3 => HNO.out k h1 (by
              have := HNM.out
              rcases Nat.lt_or_ge N n with h | h
              · omega
              · rcases h3 with h3 | h3
                · exact absurd ⟨h, .inl h3⟩ hgo
                · have : ¬ n ≤ best.length := fun h' => hgo ⟨h, .inr h'⟩
                  omega))
            have HBF := Lib.hid (bl_then HB.out HBx.out)
            have hcs : ¬ n ≤ N ∨ (n ≤ N ∧ ¬ best = [] ∧ ¬ n ≤ best.length) := by
              rcases Nat.lt_or_ge N n with h | h
              · exact .inl (by omega)
              · exact .inr ⟨h, fun e => hgo ⟨h, .inl e⟩, fun e => hgo ⟨h, .inr e⟩⟩
            clear hgo
            rcases hcs with c1 | ⟨c0, c1, c2⟩
            · clear hbt
              go_wp2_with fail
              go_roundw
              case rel => exact ⟨s + 1, best, by omega, by go_num, rfl, hbl, HNX, HBF⟩
              case measure => simp [intOf]; omega
            · have c3 : List.isEmpty best = false := by cases best with | nil => exact absurd rfl c1 | cons a l => rfl
              go_wp2_with fail
              go_roundw
              case rel => exact ⟨s + 1, best, by omega, by go_num, rfl, hbl, HNX, HBF⟩
              case measure => simp [intOf]; omega
      · have es : N = s := by omega
        subst es
        have HF : Hid (Below w.heap.size w wr) := Lib.hid (bl_then HB1.out HB.out)
        go_wp2_with fail
        go_ret2
        exact ⟨.inr ⟨by first | rfl | trivial, best, HBA.out, rfl⟩, HF.out⟩
end Go.Proofs.Ytpclkocfbkjabaa
