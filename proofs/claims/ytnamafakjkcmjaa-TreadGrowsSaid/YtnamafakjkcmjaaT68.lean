/-
  The reference: Growth. (Printed by tools/gen68.py.)
-/
import Derived.Test.YtnamafakjkcmjaaT67
import Derived.Test.YtnamafakjkcmjaaT45
namespace Go.Proofs.Ytnamafakjkcmjaa
open Go.RowKit Go.Shelf
set_option linter.unusedVariables false
set_option linter.unusedSimpArgs false

set_option maxRecDepth 100000 in
set_option maxHeartbeats 8000000 in
theorem RGrowth_any (q N : Nat) (hq : 1 ≤ q ∧ q ≤ 3) (v : Value) (ss : List ByteArray) (w : World) (T : Tab) (S : List Str) (hTd : T = tabL (pats ss) q) (hSd : S = stL (pats ss) q) (hN : N = S.length) (hv : StrsAt w v ss) (hz : ∀ p ∈ ss, p.size ≤ 1000) (hl : ss.length ≤ 1000) (h0 : okL (pats ss) [] = true) :
    Calls Try.prog 14 #[.int .i64 q, v] w fun e w' => (∃ g, GrowIs T N g ∧ e = .returned (.int .i64 g)) ∧ Below w.heap.size w w' := by
  have hmix : Try.prog.follows .mixedOrders = true := by kernel_rfl
  obtain ⟨r0, hr, rz0, rz1, rz2⟩ := info_parts infoBs
  have OF := Lib.hid fun W h => Of_any q hq v ss W h hz hl h0
  have hT := tab_ok (q := q) h0
  have hSf : (stL (pats ss) q).length ≤ 121 := stL_few _ hq.2
  have hS0 : 0 < (stL (pats ss) q).length := by rw [stL_fix h0]; simp
  have LF := Lib.hid fun M hM => lead_from (M := M) hq.2 h0 (rfl : (stL (pats ss) q).length = _) hM
  have HV := Lib.hid hv
  rw [← hTd, ← hSd] at OF hT LF
  rw [← hSd, ← hN] at hSf hS0
  rw [← hN] at hT LF
  have HT2 := Lib.hid hT
  have HN := Lib.hid hN
  have hTl := hT.len
  have hmk : ∀ W : World, (Instr.makeSlice 62 (.int .i64 (N : Int)) (.int .i64 (N : Int))).run Try.prog W = .ok (.slice (some ⟨W.heap.size, 0, none⟩) N N) (W.alloc (.cells (madeCells #[.bool false] N) 4)) :=
    fun W => run_make_row' (P := Try.prog) 62 4 (.bool false) 1 (by kernel_rfl) infoB rfl .i64 .i64 N (by omega) (by omega) W
  have hmkI : ∀ W : World, (Instr.makeSlice 74 (.int .i64 (N : Int)) (.int .i64 (N : Int))).run Try.prog W = .ok (.slice (some ⟨W.heap.size, 0, none⟩) N N) (W.alloc (.cells (madeCells #[.int .i64 0] N) 3)) :=
    fun W => run_make_row' (P := Try.prog) 74 3 (.int .i64 0) 8 (by kernel_rfl) infoI rfl .i64 .i64 N (by omega) (by omega) W
  clear hv hz hl h0 hT hTd hSd hN
  go_enter Try.func14, Try.ntmps14
  go_wp2_with fail
  refine (OF.out _ HV.out).mono ?_
  rintro e w1 ⟨g, rfl, hG, r1⟩
  obtain ⟨vS, vT, thdrs, rfl, g1, g2, g3⟩ := hG
  rw [hTl] at g2
  rw [← HN.out] at g1
  obtain ⟨gS, cS, rfl, _, hgS2⟩ := own_form g1 hS0
  obtain ⟨gT, cT, rfl, _, hgT2⟩ := own_form g2 hS0
  obtain ⟨B, hB⟩ : ∃ B, B = w1.heap.size := ⟨_, rfl⟩
  obtain ⟨W1, hW1⟩ : ∃ W1, W1 = w1.alloc (.cells #[.slice (some ⟨gS, 0, none⟩) N cS, .slice (some ⟨gT, 0, none⟩) N cT] 72) := ⟨_, rfl⟩
  have hb1 : Below w1.heap.size w1 W1 := by rw [hW1]; exact bl_alloc (bl_refl w1) _
  have hx1 : Whole W1 B 72 #[.slice (some ⟨gS, 0, none⟩) N cS, .slice (some ⟨gT, 0, none⟩) N cT] := by rw [hW1, hB]; exact Whole.new w1 _ _
  have HROW : Hid (∀ i, i < N → ∃ b c, b < W1.heap.size ∧ gT < W1.heap.size ∧ B < W1.heap.size ∧ ∀ W', Below W1.heap.size W1 W' → W'.cell? ⟨gT, i, none⟩ = some (.slice (some ⟨b, 0, none⟩) q c) ∧ ∀ j, j < q → W'.cell? ⟨b, j, none⟩ = some (.int .i64 ((T.getD i []).getD j 0))) := Lib.hid fun i hi => by
    obtain ⟨b, c, e1, e2, e3⟩ := g3.row (W := w1) (i := i) (by omega)
    rw [(HT2.out.at hi).1] at e1 e3
    refine ⟨b, c, Nat.lt_of_lt_of_le e2 hb1.size, Nat.lt_of_lt_of_le hgT2 hb1.size, hx1.lt, fun W' hb => ⟨?_, fun j hjq => ?_⟩⟩
    · have hb' := hb1.trans (hb.mono hb1.size)
      exact (hb'.cell (p := ⟨gT, i, none⟩) hgT2).trans ((g2.cellAt i (by omega)).trans e1)
    · have hb' := hb1.trans (hb.mono hb1.size)
      exact (hb'.cell (p := ⟨b, j, none⟩) e2).trans (e3 j hjq)
  have HX : Hid (∀ W', Below W1.heap.size W1 W' → W'.cell? ⟨B, 0, none⟩ = some (.slice (some ⟨gS, 0, none⟩) N cS) ∧ W'.cell? ⟨B, 1, none⟩ = some (.slice (some ⟨gT, 0, none⟩) N cT) ∧ B < W'.heap.size) := Lib.hid fun W' hb => by
    have := hx1.kept hb
    exact ⟨(this.cell 0).trans rfl, (this.cell 1).trans rfl, this.lt⟩
  have HB1 := Lib.hid (bl_then r1 hb1)
  have hB' := hB
  clear g1 g2 g3 hb1 hx1 hgS2 hgT2 hB r1 HV OF hTl
  go_wp2_with fail
  rw [← hW1, ← hB']
  clear hW1 hB'
  go_loopw [7, 8] (fun lv iv wr => ∃ (k : Nat) (rb : Nat → Nat), k ≤ N ∧ iv = .int .i64 k ∧ Hid (Mq W1.heap.size lv N k rb (edgeM T) wr) ∧ Hid (Below W1.heap.size W1 wr)) (fun _ iv _ => N - (intOf iv).toNat)
  case atStart => exact ⟨0, fun _ => 0, Nat.zero_le _, rfl, Lib.hid (Mq.start _ _ _ _ _), Lib.hid (bl_refl W1)⟩
  case round =>
    obtain ⟨k, rb, hk, rfl, HM, HB⟩ := hrel
    obtain ⟨A, cA, rfl⟩ := own_any3 HM.out.hdr
    by_cases hkN : k < N
    · have hk1 : (k : Int) < (N : Int) := by omega
      have hk0 : (0 : Int) ≤ (k : Int) := by omega
      obtain ⟨bT, cT', lbT, lT, lB, hrow⟩ := HROW.out k hkN
      have HRW := Lib.hid hrow
      clear hrow
      go_wp2_with fail
      obtain ⟨Y, hY⟩ : ∃ Y, Y = wr := ⟨_, rfl⟩
      rw [← hY] at HM HB ⊢
      clear hY
      obtain ⟨W4, hW4⟩ : ∃ W4, W4 = Y.alloc (.cells (madeCells #[.bool false] N) 4) := ⟨_, rfl⟩
      have O4 : Hid (W4.ownsRow Y.heap.size 4 1 (rowS Y.heap.size N) N (bRow N fun b => (stepsL ((T.getD k []).take 0)).any fun p => p.2 == b)) := Lib.hid (by
        rw [show (fun b : Nat => (stepsL ((T.getD k []).take 0)).any fun p => p.2 == b) = fun _ => false by funext b; simp [stepsL], bRow_false, hW4, ← toList_madeCells_one]
        exact World.ownsRow_lit Y (madeCells #[.bool false] N) N (Nat.le_refl _) (by unfold maxLen; omega) (by rw [← Array.length_toList, toList_madeCells_one]; simp))
      have B4 : Hid (Below Y.heap.size Y W4) := Lib.hid (by rw [hW4]; exact bl_alloc (bl_refl Y) _)
      rw [← hW4]
      clear hW4
      go_loopw [10] (fun cv wx => ∃ c : Nat, c ≤ q ∧ cv = .int .i64 c ∧ Hid (wx.ownsRow Y.heap.size 4 1 (rowS Y.heap.size N) N (bRow N fun b => (stepsL ((T.getD k []).take c)).any fun p => p.2 == b)) ∧ Hid (Below Y.heap.size Y wx)) (fun cv _ => q - (intOf cv).toNat)
      case atStart => exact ⟨0, Nat.zero_le _, rfl, O4, B4⟩
      case round =>
        obtain ⟨c, hc, rfl, HLc, HBc⟩ := hrel
        clear O4 B4
        have HBW := Lib.hid (bl_then HB.out HBc.out)
        by_cases hcq : c < q
        · obtain ⟨x1, x2, x3⟩ := HX.out wr HBW.out
          obtain ⟨y1, y2⟩ := HRW.out wr HBW.out
          have lT' := Nat.lt_of_lt_of_le lT HBW.out.size
          have lbT' := Nat.lt_of_lt_of_le lbT HBW.out.size
          have hc1 : (c : Int) < (q : Int) := by omega
          have hc0 : (0 : Int) ≤ (c : Int) := by omega
          have y3 := y2 c hcq
          have hTr := HT2.out.at hkN
          have hsn := steps_snoc (row := T.getD k []) (k := c) (by rw [hTr.1]; exact hcq)
          have hxr0 := row_range HT2.out hkN hcq
          obtain ⟨x, hx⟩ : ∃ x, x = (T.getD k []).getD c 0 := ⟨_, rfl⟩
          rw [← hx] at y3 hsn hxr0
          by_cases hx0 : 0 ≤ x
          · obtain ⟨j, rfl⟩ : ∃ j : Nat, x = j := ⟨x.toNat, by omega⟩
            have hjN : j < N := by omega
            have hj1 : (j : Int) < (N : Int) := by omega
            rw [if_pos (by omega), Int.toNat_natCast] at hsn
            have hrow : wr.ownsRow Y.heap.size 4 1 (.slice (some ⟨Y.heap.size, 0, none⟩) N N) N (bRow N fun b => (stepsL ((T.getD k []).take c)).any fun p => p.2 == b) := HLc.out
            have lY := (hrow.lt _ rfl).2
            dsimp only at lY
            have q7 := hrow.cellAt j (by omega)
            rw [bRow_at _ hjN] at q7
            have q8 := hrow.frozenAt j
            have HLS : Hid ((wr.setCell ⟨Y.heap.size, j, none⟩ (.bool true)).ownsRow Y.heap.size 4 1 (rowS Y.heap.size N) N (bRow N fun b => (stepsL ((T.getD k []).take (c + 1))).any fun p => p.2 == b)) := Lib.hid (by
              have h := (hrow.stored j (.bool true)).1
              rw [bRow_set _ _ hjN] at h
              have e : (fun b => if b = j then true else (stepsL ((T.getD k []).take c)).any fun p => p.2 == b) = fun b => (stepsL ((T.getD k []).take (c + 1))).any fun p => p.2 == b := by
                funext b
                rw [hsn, List.any_append]
                by_cases hb : b = j
                · rw [if_pos hb, hb]; simp
                · rw [if_neg hb]
                  have : (j == b) = false := by simpa using fun e => hb e.symm
                  simp [this]
              rw [e] at h
              exact h)
            have HBS : Hid (Below Y.heap.size Y (wr.setCell ⟨Y.heap.size, j, none⟩ (.bool true))) := Lib.hid (HBc.out.setCell (by show Y.heap.size ≤ Y.heap.size; omega) _)
            clear hsn hx hxr0 hTr y2 hx0 hrow HLc
            go_wp2_with fail
            go_roundw
            case rel => exact ⟨c + 1, by omega, by go_num, HLS, HBS⟩
            case measure => simp [intOf]; omega
          · have hx1 : x = -1 := by omega
            subst hx1
            have HL2 : Hid (wr.ownsRow Y.heap.size 4 1 (rowS Y.heap.size N) N (bRow N fun b => (stepsL ((T.getD k []).take (c + 1))).any fun p => p.2 == b)) := Lib.hid (by
              rw [hsn, if_neg (by omega), List.append_nil]; exact HLc.out)
            clear hsn hx hxr0 hTr y2 hx0 HLc
            go_wp2_with fail
            go_roundw
            case rel => exact ⟨c + 1, by omega, by go_num, HL2, HBc⟩
            case measure => simp [intOf]; omega
        · obtain rfl : c = q := by omega
          have HR : Hid (wr.ownsRow Y.heap.size 4 1 (rowS Y.heap.size N) N (bRow N (edgeM T k))) := Lib.hid (by
            have h := HLc.out
            rw [List.take_of_length_le (by rw [(HT2.out.at hkN).1]; exact Nat.le_refl _)] at h
            exact h)
          have HM2 := Lib.hid (HM.out.kept HBc.out)
          have ho := HM2.out.hdr
          have hzw := HBW.out.size
          have hzY := HB.out.size
          have HRB : Hid (∀ i, i < k → rb i ≠ Y.heap.size) := Lib.hid fun i hi => by
            have := HM.out.lt2 hi
            omega
          clear HLc
          go_wp2_with (at_builtin; refine wpList_append_own _ rfl (.tmp 60) (.tmp 62) _ rfl W1.heap.size 62 r0 _ 1 24 Try.underlying61 hr rz0 rz1 rz2 rfl (by decide) (.slice A k cA) k (mqHdr rb N k) rfl (ho.alloc _) ⟨wr.heap.size, 0, none⟩ 1 1 [.slice (some ⟨Y.heap.size, 0, none⟩) N N] rfl rfl (cells_new _ _ _) (by intro u hu; rw [List.mem_singleton.1 hu]; rfl) (by unfold maxLen; omega) (by omega) (by simp; omega) ?_; intro v6 w6 hown6 hg6 _; have hoA := ho.alloc (.cells #[.slice (some ⟨Y.heap.size, 0, none⟩) N N] 62); have HB6 := Lib.hid (bl_grown (bl_alloc HBW.out (.cells #[.slice (some ⟨Y.heap.size, 0, none⟩) N N] 62)) hoA (Nat.le_refl _) hg6))
          have HM6 := Lib.hid ((HM2.out.kept (bl_alloc (bl_refl wr) (.cells #[.slice (some ⟨Y.heap.size, 0, none⟩) N N] 62))).snoc (M' := edgeM T) (own_low (own_kept HR.out (bl_alloc (bl_refl wr) _)) hzY) HRB.out hg6 hown6 (fun a _ => rfl))
          clear hg6 hoA hown6 ho
          go_roundw
          case rel => exact ⟨k + 1, _, by omega, by go_num, HM6, HB6⟩
          case measure => simp [intOf]; omega
    · have ek : N = k := by omega
      subst ek
      obtain ⟨gL, cL, hsl, hgL1, hgL2⟩ := own_form HM.out.hdr hS0
      simp only [Value.slice.injEq, true_and] at hsl
      obtain ⟨rfl, rfl⟩ := hsl
      have HWS := Lib.hid (Ws.start T N)
      go_wp2_with fail
      go_loopw [11] (fun kv wx => ∃ (k : Nat) (M : Nat → Nat → Bool), k ≤ N ∧ kv = .int .i64 k ∧ Hid (Ws T N k 0 0 M) ∧ Hid (Mq W1.heap.size (.slice (some ⟨gL, 0, none⟩) N cA) N N rb M wx) ∧ Hid (Below W1.heap.size W1 wx)) (fun kv _ => N - (intOf kv).toNat)
      case atStart => exact ⟨0, _, Nat.zero_le _, rfl, HWS, HM, HB⟩
      case round =>
        clear HWS HM HB
        obtain ⟨k, M, hk, rfl, HWS, HM, HB⟩ := hrel
        by_cases hkN : k < N
        · have hk1 : (k : Int) < (N : Int) := by omega
          have hk0 : (0 : Int) ≤ (k : Int) := by omega
          go_wp2_with fail
          go_loopw [12] (fun iv wx => ∃ (i : Nat) (M : Nat → Nat → Bool), i ≤ N ∧ iv = .int .i64 i ∧ Hid (Ws T N k i 0 M) ∧ Hid (Mq W1.heap.size (.slice (some ⟨gL, 0, none⟩) N cA) N N rb M wx) ∧ Hid (Below W1.heap.size W1 wx)) (fun iv _ => N - (intOf iv).toNat)
          case atStart => exact ⟨0, M, Nat.zero_le _, rfl, HWS, HM, HB⟩
          case round =>
            clear HWS HM HB
            obtain ⟨i, M, hi, rfl, HWS, HM, HB⟩ := hrel
            by_cases hiN : i < N
            · have hi1 : (i : Int) < (N : Int) := by omega
              have hi0 : (0 : Int) ≤ (i : Int) := by omega
              go_wp2_with fail
              go_loopw [13] (fun jv wx => ∃ (j : Nat) (M : Nat → Nat → Bool), j ≤ N ∧ jv = .int .i64 j ∧ Hid (Ws T N k i j M) ∧ Hid (Mq W1.heap.size (.slice (some ⟨gL, 0, none⟩) N cA) N N rb M wx) ∧ Hid (Below W1.heap.size W1 wx)) (fun jv _ => N - (intOf jv).toNat)
              case atStart => exact ⟨0, M, Nat.zero_le _, rfl, HWS, HM, HB⟩
              case round =>
                clear HWS HM HB
                obtain ⟨j, M, hj, rfl, HWS, HM, HB⟩ := hrel
                by_cases hjN : j < N
                · have hj1 : (j : Int) < (N : Int) := by omega
                  have hj0 : (0 : Int) ≤ (j : Int) := by omega
                  have q1 := HM.out.at1 (i := i) hiN
                  have q1k := HM.out.at1 (i := k) hkN
                  have q2 := HM.out.at2 (i := i) hiN hjN
                  have q2k := HM.out.at2 (i := i) hiN hkN
                  have q3 := HM.out.at2 (i := k) hkN hjN
                  have q4 := HM.out.fr2 (i := i) (j := j) hiN
                  have q5 := HM.out.lt2 (i := i) hiN
                  have q5k := HM.out.lt2 (i := k) hkN
                  have q6 := HM.out.lt1
                  have q7 := HM.out.ge2 (i := i) hiN
                  obtain ⟨x, hx⟩ : ∃ x, x = M i j := ⟨_, rfl⟩
                  obtain ⟨y, hy⟩ : ∃ y, y = M i k := ⟨_, rfl⟩
                  obtain ⟨z, hz⟩ : ∃ z, z = M k j := ⟨_, rfl⟩
                  have HWc : Hid (∀ u : Bool, u = (x || (y && z)) → Ws T N k i (j + 1) (fun a b => if a = i ∧ b = j then u else M a b)) := Lib.hid fun u hu => HWS.out.cell hkN hiN hjN (by rw [hu, hx, hy, hz])
                  have HST : Hid (∀ (u : Bool) (nq : Nat), Mq W1.heap.size (.slice (some ⟨gL, 0, none⟩) N cA) N N rb (fun a b => if a = i ∧ b = j then u else M a b) ((wr.drewN nq).setCell ⟨rb i, j, none⟩ (.bool u)) ∧ Below W1.heap.size W1 ((wr.drewN nq).setCell ⟨rb i, j, none⟩ (.bool u))) := Lib.hid fun u nq =>
                    ⟨(HM.out.kept (W' := wr.drewN nq) (bl_drewN (bl_refl wr) nq)).store hiN hjN u, (bl_drewN HB.out nq).setCell q7 _⟩
                  rw [← hx] at q2
                  rw [← hy] at q2k
                  rw [← hz] at q3
                  clear hx hy hz HM HWS
                  cases x with
                  | true =>
                    go_wp2_with fail
                    refine (wpIn_wide (n := 9)).1 ?_
                    refine wpIn_region_tail 31 rfl hmix (by kernel_rfl) ?_
                    simp only [List.take_succ_cons, List.take_zero, List.drop_succ_cons, List.drop_zero]
                    repeat (gi_big_quiet_step (fail))
                    refine wpQuietIn_nil ?_
                    rintro _ ⟨nq, rfl⟩
                    have HS2 := Lib.hid (HST.out true nq)
                    have HW2 := Lib.hid (HWc.out true rfl)
                    clear HST HWc
                    gi_wp2_with fail
                    go_wp2_with fail
                    go_roundw
                    case rel => exact ⟨j + 1, _, by omega, by go_num, HW2, Lib.hid HS2.out.1, Lib.hid HS2.out.2⟩
                    case measure => simp [intOf]; omega
                  | false =>
                    cases y with
                    | false =>
                      go_wp2_with fail
                      refine (wpIn_wide (n := 9)).1 ?_
                      refine wpIn_region_tail 31 rfl hmix (by kernel_rfl) ?_
                      simp only [List.take_succ_cons, List.take_zero, List.drop_succ_cons, List.drop_zero]
                      repeat (gi_big_quiet_step (fail))
                      refine wpQuietIn_nil ?_
                      rintro _ ⟨nq, rfl⟩
                      have HS2 := Lib.hid (HST.out false nq)
                      have HW2 := Lib.hid (HWc.out false rfl)
                      clear HST HWc
                      gi_wp2_with fail
                      go_wp2_with fail
                      go_roundw
                      case rel => exact ⟨j + 1, _, by omega, by go_num, HW2, Lib.hid HS2.out.1, Lib.hid HS2.out.2⟩
                      case measure => simp [intOf]; omega
                    | true =>
                      cases z with
                      | false =>
                        go_wp2_with fail
                        refine (wpIn_wide (n := 9)).1 ?_
                        refine wpIn_region_tail 31 rfl hmix (by kernel_rfl) ?_
                        simp only [List.take_succ_cons, List.take_zero, List.drop_succ_cons, List.drop_zero]
                        repeat (gi_big_quiet_step (fail))
                        refine wpQuietIn_nil ?_
                        rintro _ ⟨nq, rfl⟩
                        have HS2 := Lib.hid (HST.out false nq)
                        have HW2 := Lib.hid (HWc.out false rfl)
                        clear HST HWc
                        gi_wp2_with fail
                        go_wp2_with fail
                        go_roundw
                        case rel => exact ⟨j + 1, _, by omega, by go_num, HW2, Lib.hid HS2.out.1, Lib.hid HS2.out.2⟩
                        case measure => simp [intOf]; omega
                      | true =>
                        go_wp2_with fail
                        refine (wpIn_wide (n := 9)).1 ?_
                        refine wpIn_region_tail 31 rfl hmix (by kernel_rfl) ?_
                        simp only [List.take_succ_cons, List.take_zero, List.drop_succ_cons, List.drop_zero]
                        repeat (gi_big_quiet_step (fail))
                        refine wpQuietIn_nil ?_
                        rintro _ ⟨nq, rfl⟩
                        have HS2 := Lib.hid (HST.out true nq)
                        have HW2 := Lib.hid (HWc.out true rfl)
                        clear HST HWc
                        gi_wp2_with fail
                        go_wp2_with fail
                        go_roundw
                        case rel => exact ⟨j + 1, _, by omega, by go_num, HW2, Lib.hid HS2.out.1, Lib.hid HS2.out.2⟩
                        case measure => simp [intOf]; omega
                · obtain rfl : j = N := by omega
                  have HW2 := Lib.hid HWS.out.row
                  go_wp2_with fail
                  go_roundw
                  case rel => exact ⟨i + 1, M, by omega, by go_num, HW2, HM, HB⟩
                  case measure => simp [intOf]; omega
            · obtain rfl : i = N := by omega
              have HW2 := Lib.hid HWS.out.round
              go_wp2_with fail
              go_roundw
              case rel => exact ⟨k + 1, M, by omega, by go_num, HW2, HM, HB⟩
              case measure => simp [intOf]; omega
        · have ek : N = k := by omega
          subst ek
          have HL := Lib.hid (HWS.out.done HT2.out)
          clear HWS
          have hzB := HB.out.size
          go_wp2_with fail
          obtain ⟨V, hV⟩ : ∃ V, V = wr := ⟨_, rfl⟩
          rw [← hV] at HM HB hzB ⊢
          clear hV
          obtain ⟨W5, hW5⟩ : ∃ W5, W5 = V.alloc (.cells (madeCells #[.int .i64 0] N) 3) := ⟨_, rfl⟩
          have OC : Hid (W5.ownsRow V.heap.size 3 1 (.slice (some ⟨V.heap.size, 0, none⟩) N N) N (nRow N (ownC M 0))) := Lib.hid (by
            rw [ownC_zero, nRow_zero, hW5, ← toList_madeCells_one]
            exact World.ownsRow_lit V (madeCells #[.int .i64 0] N) N (Nat.le_refl _) (by unfold maxLen; omega) (by rw [← Array.length_toList, toList_madeCells_one]; simp))
          have BC : Hid (Below V.heap.size V W5) := Lib.hid (by rw [hW5]; exact bl_alloc (bl_refl V) _)
          have HRD : Hid (∀ W', Below V.heap.size V W' → gL < W'.heap.size ∧ ∀ i, i < N → rb i < W'.heap.size ∧ W'.cell? ⟨gL, i, none⟩ = some (.slice (some ⟨rb i, 0, none⟩) N N) ∧ ∀ j, j < N → W'.cell? ⟨rb i, j, none⟩ = some (.bool (M i j))) := Lib.hid fun W' hb => by
            have h := HM.out.kept hb
            exact ⟨h.lt1, fun i hi => ⟨h.lt2 hi, h.at1 hi, fun j hj => h.at2 hi hj⟩⟩
          rw [← hW5]
          clear hW5 HM hzB
          go_loopw [15] (fun iv wx => ∃ i : Nat, i ≤ N ∧ iv = .int .i64 i ∧ Hid (wx.ownsRow V.heap.size 3 1 (.slice (some ⟨V.heap.size, 0, none⟩) N N) N (nRow N (ownC M i))) ∧ Hid (Below V.heap.size V wx) ∧ Hid (∀ a, a < i → inN T M a ≤ 1)) (fun iv _ => N - (intOf iv).toNat)
          case atStart => exact ⟨0, Nat.zero_le _, rfl, OC, BC, Lib.hid fun a h => absurd h (Nat.not_lt_zero _)⟩
          case round =>
            obtain ⟨i, hi, rfl, HO, HBx, HIN⟩ := hrel
            clear OC BC
            by_cases hiN : i < N
            · have hi1 : (i : Int) < (N : Int) := by omega
              have hi0 : (0 : Int) ≤ (i : Int) := by omega
              obtain ⟨bT, cT', lbT, lT, lB, hrow⟩ := HROW.out i hiN
              have HRW := Lib.hid hrow
              clear hrow
              obtain ⟨r1, r2⟩ := HRD.out wr HBx.out
              obtain ⟨r3, r4, r5⟩ := r2 i hiN
              have r6 := r5 i hiN
              clear r2 r5
              cases hii : M i i with
              | true =>
                rw [hii] at r6
                have hrow := HO.out
                have lC := (hrow.lt _ rfl).2
                dsimp only at lC
                have q7 := hrow.cellAt i (by omega)
                rw [nRow_at _ hiN] at q7
                have q8 := hrow.frozenAt i
                obtain ⟨z, hz⟩ : ∃ z, z = ownC M i i := ⟨_, rfl⟩
                rw [← hz] at q7
                have HO2 : Hid ((wr.setCell ⟨V.heap.size, i, none⟩ (.int .i64 1)).ownsRow V.heap.size 3 1 (.slice (some ⟨V.heap.size, 0, none⟩) N N) N (nRow N (ownC M (i + 1)))) := Lib.hid (by
                  have h := (hrow.stored i (.int .i64 1)).1
                  rw [nRow_set _ _ hiN, ownC_yes hii] at h
                  exact h)
                have HB2 : Hid (Below V.heap.size V (wr.setCell ⟨V.heap.size, i, none⟩ (.int .i64 1))) := Lib.hid (HBx.out.setCell (by show V.heap.size ≤ V.heap.size; omega) _)
                clear hii hrow HO HBx hz
                go_wp2_with fail
                obtain ⟨X, hX⟩ : ∃ X, X = wr.setCell ⟨V.heap.size, i, none⟩ (.int .i64 1) := ⟨_, rfl⟩
                rw [← hX] at HO2 HB2 ⊢
                clear hX r1 r3 r4 r6 lC q7 q8
                have HBX := Lib.hid (bl_then HB.out HB2.out)
                go_loopw [16, 17] (fun nv cv wx => ∃ c : Nat, c ≤ q ∧ cv = .int .i64 c ∧ nv = .int .i64 (inC T M i c : Nat) ∧ wx = X) (fun _ cv _ => q - (intOf cv).toNat)
                case atStart => exact ⟨0, Nat.zero_le _, rfl, by rw [inC_zero]; rfl, rfl⟩
                case round =>
                  obtain ⟨c, hc, rfl, rfl, hwx⟩ := hrel
                  rw [← hwx] at HBX HO2 HB2
                  have HWX := Lib.hid hwx
                  clear hwx
                  obtain ⟨n, hn⟩ : ∃ n, n = inC T M i c := ⟨_, rfl⟩
                  have hn3 := inC_le T M i c
                  have HNN := Lib.hid hn
                  rw [← hn] at hn3 ⊢
                  clear hn
                  have hnq : n ≤ 3 := by omega
                  by_cases hcq : c < q
                  · obtain ⟨x1, x2, x3⟩ := HX.out wr HBX.out
                    obtain ⟨y1, y2⟩ := HRW.out wr HBX.out
                    have lT' := Nat.lt_of_lt_of_le lT HBX.out.size
                    have lbT' := Nat.lt_of_lt_of_le lbT HBX.out.size
                    have hc1 : (c : Int) < (q : Int) := by omega
                    have hc0 : (0 : Int) ≤ (c : Int) := by omega
                    have y3 := y2 c hcq
                    have hTr := HT2.out.at hiN
                    have hsn := steps_snoc (row := T.getD i []) (k := c) (by rw [hTr.1]; exact hcq)
                    have hxr0 := row_range HT2.out hiN hcq
                    obtain ⟨x, hx⟩ : ∃ x, x = (T.getD i []).getD c 0 := ⟨_, rfl⟩
                    rw [← hx] at y3 hsn hxr0
                    by_cases hx0 : 0 ≤ x
                    · obtain ⟨j, rfl⟩ : ∃ j : Nat, x = j := ⟨x.toNat, by omega⟩
                      have hjN : j < N := by omega
                      have hj1 : (j : Int) < (N : Int) := by omega
                      rw [if_pos (by omega), Int.toNat_natCast] at hsn
                      obtain ⟨s1, s2⟩ := HRD.out wr HB2.out
                      obtain ⟨s3, s4, s5⟩ := s2 j hjN
                      have s6 := s5 i hiN
                      have HCN : Hid (inC T M i (c + 1) = n + if M j i then 1 else 0) := Lib.hid (by
                        rw [HNN.out]
                        unfold inC
                        rw [hsn, List.filter_append, List.length_append, List.filter_cons, List.filter_nil]
                        cases M j i <;> rfl)
                      clear hsn hx hxr0 hTr y2 hx0 s2 s5
                      cases hji : M j i with
                      | true =>
                        rw [hji] at s6 HCN
                        obtain ⟨n1, hn1⟩ : ∃ n1, n1 = n + 1 := ⟨_, rfl⟩
                        have hn2 : (n : Int) + 1 = (n1 : Int) := by omega
                        have hn4 := wrapN (D := n1) (by omega)
                        have HCM : Hid (n1 = inC T M i (c + 1)) := Lib.hid (by rw [HCN.out, hn1]; rfl)
                        clear hji hn1
                        go_wp2_with fail
                        go_roundw
                        case rel => exact ⟨c + 1, by omega, by go_num, by rw [← HCM.out], HWX.out⟩
                        case measure => simp [intOf]; omega
                      | false =>
                        rw [hji] at s6 HCN
                        have HCM : Hid (n = inC T M i (c + 1)) := Lib.hid (by rw [HCN.out]; rfl)
                        clear hji
                        go_wp2_with fail
                        go_roundw
                        case rel => exact ⟨c + 1, by omega, by go_num, by rw [← HCM.out], HWX.out⟩
                        case measure => simp [intOf]; omega
                    · have hx1 : x = -1 := by omega
                      subst hx1
                      have HCM : Hid (n = inC T M i (c + 1)) := Lib.hid (by
                        rw [HNN.out]
                        unfold inC
                        rw [hsn, if_neg (by omega), List.append_nil])
                      clear hsn hx hxr0 hTr y2 hx0
                      go_wp2_with fail
                      go_roundw
                      case rel => exact ⟨c + 1, by omega, by go_num, by rw [← HCM.out], HWX.out⟩
                      case measure => simp [intOf]; omega
                  · obtain rfl : c = q := by omega
                    have HAL : Hid (n = inN T M i) := Lib.hid (by
                      rw [HNN.out]
                      unfold inC
                      rw [List.take_of_length_le (by rw [(HT2.out.at hiN).1]; exact Nat.le_refl _)]
                      rfl)
                    have HLB := Lib.hid (bl_then HB1.out HBX.out)
                    by_cases hn1 : 1 < n
                    · have hn2 : (1 : Int) < (n : Int) := by omega
                      go_wp2_with fail
                      go_ret
                      exact ⟨⟨-2, ⟨M, HL.out, .inl ⟨⟨i, hiN, by rw [← HAL.out]; exact hn1⟩, rfl⟩⟩, rfl⟩, HLB.out⟩
                    · have hn2 : ¬ (1 : Int) < (n : Int) := by omega
                      have HIN2 : Hid (∀ a, a < i + 1 → inN T M a ≤ 1) := Lib.hid fun a ha => by
                        rcases Nat.lt_or_eq_of_le (Nat.le_of_lt_succ ha) with h | h
                        · exact HIN.out a h
                        · rw [h, ← HAL.out]; omega
                      go_wp2_with fail
                      go_roundw
                      case rel => exact ⟨i + 1, by omega, by go_num, HO2, HB2, HIN2⟩
                      case measure => simp [intOf]; omega
              | false =>
                rw [hii] at r6
                have HO2 : Hid (wr.ownsRow V.heap.size 3 1 (.slice (some ⟨V.heap.size, 0, none⟩) N N) N (nRow N (ownC M (i + 1)))) := Lib.hid (by
                  rw [← ownC_no hii]; exact HO.out)
                have HB2 := HBx
                clear hii HO HBx
                go_wp2_with fail
                obtain ⟨X, hX⟩ : ∃ X, X = wr := ⟨_, rfl⟩
                clear r1 r3 r4 r6
                rw [← hX] at HO2 HB2 ⊢
                clear hX
                have HBX := Lib.hid (bl_then HB.out HB2.out)
                go_loopw [16, 17] (fun nv cv wx => ∃ c : Nat, c ≤ q ∧ cv = .int .i64 c ∧ nv = .int .i64 (inC T M i c : Nat) ∧ wx = X) (fun _ cv _ => q - (intOf cv).toNat)
                case atStart => exact ⟨0, Nat.zero_le _, rfl, by rw [inC_zero]; rfl, rfl⟩
                case round =>
                  obtain ⟨c, hc, rfl, rfl, hwx⟩ := hrel
                  rw [← hwx] at HBX HO2 HB2
                  have HWX := Lib.hid hwx
                  clear hwx
                  obtain ⟨n, hn⟩ : ∃ n, n = inC T M i c := ⟨_, rfl⟩
                  have hn3 := inC_le T M i c
                  have HNN := Lib.hid hn
                  rw [← hn] at hn3 ⊢
                  clear hn
                  have hnq : n ≤ 3 := by omega
                  by_cases hcq : c < q
                  · obtain ⟨x1, x2, x3⟩ := HX.out wr HBX.out
                    obtain ⟨y1, y2⟩ := HRW.out wr HBX.out
                    have lT' := Nat.lt_of_lt_of_le lT HBX.out.size
                    have lbT' := Nat.lt_of_lt_of_le lbT HBX.out.size
                    have hc1 : (c : Int) < (q : Int) := by omega
                    have hc0 : (0 : Int) ≤ (c : Int) := by omega
                    have y3 := y2 c hcq
                    have hTr := HT2.out.at hiN
                    have hsn := steps_snoc (row := T.getD i []) (k := c) (by rw [hTr.1]; exact hcq)
                    have hxr0 := row_range HT2.out hiN hcq
                    obtain ⟨x, hx⟩ : ∃ x, x = (T.getD i []).getD c 0 := ⟨_, rfl⟩
                    rw [← hx] at y3 hsn hxr0
                    by_cases hx0 : 0 ≤ x
                    · obtain ⟨j, rfl⟩ : ∃ j : Nat, x = j := ⟨x.toNat, by omega⟩
                      have hjN : j < N := by omega
                      have hj1 : (j : Int) < (N : Int) := by omega
                      rw [if_pos (by omega), Int.toNat_natCast] at hsn
                      obtain ⟨s1, s2⟩ := HRD.out wr HB2.out
                      obtain ⟨s3, s4, s5⟩ := s2 j hjN
                      have s6 := s5 i hiN
                      have HCN : Hid (inC T M i (c + 1) = n + if M j i then 1 else 0) := Lib.hid (by
                        rw [HNN.out]
                        unfold inC
                        rw [hsn, List.filter_append, List.length_append, List.filter_cons, List.filter_nil]
                        cases M j i <;> rfl)
                      clear hsn hx hxr0 hTr y2 hx0 s2 s5
                      cases hji : M j i with
                      | true =>
                        rw [hji] at s6 HCN
                        obtain ⟨n1, hn1⟩ : ∃ n1, n1 = n + 1 := ⟨_, rfl⟩
                        have hn2 : (n : Int) + 1 = (n1 : Int) := by omega
                        have hn4 := wrapN (D := n1) (by omega)
                        have HCM : Hid (n1 = inC T M i (c + 1)) := Lib.hid (by rw [HCN.out, hn1]; rfl)
                        clear hji hn1
                        go_wp2_with fail
                        go_roundw
                        case rel => exact ⟨c + 1, by omega, by go_num, by rw [← HCM.out], HWX.out⟩
                        case measure => simp [intOf]; omega
                      | false =>
                        rw [hji] at s6 HCN
                        have HCM : Hid (n = inC T M i (c + 1)) := Lib.hid (by rw [HCN.out]; rfl)
                        clear hji
                        go_wp2_with fail
                        go_roundw
                        case rel => exact ⟨c + 1, by omega, by go_num, by rw [← HCM.out], HWX.out⟩
                        case measure => simp [intOf]; omega
                    · have hx1 : x = -1 := by omega
                      subst hx1
                      have HCM : Hid (n = inC T M i (c + 1)) := Lib.hid (by
                        rw [HNN.out]
                        unfold inC
                        rw [hsn, if_neg (by omega), List.append_nil])
                      clear hsn hx hxr0 hTr y2 hx0
                      go_wp2_with fail
                      go_roundw
                      case rel => exact ⟨c + 1, by omega, by go_num, by rw [← HCM.out], HWX.out⟩
                      case measure => simp [intOf]; omega
                  · obtain rfl : c = q := by omega
                    have HAL : Hid (n = inN T M i) := Lib.hid (by
                      rw [HNN.out]
                      unfold inC
                      rw [List.take_of_length_le (by rw [(HT2.out.at hiN).1]; exact Nat.le_refl _)]
                      rfl)
                    have HLB := Lib.hid (bl_then HB1.out HBX.out)
                    by_cases hn1 : 1 < n
                    · have hn2 : (1 : Int) < (n : Int) := by omega
                      go_wp2_with fail
                      go_ret
                      exact ⟨⟨-2, ⟨M, HL.out, .inl ⟨⟨i, hiN, by rw [← HAL.out]; exact hn1⟩, rfl⟩⟩, rfl⟩, HLB.out⟩
                    · have hn2 : ¬ (1 : Int) < (n : Int) := by omega
                      have HIN2 : Hid (∀ a, a < i + 1 → inN T M a ≤ 1) := Lib.hid fun a ha => by
                        rcases Nat.lt_or_eq_of_le (Nat.le_of_lt_succ ha) with h | h
                        · exact HIN.out a h
                        · rw [h, ← HAL.out]; omega
                      go_wp2_with fail
                      go_roundw
                      case rel => exact ⟨i + 1, by omega, by go_num, HO2, HB2, HIN2⟩
                      case measure => simp [intOf]; omega
            · have ei : N = i := by omega
              subst ei
              have HR := Lib.hid (self_in HT2.out HL.out HIN.out)
              have HTR : Hid (Trans M N) := Lib.hid fun a b c ha hb hc g1 g2 => HL.out.trans ha hb hc g1 g2
              have HC0 : Hid (CsOk M (fun i => inN T M i == 1) N (ownC M N)) := Lib.hid (ownC_all HTR.out HR.out)
              have HNUM : Hid (∀ (wx : World) (cs : Nat → Int), wx.ownsRow V.heap.size 3 1 (.slice (some ⟨V.heap.size, 0, none⟩) N N) N (nRow N cs) → gapC (chC M (fun i => inN T M i == 1) N) (numAt wx V.heap.size) N = gapC (chC M (fun i => inN T M i == 1) N) cs N) := Lib.hid fun wx cs h => gap_same fun k hk => numAt_of ((h.cellAt k (by omega)).trans (nRow_at cs hk))
              go_wp2_with fail
              go_loopw [18] (fun bv wx => ∃ (ch : Bool) (cs : Nat → Int), bv = .bool ch ∧ Hid (CsOk M (fun i => inN T M i == 1) N cs) ∧ Hid (ch = false → Calm M N cs) ∧ Hid (wx.ownsRow V.heap.size 3 1 (.slice (some ⟨V.heap.size, 0, none⟩) N N) N (nRow N cs)) ∧ Hid (Below V.heap.size V wx)) (fun bv wx => 2 * gapC (chC M (fun i => inN T M i == 1) N) (numAt wx V.heap.size) N + oneIf bv)
              case atStart => exact ⟨true, ownC M N, rfl, HC0, Lib.hid (fun h => by cases h), HO, HBx⟩
              case round =>
                clear HC0 HO HBx
                obtain ⟨ch, cs0, rfl, HC0, HK0, HO0, HBx0⟩ := hrel
                cases ch with
                | true =>
                  go_wp2_with fail
                  obtain ⟨Y, hY⟩ : ∃ Y, Y = wr := ⟨_, rfl⟩
                  rw [← hY] at HO0 HBx0 ⊢
                  have HYY := Lib.hid hY
                  clear hY HK0
                  go_loopw [18, 19] (fun bv iv wx => ∃ (ch : Bool) (cs : Nat → Int) (i : Nat), i ≤ N ∧ bv = .bool ch ∧ iv = .int .i64 i ∧ Hid (CsOk M (fun i => inN T M i == 1) N cs) ∧ Hid (RoundAt M (chC M (fun i => inN T M i == 1) N) N cs0 cs ch i 0) ∧ Hid (wx.ownsRow V.heap.size 3 1 (.slice (some ⟨V.heap.size, 0, none⟩) N N) N (nRow N cs)) ∧ Hid (Below V.heap.size V wx)) (fun _ iv _ => N - (intOf iv).toNat)
                  case atStart => exact ⟨false, cs0, 0, Nat.zero_le _, rfl, rfl, HC0, Lib.hid (.inr ⟨rfl, rfl, CalmTo.start _ _ _⟩), HO0, HBx0⟩
                  case round =>
                    obtain ⟨ch, cs, i, hi, rfl, rfl, HCS, HRN, HO, HBx⟩ := hrel
                    by_cases hiN : i < N
                    · have hi1 : (i : Int) < (N : Int) := by omega
                      have hi0 : (0 : Int) ≤ (i : Int) := by omega
                      go_wp2_with fail
                      go_loopw [18, 20] (fun bv jv wx => ∃ (ch : Bool) (cs : Nat → Int) (j : Nat), j ≤ N ∧ bv = .bool ch ∧ jv = .int .i64 j ∧ Hid (CsOk M (fun i => inN T M i == 1) N cs) ∧ Hid (RoundAt M (chC M (fun i => inN T M i == 1) N) N cs0 cs ch i j) ∧ Hid (wx.ownsRow V.heap.size 3 1 (.slice (some ⟨V.heap.size, 0, none⟩) N N) N (nRow N cs)) ∧ Hid (Below V.heap.size V wx)) (fun _ jv _ => N - (intOf jv).toNat)
                      case atStart => exact ⟨ch, cs, 0, Nat.zero_le _, rfl, rfl, HCS, HRN, HO, HBx⟩
                      case round =>
                        clear HCS HRN HO HBx
                        obtain ⟨ch, cs, j, hj, rfl, rfl, HCS, HRN, HO, HBx⟩ := hrel
                        by_cases hjN : j < N
                        · have hj1 : (j : Int) < (N : Int) := by omega
                          have hj0 : (0 : Int) ≤ (j : Int) := by omega
                          obtain ⟨s1, s2⟩ := HRD.out wr HBx.out
                          obtain ⟨s3, s4, s5⟩ := s2 i hiN
                          obtain ⟨t3, t4, t5⟩ := s2 j hjN
                          have cii := s5 i hiN
                          have cij := s5 j hjN
                          have cji := t5 i hiN
                          have cjj := t5 j hjN
                          have lC := (HO.out.lt _ rfl).2
                          dsimp only at lC
                          have oi := HO.out.cellAt i (by omega)
                          have oj := HO.out.cellAt j (by omega)
                          have oq := HO.out.frozenAt i
                          rw [nRow_at _ hiN] at oi
                          rw [nRow_at _ hjN] at oj
                          obtain ⟨ci, hci⟩ : ∃ ci, ci = cs i := ⟨_, rfl⟩
                          obtain ⟨cj, hcj⟩ : ∃ cj, cj = cs j := ⟨_, rfl⟩
                          rw [← hci] at oi
                          rw [← hcj] at oj
                          have HCI := Lib.hid hci
                          have HCJ := Lib.hid hcj
                          have HNX : Hid ((M i i = true → M j j = true → M i j = true → M j i = false → cs j < cs i) → RoundAt M (chC M (fun i => inN T M i == 1) N) N cs0 cs ch i (j + 1)) := Lib.hid fun h => by
                            rcases HRN.out with g | ⟨g1, g2, g3⟩
                            · exact .inl g
                            · exact .inr ⟨g1, g2, g3.next h⟩
                          clear s2 s5 t5 hci hcj
                          cases b1 : M i i with
                          | false =>
                            rw [b1] at cii
                            have HNY := Lib.hid (HNX.out fun h => by rw [b1] at h; cases h)
                            clear b1 HNX
                            go_wp2_with fail
                            go_quiet (fail)
                            go_wp2_with fail
                            go_roundw
                            case rel => exact ⟨ch, cs, j + 1, by omega, rfl, by go_num, HCS, HNY, Lib.hid (own_kept HO.out (bl_drewN (bl_refl wr) _)), Lib.hid (bl_drewN HBx.out _)⟩
                            case measure => simp [intOf]; omega
                          | true =>
                            rw [b1] at cii
                            cases b2 : M j j with
                            | false =>
                              rw [b2] at cjj
                              have HNY := Lib.hid (HNX.out fun _ h => by rw [b2] at h; cases h)
                              clear b1 b2 HNX
                              go_wp2_with fail
                              go_quiet (fail)
                              go_wp2_with fail
                              go_roundw
                              case rel => exact ⟨ch, cs, j + 1, by omega, rfl, by go_num, HCS, HNY, Lib.hid (own_kept HO.out (bl_drewN (bl_refl wr) _)), Lib.hid (bl_drewN HBx.out _)⟩
                              case measure => simp [intOf]; omega
                            | true =>
                              rw [b2] at cjj
                              cases b3 : M i j with
                              | false =>
                                rw [b3] at cij
                                have HNY := Lib.hid (HNX.out fun _ _ h => by rw [b3] at h; cases h)
                                clear b1 b2 b3 HNX
                                go_wp2_with fail
                                go_quiet (fail)
                                go_wp2_with fail
                                go_roundw
                                case rel => exact ⟨ch, cs, j + 1, by omega, rfl, by go_num, HCS, HNY, Lib.hid (own_kept HO.out (bl_drewN (bl_refl wr) _)), Lib.hid (bl_drewN HBx.out _)⟩
                                case measure => simp [intOf]; omega
                              | true =>
                                rw [b3] at cij
                                cases b4 : M j i with
                                | true =>
                                  rw [b4] at cji
                                  have HNY := Lib.hid (HNX.out fun _ _ _ h => by rw [b4] at h; cases h)
                                  clear b1 b2 b3 b4 HNX
                                  go_wp2_with fail
                                  go_quiet (fail)
                                  go_wp2_with fail
                                  go_roundw
                                  case rel => exact ⟨ch, cs, j + 1, by omega, rfl, by go_num, HCS, HNY, Lib.hid (own_kept HO.out (bl_drewN (bl_refl wr) _)), Lib.hid (bl_drewN HBx.out _)⟩
                                  case measure => simp [intOf]; omega
                                | false =>
                                  rw [b4] at cji
                                  by_cases hle : ci ≤ cj
                                  · obtain ⟨f1, f2⟩ := HCS.out.step HTR.out HR.out hiN hjN b1 b2 b3 b4
                                    have f3 := HCS.out.one j hjN b2
                                    have f4 := (ch_small (R := fun i => inN T M i == 1) HTR.out hjN).2
                                    rw [← HCJ.out] at f1 f2 f3
                                    rw [← HCI.out] at f2
                                    have HC2 := Lib.hid (f2 hle)
                                    have hcj1 : 1 ≤ cj ∧ cj ≤ 121 := by omega
                                    have hw := wrapI (a := cj + 1) (by omega)
                                    have HGP : Hid (RoundAt M (chC M (fun i => inN T M i == 1) N) N cs0 (updC cs i (cj + 1)) true i (j + 1)) := Lib.hid (.inl ⟨rfl, by
                                      have g := gap_upd (C := chC M (fun i => inN T M i == 1) N) (cs := cs) (i := i) (u := cj + 1) (by rw [← HCI.out]; omega) f1 hiN
                                      rcases HRN.out with ⟨_, h⟩ | ⟨_, h, _⟩
                                      · exact Nat.lt_trans g h
                                      · rw [← h]; exact g⟩)
                                    have HO2 : Hid (∀ nq, ((wr.drewN nq).setCell ⟨V.heap.size, i, none⟩ (.int .i64 (cj + 1))).ownsRow V.heap.size 3 1 (.slice (some ⟨V.heap.size, 0, none⟩) N N) N (nRow N (updC cs i (cj + 1)))) := Lib.hid fun nq => by
                                      have h := ((own_kept HO.out (bl_drewN (bl_refl wr) nq)).stored i (.int .i64 (cj + 1))).1
                                      rw [nRow_set _ _ hiN] at h
                                      exact h
                                    have HB2 : Hid (∀ nq, Below V.heap.size V ((wr.drewN nq).setCell ⟨V.heap.size, i, none⟩ (.int .i64 (cj + 1)))) := Lib.hid fun nq => (bl_drewN HBx.out nq).setCell (by show V.heap.size ≤ V.heap.size; omega) _
                                    clear f1 f2 f3 f4 b1 b2 b3 b4 HNX
                                    go_wp2_with fail
                                    go_quiet (fail)
                                    go_wp2_with fail
                                    go_roundw
                                    case rel => exact ⟨true, updC cs i (cj + 1), j + 1, by omega, rfl, by go_num, HC2, HGP, Lib.hid (HO2.out _), Lib.hid (HB2.out _)⟩
                                    case measure => simp [intOf]; omega
                                  · have HNY := Lib.hid (HNX.out fun _ _ _ _ => by rw [← HCI.out, ← HCJ.out]; omega)
                                    clear b1 b2 b3 b4 HNX
                                    go_wp2_with fail
                                    go_quiet (fail)
                                    go_wp2_with fail
                                    go_roundw
                                    case rel => exact ⟨ch, cs, j + 1, by omega, rfl, by go_num, HCS, HNY, Lib.hid (own_kept HO.out (bl_drewN (bl_refl wr) _)), Lib.hid (bl_drewN HBx.out _)⟩
                                    case measure => simp [intOf]; omega
                        · obtain rfl : j = N := by omega
                          have HRN2 : Hid (RoundAt M (chC M (fun i => inN T M i == 1) j) j cs0 cs ch (i + 1) 0) := Lib.hid (by
                            rcases HRN.out with g | ⟨g1, g2, g3⟩
                            · exact .inl g
                            · exact .inr ⟨g1, g2, g3.row⟩)
                          go_wp2_with fail
                          go_roundw
                          case rel => exact ⟨ch, cs, i + 1, by omega, rfl, by go_num, HCS, HRN2, HO, HBx⟩
                          case measure => simp [intOf]; omega
                    · obtain rfl : i = N := by omega
                      have HCALM : Hid (ch = false → Calm M i cs) := Lib.hid fun h => by
                        rcases HRN.out with ⟨g, _⟩ | ⟨_, _, g3⟩
                        · rw [g] at h; cases h
                        · exact g3.all
                      have HLESS : Hid (2 * gapC (chC M (fun a => inN T M a == 1) i) (numAt wr V.heap.size) i + oneIf (.bool ch) < 2 * gapC (chC M (fun a => inN T M a == 1) i) (numAt Y V.heap.size) i + oneIf (.bool true)) := Lib.hid (by
                        rw [HNUM.out wr cs HO.out, HNUM.out Y cs0 HO0.out]
                        rcases HRN.out with ⟨g1, g2⟩ | ⟨g1, g2, _⟩
                        · rw [g1]; omega
                        · rw [g1, g2]; show _ + 0 < _ + 1; omega)
                      go_wp2_with fail
                      go_roundw
                      case rel => exact ⟨ch, cs, rfl, HCS, HCALM, HO, HBx⟩
                      case measure =>
                        have h := HLESS.out
                        rw [HYY.out] at h
                        exact h
                | false =>
                  have HCALM := Lib.hid (HK0.out rfl)
                  have HBEST : Hid (foldC cs0 (fun _ => true) N = chC M (fun i => inN T M i == 1) N 0) := Lib.hid (calm_best HTR.out HR.out HC0.out HCALM.out hS0 (LF.out M HL.out).1 (LF.out M HL.out).2)
                  have HSM := Lib.hid (ch_small (R := fun i => inN T M i == 1) HTR.out hS0)
                  have HLB := Lib.hid (bl_then HB1.out (bl_then HB.out HBx0.out))
                  go_wp2_with fail
                  obtain ⟨X, hX⟩ : ∃ X, X = wr := ⟨_, rfl⟩
                  rw [← hX] at HO0 HBx0 HLB ⊢
                  clear hX
                  go_loopw [21, 22] (fun bv iv wx => ∃ i : Nat, i ≤ N ∧ bv = .int .i64 (foldC cs0 (fun _ => true) i) ∧ iv = .int .i64 i ∧ wx = X) (fun _ iv _ => N - (intOf iv).toNat)
                  case atStart => exact ⟨0, Nat.zero_le _, rfl, rfl, rfl⟩
                  case round =>
                    obtain ⟨i, hi, rfl, rfl, hwx⟩ := hrel
                    have HWX := Lib.hid hwx
                    rw [← hwx] at HO0 HBx0 HLB
                    clear hwx
                    obtain ⟨b, hb⟩ : ∃ b, b = foldC cs0 (fun _ => true) i := ⟨_, rfl⟩
                    have HBB := Lib.hid hb
                    rw [← hb]
                    clear hb
                    by_cases hiN : i < N
                    · have hi1 : (i : Int) < (N : Int) := by omega
                      have hi0 : (0 : Int) ≤ (i : Int) := by omega
                      have lC := (HO0.out.lt _ rfl).2
                      dsimp only at lC
                      have oi := HO0.out.cellAt i (by omega)
                      rw [nRow_at _ hiN] at oi
                      obtain ⟨ci, hci⟩ : ∃ ci, ci = cs0 i := ⟨_, rfl⟩
                      rw [← hci] at oi
                      have HMX : Hid (foldC cs0 (fun _ => true) (i + 1) = max b ci) := Lib.hid (by
                        show (if (true : Bool) = true then max (foldC cs0 (fun _ => true) i) (cs0 i) else foldC cs0 (fun _ => true) i) = _
                        rw [if_pos rfl, ← HBB.out, ← hci])
                      clear hci
                      go_wp2_with fail
                      go_roundw
                      case rel => exact ⟨i + 1, by omega, by rw [HMX.out], by go_num, HWX.out⟩
                      case measure => simp [intOf]; omega
                    · obtain rfl : i = N := by omega
                      have HBC : Hid (b = chC M (fun a => inN T M a == 1) i 0) := Lib.hid (HBB.out.trans HBEST.out)
                      have hb0 : 0 ≤ b ∧ b ≤ 121 := by
                        have h1 := HBC.out
                        have h2 := HSM.out
                        rw [← h1] at h2
                        omega
                      have hw := wrapI (a := b - 1) (by omega)
                      go_wp2_with fail
                      go_ret
                      exact ⟨⟨b - 1, ⟨M, HL.out, .inr ⟨HIN.out, by rw [HBC.out]⟩⟩, rfl⟩, HLB.out⟩
end Go.Proofs.Ytnamafakjkcmjaa
