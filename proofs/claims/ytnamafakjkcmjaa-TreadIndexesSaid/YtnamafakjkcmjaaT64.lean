/-
  The reference: Index.
-/
import Derived.Test.YtnamafakjkcmjaaT44
import Derived.Test.YtnamafakjkcmjaaT45
namespace Go.Proofs.Ytnamafakjkcmjaa
open Go.RowKit Go.Shelf
set_option linter.unusedVariables false
set_option linter.unusedSimpArgs false

theorem steps_at {row : List Int} {c j : Nat} (h : (c, j) ∈ stepsL row) : row.getD c 0 = (j : Int) := by
  have h1 := mem_steps.1 h
  rw [List.getD_eq_getElem?_getD, h1]
  rfl
set_option maxRecDepth 100000 in
set_option maxHeartbeats 8000000 in
theorem RIndex_any (q n : Nat) (wd : Str) (hq : 1 ≤ q ∧ q ≤ 3) (hn : n ≤ 60) (v : Value) (ss : List ByteArray) (w : World) (T : Tab) (hTd : T = tabL (pats ss) q) (hv : StrsAt w v ss) (hz : ∀ p ∈ ss, p.size ≤ 1000) (hl : ss.length ≤ 1000) (h0 : okL (pats ss) [] = true)
    (hfew : fewB T n = true) (hK : wd ∈ accL T n 0) (hwl : wd.length = n) (hwq : Lett q wd) :
    Calls Try.prog 20 #[.int .i64 q, v, .string (bs wd)] w fun e w' => e = .returned (.int .i64 ((accL T n 0).idxOf wd : Nat)) ∧ Below w.heap.size w w' := by
  have hmix : Try.prog.follows .mixedOrders = true := by kernel_rfl
  have hT := tab_ok (q := q) h0
  have hS := stL_few (pats ss) hq.2
  have hS0 : 0 < (stL (pats ss) q).length := by rw [stL_fix h0]; simp
  have OF := Lib.hid (Of_any q hq v ss w hv hz hl h0)
  rw [← hTd] at OF hT
  obtain ⟨S, hSd⟩ : ∃ S, S = stL (pats ss) q := ⟨_, rfl⟩
  rw [← hSd] at OF hT hS hS0
  have CN := Lib.hid fun g W base h => Counts_any q n base hq (by omega) g S T W h hT hS hS0
  obtain ⟨N, hN⟩ : ∃ N, N = S.length := ⟨_, rfl⟩
  have HN := Lib.hid hN
  rw [← hN] at CN hS0 hT hS
  have HI0 := Lib.hid (IndexAt.start hT hq.2 hS0 hfew hK)
  have HT := Lib.hid hT
  have HWL := Lib.hid hwl
  have HWQ := Lib.hid hwq
  have hzs : (bs wd).size = n := hwl
  have hmo : most1 = 1152921504606846977 := rfl
  clear hv hz hl h0 hTd hSd hN hT hfew hK hwl hwq
  go_enter Try.func20, Try.ntmps20
  go_wp2_with fail
  refine OF.out.mono ?_
  rintro e w1 ⟨g, rfl, hg, r1⟩
  obtain ⟨vS, vT, thdrs, rfl, g1, g2, g3⟩ := hg
  have hTl := HT.out.len
  rw [hTl] at g2
  rw [← HN.out] at g1
  obtain ⟨gS, cS, rfl, _, hgS2⟩ := own_form g1 hS0
  obtain ⟨gT, cT, rfl, _, hgT2⟩ := own_form g2 hS0
  obtain ⟨B, hB⟩ : ∃ B, B = w1.heap.size := ⟨_, rfl⟩
  obtain ⟨w2, hw2⟩ : ∃ w2, w2 = w1.alloc (.cells #[.slice (some ⟨gS, 0, none⟩) N cS, .slice (some ⟨gT, 0, none⟩) N cT] 72) := ⟨_, rfl⟩
  have b12 : Below w1.heap.size w1 w2 := by rw [hw2]; exact bl_alloc (bl_refl w1) _
  have hx1 : Whole w2 B 72 #[.slice (some ⟨gS, 0, none⟩) N cS, .slice (some ⟨gT, 0, none⟩) N cT] := by rw [hw2, hB]; exact Whole.new w1 _ _
  have HG2 : Hid (GraphV w2 w.heap.size (.agg #[.slice (some ⟨gS, 0, none⟩) N cS, .slice (some ⟨gT, 0, none⟩) N cT]) S T) := Lib.hid (GraphV.kept (show GraphV w1 w.heap.size _ S T from ⟨_, _, thdrs, rfl, by rw [← HN.out]; exact g1, by rw [hTl]; exact g2, g3⟩) b12)
  have HROW : Hid (∀ i, i < N → ∃ b c, b < w2.heap.size ∧ gT < w2.heap.size ∧ ∀ W', Below w2.heap.size w2 W' → W'.cell? ⟨gT, i, none⟩ = some (.slice (some ⟨b, 0, none⟩) q c) ∧ ∀ j, j < q → W'.cell? ⟨b, j, none⟩ = some (.int .i64 ((T.getD i []).getD j 0))) := Lib.hid fun i hi => by
    obtain ⟨b, c, e1, e2, e3⟩ := g3.row (W := w1) (i := i) (by omega)
    rw [(HT.out.at hi).1] at e1 e3
    refine ⟨b, c, Nat.lt_of_lt_of_le e2 b12.size, Nat.lt_of_lt_of_le hgT2 b12.size, fun W' hb => ⟨?_, fun j hjq => ?_⟩⟩
    · have hb' := b12.trans (hb.mono b12.size)
      exact (hb'.cell (p := ⟨gT, i, none⟩) hgT2).trans ((g2.cellAt i (by omega)).trans e1)
    · have hb' := b12.trans (hb.mono b12.size)
      exact (hb'.cell (p := ⟨b, j, none⟩) e2).trans (e3 j hjq)
  have HX : Hid (∀ W', Below w2.heap.size w2 W' → W'.cell? ⟨B, 0, none⟩ = some (.slice (some ⟨gS, 0, none⟩) N cS) ∧ W'.cell? ⟨B, 1, none⟩ = some (.slice (some ⟨gT, 0, none⟩) N cT) ∧ B < W'.heap.size) := Lib.hid fun W' hb => by
    have := hx1.kept hb
    exact ⟨(this.cell 0).trans rfl, (this.cell 1).trans rfl, this.lt⟩
  have HB2 := Lib.hid (bl_then r1 b12)
  have HBB := Lib.hid hB
  obtain ⟨x1, x2, x3⟩ := HX.out w2 (bl_refl w2)
  clear g1 g2 g3 hx1 b12 r1 hTl hgT2 hB
  go_wp2_with fail
  rw [← hw2, ← HBB.out]
  clear hw2
  refine (CN.out _ w2 _ HG2.out).mono ?_
  rintro e w3 ⟨cv, chdrs, rfl, c1, c2, r3⟩
  obtain ⟨gC, cC, rfl, _, _⟩ := own_form c1 (by omega)
  have HC := Lib.hid (cntAt_of c1 c2)
  have HB3 := Lib.hid r3
  clear c1 c2 r3 x1 x2 x3
  go_wp2_with fail
  go_loopw [9, 10, 11] (fun kv av dv wr => ∃ (d k i : Nat), d ≤ n ∧ dv = .int .i64 d ∧ kv = .int .i64 k ∧ av = .int .i64 i ∧ i < N ∧ Hid (IndexAt T n wd d i k) ∧ Hid (Below w3.heap.size w3 wr)) (fun _ _ dv _ => n - (intOf dv).toNat)
  case atStart => exact ⟨0, 0, 0, Nat.zero_le _, rfl, rfl, rfl, hS0, HI0, Lib.hid (bl_refl w3)⟩
  case round =>
    obtain ⟨d, k, i, hd, rfl, rfl, rfl, hi, HI, HB⟩ := hrel
    clear HI0
    by_cases hdn : d < n
    · have hdz : (d : Int) < (n : Int) := by omega
      obtain ⟨cW, jW, hcW, hmW, hc3, hdrop⟩ := HI.out.next hdn HWL.out
      obtain ⟨p, hp⟩ : ∃ p, p = n - (d + 1) := ⟨_, rfl⟩
      have hjW := (HT.out.stp (by omega) hmW)
      obtain ⟨b, c, lb, lT, hrow⟩ := HROW.out i hi
      obtain ⟨bc, cc, lbc, hcrow⟩ := HC.out.2 p (by omega)
      have HRW := Lib.hid hrow
      have HCW := Lib.hid hcrow
      have HTR := Lib.hid (HT.out.at hi)
      have HPP := Lib.hid hp
      have hlC := HC.out.1
      have hpK : (p : Int) < (n : Int) + 1 := by omega
      have hks : d < (bs wd).size := by omega
      obtain ⟨bt, hbt⟩ : ∃ bt, (bs wd)[d]'hks = bt := ⟨_, rfl⟩
      have hbc : bt = ltr cW := by
        rw [← hbt]
        obtain ⟨h1, h2⟩ := List.getElem?_eq_some_iff.1 hcW
        exact h2
      have hcc : ((bt.toNat : Int) - 97) % 256 = (cW : Int) := by rw [hbc, ltr_nat (by omega)]; omega
      have hprow : stepsL ((T.getD i []).take cW) ++ [(cW, jW)] = stepsL ((T.getD i []).take (cW + 1)) := by
        rw [steps_snoc (by rw [HTR.out.1]; exact hjW.1), steps_at hmW, if_pos (by omega), Int.toNat_natCast]
      have hST := HI.out.step hdn hcW (pre := stepsL ((T.getD i []).take cW)) (j := jW) (by rw [hprow]; exact steps_prefix _ _) hdrop
      rw [← hp] at hST
      have HST := Lib.hid hST
      have hcWq : cW < q := hjW.1
      have hcWq' : (cW : Int) < (q : Int) := by omega
      have hjWN : jW < N := hjW.2
      have hTW : Hid ((T.getD i []).getD cW 0 = (jW : Int)) := Lib.hid (steps_at hmW)
      clear hrow hcrow hp hprow hST hbc hcW hdrop hmW hjW
      go_wp2_with fail
      obtain ⟨W3, hW3⟩ : ∃ W3, W3 = wr := ⟨_, rfl⟩
      rw [← hW3] at HB ⊢
      clear hW3
      go_loopw [9, 12] (fun kv cv wx => ∃ (c k' : Nat), c ≤ cW ∧ kv = .int .i64 k' ∧ cv = .int .i64 c ∧ Hid (k + sumA T p (stepsL ((T.getD i []).take c)) = k') ∧ Hid (Below W3.heap.size W3 wx)) (fun _ cv _ => cW - (intOf cv).toNat)
      case atStart => exact ⟨0, k, Nat.zero_le _, rfl, rfl, Lib.hid (by simp [stepsL, sumA]), Lib.hid (bl_refl W3)⟩
      case round =>
        obtain ⟨ci, k', hci, rfl, rfl, HSM, HBy⟩ := hrel
        have HB4 := Lib.hid (bl_then HB.out HBy.out)
        have HB5 := Lib.hid (bl_then HB3.out HB4.out)
        obtain ⟨x1, x2, x3⟩ := HX.out wr HB5.out
        obtain ⟨y1, y2⟩ := HRW.out wr HB5.out
        obtain ⟨z1, z2⟩ := HCW.out wr HB4.out
        have lT' := Nat.lt_of_lt_of_le lT HB5.out.size
        have lb' := Nat.lt_of_lt_of_le lb HB5.out.size
        have lgC' := Nat.lt_of_lt_of_le hlC HB4.out.size
        have lbc' := Nat.lt_of_lt_of_le lbc HB4.out.size
        have hcW0 : (0 : Int) ≤ (cW : Int) := by omega
        by_cases hcw : ci < cW
        · have hcw' : (ci : Int) < (cW : Int) := by omega
          have hcq : ci < q := by omega
          have hcq' : (ci : Int) < (q : Int) := by omega
          have y3 := y2 ci hcq
          have hsn := steps_snoc (row := T.getD i []) (k := ci) (by rw [HTR.out.1]; exact hcq)
          have hxr0 := row_range HT.out hi hcq
          obtain ⟨x, hx⟩ : ∃ x, x = (T.getD i []).getD ci 0 := ⟨_, rfl⟩
          rw [← hx] at y3 hsn hxr0
          by_cases hx0 : 0 ≤ x
          · obtain ⟨j, rfl⟩ : ∃ j : Nat, x = j := ⟨x.toNat, by omega⟩
            have hjN : j < N := by omega
            have hjN' : (j : Int) < (N : Int) := by omega
            have z3 := z2 j hjN
            rw [if_pos (by omega), Int.toNat_natCast] at hsn
            have hpre : stepsL ((T.getD i []).take ci) ++ [(ci, j)] <+: stp T i := by rw [← hsn]; exact steps_prefix _ _
            have hmem : (ci, j) ∈ stp T i := hpre.subset (by simp)
            have hex := HI.out.exact hdn hmem
            have hbd := HI.out.bound hdn hpre
            rw [← HPP.out] at hex hbd
            obtain ⟨y, hy⟩ : ∃ y, y = (accL T p j).length := ⟨_, rfl⟩
            rw [hex, ← hy] at z3
            rw [sumA_snoc, ← hy] at hbd
            obtain ⟨k2, hk2⟩ : ∃ k2, k2 = k' + y := ⟨_, rfl⟩
            have HSM2 : Hid (k + sumA T p (stepsL ((T.getD i []).take (ci + 1))) = k2) := Lib.hid (by
              have := HSM.out
              rw [hsn, sumA_snoc, ← hy]
              omega)
            have hw3 : IntKind.i64.wrap ((k' : Int) + (y : Int)) = (k2 : Int) := by
              have := HSM.out
              rw [show (k' : Int) + (y : Int) = (k2 : Int) by omega]; exact wrapI (by omega)
            have hw4 : IntKind.i64.wrap ((n : Int) - (d : Int)) = (n : Int) - (d : Int) := wrapI (by omega)
            have hnd : (n : Int) - (d : Int) - 1 = (p : Int) := by have := HPP.out; omega
            have hw5 : IntKind.i64.wrap ((n : Int) - (d : Int) - 1) = (p : Int) := by rw [hnd]; exact wrapN (by omega)
            clear hx hsn hxr0 y2 z2 hx0 hpre hmem hex hy hk2 hbd
            go_wp2_with fail
            go_quiet (fail)
            have HB6 := Lib.hid (bl_drewN HBy.out nq)
            clear z1 z3 y1 y3 x1 x2 x3 HB4 HB5
            go_wp2_with fail
            go_roundw
            case rel => exact ⟨ci + 1, k2, by omega, by go_num, by go_num, HSM2, HB6⟩
            case measure => simp [intOf]; omega
          · have hx1 : x = -1 := by omega
            subst hx1
            have HSM2 : Hid (k + sumA T p (stepsL ((T.getD i []).take (ci + 1))) = k') := Lib.hid (by
              rw [hsn, if_neg (by omega), List.append_nil]
              exact HSM.out)
            clear hx hsn hxr0 y2 z2 hx0
            go_wp2_with fail
            go_roundw
            case rel => exact ⟨ci + 1, k', by omega, by go_num, by go_num, HSM2, HBy⟩
            case measure => simp [intOf]; omega
        · obtain rfl : ci = cW := by omega
          have hST : Hid (IndexAt T n wd (d + 1) jW k') := Lib.hid (by rw [← HSM.out]; exact HST.out)
          have y3 := y2 ci hcWq
          rw [hTW.out] at y3
          clear y2 z2 z1
          go_wp2_with fail
          go_quiet (fail)
          have HB6 := Lib.hid (bl_then HB.out (bl_drewN HBy.out nq))
          clear y1 y3 x1 x2 x3 HB4 HB5
          go_wp2_with fail
          go_roundw
          case rel => exact ⟨d + 1, k', jW, by omega, by go_num, by go_num, rfl, hjWN, hST, HB6⟩
          case measure => simp [intOf]; omega
    · obtain rfl : d = n := by omega
      have e := Lib.hid (HI.out.done HWL.out)
      have HF := Lib.hid (bl_then HB2.out (bl_then HB3.out HB.out))
      clear HI
      go_wp2_with fail
      go_ret
      exact ⟨by rw [e.out]; rfl, HF.out⟩
end Go.Proofs.Ytnamafakjkcmjaa
