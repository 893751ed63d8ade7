/-
  The reference: Item.
-/
import Derived.Test.YtnamafakjkcmjaaT44
import Derived.Test.YtnamafakjkcmjaaT45
namespace Go.Proofs.Ytnamafakjkcmjaa
open Go.RowKit Go.Shelf
set_option linter.unusedVariables false
set_option linter.unusedSimpArgs false

def ItemStr (T : Tab) (n K : Nat) (e : Ending) : Prop := ∃ s, (accL T n 0)[K]? = some s ∧ e = .returned (.string (bs s))
set_option maxRecDepth 100000 in
set_option maxHeartbeats 8000000 in
theorem RItem_any (q n K : Nat) (hq : 1 ≤ q ∧ q ≤ 3) (hn : n ≤ 60) (v : Value) (ss : List ByteArray) (w : World) (T : Tab) (hTd : T = tabL (pats ss) q) (hv : StrsAt w v ss) (hz : ∀ p ∈ ss, p.size ≤ 1000) (hl : ss.length ≤ 1000) (h0 : okL (pats ss) [] = true)
    (hfew : fewB T n = true) (hK : K < (accL T n 0).length) :
    Calls Try.prog 22 #[.int .i64 q, v, .int .i64 n, .int .i64 K] w fun e w' => ItemStr T n K e ∧ Below w.heap.size w w' := by
  have hmix : Try.prog.follows .mixedOrders = true := by kernel_rfl
  have hT := tab_ok (q := q) h0
  have hS := stL_few (pats ss) hq.2
  have hS0 : 0 < (stL (pats ss) q).length := by rw [stL_fix h0]; simp
  have OF := Lib.hid (Of_any q hq v ss w hv hz hl h0)
  rw [← hTd] at OF hT
  obtain ⟨S, hSd⟩ : ∃ S, S = stL (pats ss) q := ⟨_, rfl⟩
  rw [← hSd] at OF hT hS hS0
  have CN := Lib.hid fun g W base h => Counts_any q n base hq (by omega) g S T W h hT hS hS0
  obtain ⟨N, hN⟩ : ∃ N, N = S.length := ⟨_, rfl⟩
  have HN := Lib.hid hN
  rw [← hN] at CN hS0 hT hS
  have HI0 := Lib.hid (ItemAt.start hfew hK)
  have HT := Lib.hid hT
  have hK2 := (few_len hfew (Nat.le_refl n)).1
  clear hv hz hl h0 hTd hSd hN hT hfew hK hK2
  go_enter Try.func22, Try.ntmps22
  go_wp2_with fail
  refine OF.out.mono ?_
  rintro e w1 ⟨g, rfl, hg, r1⟩
  obtain ⟨vS, vT, thdrs, rfl, g1, g2, g3⟩ := hg
  have hTl := HT.out.len
  rw [hTl] at g2
  rw [← HN.out] at g1
  obtain ⟨gS, cS, rfl, _, hgS2⟩ := own_form g1 hS0
  obtain ⟨gT, cT, rfl, _, hgT2⟩ := own_form g2 hS0
  obtain ⟨B, hB⟩ : ∃ B, B = w1.heap.size := ⟨_, rfl⟩
  obtain ⟨w2, hw2⟩ : ∃ w2, w2 = w1.alloc (.cells #[.slice (some ⟨gS, 0, none⟩) N cS, .slice (some ⟨gT, 0, none⟩) N cT] 72) := ⟨_, rfl⟩
  have b12 : Below w1.heap.size w1 w2 := by rw [hw2]; exact bl_alloc (bl_refl w1) _
  have hx1 : Whole w2 B 72 #[.slice (some ⟨gS, 0, none⟩) N cS, .slice (some ⟨gT, 0, none⟩) N cT] := by rw [hw2, hB]; exact Whole.new w1 _ _
  have HG2 : Hid (GraphV w2 w.heap.size (.agg #[.slice (some ⟨gS, 0, none⟩) N cS, .slice (some ⟨gT, 0, none⟩) N cT]) S T) := Lib.hid (GraphV.kept (show GraphV w1 w.heap.size _ S T from ⟨_, _, thdrs, rfl, by rw [← HN.out]; exact g1, by rw [hTl]; exact g2, g3⟩) b12)
  have HROW : Hid (∀ i, i < N → ∃ b c, b < w2.heap.size ∧ gT < w2.heap.size ∧ ∀ W', Below w2.heap.size w2 W' → W'.cell? ⟨gT, i, none⟩ = some (.slice (some ⟨b, 0, none⟩) q c) ∧ ∀ j, j < q → W'.cell? ⟨b, j, none⟩ = some (.int .i64 ((T.getD i []).getD j 0))) := Lib.hid fun i hi => by
    obtain ⟨b, c, e1, e2, e3⟩ := g3.row (W := w1) (i := i) (by omega)
    rw [(HT.out.at hi).1] at e1 e3
    refine ⟨b, c, Nat.lt_of_lt_of_le e2 b12.size, Nat.lt_of_lt_of_le hgT2 b12.size, fun W' hb => ⟨?_, fun j hjq => ?_⟩⟩
    · have hb' := b12.trans (hb.mono b12.size)
      exact (hb'.cell (p := ⟨gT, i, none⟩) hgT2).trans ((g2.cellAt i (by omega)).trans e1)
    · have hb' := b12.trans (hb.mono b12.size)
      exact (hb'.cell (p := ⟨b, j, none⟩) e2).trans (e3 j hjq)
  have HX : Hid (∀ W', Below w2.heap.size w2 W' → W'.cell? ⟨B, 0, none⟩ = some (.slice (some ⟨gS, 0, none⟩) N cS) ∧ W'.cell? ⟨B, 1, none⟩ = some (.slice (some ⟨gT, 0, none⟩) N cT) ∧ B < W'.heap.size) := Lib.hid fun W' hb => by
    have := hx1.kept hb
    exact ⟨(this.cell 0).trans rfl, (this.cell 1).trans rfl, this.lt⟩
  have HB2 := Lib.hid (bl_then r1 b12)
  have HBB := Lib.hid hB
  obtain ⟨x1, x2, x3⟩ := HX.out w2 (bl_refl w2)
  clear g1 g2 g3 hx1 b12 r1 hTl hgT2 hB
  go_wp2_with fail
  rw [← hw2, ← HBB.out]
  clear hw2
  refine (CN.out _ w2 _ HG2.out).mono ?_
  rintro e w3 ⟨cv, chdrs, rfl, c1, c2, r3⟩
  obtain ⟨gC, cC, rfl, _, _⟩ := own_form c1 (by omega)
  have HC := Lib.hid (cntAt_of c1 c2)
  have HB3 := Lib.hid r3
  clear c1 c2 r3 x1 x2 x3
  go_wp2_with fail
  go_loopw [2, 3, 11, 12] (fun nv kv sv av wr => ∃ (m k i : Nat) (out : Str), m ≤ n ∧ nv = .int .i64 m ∧ kv = .int .i64 k ∧ sv = .string (bs out) ∧ av = .int .i64 i ∧ i < N ∧ Hid (ItemAt T n K m i k out) ∧ Hid (Below w3.heap.size w3 wr)) (fun nv _ _ _ _ => (intOf nv).toNat)
  case atStart => exact ⟨n, K, 0, [], Nat.le_refl _, rfl, rfl, rfl, rfl, hS0, HI0, Lib.hid (bl_refl w3)⟩
  case round =>
    obtain ⟨m, k, i, out, hm, rfl, rfl, rfl, rfl, hi, HI, HB⟩ := hrel
    clear HI0
    by_cases hm0 : m = 0
    · subst hm0
      have e := Lib.hid HI.out.done
      have HF := Lib.hid (bl_then HB2.out (bl_then HB3.out HB.out))
      clear HI
      go_wp2_with fail
      go_ret
      exact ⟨⟨out, e.out, rfl⟩, HF.out⟩
    · obtain ⟨p, hp⟩ : ∃ p, m = p + 1 := ⟨m - 1, by omega⟩
      have hpm : (m : Int) - 1 = (p : Int) := by omega
      have hm1 : (0 : Int) < (m : Int) := by omega
      have hp1 : p < n := by omega
      obtain ⟨b, c, lb, lT, hrow⟩ := HROW.out i hi
      obtain ⟨bc, cc, lbc, hcrow⟩ := HC.out.2 p (by omega)
      have HRW := Lib.hid hrow
      have HCW := Lib.hid hcrow
      have HTR := Lib.hid (HT.out.at hi)
      have HIP : Hid (ItemAt T n K (p + 1) i k out) := Lib.hid (by rw [← hp]; exact HI.out)
      have HPP := Lib.hid hp
      have hlC := HC.out.1
      have HOL : Hid (out.length ≤ 60) := Lib.hid (by have := HIP.out.len; omega)
      have hpK : (p : Int) < (n : Int) + 1 := by omega
      clear hrow hcrow hp hm0 HI
      go_wp2_with fail
      obtain ⟨W3, hW3⟩ : ∃ W3, W3 = wr := ⟨_, rfl⟩
      rw [← hW3] at HB ⊢
      clear hW3
      simp only [show 0 < m by omega, decide_true]
      go_loopw [3, 13] (fun kv cv wx => ∃ (c k' : Nat), c ≤ q ∧ kv = .int .i64 k' ∧ cv = .int .i64 c ∧ Hid (k' + sumA T p (stepsL ((T.getD i []).take c)) = k) ∧ Hid (Below W3.heap.size W3 wx)) (fun _ cv _ => q - (intOf cv).toNat)
      case atStart => exact ⟨0, k, Nat.zero_le _, rfl, rfl, Lib.hid (by simp [stepsL, sumA]), Lib.hid (bl_refl W3)⟩
      case round =>
        obtain ⟨ci, k', hci, rfl, rfl, HSM, HBy⟩ := hrel
        have hcq : ci < q := by
          apply Nat.lt_of_le_of_ne hci
          intro e
          have h := HSM.out
          rw [e, List.take_of_length_le (by rw [HTR.out.1]; exact Nat.le_refl _)] at h
          exact HIP.out.not_all (by show sumA T p (stepsL (T.getD i [])) ≤ k; omega)
        have HB4 := Lib.hid (bl_then HB.out HBy.out)
        have HB5 := Lib.hid (bl_then HB3.out HB4.out)
        obtain ⟨x1, x2, x3⟩ := HX.out wr HB5.out
        obtain ⟨y1, y2⟩ := HRW.out wr HB5.out
        obtain ⟨z1, z2⟩ := HCW.out wr HB4.out
        have lT' := Nat.lt_of_lt_of_le lT HB5.out.size
        have lb' := Nat.lt_of_lt_of_le lb HB5.out.size
        have lgC' := Nat.lt_of_lt_of_le hlC HB4.out.size
        have lbc' := Nat.lt_of_lt_of_le lbc HB4.out.size
        have hcq' : (ci : Int) < (q : Int) := by omega
        have y3 := y2 ci hcq
        have hsn := steps_snoc (row := T.getD i []) (k := ci) (by rw [HTR.out.1]; exact hcq)
        have hxr0 := row_range HT.out hi hcq
        obtain ⟨x, hx⟩ : ∃ x, x = (T.getD i []).getD ci 0 := ⟨_, rfl⟩
        rw [← hx] at y3 hsn hxr0
        by_cases hx0 : 0 ≤ x
        · obtain ⟨j, rfl⟩ : ∃ j : Nat, x = j := ⟨x.toNat, by omega⟩
          have hjN : j < N := by omega
          have hjN' : (j : Int) < (N : Int) := by omega
          have hj0 : ¬ (j : Int) < (0 : Int) := by omega
          have z3 := z2 j hjN
          rw [if_pos (by omega), Int.toNat_natCast] at hsn
          have hpre : stepsL ((T.getD i []).take ci) ++ [(ci, j)] <+: stp T i := by rw [← hsn]; exact steps_prefix _ _
          have hmem : (ci, j) ∈ stp T i := hpre.subset (by simp)
          obtain ⟨hex, hexb⟩ := HIP.out.exact hmem
          obtain ⟨y, hy⟩ : ∃ y, y = (accL T p j).length := ⟨_, rfl⟩
          rw [hex, ← hy] at z3
          rw [← hy] at hexb
          by_cases hc0 : y ≤ k'
          · obtain ⟨k2, hk2⟩ : ∃ k2, k2 = k' - y := ⟨_, rfl⟩
            have HSM2 : Hid (k2 + sumA T p (stepsL ((T.getD i []).take (ci + 1))) = k) := Lib.hid (by
              have := HSM.out
              rw [hsn, sumA_snoc, ← hy]
              omega)
            have hw3 : IntKind.i64.wrap ((k' : Int) - (y : Int)) = (k2 : Int) := by
              have h1 := HIP.out.lt
              have h2 := HIP.out.few
              have h3 := HSM.out
              have h4 : most1 = 1152921504606846977 := rfl
              rw [show (k' : Int) - (y : Int) = (k2 : Int) by omega]; exact wrapI (by omega)
            have hyk : (y : Int) ≤ (k' : Int) := by omega
            clear hx hsn hxr0 y2 z2 hx0 hpre hmem hex hy hk2 hc0 hexb
            go_wp2_with fail
            have hw1 := wrapN (D := p) (by omega)
            have hw2 : IntKind.i64.wrap (p : Int) = (p : Int) := hw1
            go_quiet (fail)
            have HB5a := Lib.hid (bl_drewN HBy.out nq)
            go_wp2_with fail
            go_quiet (fail)
            have HB6 := Lib.hid (bl_drewN HB5a.out nq)
            clear hw1 hw2 z1 z3 y1 y3 x1 x2 x3 HB4 HB5
            go_wp2_with fail
            go_roundw
            case rel => exact ⟨ci + 1, k2, by omega, by go_num, by go_num, HSM2, Lib.hid (bl_drewN HBy.out _)⟩
            case measure => simp [intOf]; omega
          · have hST : Hid (ItemAt T n K p j k' (out ++ [ltr ci])) := Lib.hid (by
              have h := HSM.out
              have := HIP.out.step hpre (by omega) (by rw [← hy]; omega)
              rwa [show k - sumA T p (stepsL ((T.getD i []).take ci)) = k' by omega] at this)
            have hyk : ¬ (y : Int) ≤ (k' : Int) := by omega
            clear hx hsn hxr0 y2 z2 hx0 hpre hmem hex hy hc0 hexb
            go_wp2_with fail
            have hw1 := wrapN (D := p) (by omega)
            go_quiet (fail)
            have HB6 := Lib.hid (bl_drewN HBy.out nq)
            clear hw1 z1 z3 HB5
            obtain ⟨tt, htt⟩ : ∃ tt, tt = out ++ [ltr ci] := ⟨_, rfl⟩
            have happ : bs out ++ bs [ltr ci] = bs tt := by rw [htt]; exact bs_append _ _
            have habc := abc_at hcq hq.2
            rw [← htt] at hST
            have zs1 : (bs out).size ≤ 60 := HOL.out
            have zs2 : (bs [ltr ci]).size ≤ 1 := Nat.le_refl _
            obtain ⟨D, hD⟩ : ∃ D, D = ci + 1 := ⟨_, rfl⟩
            have hw1 : IntKind.i64.wrap ((ci : Int) + 1) = (D : Int) := by rw [show (ci : Int) + 1 = (D : Int) by omega]; exact wrapN (by omega)
            have hc3 : (D : Int) ≤ 3 := by omega
            have hc4 : (ci : Int) ≤ (D : Int) := by omega
            rw [← hD] at habc
            clear hD
            have hc5 : (0 : Int) ≤ (ci : Int) := Int.natCast_nonneg ci
            have hsum : ¬ 9223372036854775807 < (bs out).size + (bs [ltr ci]).size := by omega
            have hwp := wrapN (D := p) (by omega)
            clear htt
            go_wp2_with fail
            go_roundw
            case rel =>
              refine ⟨p, k', j, tt, by omega, by first | rfl | go_num, by first | rfl | go_num, ?_, by first | rfl | go_num, by omega, hST, Lib.hid (bl_then HB.out HB6.out)⟩
              first | rfl | simp [happ, habc]
            case measure => simp [intOf]; have := HPP.out; omega
        · have hx1 : x = -1 := by omega
          subst hx1
          have HSM2 : Hid (k' + sumA T p (stepsL ((T.getD i []).take (ci + 1))) = k) := Lib.hid (by
            rw [hsn, if_neg (by omega), List.append_nil]
            exact HSM.out)
          clear hx hsn hxr0 y2 z2 hx0
          go_wp2_with fail
          go_quiet (fail)
          have HB6 := Lib.hid (bl_drewN HBy.out nq)
          go_wp2_with fail
          go_roundw
          case rel => exact ⟨ci + 1, k', by omega, by go_num, by go_num, HSM2, HB6⟩
          case measure => simp [intOf]; omega
end Go.Proofs.Ytnamafakjkcmjaa
