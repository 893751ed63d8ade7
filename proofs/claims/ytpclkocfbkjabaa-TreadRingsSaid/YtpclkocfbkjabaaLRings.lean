/-
  The law TreadRings: the walk.
-/
import Derived.Test.YtpclkocfbkjabaaT36
import Derived.Test.YtpclkocfbkjabaaT34
import Derived.Test.YtpclkocfbkjabaaT31
import Derived.Test.YtpclkocfbkjabaaA16
namespace Go.Proofs.Ytpclkocfbkjabaa
open Go.RowKit Go.Shelf
set_option linter.unusedVariables false
set_option linter.unusedSimpArgs false

set_option maxRecDepth 100000 in
set_option maxHeartbeats 4000000 in
theorem TreadRings_no (q n : Int) (W : World) (hG : HasG W) (h : ¬ ((1 ≤ q ∧ q ≤ 3) ∧ (1 ≤ n ∧ n ≤ 5))) :
    Calls Try.prog 6 #[.int .i64 q, .int .i64 n] W fun e w' => e = .returned (.bool true) ∧ Below W.heap.size W w' := by
  have RN := Lib.hid fun W => Rings_no q n W h
  have FN := Lib.hid fun W => Few_no q n W h
  have AW := Lib.hid fun W h => awake_any W h
  have HG := Lib.hid hG
  clear hG
  have tail : q < 1 ∨ (¬ q < 1 ∧ 3 < q) ∨ (¬ q < 1 ∧ ¬ 3 < q ∧ n < 1) ∨ (¬ q < 1 ∧ ¬ 3 < q ∧ ¬ n < 1 ∧ 5 < n) := by omega
  clear h
  rcases tail with h | ⟨h1, h⟩ | ⟨h1, h2, h⟩ | ⟨h1, h2, h3, h⟩
  all_goals
    go_enter Try.func6, Try.ntmps6
    go_wp2_with fail
    refine (RN.out _).mono ?_
    rintro e w1 ⟨rfl, hb1⟩
    have HB1 := Lib.hid hb1
    clear hb1
    go_wp2_with fail
    refine (FN.out _).mono ?_
    rintro e w2 ⟨rfl, hb2⟩
    have HB2 := Lib.hid (bl_then HB1.out hb2)
    clear hb2
    go_wp2_with fail
    refine (AW.out _ (HG.out.kept HB2.out)).mono ?_
    rintro e w5 ⟨rfl, hb5⟩
    have HB5 := Lib.hid (bl_then HB2.out hb5)
    clear hb5
    go_wp2_with fail
    go_ret
    exact ⟨rfl, HB5.out⟩
set_option maxRecDepth 100000 in
set_option maxHeartbeats 4000000 in
theorem TreadRings_walk (q n : Int) (W : World) (hq : (Lit.int .i64 q).wf = true) (hn : (Lit.int .i64 n).wf = true) (hG : HasG W) :
    Calls Try.prog 6 #[.int .i64 q, .int .i64 n] W fun e w' => e = .returned (.bool true) ∧ Below W.heap.size W w' := by
  by_cases h : (1 ≤ q ∧ q ≤ 3) ∧ (1 ≤ n ∧ n ≤ 5)
  · obtain ⟨q, rfl⟩ : ∃ k : Nat, q = k := ⟨q.toNat, by omega⟩
    obtain ⟨n, rfl⟩ : ∃ k : Nat, n = k := ⟨n.toNat, by omega⟩
    have hq : 1 ≤ q ∧ q ≤ 3 := by omega
    have hn : 1 ≤ n ∧ n ≤ 5 := by omega
    have ra := fun W => Rings_any q n hq hn W
    have rr := fun W => refRings_any q n hq hn W
    rw [refR_ringsL hq hn] at rr
    have hcnt := cntR_ringsL hq hn
    obtain ⟨hpos, h51⟩ := cntR_pos hq hn
    have hok := ringsL_ok q n
    have AW := Lib.hid fun W h => awake_any W h
    have HG := Lib.hid hG
    have d1 : ¬ (q : Int) < 1 := by omega
    have d2 : ¬ (3 : Int) < (q : Int) := by omega
    have d3 : ¬ (n : Int) < 1 := by omega
    have d4 : ¬ (5 : Int) < (n : Int) := by omega
    have TX := Lib.hid fun v v' L W h h' hl => texts_same v v' L W h h' hl
    have FB := Lib.hid fun hl W => Few_big q n hq hn hl W
    have FA := Lib.hid fun (hl : cntR q n ≤ 12) W => Few_any q n hq hn (by omega) (by omega) (choose_pos hq hn hl) W
    have FT := Lib.hid fun (hl : cntR q n ≤ 12) => fewL_table hq hn hl
    have FF := Lib.hid fun (hl : cntR q n ≤ 12) => fewT_facts hq hn hl
    obtain ⟨F, hF⟩ : ∃ F, F = fewL q n := ⟨_, rfl⟩
    rw [← hF] at FA FT
    clear hF
    obtain ⟨RL, hRL⟩ : ∃ RL, RL = ringsL q n := ⟨_, rfl⟩
    rw [← hRL] at ra rr hcnt hok FB
    clear hRL
    obtain ⟨N, hN⟩ : ∃ N, N = RL.length := ⟨_, rfl⟩
    have HN := Lib.hid hN
    rw [← hN] at hcnt ra rr FB
    clear hN
    have RA := Lib.hid ra
    have RR := Lib.hid rr
    have HOK := Lib.hid hok
    have HQ := Lib.hid hq
    have HN5 := Lib.hid hn
    have HC := Lib.hid hcnt
    rw [← hcnt] at hpos h51
    clear ra rr hok hcnt hG h
    have FW : Hid (∀ W, Calls Try.prog 24 #[.int .i64 q, .int .i64 n] W fun e w' => ∃ vs fe, e = .returned (.tuple #[vs, .int .i64 fe]) ∧ Hid ((12 < N ∧ vs = .slice none 0 0 ∧ fe = 2) ∨ (N ≤ 12 ∧ fe = 0 ∧ StrsAt w' vs (F.map bs))) ∧ Below W.heap.size W w') := Lib.hid fun W => by
      by_cases h12 : 12 < N
      · refine (FB.out h12 W).mono ?_
        rintro e w2 ⟨rfl, hb⟩
        exact ⟨_, _, rfl, Lib.hid (.inl ⟨h12, rfl, rfl⟩), hb⟩
      · refine (FA.out (by rw [← HC.out]; omega) W).mono ?_
        rintro e w2 ⟨v, rfl, ho, hb⟩
        have hl : F.length ≤ 1000000 := by rw [FT.out (by rw [← HC.out]; omega), (FF.out (by rw [← HC.out]; omega)).1, ← HC.out]; omega
        refine ⟨_, _, rfl, Lib.hid (.inr ⟨by omega, rfl, strs_own (base := W.heap.size) ?_ (by simpa using hl)⟩), hb⟩
        rw [List.length_map, show encB (F.map bs) = encS F by unfold encB encS; rw [List.map_map]; rfl]
        exact ho
    clear FA FB
    go_enter Try.func6, Try.ntmps6
    go_wp2_with fail
    refine (RA.out _).mono ?_
    rintro e w1 ⟨v1, hdrs1, rfl, ho1, hr1, hb1⟩
    obtain ⟨g1, c1, rfl, _, hg1⟩ := own_form ho1 hpos
    have HO1 := Lib.hid ho1
    have HR1 := Lib.hid hr1
    have HB1 := Lib.hid hb1
    clear ho1 hr1 hb1
    go_wp2_with fail
    refine (FW.out _).mono ?_
    rintro e w2 ⟨vs, fe, rfl, HFE, hb2⟩
    have HO2 := Lib.hid (own_kept HO1.out hb2)
    have HR2 := Lib.hid ((HR1.out.kept hb2).mono hb2.size)
    have HB2 := Lib.hid (bl_then HB1.out hb2)
    have hg2 := Nat.lt_of_lt_of_le hg1 hb2.size
    clear hb2 HO1 HR1 hg1
    go_wp2_with fail
    refine (RR.out _).mono ?_
    rintro e w3 ⟨v3, hdrs3, rfl, ho3, hr3, hb3⟩
    obtain ⟨g3, c3, rfl, _, hg3⟩ := own_form ho3 hpos
    have HO3 := Lib.hid (own_kept HO2.out hb3)
    have HR3 := Lib.hid ((HR2.out.kept hb3).mono hb3.size)
    have HO4 := Lib.hid ho3
    have HR4 := Lib.hid hr3
    have HB3 := Lib.hid (bl_then HB2.out hb3)
    have HFE3 : Hid ((12 < N ∧ vs = .slice none 0 0 ∧ fe = 2) ∨ (N ≤ 12 ∧ fe = 0 ∧ StrsAt w3 vs (F.map bs))) := Lib.hid (by
      rcases HFE.out with h | ⟨h1, h2, h3⟩
      · exact .inl h
      · exact .inr ⟨h1, h2, h3.kept hb3⟩)
    have hg4 := Nat.lt_of_lt_of_le hg2 hb3.size
    clear hb3 ho3 hr3 HO2 HR2 HFE hg2
    go_wp2_with fail
    obtain ⟨W3, hW3⟩ : ∃ W3, W3 = w3 := ⟨_, rfl⟩
    rw [← hW3] at HO3 HR3 HO4 HR4 HB3 HFE3 hg3 hg4 ⊢
    clear hW3
    go_loopw [10] (fun i wr => ∃ k : Nat, k ≤ N ∧ i = .int .i64 k ∧ Hid (Below W3.heap.size W3 wr)) (fun i _ => N - (intOf i).toNat)
    case atStart => exact ⟨0, Nat.zero_le _, rfl, Lib.hid (bl_refl W3)⟩
    case round =>
      obtain ⟨k, hk, rfl, HB⟩ := hrel
      by_cases hkN : k < N
      · have hkw : k < RL.length := by have := HN.out; omega
        obtain ⟨x1, e1, t1⟩ := ((HR3.out.kept HB.out).texts hkw)
        obtain ⟨x2, e2, t2⟩ := ((HR4.out.kept HB.out).texts hkw)
        have ce1 := (HB.out.cell (p := ⟨g1, k, none⟩) hg4).trans ((HO3.out.cellAt k (by omega)).trans e1)
        have ce2 := (HB.out.cell (p := ⟨g3, k, none⟩) hg3).trans ((HO4.out.cellAt k (by omega)).trans e2)
        have l1 : g1 < wr.heap.size := Nat.lt_of_lt_of_le hg4 HB.out.size
        have l3 : g3 < wr.heap.size := Nat.lt_of_lt_of_le hg3 HB.out.size
        have hrow : ((RL.getD k []).map bs).length ≤ 1000000 := by
          rw [List.length_map]
          have h1 := HN5.out
          have := (HOK.out (RL.getD k []) (by rw [List.getD_eq_getElem?_getD, List.getElem?_eq_getElem hkw]; exact List.getElem_mem hkw)).1
          omega
        have TXK := Lib.hid fun W hb => TX.out x1 x2 _ W (t1.kept hb) (t2.kept hb) hrow
        have hk1 : (k : Int) < (N : Int) := by omega
        have hk0 : (0 : Int) ≤ (k : Int) := by omega
        clear t1 t2 e1 e2 hrow
        go_wp2_with fail
        go_region_held3 (fun w' => w'.cell? ⟨g1, k, none⟩ = some x1 ∧ w'.cell? ⟨g3, k, none⟩ = some x2)
          (first
            | go_keep
            | exact ⟨(hb6.cell (p := ⟨g1, k, none⟩) l1).trans ce1, (hb6.cell (p := ⟨g3, k, none⟩) l3).trans ce2⟩)
          (first
            | ((go_at_call 26); (refine (TXK.out _ (bl_drewN (bl_refl wr) 1)).mono ?_); (rintro e w6 ⟨rfl, hb6⟩)))
        have HB6 := Lib.hid (bl_then (bl_drewN HB.out 1) hb6)
        clear hb6 HB ce1 ce2 l1 l3
        go_wp2_with fail
        go_roundw
        case rel => exact ⟨k + 1, by omega, by go_num, HB6⟩
        case measure => simp [intOf]; omega
      · have ek : N = k := by omega
        subst ek
        have HBF := Lib.hid (bl_then HB3.out HB.out)
        rcases HFE3.out with ⟨h12, rfl, rfl⟩ | ⟨h12, rfl, hS⟩
        · have d12 : (12 : Int) < (N : Int) := by omega
          go_wp2_with fail
          refine (AW.out _ (HG.out.kept HBF.out)).mono ?_
          rintro e w5 ⟨rfl, hb5⟩
          have HB5 := Lib.hid (bl_then HBF.out hb5)
          clear hb5
          go_wp2_with fail
          go_ret
          exact ⟨rfl, HB5.out⟩
        · have d12 : ¬ (12 : Int) < (N : Int) := by omega
          have hle : cntR q n ≤ 12 := by rw [← HC.out]; exact h12
          obtain ⟨f1, f2, f3, f4⟩ := FF.out hle
          have hFT := FT.out hle
          rw [← hFT] at f1 f2 f3 f4
          rw [← HC.out] at f1
          have HS := Lib.hid (hS.kept HB.out)
          have hpf : pats (F.map bs) = F := pats_bs F
          have UN := Lib.hid fun v W h => Unav_any q HQ.out v (F.map bs) W h (fun p hp => by obtain ⟨s, hs, rfl⟩ := List.mem_map.1 hp; have := f4 s hs; show s.length ≤ 1000; have := HN5.out; omega) (by rw [List.length_map]; omega) (ok_nil (pats_some f2))
          have SE := Lib.hid fun v W h => Set_any q v (F.map bs) W h (fun p hp => by obtain ⟨s, hs, rfl⟩ := List.mem_map.1 hp; have := f4 s hs; show s.length ≤ _; have := HN5.out; omega)
          have hends : endsB (tabL F q) = true := by unfold endsB; rw [f3]; rfl
          rw [hpf, hends] at UN
          rw [f2] at SE
          obtain ⟨A, cA, hv, hAc, hAm, hA⟩ := HS.out
          rw [List.length_map, f1] at hv hA
          subst hv
          have HA := Lib.hid hA
          have HF4 := Lib.hid f4
          have HF1 := Lib.hid f1
          clear f1 f2 f3 f4 hFT hS hpf hends hA hAc hAm hle
          go_wp2_with fail
          refine (SE.out _ _ HS.out).mono ?_
          rintro e w4 ⟨rfl, hb4⟩
          have HS4 := Lib.hid (HS.out.kept hb4)
          have HB4 := Lib.hid hb4
          clear hb4
          go_wp2_with fail
          refine (UN.out _ _ HS4.out).mono ?_
          rintro e w5 ⟨rfl, hb5⟩
          have HB5 := Lib.hid (bl_then HB4.out hb5)
          clear hb5
          go_wp2_with fail
          obtain ⟨W0, hW0⟩ : ∃ W0, W0 = wr := ⟨_, rfl⟩
          rw [← hW0] at HBF HB5 HA
          clear hW0 HS HB4 HS4
          go_loopw [11] (fun i wx => ∃ k : Nat, k ≤ N ∧ i = .int .i64 k ∧ Hid (Below W0.heap.size W0 wx)) (fun i _ => N - (intOf i).toNat)
          case atStart => exact ⟨0, Nat.zero_le _, rfl, HB5⟩
          case round =>
            obtain ⟨k, hk, rfl, HBx⟩ := hrel
            by_cases hkN : k < N
            · obtain ⟨g, off, rfl, hg, hc⟩ := HA.out hpos
              have ce := (HBx.out.cell (p := ⟨g, off + k, none⟩) hg).trans (hc k hkN)
              have hkF : k < F.length := by have := HF1.out; omega
              have eF : (F.map bs).getD k ByteArray.empty = bs F[k] := by rw [List.getD_eq_getElem?_getD, List.getElem?_map, List.getElem?_eq_getElem hkF]; rfl
              rw [eF] at ce
              have hsz : (bs F[k]).size = n := HF4.out _ (List.getElem_mem hkF)
              obtain ⟨b, hb⟩ : ∃ b, b = bs F[k] := ⟨_, rfl⟩
              rw [← hb] at ce hsz
              have lg : g < wr.heap.size := Nat.lt_of_lt_of_le hg HBx.out.size
              have hk1 : (k : Int) < (N : Int) := by omega
              clear hb eF hc
              go_wp2_with fail
              go_roundw
              case rel => exact ⟨k + 1, by omega, by go_num, HBx⟩
              case measure => simp [intOf]; omega
            · have ek : N = k := by omega
              subst ek
              have HBG := Lib.hid (bl_then HBF.out HBx.out)
              go_wp2_with fail
              refine (AW.out _ (HG.out.kept HBG.out)).mono ?_
              rintro e w6 ⟨rfl, hb6⟩
              have HB6 := Lib.hid (bl_then HBG.out hb6)
              clear hb6
              go_wp2_with fail
              go_ret
              exact ⟨rfl, HB6.out⟩
  · exact TreadRings_no q n W hG h
end Go.Proofs.Ytpclkocfbkjabaa
