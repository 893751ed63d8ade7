/-
  The reference: After, Extend.
-/
import Derived.Test.YtpclkocfbkjabaaT44
import Derived.Test.YtpclkocfbkjabaaT45
namespace Go.Proofs.Ytpclkocfbkjabaa
open Go.RowKit Go.Shelf
set_option linter.unusedVariables false
set_option linter.unusedSimpArgs false

def aftI (T : Tab) (s : Str) : Int := match runT T 0 s with | some i => (i : Int) | none => -1
set_option maxRecDepth 100000 in
set_option maxHeartbeats 8000000 in
theorem After_any (q base : Nat) (hq : 1 ≤ q ∧ q ≤ 3) (g : Value) (S : List Str) (T : Tab) (wd : Str) (w : World) (hg : GraphV w base g S T) (hT : TabOk T S.length q) (hS : S.length ≤ 121) (hS0 : 0 < S.length) (hwl : Lett q wd) (hwz : wd.length ≤ 1000) :
    Calls Try.prog 66 #[g, .string (bs wd)] w fun e w' => e = .returned (.int .i64 (aftI T wd)) ∧ Below w.heap.size w w' := by
  have hmix : Try.prog.follows .mixedOrders = true := by kernel_rfl
  obtain ⟨vS, vT, thdrs, rfl, g1, g2, g3⟩ := hg
  obtain ⟨N, hN⟩ : ∃ N, N = S.length := ⟨_, rfl⟩
  rw [← hN] at hT hS g1 hS0
  have hTl := hT.len
  rw [hTl] at g2
  clear hN
  obtain ⟨gS, cS, rfl, _, _⟩ := own_form g1 hS0
  obtain ⟨gT, cT, rfl, _, hgT2⟩ := own_form g2 hS0
  obtain ⟨B, hB⟩ : ∃ B, B = w.heap.size := ⟨_, rfl⟩
  obtain ⟨W1, hW1⟩ : ∃ W1, W1 = w.alloc (.cells #[.slice (some ⟨gS, 0, none⟩) N cS, .slice (some ⟨gT, 0, none⟩) N cT] 71) := ⟨_, rfl⟩
  have hb1 : Below w.heap.size w W1 := by rw [hW1]; exact bl_alloc (bl_refl w) _
  have hx1 : Whole W1 B 71 #[.slice (some ⟨gS, 0, none⟩) N cS, .slice (some ⟨gT, 0, none⟩) N cT] := by rw [hW1, hB]; exact Whole.new w _ _
  have HROW : Hid (∀ i, i < N → ∃ b c, b < W1.heap.size ∧ gT < W1.heap.size ∧ B < W1.heap.size ∧ ∀ W', Below W1.heap.size W1 W' → W'.cell? ⟨gT, i, none⟩ = some (.slice (some ⟨b, 0, none⟩) q c) ∧ ∀ j, j < q → W'.cell? ⟨b, j, none⟩ = some (.int .i64 ((T.getD i []).getD j 0))) := Lib.hid fun i hi => by
    obtain ⟨b, c, e1, e2, e3⟩ := g3.row (W := w) (i := i) (by omega)
    rw [(hT.at hi).1] at e1 e3
    refine ⟨b, c, Nat.lt_of_lt_of_le e2 hb1.size, Nat.lt_of_lt_of_le hgT2 hb1.size, hx1.lt, fun W' hb => ⟨?_, fun j hjq => ?_⟩⟩
    · have hb' := hb1.trans (hb.mono hb1.size)
      exact (hb'.cell (p := ⟨gT, i, none⟩) hgT2).trans ((g2.cellAt i (by omega)).trans e1)
    · have hb' := hb1.trans (hb.mono hb1.size)
      exact (hb'.cell (p := ⟨b, j, none⟩) e2).trans (e3 j hjq)
  have HX : Hid (∀ W', Below W1.heap.size W1 W' → W'.cell? ⟨B, 0, none⟩ = some (.slice (some ⟨gS, 0, none⟩) N cS) ∧ W'.cell? ⟨B, 1, none⟩ = some (.slice (some ⟨gT, 0, none⟩) N cT) ∧ B < W'.heap.size) := Lib.hid fun W' hb => by
    have := hx1.kept hb
    exact ⟨(this.cell 0).trans rfl, (this.cell 1).trans rfl, this.lt⟩
  have HT := Lib.hid hT
  have HB1 := Lib.hid hb1
  have HLT := Lib.hid hwl
  have hB' := hB
  obtain ⟨Z, hZ⟩ : ∃ Z, Z = wd.length := ⟨_, rfl⟩
  have HZ := Lib.hid hZ
  have hzs : (bs wd).size = Z := hZ.symm
  rw [← hZ] at hwz
  clear g1 g2 g3 hb1 hx1 hT hgT2 hTl hB hwl hZ
  go_enter Try.func66, Try.ntmps66
  go_wp2_with fail
  rw [← hW1, ← hB']
  clear hW1 hB'
  go_loopw [5, 6] (fun av kv wr => ∃ (k : Nat) (x : Int), k ≤ Z ∧ kv = .int .i64 k ∧ av = .int .i64 x ∧ Hid (x = aftI T (wd.take k)) ∧ Hid (x < N) ∧ Hid (Below W1.heap.size W1 wr)) (fun _ kv _ => Z - (intOf kv).toNat)
  case atStart => exact ⟨0, 0, Nat.zero_le _, rfl, rfl, Lib.hid rfl, Lib.hid (by omega), Lib.hid (bl_refl W1)⟩
  case round =>
    obtain ⟨k, x, hk, rfl, rfl, HA, HXN, HB⟩ := hrel
    have HF := Lib.hid (bl_then HB1.out HB.out)
    by_cases hlt : k < Z
    · have hkz : (k : Int) < (Z : Int) := by omega
      by_cases hx0 : 0 ≤ x
      · obtain ⟨i, rfl⟩ : ∃ i : Nat, x = i := ⟨x.toNat, by omega⟩
        have hi : i < N := by have := HXN.out; omega
        have hR : runT T 0 (wd.take k) = some i := by
          have := HA.out
          unfold aftI at this
          split at this
          · rename_i j hj
            rw [hj]; congr 1; omega
          · omega
        have hkl : k < wd.length := by have := HZ.out; omega
        have hks : k < (bs wd).size := by omega
        obtain ⟨c, hcq, hcw⟩ : ∃ c, c < q ∧ wd[k]'hkl = ltr c := HLT.out _ (List.getElem_mem hkl)
        obtain ⟨b, hb⟩ : ∃ b, (bs wd)[k]'hks = b := ⟨_, rfl⟩
        have hbc : b = ltr c := by rw [← hb]; exact hcw
        have hcc : ((b.toNat : Int) - 97) % 256 = (c : Int) := by rw [hbc, ltr_nat (by omega)]; omega
        have hcq' : (c : Int) < (q : Int) := by omega
        have hc0 : (0 : Int) ≤ (c : Int) := by omega
        obtain ⟨rb, rc, lb, lT, lB, hrow⟩ := HROW.out i hi
        obtain ⟨x1, x2, x3⟩ := HX.out wr HB.out
        obtain ⟨y1, y2⟩ := hrow wr HB.out
        have y3 := y2 c hcq
        have lT' := Nat.lt_of_lt_of_le lT HB.out.size
        have lb' := Nat.lt_of_lt_of_le lb HB.out.size
        obtain ⟨y, hy⟩ : ∃ y, y = (T.getD i []).getD c 0 := ⟨_, rfl⟩
        rw [← hy] at y3
        have hrs := run_take_succ hkl hR
        rw [hcw, to_at (by omega) (by rw [(HT.out.at hi).1]; exact hcq), ← hy] at hrs
        have hyr : y = -1 ∨ (0 ≤ y ∧ y < N) := by rw [hy]; exact row_range HT.out hi hcq
        have HA2 : Hid (y = aftI T (wd.take (k + 1))) := Lib.hid (by
          unfold aftI
          rw [hrs]
          by_cases h0 : 0 ≤ y
          · rw [if_pos h0]; simp only []; omega
          · rw [if_neg h0]; simp only []; omega)
        have HYN : Hid (y < N) := Lib.hid (by omega)
        have hiN : (i : Int) < (N : Int) := by omega
        have hi0 : (0 : Int) ≤ (i : Int) := by omega
        clear hcw hbc hrs hyr hy y2 hrow hR
        go_wp2_with fail
        go_quiet (fail)
        have HB4 := Lib.hid (bl_drewN HB.out nq)
        clear x1 x2 x3 y1 y3
        go_wp2_with fail
        go_roundw
        case rel => exact ⟨k + 1, y, by omega, by go_num, rfl, HA2, HYN, HB4⟩
        case measure => simp [intOf]; omega
      · have hR : Hid (x = aftI T wd) := Lib.hid (by
          have := HA.out
          unfold aftI at this ⊢
          split at this
          · omega
          · rename_i h
            rw [run_take_none h]
            exact this)
        go_wp2_with fail
        go_ret
        exact ⟨by rw [← hR.out]; rfl, HF.out⟩
    · have hR : Hid (x = aftI T wd) := Lib.hid (by
        have h := HA.out
        rw [List.take_of_length_le (by rw [← HZ.out]; omega)] at h
        exact h)
      go_wp2_with fail
      go_ret
      exact ⟨by rw [← hR.out]; rfl, HF.out⟩
set_option maxRecDepth 100000 in
set_option maxHeartbeats 8000000 in
theorem RExtend_any (q n : Nat) (hq : 1 ≤ q ∧ q ≤ 3) (v : Value) (ss : List ByteArray) (wd : Str) (w : World) (T : Tab) (hTd : T = tabL (pats ss) q) (hv : StrsAt w v ss) (hz : ∀ p ∈ ss, p.size ≤ 1000) (hl : ss.length ≤ 1000) (h0 : okL (pats ss) [] = true) (hn : n ≤ 60) (hwn : wd.length ≤ n) (hwl : Lett q wd) :
    Calls Try.prog 36 #[.int .i64 q, v, .string (bs wd), .int .i64 n] w fun e w' =>
      (((runT T 0 wd = none ∨ ∃ i, runT T 0 wd = some i ∧ can T (n - wd.length) i = false) ∧ e = .returned (.tuple #[.string ⟨#[]⟩, .bool false])) ∨
       (∃ i, runT T 0 wd = some i ∧ can T (n - wd.length) i = true ∧ e = .returned (.tuple #[.string (bs (wd ++ wayL T (n - wd.length) i)), .bool true]))) ∧ Below w.heap.size w w' := by
  have hT := tab_ok (q := q) h0
  have hS := stL_few (pats ss) hq.2
  have hS0 : 0 < (stL (pats ss) q).length := by rw [stL_fix h0]; simp
  have OF := Lib.hid (Of_any q hq v ss w hv hz hl h0)
  rw [← hTd] at OF hT
  obtain ⟨S, hSd⟩ : ∃ S, S = stL (pats ss) q := ⟨_, rfl⟩
  rw [← hSd] at OF hT hS hS0
  obtain ⟨N, hN⟩ : ∃ N, N = S.length := ⟨_, rfl⟩
  have HN := Lib.hid hN
  have HT := Lib.hid hT
  have HS := Lib.hid hS
  have HS0 := Lib.hid hS0
  have hN0 : 0 < N := by omega
  obtain ⟨Z, hZ⟩ : ∃ Z, Z = wd.length := ⟨_, rfl⟩
  have hzs : (bs wd).size = Z := hZ.symm
  rw [← hZ] at hwn ⊢
  obtain ⟨M, hM⟩ : ∃ M, M = n - Z := ⟨_, rfl⟩
  rw [← hM]
  have hM6 : M ≤ 60 := by omega
  have hMM : (n : Int) - (Z : Int) = (M : Int) := by omega
  have hwM : IntKind.i64.wrap (M : Int) = (M : Int) := wrapI (by omega)
  have AF := Lib.hid fun g W base h => After_any q base hq g S T wd W h hT hS hS0 hwl (by omega)
  have CN := Lib.hid fun g W base h => Counts_any q M base hq (by omega) g S T W h hT hS hS0
  clear hv hz hl h0 hTd hSd hT hS hN hZ hwl hM
  go_enter Try.func36, Try.ntmps36
  go_wp2_with fail
  refine OF.out.mono ?_
  rintro e w1 ⟨g, rfl, hg, r1⟩
  obtain ⟨vS, vT, thdrs, rfl, g1, g2, g3⟩ := hg
  have hTl := HT.out.len
  rw [hTl] at g2
  rw [← HN.out] at g1 g2
  obtain ⟨gS, cS, rfl, _, hgS2⟩ := own_form g1 hN0
  obtain ⟨gT, cT, rfl, _, hgT2⟩ := own_form g2 hN0
  have HG := Lib.hid (show GraphV w1 w.heap.size (.agg #[.slice (some ⟨gS, 0, none⟩) N cS, .slice (some ⟨gT, 0, none⟩) N cT]) S T from ⟨_, _, thdrs, rfl, by rw [← HN.out]; exact g1, by rw [hTl, ← HN.out]; exact g2, g3⟩)
  clear g1 g2 g3 hTl
  obtain ⟨w2, hw2⟩ : ∃ w2, w2 = w1.alloc (.cells #[.slice (some ⟨gS, 0, none⟩) N cS, .slice (some ⟨gT, 0, none⟩) N cT] 71) := ⟨_, rfl⟩
  have b12 : Below w1.heap.size w1 w2 := by rw [hw2]; exact bl_alloc (bl_refl w1) _
  have hx : Whole w2 w1.heap.size 71 #[.slice (some ⟨gS, 0, none⟩) N cS, .slice (some ⟨gT, 0, none⟩) N cT] := by rw [hw2]; exact Whole.new w1 _ _
  have HG2 := Lib.hid (HG.out.kept b12)
  have HX2 := Lib.hid hx
  have HB2 := Lib.hid (bl_then r1 b12)
  clear hx b12 r1
  go_wp2_with fail
  rw [← hw2]
  clear hw2
  refine (AF.out _ w2 _ HG2.out).mono ?_
  rintro e w3 ⟨rfl, r3⟩
  obtain ⟨x, hxa⟩ : ∃ x, x = aftI T wd := ⟨_, rfl⟩
  rw [← hxa]
  have HXA := Lib.hid hxa
  have HX3 := Lib.hid (HX2.out.kept r3)
  have HG3 := Lib.hid (HG2.out.kept r3)
  have HB3 := Lib.hid (bl_then HB2.out r3)
  have x3 := HX3.out.lt
  have x1 : w3.cell? ⟨w1.heap.size, 0, none⟩ = some (.slice (some ⟨gS, 0, none⟩) N cS) := (HX3.out.cell 0).trans rfl
  have x2 : w3.cell? ⟨w1.heap.size, 1, none⟩ = some (.slice (some ⟨gT, 0, none⟩) N cT) := (HX3.out.cell 1).trans rfl
  clear r3 HX2 HG2 HB2 hxa
  go_wp2_with fail
  refine (CN.out _ w3 _ HG3.out).mono ?_
  rintro e w4 ⟨cv, chdrs, rfl, c1, c2, r4⟩
  rw [← HN.out] at c2
  obtain ⟨gC, cC, rfl, _, _⟩ := own_form c1 (by omega)
  have HC := Lib.hid (cntAt_of c1 c2)
  have lC := HC.out.1
  have HC1 := Lib.hid c1
  have HC2 := Lib.hid c2
  have HX4 := Lib.hid (HX3.out.kept r4)
  have HG4 := Lib.hid (HG3.out.kept r4)
  have HB4 := Lib.hid (bl_then HB3.out r4)
  have y3 := HX4.out.lt
  have y1 : w4.cell? ⟨w1.heap.size, 0, none⟩ = some (.slice (some ⟨gS, 0, none⟩) N cS) := (HX4.out.cell 0).trans rfl
  have y2 : w4.cell? ⟨w1.heap.size, 1, none⟩ = some (.slice (some ⟨gT, 0, none⟩) N cT) := (HX4.out.cell 1).trans rfl
  clear c1 c2 r4 x1 x2 x3 HX3 HG3 HB3
  by_cases hx0 : x < 0
  · have HNO : Hid (runT T 0 wd = none) := Lib.hid (by
      have := HXA.out
      unfold aftI at this
      split at this
      · omega
      · assumption)
    go_wp2_with fail
    go_ret2
    exact ⟨.inl ⟨.inl HNO.out, rfl⟩, HB4.out⟩
  · obtain ⟨i, rfl⟩ : ∃ i : Nat, x = i := ⟨x.toNat, by omega⟩
    have HR : Hid (runT T 0 wd = some i) := Lib.hid (by
      have := HXA.out
      unfold aftI at this
      split at this
      · rename_i j hj
        rw [hj]; congr 1; omega
      · omega)
    have hiN : i < N := by have := run_lt HT.out wd 0 i HS0.out HR.out; rw [← HN.out] at this; exact this
    have hiN' : (i : Int) < (N : Int) := by omega
    obtain ⟨bc, cc, lbc, hrow⟩ := HC.out.2 M (Nat.le_refl M)
    obtain ⟨z1, z2'⟩ := hrow w4 (bl_refl w4)
    have z2 := z2' i hiN
    obtain ⟨k, hk⟩ : ∃ k, k = cntT T M i := ⟨_, rfl⟩
    rw [← hk] at z2
    have hM1 : (M : Int) < (M : Int) + 1 := by omega
    clear hrow z2'
    by_cases hk0 : k = 0
    · have HNO := Lib.hid (cnt_zero.1 (hk.symm.trans hk0))
      subst hk0
      clear hk
      go_wp2_with fail
      go_ret2
      exact ⟨.inl ⟨.inr ⟨i, HR.out, HNO.out⟩, rfl⟩, HB4.out⟩
    · have hcan : can T M i = true := by
        cases hc : can T M i with
        | true => rfl
        | false => exact absurd (hk.trans (cnt_zero.2 hc)) hk0
      have HCAN := Lib.hid hcan
      have hkb : (k == 0) = false := beq_false_of_ne hk0
      have FI := Lib.hid (First_any q M w.heap.size w3.heap.size (M + 1) i hq (by omega) (by omega) _ _ S T (cntRows T N (M + 1)) chdrs (can T) w4 HG4.out HT.out HS.out (HN.out ▸ hiN) HC1.out HC2.out (cntRows_len _ _ _)
          (fun a ha => by rw [cntRows_at (by omega), cntRow_len]; exact HN.out) (fun a j ha hj => by rw [cntRows_at (by omega), cntRow_at (by rw [HN.out]; exact hj), Ne, cnt_zero]; cases can T a j <;> simp) (keeps_can _ _ _) hcan)
      rw [wayG_can] at FI
      have hwl2 : (wayL T M i).length = M := wayL_len _ _ _ hcan
      obtain ⟨s, hs⟩ : ∃ s, s = wayL T M i := ⟨_, rfl⟩
      rw [← hs] at FI hwl2
      have HSS := Lib.hid hs
      have hsz : (bs s).size = M := hwl2
      have happ : bs wd ++ bs s = bs (wd ++ s) := bs_append _ _
      have hsum : ¬ 9223372036854775807 < (bs wd).size + (bs s).size := by omega
      clear hk hcan hs hwl2
      go_wp2_with fail
      refine FI.out.mono ?_
      rintro e w5 ⟨rfl, r5⟩
      have HB5 := Lib.hid (bl_then HB4.out r5)
      clear r5
      go_wp2_with fail
      go_ret2
      exact ⟨.inr ⟨i, HR.out, HCAN.out, by rw [← HSS.out, ← happ]; rfl⟩, HB5.out⟩
end Go.Proofs.Ytpclkocfbkjabaa
