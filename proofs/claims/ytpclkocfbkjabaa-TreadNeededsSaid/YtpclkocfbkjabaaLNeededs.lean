/-
  The law TreadNeededs: the walk. (Printed by tools/genLNeededs.py.)
-/
import Derived.Test.YtpclkocfbkjabaaA26
import Derived.Test.YtpclkocfbkjabaaT57
import Derived.Test.YtpclkocfbkjabaaT25
namespace Go.Proofs.Ytpclkocfbkjabaa
open Go.RowKit Go.Shelf
set_option linter.unusedVariables false
set_option linter.unusedSimpArgs false

set_option maxRecDepth 100000 in
set_option maxHeartbeats 4000000 in
theorem TreadNeededs_walk (n : Int) (v : Value) (ss : List ByteArray) (at' : Int) (W : World) (hn : (Lit.int .i64 n).wf = true) (hv : StrsAt W v ss) (hl : ss.length * 16 ≤ 140737488351232) (hz : ∀ s ∈ ss, s.size ≤ maxLen) (hat : (Lit.int .i64 at').wf = true) (hG : HasG W) :
    Calls Try.prog 10 #[.int .i64 n, v, .int .i64 at'] W fun e w' => e = .returned (.bool true) ∧ Below W.heap.size W w' := by
  obtain ⟨j0, hj, jz0, jz1, jz2⟩ := info_parts infoS
  have TM := Lib.hid fun W h => tame_any n v ss 12 W h hl hz (by omega)
  have HV := Lib.hid hv
  have AW := Lib.hid fun W h => awake_any W h
  have HG := Lib.hid hG
  have MD := Lib.hid fun N W h => mod_any at' N W h
  clear hG hv hz hl hn hat
  go_enter Try.func10, Try.ntmps10
  go_wp2_with fail
  refine (TM.out _ HV.out).mono ?_
  rintro e w1 ⟨q, v1, rfl, hq, ⟨L, hs1, hset, hL12, hnil⟩, hb1⟩
  have HB1 := Lib.hid hb1
  have h0 := ok_nil (pats_some hset)
  cases he : endsB (tabL (pats L) q) with
  | false =>
    have NE := Lib.hid (Needed_none q v1 L w1 hs1 hset (HG.out.kept hb1) he)
    clear hs1 hset hnil hb1 h0 he
    go_wp2_with fail
    refine NE.out.mono ?_
    rintro e w2 ⟨rfl, r2⟩
    have HB2 := Lib.hid (bl_then HB1.out r2)
    clear r2
    go_wp2_with fail
    refine (AW.out _ (HG.out.kept HB2.out)).mono ?_
    rintro e w9 ⟨rfl, hb9⟩
    have HB9 := Lib.hid (bl_then HB2.out hb9)
    clear hb9
    go_wp2_with fail
    go_ret
    exact ⟨rfl, HB9.out⟩
  | true =>
    have hne : L ≠ [] := fun h => by rw [h, ends_nil hq] at he; cases he
    have NE := Lib.hid (Needed_any q v1 L w1 hs1 hset (HG.out.kept hb1) he)
    obtain ⟨N, hN⟩ : ∃ N, N = L.length := ⟨_, rfl⟩
    have hN0 : 0 < N := by rw [hN]; exact List.length_pos_iff.2 hne
    have HS1 := Lib.hid hs1
    have HSET := Lib.hid hset
    have HE := Lib.hid he
    have HN := Lib.hid hN
    have hN12 : N ≤ 12 := by omega
    obtain ⟨A, c, rfl, hlc, hcm, hA⟩ := hs1
    obtain ⟨g, off, rfl, hg, hc⟩ := hA (by omega)
    have HC := Lib.hid hc
    have hndl := nd_len q L L.length
    obtain ⟨nd, hnd⟩ : ∃ nd, nd = ndTo q L L.length := ⟨_, rfl⟩
    have HND := Lib.hid hnd
    rw [← hnd] at NE hndl
    obtain ⟨D, hD⟩ : ∃ D, D = nd.length := ⟨_, rfl⟩
    have HD := Lib.hid hD
    have hD12 : D ≤ 12 := by omega
    clear hD
    have HS1b : Hid (StrsAt w1 (.slice (some ⟨g, off, none⟩) N c) L) := Lib.hid (by rw [hN]; exact HS1.out)
    rw [← hN] at hlc hndl NE
    clear hset he h0 hne hA hnil hb1 hc hnd
    have hNe : ((N : Int) == 0) = false := by rw [beq_eq_false_iff_ne]; omega
    have hNn : ¬ N = 0 := by omega
    rw [← hN]
    clear hN HS1
    go_wp2_with fail
    refine NE.out.mono ?_
    rintro e w2 ⟨v2, rfl, ho2, r2⟩
    have HB2 := Lib.hid (bl_then HB1.out r2)
    have HSL2 := Lib.hid (HS1b.out.kept r2)
    have HSN2 := Lib.hid (strs_own ho2 (by omega))
    have HR2 := Lib.hid r2
    obtain ⟨A2, c2, rfl, HA2⟩ := own_any ho2
    have hDn : nd.length = D := HD.out.symm
    rw [hDn]
    clear hDn
    have HNC : Hid (∀ i, i < D → ∃ g2, A2 = some ⟨g2, 0, none⟩ ∧ g2 < w2.heap.size ∧ ∀ W', Below w2.heap.size w2 W' → W'.cell? ⟨g2, i, none⟩ = some (.string (nd.getD i ByteArray.empty))) := Lib.hid fun i hi => by
      obtain ⟨g2, e2, l2⟩ := HA2 (by have := HD.out; omega)
      subst e2
      refine ⟨g2, rfl, l2, fun W' hb => (hb.cell (p := ⟨g2, i, none⟩) l2).trans ?_⟩
      rw [ho2.cellAt i (by have := HD.out; omega), encB_at (by have := HD.out; omega)]
    clear ho2 r2 HA2
    go_wp2_with fail
    refine (MD.out N _ (by omega)).mono ?_
    rintro e w3 ⟨⟨k, hkN, rfl⟩, rfl⟩
    have HB3 := HB2
    have HSL3 := HSL2
    have HSN3 := HSN2
    have hkl : k < L.length := by have := HN.out; omega
    have hcA : ∀ j, j < L.length → w2.cell? ⟨g, off + j, none⟩ = some (.string (L.getD j ByteArray.empty)) := fun j hj => (HR2.out.cell (p := ⟨g, off + j, none⟩) hg).trans (HC.out j hj)
    have hg3 := Nat.lt_of_lt_of_le hg HR2.out.size
    have n1 : ∀ (j : Nat) u, (encB (L.take k))[j]? = some u → w2.cell? ((⟨g, off, none⟩ : Addr).add j) = some u := by
      have := src_cells (n := 0) (W := w2) hg3 hcA (bl_refl w2) 0 (L.take k) (fun j hj => by
        rw [List.length_take] at hj
        refine ⟨by omega, ?_⟩
        rw [Nat.zero_add, List.getD_eq_getElem?_getD, List.getD_eq_getElem?_getD, List.getElem?_take_of_lt (by omega)])
      exact this
    have n2 : ∀ W, Below w2.heap.size w2 W → ∀ (j : Nat) u, (encB (L.drop (k + 1)))[j]? = some u → W.cell? ((⟨g, off + (k + 1), none⟩ : Addr).add j) = some u := fun W hb =>
      src_cells (n := 0) hg3 hcA hb (k + 1) (L.drop (k + 1)) (fun j hj => by
        rw [List.length_drop] at hj
        refine ⟨by omega, ?_⟩
        rw [List.getD_eq_getElem?_getD, List.getD_eq_getElem?_getD, List.getElem?_drop])
    have l1 : (encB (L.take k)).length = k * 1 := by rw [encB_len, List.length_take]; omega
    have l2 : (encB (L.drop (k + 1))).length = (N - (k + 1)) * 1 := by rw [encB_len, List.length_drop]; have := HN.out; omega
    have hsum : encB (L.take k) ++ encB (L.drop (k + 1)) = encB (dropB L k) := by unfold dropB encB; rw [List.map_append]
    have hlen : k + (N - (k + 1)) = (dropB L k).length := by rw [drop_len hkl]; have := HN.out; omega
    obtain ⟨lk, hlk⟩ : ∃ lk, lk = L.getD k ByteArray.empty := ⟨_, rfl⟩
    obtain ⟨L1, hL1⟩ : ∃ l, l = encB (L.take k) := ⟨_, rfl⟩
    obtain ⟨L2, hL2⟩ : ∃ l, l = encB (L.drop (k + 1)) := ⟨_, rfl⟩
    have o1 := encB_one (L.take k)
    have o2 := encB_one (L.drop (k + 1))
    rw [← hL1] at n1 l1 hsum o1
    rw [← hL2] at n2 l2 hsum o2
    have N1 := Lib.hid n1
    have N2 := Lib.hid n2
    have M1 := Lib.hid l1
    have M2 := Lib.hid l2
    have O1 := Lib.hid o1
    have O2 := Lib.hid o2
    have HSUM := Lib.hid hsum
    have HLEN := Lib.hid hlen
    have HLK := Lib.hid hlk
    have HLC : Hid (∀ W', Below w2.heap.size w2 W' → W'.cell? ⟨g, off + k, none⟩ = some (.string lk) ∧ g < W'.heap.size) := Lib.hid fun W' hb => ⟨by rw [hb.cell (p := ⟨g, off + k, none⟩) hg3, hcA k hkl, hlk], Nat.lt_of_lt_of_le hg3 hb.size⟩
    have hkN1 : (k : Int) ≤ (N : Int) := by omega
    have hk1N : (k : Int) + 1 ≤ (N : Int) := by omega
    have hw1 : IntKind.i64.wrap ((k : Int) + 1) = ((k + 1 : Nat) : Int) := by rw [show (k : Int) + 1 = ((k + 1 : Nat) : Int) by omega]; exact wrapI (by omega)
    have hkc : (k : Int) ≤ (c : Int) := by omega
    have hk1c : (k : Int) + 1 ≤ (c : Int) := by omega
    clear hcA n1 n2 l1 l2 hsum hlen o1 o2 hL1 hL2 hlk HS1b HC HR2 hndl
    by_cases hci : c = k + 1
    · have hN1 : N = k + 1 := by omega
      have hL2 : L2 = [] := List.eq_nil_of_length_eq_zero (by have := M2.out; omega)
      subst hL2
      subst hN1
      subst hci
      go_wp2_with (at_builtin; first | (refine wpList_append_own w2 rfl (.tmp 44) (.tmp 47) _ rfl w2.heap.size 9 j0 _ 1 16 Try.underlying22 hj jz0 jz1 jz2 rfl (by decide) (.slice none 0 0) 0 [] rfl (World.ownsRow_nil w2 w2.heap.size 9 1) ⟨g, off, none⟩ k (k + 1) L1 rfl M1.out N1.out O1.out (by unfold maxLen; omega) (by omega) (Nat.le_refl _) ?_; intro v6 w6 hown6 hg6 _; rw [Nat.zero_add, List.nil_append] at hown6; have hb6 := bl_grown (bl_refl w2) (World.ownsRow_nil w2 w2.heap.size 9 1) (Nat.le_refl _) hg6; have HB6 := Lib.hid hb6; have N6 := Lib.hid (N2.out w6 hb6); have hz6 := hb6.size; obtain ⟨A6, c6, rfl, hA6⟩ := own_any hown6; have HO6 := Lib.hid hown6; clear hb6 hg6 hown6) | (refine wpList_append_own w6 rfl (.tmp 49) (.tmp 53) _ rfl w2.heap.size 9 j0 _ 1 16 Try.underlying22 hj jz0 jz1 jz2 rfl (by decide) (.slice A6 k c6) k L1 rfl HO6.out ⟨g, off, none⟩ (0) (0) [] rfl (by first | rfl | (have := M2.out; omega)) (by intro j u hu; simp at hu) (by first | exact O2.out | (intro u hu; cases hu)) (by unfold maxLen; omega) (by omega) hz6 ?_; intro v7 w7 hown7 hg7 _; have HB7 := Lib.hid (bl_grown HB6.out HO6.out (Nat.le_refl _) hg7); have HO7 := Lib.hid hown7; clear hg7 hown7))
      have HS7 : Hid (StrsAt w7 v7 (dropB L k)) := Lib.hid (strs_own (base := w2.heap.size) (by
        have h := HO7.out
        rw [HSUM.out, show k + 0 = (dropB L k).length by have := HLEN.out; omega] at h
        exact h) (by have := HLEN.out; omega))
      have HBB := Lib.hid (bl_then HB3.out HB7.out)
      have HSL7 := Lib.hid (HSL3.out.kept HB7.out)
      have HSN7 := Lib.hid (HSN3.out.kept HB7.out)
      clear HO6 HO7 HB6 N1 N2 M1 M2 O1 O2 HSUM
      go_wp2_with fail
      go_loopw [12, 13] (fun fv iv wr => ∃ i : Nat, i ≤ D ∧ iv = .int .i64 i ∧ fv = .bool ((nd.take i).any (fun x => decide (x = lk))) ∧ Hid (Below w7.heap.size w7 wr)) (fun _ iv _ => D - (intOf iv).toNat)
      case atStart => exact ⟨0, Nat.zero_le _, rfl, rfl, Lib.hid (bl_refl w7)⟩
      case round =>
        obtain ⟨i, hi, rfl, rfl, HBw⟩ := hrel
        have HBx := Lib.hid (bl_then HB7.out HBw.out)
        by_cases hid : i < D
        · have hiD : i < nd.length := by have := HD.out; omega
          obtain ⟨g2, eA2, lg2, hcn⟩ := HNC.out i hid
          subst eA2
          have hn1 := hcn wr HBx.out
          obtain ⟨hl1, lg1⟩ := HLC.out wr HBx.out
          have lg27 := Nat.lt_of_lt_of_le lg2 HBx.out.size
          have hts := List.take_succ_eq_append_getElem hiD
          rw [show nd.getD i ByteArray.empty = nd[i] by rw [List.getD_eq_getElem?_getD, List.getElem?_eq_getElem hiD]; rfl] at hn1
          obtain ⟨t, ht⟩ : ∃ t, t = nd[i] := ⟨_, rfl⟩
          rw [← ht] at hn1 hts
          have HTS : Hid ((nd.take (i + 1)).any (fun x => decide (x = lk)) = ((nd.take i).any (fun x => decide (x = lk)) || decide (t = lk))) := Lib.hid (by rw [hts, List.any_append]; simp)
          have hbq := str_beq t lk
          obtain ⟨b, hb⟩ : ∃ b, b = (nd.take i).any (fun x => decide (x = lk)) := ⟨_, rfl⟩
          rw [← hb] at HTS ⊢
          obtain ⟨d, hd⟩ : ∃ d, d = decide (t = lk) := ⟨_, rfl⟩
          rw [← hd] at HTS hbq
          have hid' : (i : Int) < (D : Int) := by omega
          have hi0 : (0 : Int) ≤ (i : Int) := by omega
          clear hcn ht hts hb hd lg2
          cases b with
          | true =>
            have e1 : (true || d) = true := rfl
            go_wp2_with fail
            go_quiet (fail)
            have HB8 := Lib.hid (bl_drewN HBw.out nq)
            go_wp2_with fail
            go_roundw
            case rel => exact ⟨i + 1, by omega, by go_num, by rw [HTS.out]; rfl, HB8⟩
            case measure => simp [intOf]; omega
          | false =>
            go_wp2_with fail
            have HTS2 : Hid ((nd.take (i + 1)).any (fun x => decide (x = lk)) = d) := Lib.hid (by rw [HTS.out, Bool.false_or])
            go_quiet (fail)
            have HB8 := Lib.hid (bl_drewN HBw.out nq)
            go_wp2_with fail
            go_roundw
            case rel => exact ⟨i + 1, by omega, by go_num, by rw [HTS2.out], HB8⟩
            case measure => simp [intOf]; omega
        · have ei : D = i := by omega
          have hnlt : ¬ (i : Int) < (D : Int) := by omega
          have HNB : Hid ((nd.take i).any (fun x => decide (x = lk)) = ndB q L k) := Lib.hid (by
            rw [List.take_of_length_le (by have := HD.out; omega), HND.out, HLK.out]
            exact nd_any (setB_nodup HSET.out) hkl)
          rw [HNB.out]
          clear hid ei
          have hsd := setB_sub HSET.out (drop_sublist L k)
          obtain ⟨T, hT⟩ : ∃ T, T = tabL (pats (dropB L k)) q := ⟨_, rfl⟩
          obtain ⟨S, hS⟩ : ∃ S, S = stL (pats (dropB L k)) q := ⟨_, rfl⟩
          obtain ⟨M, hM⟩ : ∃ M, M = S.length := ⟨_, rfl⟩
          have LO := Lib.hid (Loop_any q M v7 (dropB L k) wr T S hT hS hM (HS7.out.kept HBw.out) hsd (HG.out.kept (bl_then HBB.out HBw.out)))
          have HBz := Lib.hid (bl_then HBB.out HBw.out)
          cases hnb : ndB q L k with
          | false =>
            have hen : endsB T = true := by
              unfold ndB at hnb
              rw [← hT] at hnb
              simpa using hnb
            have HEN := Lib.hid hen
            clear hsd hnb hen
            go_wp2_with fail
            refine LO.out.mono ?_
            rintro e w8 ⟨hr, r8⟩
            have HB8 := Lib.hid (bl_then HBz.out r8)
            clear r8
            rcases hr with ⟨m, hm, rfl⟩ | ⟨hc, _⟩
            · clear hm
              go_wp2_with fail
              refine (AW.out _ (HG.out.kept HB8.out)).mono ?_
              rintro e w9 ⟨rfl, hb9⟩
              have HB9 := Lib.hid (bl_then HB8.out hb9)
              clear hb9
              go_wp2_with fail
              go_ret
              exact ⟨rfl, HB9.out⟩
            · exfalso
              have h := HEN.out
              rw [ends_not ((hc.can_iff 1000).2 (.inl (by decide)))] at h
              cases h
          | true =>
            have hen : endsB T = false := by
              unfold ndB at hnb
              rw [← hT] at hnb
              simpa using hnb
            have HEN := Lib.hid hen
            have EI := Lib.hid fun (m : Nat) (h : Lng T 0 m) => ends_iff (m := m) (N := M) (q := q) (by rw [hT, hM, hS]; exact tab_ok (ok_nil (pats_some hsd))) (by rw [hM, hS, stL_fix (ok_nil (pats_some hsd))]; simp) (by rw [hM, hS]; exact stL_few _ hq.2) h
            have NL := Lib.hid fun n h1 h2 => needed_loop (n := n) HSET.out hkl HE.out h1 h2
            rw [← hS, ← hT, ← hM] at NL
            have IL1 := Lib.hid fun wd W h1 h2 => IsLoop_any v7 (dropB L k) wd W h1 (by have := HLEN.out; omega) (fun p hp => ((setB_iff.1 hsd).2.2.1 p hp).2.1) h2
            have IL2 := Lib.hid fun v wd W h1 h2 => IsLoop_any v [lk] wd W h1 (by simp) (fun p hp => by rw [List.mem_singleton.1 hp, HLK.out, getD_at hkl]; exact ((setB_iff.1 HSET.out).2.2.1 _ (List.getElem_mem hkl)).2.1) h2
            have hM121 : M ≤ 121 := by rw [hM, hS]; exact stL_few _ hq.2
            have hlkl : L[k] = lk := by rw [HLK.out, getD_at hkl]
            rw [hlkl] at NL
            clear hsd hnb hen hT hS hM hlkl
            go_wp2_with fail
            refine LO.out.mono ?_
            rintro e w8 ⟨hr, r8⟩
            have HB8 := Lib.hid (bl_then HBz.out r8)
            have HS8 := Lib.hid ((HS7.out.kept HBw.out).kept r8)
            have HBx8 := Lib.hid (bl_then HBx.out r8)
            clear r8
            rcases hr with ⟨m, hm, rfl⟩ | ⟨_, n, hn1, hn2, _, hex, rfl⟩
            · exfalso
              have h := HEN.out
              rw [EI.out m hm] at h
              cases h
            · obtain ⟨g1, g3, g4⟩ := NL.out n hn1 hex
              obtain ⟨s, hs⟩ : ∃ s, s = bestN T n M := ⟨_, rfl⟩
              rw [← hs] at g1 g3 g4 ⊢
              have C1 := Lib.hid (IL1.out s w8 HS8.out (by omega))
              rw [g3] at C1
              have C2 := Lib.hid fun v W h => IL2.out v s W h (by omega)
              rw [g4] at C2
              clear hs g1 g3 g4 hex
              go_wp2_with fail
              refine C1.out.mono ?_
              rintro e w10 ⟨rfl, r10⟩
              have HB10 := Lib.hid (bl_then HB8.out r10)
              have HBx10 := Lib.hid (bl_then HBx8.out r10)
              obtain ⟨hl10, lg10⟩ := HLC.out w10 HBx10.out
              have hSl : StrsAt (w10.alloc (.cells #[.string lk] 9)) (.slice (some ⟨w10.heap.size, 0, none⟩) 1 1) [lk] :=
                ⟨some ⟨w10.heap.size, 0, none⟩, 1, rfl, by simp, by omega, fun _ => ⟨w10.heap.size, 0, rfl, by simp, fun i hi => by
                  have : i = 0 := by simpa using hi
                  subst this
                  exact (Whole.new w10 _ _).cell 0⟩⟩
              have C3 := Lib.hid (C2.out _ _ hSl)
              clear r10 hSl
              go_wp2_with fail
              refine C3.out.mono ?_
              rintro e w11 ⟨rfl, r11⟩
              have HB11 := Lib.hid (bl_then (bl_alloc HB10.out (.cells #[.string lk] 9)) r11)
              clear r11
              go_wp2_with fail
              refine (AW.out _ (HG.out.kept HB11.out)).mono ?_
              rintro e w9 ⟨rfl, hb9⟩
              have HB9 := Lib.hid (bl_then HB11.out hb9)
              clear hb9
              go_wp2_with fail
              go_ret
              exact ⟨rfl, HB9.out⟩
    · go_wp2_with (at_builtin; first | (refine wpList_append_own w2 rfl (.tmp 44) (.tmp 47) _ rfl w2.heap.size 9 j0 _ 1 16 Try.underlying22 hj jz0 jz1 jz2 rfl (by decide) (.slice none 0 0) 0 [] rfl (World.ownsRow_nil w2 w2.heap.size 9 1) ⟨g, off, none⟩ k (c) L1 rfl M1.out N1.out O1.out (by unfold maxLen; omega) (by omega) (Nat.le_refl _) ?_; intro v6 w6 hown6 hg6 _; rw [Nat.zero_add, List.nil_append] at hown6; have hb6 := bl_grown (bl_refl w2) (World.ownsRow_nil w2 w2.heap.size 9 1) (Nat.le_refl _) hg6; have HB6 := Lib.hid hb6; have N6 := Lib.hid (N2.out w6 hb6); have hz6 := hb6.size; obtain ⟨A6, c6, rfl, hA6⟩ := own_any hown6; have HO6 := Lib.hid hown6; clear hb6 hg6 hown6) | (refine wpList_append_own w6 rfl (.tmp 49) (.tmp 53) _ rfl w2.heap.size 9 j0 _ 1 16 Try.underlying22 hj jz0 jz1 jz2 rfl (by decide) (.slice A6 k c6) k L1 rfl HO6.out ⟨g, off + (k + 1), none⟩ (N - (k + 1)) (c - (k + 1)) L2 rfl (by first | rfl | (have := M2.out; omega)) (N6.out) (by first | exact O2.out | (intro u hu; cases hu)) (by unfold maxLen; omega) (by omega) hz6 ?_; intro v7 w7 hown7 hg7 _; have HB7 := Lib.hid (bl_grown HB6.out HO6.out (Nat.le_refl _) hg7); have HO7 := Lib.hid hown7; clear hg7 hown7))
      have HS7 : Hid (StrsAt w7 v7 (dropB L k)) := Lib.hid (strs_own (base := w2.heap.size) (by
        have h := HO7.out
        rw [HSUM.out, show k + (N - (k + 1)) = (dropB L k).length by have := HLEN.out; omega] at h
        exact h) (by have := HLEN.out; omega))
      have HBB := Lib.hid (bl_then HB3.out HB7.out)
      have HSL7 := Lib.hid (HSL3.out.kept HB7.out)
      have HSN7 := Lib.hid (HSN3.out.kept HB7.out)
      clear HO6 HO7 HB6 N1 N2 M1 M2 O1 O2 HSUM
      go_wp2_with fail
      go_loopw [12, 13] (fun fv iv wr => ∃ i : Nat, i ≤ D ∧ iv = .int .i64 i ∧ fv = .bool ((nd.take i).any (fun x => decide (x = lk))) ∧ Hid (Below w7.heap.size w7 wr)) (fun _ iv _ => D - (intOf iv).toNat)
      case atStart => exact ⟨0, Nat.zero_le _, rfl, rfl, Lib.hid (bl_refl w7)⟩
      case round =>
        obtain ⟨i, hi, rfl, rfl, HBw⟩ := hrel
        have HBx := Lib.hid (bl_then HB7.out HBw.out)
        by_cases hid : i < D
        · have hiD : i < nd.length := by have := HD.out; omega
          obtain ⟨g2, eA2, lg2, hcn⟩ := HNC.out i hid
          subst eA2
          have hn1 := hcn wr HBx.out
          obtain ⟨hl1, lg1⟩ := HLC.out wr HBx.out
          have lg27 := Nat.lt_of_lt_of_le lg2 HBx.out.size
          have hts := List.take_succ_eq_append_getElem hiD
          rw [show nd.getD i ByteArray.empty = nd[i] by rw [List.getD_eq_getElem?_getD, List.getElem?_eq_getElem hiD]; rfl] at hn1
          obtain ⟨t, ht⟩ : ∃ t, t = nd[i] := ⟨_, rfl⟩
          rw [← ht] at hn1 hts
          have HTS : Hid ((nd.take (i + 1)).any (fun x => decide (x = lk)) = ((nd.take i).any (fun x => decide (x = lk)) || decide (t = lk))) := Lib.hid (by rw [hts, List.any_append]; simp)
          have hbq := str_beq t lk
          obtain ⟨b, hb⟩ : ∃ b, b = (nd.take i).any (fun x => decide (x = lk)) := ⟨_, rfl⟩
          rw [← hb] at HTS ⊢
          obtain ⟨d, hd⟩ : ∃ d, d = decide (t = lk) := ⟨_, rfl⟩
          rw [← hd] at HTS hbq
          have hid' : (i : Int) < (D : Int) := by omega
          have hi0 : (0 : Int) ≤ (i : Int) := by omega
          clear hcn ht hts hb hd lg2
          cases b with
          | true =>
            have e1 : (true || d) = true := rfl
            go_wp2_with fail
            go_quiet (fail)
            have HB8 := Lib.hid (bl_drewN HBw.out nq)
            go_wp2_with fail
            go_roundw
            case rel => exact ⟨i + 1, by omega, by go_num, by rw [HTS.out]; rfl, HB8⟩
            case measure => simp [intOf]; omega
          | false =>
            go_wp2_with fail
            have HTS2 : Hid ((nd.take (i + 1)).any (fun x => decide (x = lk)) = d) := Lib.hid (by rw [HTS.out, Bool.false_or])
            go_quiet (fail)
            have HB8 := Lib.hid (bl_drewN HBw.out nq)
            go_wp2_with fail
            go_roundw
            case rel => exact ⟨i + 1, by omega, by go_num, by rw [HTS2.out], HB8⟩
            case measure => simp [intOf]; omega
        · have ei : D = i := by omega
          have hnlt : ¬ (i : Int) < (D : Int) := by omega
          have HNB : Hid ((nd.take i).any (fun x => decide (x = lk)) = ndB q L k) := Lib.hid (by
            rw [List.take_of_length_le (by have := HD.out; omega), HND.out, HLK.out]
            exact nd_any (setB_nodup HSET.out) hkl)
          rw [HNB.out]
          clear hid ei
          have hsd := setB_sub HSET.out (drop_sublist L k)
          obtain ⟨T, hT⟩ : ∃ T, T = tabL (pats (dropB L k)) q := ⟨_, rfl⟩
          obtain ⟨S, hS⟩ : ∃ S, S = stL (pats (dropB L k)) q := ⟨_, rfl⟩
          obtain ⟨M, hM⟩ : ∃ M, M = S.length := ⟨_, rfl⟩
          have LO := Lib.hid (Loop_any q M v7 (dropB L k) wr T S hT hS hM (HS7.out.kept HBw.out) hsd (HG.out.kept (bl_then HBB.out HBw.out)))
          have HBz := Lib.hid (bl_then HBB.out HBw.out)
          cases hnb : ndB q L k with
          | false =>
            have hen : endsB T = true := by
              unfold ndB at hnb
              rw [← hT] at hnb
              simpa using hnb
            have HEN := Lib.hid hen
            clear hsd hnb hen
            go_wp2_with fail
            refine LO.out.mono ?_
            rintro e w8 ⟨hr, r8⟩
            have HB8 := Lib.hid (bl_then HBz.out r8)
            clear r8
            rcases hr with ⟨m, hm, rfl⟩ | ⟨hc, _⟩
            · clear hm
              go_wp2_with fail
              refine (AW.out _ (HG.out.kept HB8.out)).mono ?_
              rintro e w9 ⟨rfl, hb9⟩
              have HB9 := Lib.hid (bl_then HB8.out hb9)
              clear hb9
              go_wp2_with fail
              go_ret
              exact ⟨rfl, HB9.out⟩
            · exfalso
              have h := HEN.out
              rw [ends_not ((hc.can_iff 1000).2 (.inl (by decide)))] at h
              cases h
          | true =>
            have hen : endsB T = false := by
              unfold ndB at hnb
              rw [← hT] at hnb
              simpa using hnb
            have HEN := Lib.hid hen
            have EI := Lib.hid fun (m : Nat) (h : Lng T 0 m) => ends_iff (m := m) (N := M) (q := q) (by rw [hT, hM, hS]; exact tab_ok (ok_nil (pats_some hsd))) (by rw [hM, hS, stL_fix (ok_nil (pats_some hsd))]; simp) (by rw [hM, hS]; exact stL_few _ hq.2) h
            have NL := Lib.hid fun n h1 h2 => needed_loop (n := n) HSET.out hkl HE.out h1 h2
            rw [← hS, ← hT, ← hM] at NL
            have IL1 := Lib.hid fun wd W h1 h2 => IsLoop_any v7 (dropB L k) wd W h1 (by have := HLEN.out; omega) (fun p hp => ((setB_iff.1 hsd).2.2.1 p hp).2.1) h2
            have IL2 := Lib.hid fun v wd W h1 h2 => IsLoop_any v [lk] wd W h1 (by simp) (fun p hp => by rw [List.mem_singleton.1 hp, HLK.out, getD_at hkl]; exact ((setB_iff.1 HSET.out).2.2.1 _ (List.getElem_mem hkl)).2.1) h2
            have hM121 : M ≤ 121 := by rw [hM, hS]; exact stL_few _ hq.2
            have hlkl : L[k] = lk := by rw [HLK.out, getD_at hkl]
            rw [hlkl] at NL
            clear hsd hnb hen hT hS hM hlkl
            go_wp2_with fail
            refine LO.out.mono ?_
            rintro e w8 ⟨hr, r8⟩
            have HB8 := Lib.hid (bl_then HBz.out r8)
            have HS8 := Lib.hid ((HS7.out.kept HBw.out).kept r8)
            have HBx8 := Lib.hid (bl_then HBx.out r8)
            clear r8
            rcases hr with ⟨m, hm, rfl⟩ | ⟨_, n, hn1, hn2, _, hex, rfl⟩
            · exfalso
              have h := HEN.out
              rw [EI.out m hm] at h
              cases h
            · obtain ⟨g1, g3, g4⟩ := NL.out n hn1 hex
              obtain ⟨s, hs⟩ : ∃ s, s = bestN T n M := ⟨_, rfl⟩
              rw [← hs] at g1 g3 g4 ⊢
              have C1 := Lib.hid (IL1.out s w8 HS8.out (by omega))
              rw [g3] at C1
              have C2 := Lib.hid fun v W h => IL2.out v s W h (by omega)
              rw [g4] at C2
              clear hs g1 g3 g4 hex
              go_wp2_with fail
              refine C1.out.mono ?_
              rintro e w10 ⟨rfl, r10⟩
              have HB10 := Lib.hid (bl_then HB8.out r10)
              have HBx10 := Lib.hid (bl_then HBx8.out r10)
              obtain ⟨hl10, lg10⟩ := HLC.out w10 HBx10.out
              have hSl : StrsAt (w10.alloc (.cells #[.string lk] 9)) (.slice (some ⟨w10.heap.size, 0, none⟩) 1 1) [lk] :=
                ⟨some ⟨w10.heap.size, 0, none⟩, 1, rfl, by simp, by omega, fun _ => ⟨w10.heap.size, 0, rfl, by simp, fun i hi => by
                  have : i = 0 := by simpa using hi
                  subst this
                  exact (Whole.new w10 _ _).cell 0⟩⟩
              have C3 := Lib.hid (C2.out _ _ hSl)
              clear r10 hSl
              go_wp2_with fail
              refine C3.out.mono ?_
              rintro e w11 ⟨rfl, r11⟩
              have HB11 := Lib.hid (bl_then (bl_alloc HB10.out (.cells #[.string lk] 9)) r11)
              clear r11
              go_wp2_with fail
              refine (AW.out _ (HG.out.kept HB11.out)).mono ?_
              rintro e w9 ⟨rfl, hb9⟩
              have HB9 := Lib.hid (bl_then HB11.out hb9)
              clear hb9
              go_wp2_with fail
              go_ret
              exact ⟨rfl, HB9.out⟩
end Go.Proofs.Ytpclkocfbkjabaa
