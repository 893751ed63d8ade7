/-
  The law TreadTidied: the walk. (Printed by tools/genLTidied.py.)
-/
import Derived.Test.YtpclkocfbkjababA28
import Derived.Test.YtpclkocfbkjababMI
import Derived.Test.YtpclkocfbkjababMH
import Derived.Test.YtpclkocfbkjababMJ
import Derived.Test.YtpclkocfbkjababT25
import Derived.Test.YtpclkocfbkjababT35
namespace Go.Proofs.Ytpclkocfbkjabab
open Go.RowKit Go.Shelf
set_option linter.unusedVariables false
set_option linter.unusedSimpArgs false

set_option maxRecDepth 100000 in
set_option maxHeartbeats 4000000 in
theorem TreadTidied_walk (x : Int) (v : Value) (ss : List ByteArray) (xn : Int) (W : World) (hx : (Lit.int .i64 x).wf = true) (hv : StrsAt W v ss) (hl : ss.length * 16 ≤ 140737488351232) (hz : ∀ s ∈ ss, s.size ≤ maxLen) (hxn : (Lit.int .i64 xn).wf = true) (hG : HasG W) :
    Calls Try.prog 8 #[.int .i64 x, v, .int .i64 xn] W fun e w' => e = .returned (.bool true) ∧ Below W.heap.size W w' := by
  have TM := Lib.hid fun W h => tame_any x v ss 12 W h hl hz (by omega)
  have HV := Lib.hid hv
  have AW := Lib.hid fun W h => awake_any W h
  have HG := Lib.hid hG
  have MD := Lib.hid fun W => mod_any xn 30 W (by omega)
  clear hG hv hz hl hxn hx
  go_enter Try.func8, Try.ntmps8
  go_wp2_with fail
  refine (TM.out _ HV.out).mono ?_
  rintro e w1 ⟨q, v1, rfl, hq, ⟨L, hs1, hset, hL12, _⟩, hb1⟩
  have HB1 := Lib.hid hb1
  have HS1 := Lib.hid hs1
  have HSET := Lib.hid hset
  have hst : setB q (tidB L) = true := setB_sub hset (tid_sub L)
  have hT2 : tabL (pats (tidB L)) q = tabL (pats L) q := tabL_congr (tid_okL L) q
  have hS2 : stL (pats (tidB L)) q = stL (pats L) q := stL_congr (tid_okL L) q
  have h0 := ok_nil (pats_some hset)
  have hTT := tab_ok (q := q) h0
  have hN0 : 0 < (stL (pats L) q).length := by rw [stL_fix h0]; simp
  have hF := few36 hset
  have hid := tid_idem L
  have htl : (tidB L).length ≤ 12 := Nat.le_trans (tid_sub L).length_le hL12
  have CN1 := Lib.hid fun k (hk : k ≤ 36) w h h2 => (Count_any q k v1 L w (tabL (pats L) q) rfl h HSET.out (by omega) h2).mono (R' := fun e w' => e = .returned (.tuple #[.int .i64 (cntT (tabL (pats L) q) k 0), .int .i64 0]) ∧ Below w.heap.size w w') fun e w' h => by
    obtain ⟨h1, h2⟩ := h
    rcases h1 with ⟨h3, _⟩ | ⟨_, h3⟩
    · rw [hF k hk] at h3; cases h3
    · exact ⟨h3, h2⟩
  have CN2 := Lib.hid fun v k (hk : k ≤ 36) w h h2 => (Count_any q k v (tidB L) w (tabL (pats L) q) hT2.symm h hst (by omega) h2).mono (R' := fun e w' => e = .returned (.tuple #[.int .i64 (cntT (tabL (pats L) q) k 0), .int .i64 0]) ∧ Below w.heap.size w w') fun e w' h => by
    obtain ⟨h1, h2⟩ := h
    rcases h1 with ⟨h3, _⟩ | ⟨_, h3⟩
    · rw [hF k hk] at h3; cases h3
    · exact ⟨h3, h2⟩
  have GR1 := Lib.hid fun w h h2 => (Growth_any q _ v1 L w _ _ rfl rfl rfl h HSET.out h2).mono (R' := fun e w' => (∃ g, GrowIs (tabL (pats L) q) (stL (pats L) q).length g ∧ e = .returned (.tuple #[.int .i64 g, .int .i64 0])) ∧ Below w.heap.size w w') fun e w' h => by
    obtain ⟨⟨M, hM, h1⟩, h2⟩ := h
    rcases h1 with ⟨h3, rfl⟩ | ⟨h3, rfl⟩
    · exact ⟨⟨_, ⟨M, hM, .inl ⟨h3, rfl⟩⟩, rfl⟩, h2⟩
    · exact ⟨⟨_, ⟨M, hM, .inr ⟨h3, rfl⟩⟩, rfl⟩, h2⟩
  have GR2 := Lib.hid fun v w h h2 => (Growth_any q (stL (pats L) q).length v (tidB L) w (tabL (pats L) q) (stL (pats L) q) hT2.symm hS2.symm rfl h hst h2).mono (R' := fun e w' => (∃ g, GrowIs (tabL (pats L) q) (stL (pats L) q).length g ∧ e = .returned (.tuple #[.int .i64 g, .int .i64 0])) ∧ Below w.heap.size w w') fun e w' h => by
    obtain ⟨⟨M, hM, h1⟩, h2⟩ := h
    rcases h1 with ⟨h3, rfl⟩ | ⟨h3, rfl⟩
    · exact ⟨⟨_, ⟨M, hM, .inl ⟨h3, rfl⟩⟩, rfl⟩, h2⟩
    · exact ⟨⟨_, ⟨M, hM, .inr ⟨h3, rfl⟩⟩, rfl⟩, h2⟩
  have GS := Lib.hid fun g g' h h' => grow_same (g := g) (g' := g') hTT hN0 h h'
  have TI1 := Lib.hid fun W h h2 => Tidy_any q v1 L W h HSET.out h2
  have TI2 := Lib.hid fun v W h h2 => Tidy_any q v (tidB L) W h hst h2
  have SE := Lib.hid fun v W h => Set_any q v (tidB L) W h (fun s hs => by
    have := ((setB_iff.1 hst).2.2.1 s hs).2.1
    omega)
  have TX := Lib.hid fun v v' w h h' => texts_same v v' (tidB L) w h h' (by omega)
  rw [hid] at TI2
  rw [hst] at SE
  have NDT := Lib.hid fun he => nd_tid HSET.out he
  have hNDL := nd_len q L L.length
  have HNDL := Lib.hid (show (ndTo q L L.length).length ≤ 12 by omega)
  obtain ⟨t, ht⟩ : ∃ t, t = tidB L := ⟨_, rfl⟩
  rw [← ht] at TI1 TI2 SE TX htl CN2 GR2 NDT
  clear hb1 hs1 hset hst hT2 hS2 h0 hTT hN0 hF hid ht hNDL
  go_wp2_with fail
  refine (MD.out _).mono ?_
  rintro e w2 ⟨⟨n, hn, rfl⟩, rfl⟩
  have C1 := Lib.hid (CN1.out n (by omega))
  have C2 := Lib.hid fun v => CN2.out v n (by omega)
  obtain ⟨c, hc⟩ : ∃ c, c = cntT (tabL (pats L) q) n 0 := ⟨_, rfl⟩
  rw [← hc] at C1 C2
  clear CN1 CN2 hc
  go_wp2_with fail
  refine (TI1.out _ HS1.out (HG.out.kept HB1.out)).mono ?_
  rintro e w2 ⟨v2, rfl, ho2, hb2⟩
  have HB2 := Lib.hid (bl_then HB1.out hb2)
  have HS2 := Lib.hid (HS1.out.kept hb2)
  have HT2 := Lib.hid (strs_own ho2 (by omega))
  obtain ⟨A2, c2, rfl, HA2⟩ := own_any ho2
  obtain ⟨D, hD⟩ : ∃ D, D = t.length := ⟨_, rfl⟩
  have HD := Lib.hid hD
  have HTC : Hid (∀ i, i < D → ∃ g2, A2 = some ⟨g2, 0, none⟩ ∧ g2 < w2.heap.size ∧ ∀ W', Below w2.heap.size w2 W' → W'.cell? ⟨g2, i, none⟩ = some (.string (t.getD i ByteArray.empty))) := Lib.hid fun i hi => by
    obtain ⟨g2, e2, l2⟩ := HA2 (by omega)
    subst e2
    refine ⟨g2, rfl, l2, fun W' hb => (hb.cell (p := ⟨g2, i, none⟩) l2).trans ?_⟩
    rw [ho2.cellAt i (by omega), encB_at (by omega)]
  rw [← hD] at HT2 ⊢
  have hD12 : D ≤ 12 := by omega
  have HR2 := Lib.hid (bl_refl w2)
  clear hb2 ho2 HA2 hD htl
  go_wp2_with fail
  refine (SE.out _ _ HT2.out).mono ?_
  rintro e w3 ⟨rfl, hb3⟩
  have HB3 := Lib.hid (bl_then HB2.out hb3)
  have HS3 := Lib.hid (HS2.out.kept hb3)
  have HT3 := Lib.hid (HT2.out.kept hb3)
  have HR3 := Lib.hid (bl_then HR2.out hb3)
  clear hb3
  go_wp2_with fail
  refine (TI2.out _ _ HT3.out (HG.out.kept HB3.out)).mono ?_
  rintro e w4 ⟨v4, rfl, ho4, hb4⟩
  have HB4 := Lib.hid (bl_then HB3.out hb4)
  have HS4 := Lib.hid (HS3.out.kept hb4)
  have HT4 := Lib.hid (HT3.out.kept hb4)
  have HR4 := Lib.hid (bl_then HR3.out hb4)
  have HU4 := Lib.hid (strs_own ho4 (by have := HD.out; omega))
  clear hb4 ho4
  go_wp2_with fail
  refine (C1.out _ HS4.out (HG.out.kept HB4.out)).mono ?_
  rintro e w5 ⟨rfl, hb5⟩
  have HB5 := Lib.hid (bl_then HB4.out hb5)
  have HS5 := Lib.hid (HS4.out.kept hb5)
  have HT5 := Lib.hid (HT4.out.kept hb5)
  have HR5 := Lib.hid (bl_then HR4.out hb5)
  have HU5 := Lib.hid (HU4.out.kept hb5)
  clear hb5
  go_wp2_with fail
  refine (C2.out _ _ HT5.out (HG.out.kept HB5.out)).mono ?_
  rintro e w6 ⟨rfl, hb6⟩
  have HB6 := Lib.hid (bl_then HB5.out hb6)
  have HS6 := Lib.hid (HS5.out.kept hb6)
  have HT6 := Lib.hid (HT5.out.kept hb6)
  have HR6 := Lib.hid (bl_then HR5.out hb6)
  have HU6 := Lib.hid (HU5.out.kept hb6)
  clear hb6
  go_wp2_with fail
  refine (GR1.out _ HS6.out (HG.out.kept HB6.out)).mono ?_
  rintro e w7 ⟨⟨g, hg, rfl⟩, hb7⟩
  have HGG := Lib.hid hg
  have HB7 := Lib.hid (bl_then HB6.out hb7)
  have HS7 := Lib.hid (HS6.out.kept hb7)
  have HT7 := Lib.hid (HT6.out.kept hb7)
  have HU7 := Lib.hid (HU6.out.kept hb7)
  have HR7 := Lib.hid (bl_then HR6.out hb7)
  clear hb7 hg
  go_wp2_with fail
  refine (GR2.out _ _ HT7.out (HG.out.kept HB7.out)).mono ?_
  rintro e w8 ⟨⟨g', hg', rfl⟩, hb8⟩
  obtain rfl := GS.out _ _ HGG.out hg'
  have HB8 := Lib.hid (bl_then HB7.out hb8)
  have HS8 := Lib.hid (HS7.out.kept hb8)
  have HT8 := Lib.hid (HT7.out.kept hb8)
  have HU8 := Lib.hid (HU7.out.kept hb8)
  have HR8 := Lib.hid (bl_then HR7.out hb8)
  clear hb8 hg'
  go_wp2_with fail
  refine (TX.out _ _ _ HT8.out.texts HU8.out.texts).mono ?_
  rintro e w9 ⟨rfl, hb9⟩
  have HB9 := Lib.hid (bl_then HB8.out hb9)
  have HS9 := Lib.hid (HS8.out.kept hb9)
  have HT9 := Lib.hid (HT8.out.kept hb9)
  have HR9 := Lib.hid (bl_then HR8.out hb9)
  clear hb9
  cases he : endsB (tabL (pats L) q) with
  | false =>
    have NE := Lib.hid (Needed_none q v1 L w9 HS9.out HSET.out (HG.out.kept HB9.out) he)
    clear he
    go_wp2_with fail
    refine NE.out.mono ?_
    rintro e w10 ⟨rfl, hb10⟩
    have HB10 := Lib.hid (bl_then HB9.out hb10)
    clear hb10
    go_wp2_with fail
    refine (AW.out _ (HG.out.kept HB10.out)).mono ?_
    rintro e w99 ⟨rfl, hb99⟩
    have HB99 := Lib.hid (bl_then HB10.out hb99)
    clear hb99
    go_wp2_with fail
    go_ret
    exact ⟨rfl, HB99.out⟩
  | true =>
    have NE := Lib.hid (Needed_any q v1 L w9 HS9.out HSET.out (HG.out.kept HB9.out) he)
    have NT := Lib.hid (NDT.out he)
    obtain ⟨nd, hnd⟩ : ∃ nd, nd = ndTo q L L.length := ⟨_, rfl⟩
    rw [← hnd] at NE NT HNDL
    clear he hnd
    go_wp2_with fail
    refine NE.out.mono ?_
    rintro e w10 ⟨v10, rfl, ho10, hb10⟩
    have HB10 := Lib.hid (bl_then HB9.out hb10)
    have HR10 := Lib.hid (bl_then HR9.out hb10)
    obtain ⟨A3, c3, rfl, HA3⟩ := own_any ho10
    obtain ⟨E, hE⟩ : ∃ E, E = nd.length := ⟨_, rfl⟩
    have HE := Lib.hid hE
    have hE12 : E ≤ 12 := by have := HNDL.out; omega
    have HNC : Hid (∀ i, i < E → ∃ g3, A3 = some ⟨g3, 0, none⟩ ∧ g3 < w10.heap.size ∧ ∀ W', Below w10.heap.size w10 W' → W'.cell? ⟨g3, i, none⟩ = some (.string (nd.getD i ByteArray.empty))) := Lib.hid fun i hi => by
      obtain ⟨g3, e3, l3⟩ := HA3 (by omega)
      subst e3
      refine ⟨g3, rfl, l3, fun W' hb => (hb.cell (p := ⟨g3, i, none⟩) l3).trans ?_⟩
      rw [ho10.cellAt i (by omega), encB_at (by omega)]
    rw [← hE]
    clear hb10 ho10 HA3 hE
    go_wp2_with fail
    go_loopw [22] (fun iv wr => ∃ i : Nat, i ≤ E ∧ iv = .int .i64 i ∧ Hid (Below w10.heap.size w10 wr)) (fun iv _ => E - (intOf iv).toNat)
    case atStart => exact ⟨0, Nat.zero_le _, rfl, Lib.hid (bl_refl w10)⟩
    case round =>
      obtain ⟨i, hi, rfl, HBi⟩ := hrel
      by_cases hiE : i < E
      · obtain ⟨g3, eA3, lg3, hcn⟩ := HNC.out i hiE
        subst eA3
        have hin : i < nd.length := by have := HE.out; omega
        obtain ⟨s, hs⟩ : ∃ s, s = nd.getD i ByteArray.empty := ⟨_, rfl⟩
        have hsm : s ∈ t := NT.out s (by rw [hs, getD_at hin]; exact List.getElem_mem hin)
        rw [← hs] at hcn
        have HCN := Lib.hid hcn
        have HALL : Hid (t.any (fun x => decide (x = s)) = true) := Lib.hid (List.any_eq_true.2 ⟨s, hsm, decide_eq_true rfl⟩)
        have hi1 : (i : Int) < (E : Int) := by omega
        have hi0 : (0 : Int) ≤ (i : Int) := by omega
        clear hcn hs hsm hin
        obtain ⟨wi, hwi⟩ : ∃ wi, wi = wr := ⟨_, rfl⟩
        rw [← hwi] at HBi ⊢
        clear hwi
        go_wp2_with fail
        go_loopw [23, 24] (fun fv ov wr => ∃ j : Nat, j ≤ D ∧ ov = .int .i64 j ∧ fv = .bool ((t.take j).any (fun x => decide (x = s))) ∧ Hid (Below w10.heap.size w10 wr)) (fun _ ov _ => D - (intOf ov).toNat)
        case atStart => exact ⟨0, Nat.zero_le _, rfl, rfl, HBi⟩
        case round =>
          obtain ⟨j, hj, rfl, rfl, HBj⟩ := hrel
          have HBx := Lib.hid (bl_then HR10.out HBj.out)
          by_cases hjD : j < D
          · have hjt : j < t.length := by have := HD.out; omega
            obtain ⟨g2, eA2, lg2, hct⟩ := HTC.out j hjD
            subst eA2
            have hn1 := hct wr HBx.out
            have hn2 := HCN.out wr HBj.out
            have lg27 := Nat.lt_of_lt_of_le lg2 HBx.out.size
            have lg37 := Nat.lt_of_lt_of_le lg3 HBj.out.size
            have hts := List.take_succ_eq_append_getElem hjt
            rw [getD_at hjt] at hn1
            obtain ⟨u, hu⟩ : ∃ u, u = t[j] := ⟨_, rfl⟩
            rw [← hu] at hn1 hts
            have HTS : Hid ((t.take (j + 1)).any (fun x => decide (x = s)) = ((t.take j).any (fun x => decide (x = s)) || decide (u = s))) := Lib.hid (by rw [hts, List.any_append]; simp)
            have hbq := str_beq u s
            obtain ⟨b, hb⟩ : ∃ b, b = (t.take j).any (fun x => decide (x = s)) := ⟨_, rfl⟩
            rw [← hb] at HTS ⊢
            obtain ⟨d, hd⟩ : ∃ d, d = decide (u = s) := ⟨_, rfl⟩
            rw [← hd] at HTS hbq
            have hid' : (j : Int) < (D : Int) := by omega
            have hj0 : (0 : Int) ≤ (j : Int) := by omega
            clear hct hu hts hb hd lg2 hjt
            cases b with
            | true =>
              have e1 : (true || d) = true := rfl
              go_wp2_with fail
              go_quiet (fail)
              have HB8' := Lib.hid (bl_drewN HBj.out nq)
              go_wp2_with fail
              go_roundw
              case rel => exact ⟨j + 1, by omega, by go_num, by rw [HTS.out]; rfl, HB8'⟩
              case measure => simp [intOf]; omega
            | false =>
              go_wp2_with fail
              have HTS2 : Hid ((t.take (j + 1)).any (fun x => decide (x = s)) = d) := Lib.hid (by rw [HTS.out, Bool.false_or])
              go_quiet (fail)
              have HB8' := Lib.hid (bl_drewN HBj.out nq)
              go_wp2_with fail
              go_roundw
              case rel => exact ⟨j + 1, by omega, by go_num, by rw [HTS2.out], HB8'⟩
              case measure => simp [intOf]; omega
          · have ej : D = j := by omega
            have hnlt : ¬ (j : Int) < (D : Int) := by omega
            have e1 : (t.take j).any (fun x => decide (x = s)) = true := by rw [List.take_of_length_le (by have := HD.out; omega), HALL.out]
            rw [e1]
            clear e1 ej hjD
            go_wp2_with fail
            go_roundw
            case rel => exact ⟨i + 1, by omega, by go_num, HBj⟩
            case measure => simp [intOf]; omega
      · have hnlt : ¬ (i : Int) < (E : Int) := by omega
        have HB11 := Lib.hid (bl_then HB10.out HBi.out)
        clear hiE
        go_wp2_with fail
        refine (AW.out _ (HG.out.kept HB11.out)).mono ?_
        rintro e w99 ⟨rfl, hb99⟩
        have HB99 := Lib.hid (bl_then HB11.out hb99)
        clear hb99
        go_wp2_with fail
        go_ret
        exact ⟨rfl, HB99.out⟩
end Go.Proofs.Ytpclkocfbkjabab
