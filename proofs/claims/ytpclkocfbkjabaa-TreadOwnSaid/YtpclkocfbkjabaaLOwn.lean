/-
  The law TreadOwn: the walk. (Printed by tools/genLOwn.py.)
-/
import Derived.Test.YtpclkocfbkjabaaT59
import Derived.Test.YtpclkocfbkjabaaT56
import Derived.Test.YtpclkocfbkjabaaT53
import Derived.Test.YtpclkocfbkjabaaT51
import Derived.Test.YtpclkocfbkjabaaT50
import Derived.Test.YtpclkocfbkjabaaT35
import Derived.Test.YtpclkocfbkjabaaT12
import Derived.Test.YtpclkocfbkjabaaT25
import Derived.Test.YtpclkocfbkjabaaA26
namespace Go.Proofs.Ytpclkocfbkjabaa
open Go.RowKit Go.Shelf
set_option linter.unusedVariables false
set_option linter.unusedSimpArgs false

set_option maxRecDepth 100000 in
set_option maxHeartbeats 4000000 in
theorem TreadOwn_walk (x : Int) (v : Value) (ss : List ByteArray) (W : World) (hx : (Lit.int .i64 x).wf = true) (hv : StrsAt W v ss) (hl : ss.length * 16 ≤ 140737488351232) (hz : ∀ s ∈ ss, s.size ≤ maxLen) (hG : HasG W) :
    Calls Try.prog 12 #[.int .i64 x, v] W fun e w' => e = .returned (.bool true) ∧ Below W.heap.size W w' := by
  have TM := Lib.hid fun W h => tame_any x v ss 12 W h hl hz (by omega)
  have HV := Lib.hid hv
  have AW := Lib.hid fun W h => awake_any W h
  have HG := Lib.hid hG
  clear hG hv hz hl hx
  go_enter Try.func12, Try.ntmps12
  go_wp2_with fail
  refine (TM.out _ HV.out).mono ?_
  rintro e w1 ⟨q, v1, rfl, hq, ⟨L, hs1, hset, hL12, _⟩, hb1⟩
  have HB1 := Lib.hid hb1
  have HS1 := Lib.hid hs1
  have HSET := Lib.hid hset
  obtain ⟨k1, k2, k3, k4⟩ := own_ring hq
  have PT := Lib.hid (patterns_any v1 L w1 hs1 (fun s hs => by
    have := ((setB_iff.1 hset).2.2.1 s hs).2.1
    unfold maxLen; omega))
  rw [patC_id hset] at PT
  have TI := Lib.hid fun W h h2 => Tidy_any q v1 L W h hset h2
  have RI := Lib.hid fun W => Rings_low q 2 hq (by omega) W
  have FE := Lib.hid fun W => Few_any q 2 hq (by omega) k1 k2 (choose_pos hq (by omega) (by rw [← cntR_ringsL hq (by omega)]; exact k1)) W
  have LO := Lib.hid fun W h h2 => (Loop_any q _ v1 L W _ _ rfl rfl rfl h hset h2).mono (R' := fun e w' => (∃ u, e = .returned u) ∧ Below W.heap.size W w') fun e w' h => by
    obtain ⟨h1, h2⟩ := h
    rcases h1 with ⟨m, _, rfl⟩ | ⟨_, n, _, _, _, _, rfl⟩
    · exact ⟨⟨_, rfl⟩, h2⟩
    · exact ⟨⟨_, rfl⟩, h2⟩
  have NE : Hid (∀ W, StrsAt W v1 L → HasG W → Calls Try.prog 38 #[.int .i64 q, v1] W fun e w' => (∃ u, e = .returned u) ∧ Below W.heap.size W w') := Lib.hid fun W h h2 => by
    cases he : endsB (tabL (pats L) q) with
    | false =>
      refine (Needed_none q v1 L W h hset h2 he).mono ?_
      rintro e w' ⟨h1, h2⟩
      exact ⟨⟨_, h1⟩, h2⟩
    | true =>
      refine (Needed_any q v1 L W h hset h2 he).mono ?_
      rintro e w' ⟨v', h1, _, h3⟩
      exact ⟨⟨_, h1⟩, h3⟩
  have TX := Lib.hid fun v v' w h h' => texts_same v v' L w h h' (by omega)
  have TX2 := Lib.hid fun v v' w h h' => texts_same v v' (tidB L) w h h' (Nat.le_trans (tid_sub L).length_le (by omega))
  have RT := Lib.hid fun v W h => RTidy_any v L W h (by omega) (fun s hs => by
    have := ((setB_iff.1 hset).2.2.1 s hs).2.1
    omega)
  rw [tid_sel hset] at RT
  have htl := (tid_sub L).length_le
  obtain ⟨t, ht⟩ : ∃ t, t = tidB L := ⟨_, rfl⟩
  rw [← ht] at TI RT TX2 htl
  obtain ⟨RL, hRL⟩ : ∃ RL, RL = ringsL q 2 := ⟨_, rfl⟩
  rw [← hRL] at RI k1 k2 k3 k4
  obtain ⟨FL, hFL⟩ : ∃ FL, FL = fewL q 2 := ⟨_, rfl⟩
  have hfl : FL.length ≤ 12 := by
    rw [hFL, fewL_table hq (by omega) (by rw [← cntR_ringsL hq (by omega), ← hRL]; exact k1), (fewT_facts hq (by omega) (by rw [← cntR_ringsL hq (by omega), ← hRL]; exact k1)).1, ← cntR_ringsL hq (by omega), ← hRL]
    exact k1
  rw [← hFL] at FE
  have K3 := Lib.hid k3
  have K4 := Lib.hid k4
  have HL12 := Lib.hid hL12
  have HTL := Lib.hid htl
  clear hb1 hs1 hset ht hRL hFL k3 k4
  go_wp2_with fail
  refine PT.out.mono ?_
  rintro e w2 ⟨v2, rfl, ho2, hb2⟩
  have HB2 := Lib.hid (bl_then HB1.out hb2)
  have HS2 := Lib.hid (HS1.out.kept hb2)
  have HC2 := Lib.hid (strs_own ho2 (by omega))
  have HZ2 := Lib.hid (bl_refl w2)
  clear ho2 hb2
  go_wp2_with fail
  refine (TI.out _ HS2.out (HG.out.kept HB2.out)).mono ?_
  rintro e w3 ⟨v3, rfl, ho3, hb3⟩
  have HB3 := Lib.hid (bl_then HB2.out hb3)
  have HS3 := Lib.hid (HS2.out.kept hb3)
  have HZ3 := Lib.hid (bl_then HZ2.out hb3)
  obtain ⟨A3, c3, rfl, hA3⟩ := own_up (w := w3) (w2 := w2) ho3 (Nat.le_refl _)
  have HA3 := Lib.hid hA3
  obtain ⟨D, hD⟩ : ∃ D, D = t.length := ⟨_, rfl⟩
  have hD12 : D ≤ 12 := by omega
  rw [← hD] at HA3 ⊢
  clear ho3 hb3 hA3 hD htl
  go_wp2_with fail
  refine (RI.out _).mono ?_
  rintro e w4 ⟨v4, hdrs, rfl, ho4, hr4, hb4, hlow4⟩
  have HB4 := Lib.hid (bl_then HB3.out hb4)
  have HS4 := Lib.hid (HS3.out.kept hb4)
  have HZ4 := Lib.hid (bl_then HZ3.out hb4)
  obtain ⟨N, hN⟩ : ∃ N, N = RL.length := ⟨_, rfl⟩
  have HN := Lib.hid hN
  rw [← hN] at ho4 k1 k2
  obtain ⟨g9, c9, rfl, hg9, _⟩ := own_form ho4 k2
  have HW3 := Lib.hid HZ3.out.size
  have HR4 : Hid (∃ curH, w4.heap[g9]? = some (.cells curH 22 (0, 0)) ∧ ∀ i, i < N → ∃ b c, curH[i]? = some (.slice (some ⟨b, 0, none⟩) (RL.getD i []).length c) ∧ w2.heap.size ≤ b ∧ ∃ cur, w4.heap[b]? = some (.cells cur 9 (0, 0)) ∧ (RL.getD i []).length ≤ cur.size) := Lib.hid (by
    rcases ho4.2 with ⟨h', _⟩ | ⟨g', cap', cur, h', h1, h2, h3, h4, h5, h6⟩
    · simp at h'
    · simp only [Value.slice.injEq, Option.some.injEq, Addr.mk.injEq, and_true, true_and] at h'
      obtain ⟨rfl, rfl⟩ := h'
      refine ⟨cur, h2, fun i hi => ?_⟩
      have hiR : i < (RL.map encS).length := by rw [List.length_map, ← hN]; exact hi
      obtain ⟨b, c, cb, e1, e2, e3, e4⟩ := hr4.2 i hiR
      have e : (RL.map encS).getD i [] = encS (RL.getD i []) := by
        have hiR' : i < RL.length := by rw [← hN]; exact hi
        rw [List.getD_eq_getElem?_getD, List.getElem?_map, List.getElem?_eq_getElem hiR', List.getD_eq_getElem?_getD, List.getElem?_eq_getElem hiR']
        rfl
      rw [e] at e1 e4
      have el : (encS (RL.getD i [])).length = (RL.getD i []).length := by simp [encS]
      rw [el] at e1 e4
      have hsz : (RL.getD i []).length ≤ cb.size := by
        rcases Nat.eq_zero_or_pos (RL.getD i []).length with h0 | h0
        · omega
        · have h7 := e4 ((RL.getD i []).length - 1) (by omega)
          rw [List.getElem?_eq_getElem (by rw [el]; omega)] at h7
          have := (Array.getElem?_eq_some_iff.1 h7).1
          omega
      refine ⟨b, c, ?_, ?_, cb, e3, hsz⟩
      · rw [← h6, List.getElem?_take_of_lt (by omega), Array.getElem?_toList] at e1
        exact e1
      · have hm := List.mem_of_getElem? e1
        exact Nat.le_trans HW3.out (hlow4 _ hm b _ c rfl))
  have HA4 : Hid (0 < D → ∃ g, A3 = some ⟨g, 0, none⟩ ∧ w2.heap.size ≤ g ∧ ∃ cur, w4.heap[g]? = some (.cells cur 9 (0, 0)) ∧ D ≤ cur.size) := Lib.hid fun h => by
    obtain ⟨g, e, h1, cur, h2, h3⟩ := HA3.out h
    exact ⟨g, e, h1, cur, by rw [hb4.block g (Array.getElem?_eq_some_iff.1 h2).1]; exact h2, h3⟩
  obtain ⟨curH, hH1, hH2⟩ := HR4.out
  obtain ⟨bs4, hbs⟩ : ∃ f : Nat → Nat × Nat, ∀ i, i < N → (∃ c, curH[i]? = some (.slice (some ⟨(f i).1, 0, none⟩) (f i).2 c)) ∧ (f i).2 = (RL.getD i []).length ∧ w2.heap.size ≤ (f i).1 ∧ ∃ cur, w4.heap[(f i).1]? = some (.cells cur 9 (0, 0)) ∧ (f i).2 ≤ cur.size := by
    refine ⟨fun i => if h : i < N then ((hH2 i h).choose, (RL.getD i []).length) else (0, 0), fun i hi => ?_⟩
    have hh := (hH2 i hi).choose_spec
    simp only [hi, dif_pos]
    obtain ⟨c, h1, h2, cur, h3, h4⟩ := hh
    exact ⟨⟨c, h1⟩, by first | trivial | rfl, h2, cur, h3, h4⟩
  have HBS := Lib.hid hbs
  have HUP4 : Hid (∀ gt, (0 < D → A3 = some ⟨gt, 0, none⟩) → UpAt w2 ((if 0 < D then [(gt, D)] else []) ++ (List.range N).map bs4) g9 curH w4) := Lib.hid fun gt hgt => by
    refine ⟨HZ4.out, hH1, fun p hp => ?_⟩
    rcases List.mem_append.1 hp with h | h
    · by_cases h0 : 0 < D
      · rw [if_pos h0] at h
        obtain ⟨g, e, h1, cur, h2, h3⟩ := HA4.out h0
        rw [hgt h0] at e
        simp only [Option.some.injEq, Addr.mk.injEq, and_true] at e
        subst e
        rw [List.mem_singleton.1 h]
        exact ⟨h1, cur, h2, h3⟩
      · rw [if_neg h0] at h; cases h
    · obtain ⟨i, hi, rfl⟩ := List.mem_map.1 h
      obtain ⟨_, _, h1, h2⟩ := HBS.out i (List.mem_range.1 hi)
      exact ⟨h1, h2⟩
  obtain ⟨gt, hgt⟩ : ∃ gt, 0 < D → A3 = some ⟨gt, 0, none⟩ := by
    by_cases h0 : 0 < D
    · obtain ⟨g, e, _⟩ := HA3.out h0
      exact ⟨g, fun _ => e⟩
    · exact ⟨0, fun h => absurd h h0⟩
  have HGT := Lib.hid hgt
  have HU4 := Lib.hid (HUP4.out gt hgt)
  have HBR : Hid (∀ i, i < N → (∃ c, curH[i]? = some (.slice (some ⟨(bs4 i).1, 0, none⟩) (bs4 i).2 c)) ∧ (bs4 i).2 ≤ 5) := Lib.hid fun i hi => ⟨(HBS.out i hi).1, by rw [(HBS.out i hi).2.1]; exact K3.out i (by have := HN.out; omega)⟩
  clear ho4 hr4 hb4 hlow4 HR4 HA3 HA4 hH1 hH2 hbs HBS HUP4 hgt HW3 K3 hN hg9
  have HC4 : Hid (StrsAt w4 v2 L) := Lib.hid (HC2.out.kept HZ4.out)
  go_wp2_with fail
  refine (FE.out _).mono ?_
  rintro e w5 ⟨v5, rfl, ho5, hb5⟩
  have HB5 := Lib.hid (bl_then HB4.out hb5)
  have HS5 := Lib.hid (HS4.out.kept hb5)
  have HC5 := Lib.hid (HC4.out.kept hb5)
  have HU5' := Lib.hid (HU4.out.kept hb5)
  obtain ⟨A5, c5, rfl, hA5⟩ := own_up (w := w5) (w2 := w2) ho5 HZ4.out.size
  have HA5 := Lib.hid hA5
  obtain ⟨E, hE⟩ : ∃ E, E = FL.length := ⟨_, rfl⟩
  rw [← hE] at HA5 hfl ⊢
  obtain ⟨gw, hgw⟩ : ∃ gw, 0 < E → A5 = some ⟨gw, 0, none⟩ := by
    by_cases h0 : 0 < E
    · obtain ⟨g, e, _⟩ := HA5.out h0
      exact ⟨g, fun _ => e⟩
    · exact ⟨0, fun h => absurd h h0⟩
  have HGW := Lib.hid hgw
  obtain ⟨Bs, hBs⟩ : ∃ Bs, Bs = (if 0 < E then [(gw, E)] else []) ++ ((if 0 < D then [(gt, D)] else []) ++ (List.range N).map bs4) := ⟨_, rfl⟩
  have HU5 : Hid (UpAt w2 Bs g9 curH w5) := Lib.hid (by
    refine ⟨HU5'.out.low, HU5'.out.head, fun p hp => ?_⟩
    rw [hBs] at hp
    rcases List.mem_append.1 hp with h | h
    · by_cases h0 : 0 < E
      · rw [if_pos h0] at h
        obtain ⟨g, e, h1, cur, h2, h3⟩ := HA5.out h0
        rw [hgw h0] at e
        simp only [Option.some.injEq, Addr.mk.injEq, and_true] at e
        subst e
        rw [List.mem_singleton.1 h]
        exact ⟨h1, cur, h2, h3⟩
      · rw [if_neg h0] at h; cases h
    · exact HU5'.out.rows p h)
  have M1 : Hid (0 < D → (gt, D) ∈ Bs) := Lib.hid fun h => by rw [hBs, if_pos h]; simp
  have M2 : Hid (0 < E → (gw, E) ∈ Bs) := Lib.hid fun h => by rw [hBs, if_pos h]; simp
  have M3 : Hid (∀ i, i < N → bs4 i ∈ Bs) := Lib.hid fun i hi => by
    rw [hBs]
    exact List.mem_append_right _ (List.mem_append_right _ (List.mem_map.2 ⟨i, List.mem_range.2 hi, rfl⟩))
  clear ho5 hb5 HU5' hA5 HA5 hE hgw hBs HU4
  go_wp2_with fail
  refine (LO.out _ HS5.out (HG.out.kept HB5.out)).mono ?_
  rintro e w6 ⟨⟨u6, rfl⟩, hb6⟩
  have HB6 := Lib.hid (bl_then HB5.out hb6)
  have HS6 := Lib.hid (HS5.out.kept hb6)
  have HC6 := Lib.hid (HC5.out.kept hb6)
  have HU6 := Lib.hid (HU5.out.kept hb6)
  clear hb6
  go_wp2_with fail
  refine (NE.out _ HS6.out (HG.out.kept HB6.out)).mono ?_
  rintro e w7 ⟨⟨u7, rfl⟩, hb7⟩
  have HB7 := Lib.hid (bl_then HB6.out hb7)
  have HS7 := Lib.hid (HS6.out.kept hb7)
  have HC7 := Lib.hid (HC6.out.kept hb7)
  have HU7 := Lib.hid (HU6.out.kept hb7)
  clear hb7
  go_wp2_with fail
  refine (TX.out _ _ _ HS7.out.texts HC7.out.texts).mono ?_
  rintro e w8 ⟨rfl, hb8⟩
  have HB8 := Lib.hid (bl_then HB7.out hb8)
  have HS8 := Lib.hid (HS7.out.kept hb8)
  have HC8 := Lib.hid (HC7.out.kept hb8)
  have HU8 := Lib.hid (HU7.out.kept hb8)
  clear hb8
  go_wp2_with fail
  go_loopw [13] (fun iv wr => ∃ i : Nat, i ≤ D ∧ iv = .int .i64 i ∧ Hid (UpAt w2 Bs g9 curH wr)) (fun iv _ => D - (intOf iv).toNat)
  case atStart => exact ⟨0, Nat.zero_le _, rfl, HU8⟩
  case round =>
    obtain ⟨i13, hi13, rfl, HU13r⟩ := hrel
    by_cases hlt13 : i13 < D
    · have eA := HGT.out (by omega)
      obtain ⟨⟨u0, hcell⟩, hfro, hgw⟩ := HU13r.out.cell (M1.out (by omega)) hlt13
      have HU2 := Lib.hid (HU13r.out.set (M1.out (by omega)) i13 (.string ⟨#[120]⟩))
      have h1 : (i13 : Int) < (D : Int) := by omega
      have h0 : (0 : Int) ≤ (i13 : Int) := by omega
      dsimp only at hcell hfro hgw HU2
      subst eA
      go_wp2_with fail
      go_roundw
      case rel => exact ⟨i13 + 1, by omega, by go_num, HU2⟩
      case measure => simp [intOf]; omega
    · have hn13 : ¬ (i13 : Int) < (D : Int) := by omega
      clear hlt13
      go_wp2_with fail
      go_loopw [14] (fun iv wr => ∃ i : Nat, i ≤ E ∧ iv = .int .i64 i ∧ Hid (UpAt w2 Bs g9 curH wr)) (fun iv _ => E - (intOf iv).toNat)
      case atStart => exact ⟨0, Nat.zero_le _, rfl, HU13r⟩
      case round =>
        obtain ⟨i14, hi14, rfl, HU14r⟩ := hrel
        by_cases hlt14 : i14 < E
        · have eA := HGW.out (by omega)
          obtain ⟨⟨u0, hcell⟩, hfro, hgw⟩ := HU14r.out.cell (M2.out (by omega)) hlt14
          have HU2 := Lib.hid (HU14r.out.set (M2.out (by omega)) i14 (.string ⟨#[120]⟩))
          have h1 : (i14 : Int) < (E : Int) := by omega
          have h0 : (0 : Int) ≤ (i14 : Int) := by omega
          dsimp only at hcell hfro hgw HU2
          subst eA
          go_wp2_with fail
          go_roundw
          case rel => exact ⟨i14 + 1, by omega, by go_num, HU2⟩
          case measure => simp [intOf]; omega
        · have hn14 : ¬ (i14 : Int) < (E : Int) := by omega
          clear hlt14
          go_wp2_with fail
          go_loopw [15] (fun iv wr => ∃ i : Nat, i ≤ N ∧ iv = .int .i64 i ∧ Hid (UpAt w2 Bs g9 curH wr)) (fun iv _ => N - (intOf iv).toNat)
          case atStart => exact ⟨0, Nat.zero_le _, rfl, HU14r⟩
          case round =>
            obtain ⟨i15, hi15, rfl, HU15r⟩ := hrel
            by_cases hlt15 : i15 < N
            · obtain ⟨⟨ci, hci⟩, hb5⟩ := HBR.out i15 hlt15
              have hm := M3.out i15 hlt15
              obtain ⟨bp, hbp⟩ : ∃ bp, bp = bs4 i15 := ⟨_, rfl⟩
              rw [← hbp] at hci hb5 hm
              obtain ⟨gb, nb⟩ := bp
              dsimp only at hci hb5
              have HM := Lib.hid hm
              have HCI : Hid (∀ W', UpAt w2 Bs g9 curH W' → W'.cell? ⟨g9, i15, none⟩ = some (.slice (some ⟨gb, 0, none⟩) nb ci) ∧ g9 < W'.heap.size) := Lib.hid fun W' h => ⟨(h.hdr i15).trans hci, (Array.getElem?_eq_some_iff.1 h.head).1⟩
              have h15 : (i15 : Int) < (N : Int) := by omega
              have h150 : (0 : Int) ≤ (i15 : Int) := by omega
              clear hbp hci hm
              go_wp2_with fail
              go_loopw [16] (fun iv wr => ∃ j : Nat, j ≤ nb ∧ iv = .int .i64 j ∧ Hid (UpAt w2 Bs g9 curH wr)) (fun iv _ => nb - (intOf iv).toNat)
              case atStart => exact ⟨0, Nat.zero_le _, rfl, HU15r⟩
              case round =>
                obtain ⟨j, hj, rfl, HUj⟩ := hrel
                obtain ⟨d1, d2⟩ := HCI.out _ HUj.out
                by_cases hjn : j < nb
                · obtain ⟨⟨u0, hcell⟩, hfro, hgw⟩ := HUj.out.cell HM.out hjn
                  have HU2 := Lib.hid (HUj.out.set HM.out j (.string ⟨#[120]⟩))
                  have h1 : (j : Int) < (nb : Int) := by omega
                  have h0 : (0 : Int) ≤ (j : Int) := by omega
                  dsimp only at hcell hfro hgw HU2
                  go_wp2_with fail
                  go_roundw
                  case rel => exact ⟨j + 1, by omega, by go_num, HU2⟩
                  case measure => simp [intOf]; omega
                · have hnj : ¬ (j : Int) < (nb : Int) := by omega
                  clear hjn
                  go_wp2_with fail
                  go_roundw
                  case rel => exact ⟨i15 + 1, by omega, by go_num, HUj⟩
                  case measure => simp [intOf]; omega
            · have hn15 : ¬ (i15 : Int) < (N : Int) := by omega
              clear hlt15
              have HZ10 := Lib.hid HU15r.out.low
              have HB10 := Lib.hid (bl_then HB2.out HZ10.out)
              have HS10 := Lib.hid (HS2.out.kept HZ10.out)
              have HC10 := Lib.hid (HC2.out.kept HZ10.out)
              go_wp2_with fail
              refine (TI.out _ HS10.out (HG.out.kept HB10.out)).mono ?_
              rintro e w11 ⟨v11, rfl, ho11, hb11⟩
              have HB11 := Lib.hid (bl_then HB10.out hb11)
              have HS11 := Lib.hid (HS10.out.kept hb11)
              have HC11 := Lib.hid (HC10.out.kept hb11)
              have HT11 := Lib.hid (strs_own ho11 (by have := HTL.out; have := HL12.out; omega))
              clear hb11 ho11
              go_wp2_with fail
              refine (RI.out _).mono ?_
              rintro e w12 ⟨v12, hdrs', rfl, ho12, hr12, hb12, _⟩
              have HB12 := Lib.hid (bl_then HB11.out hb12)
              have HS12 := Lib.hid (HS11.out.kept hb12)
              have HC12 := Lib.hid (HC11.out.kept hb12)
              have HT12 := Lib.hid (HT11.out.kept hb12)
              rw [← HN.out] at ho12
              obtain ⟨g12, c12, rfl, _, hg12⟩ := own_form ho12 k2
              have HFST : Hid (∃ b c, b < w12.heap.size ∧ ∀ W', Below w12.heap.size w12 W' → W'.cell? ⟨g12, 0, none⟩ = some (.slice (some ⟨b, 0, none⟩) 1 c) ∧ W'.cell? ⟨b, 0, none⟩ = some (.string (bs [97, 97])) ∧ g12 < W'.heap.size ∧ b < W'.heap.size) := Lib.hid (by
                have h0R : 0 < RL.length := by have := HN.out; omega
                obtain ⟨b, c, e1, e2, e3, e4⟩ := hr12.at (i := 0) (by simpa using h0R)
                have e : (RL.map encS).getD 0 [] = encS (RL.getD 0 []) := by
                  rw [List.getD_eq_getElem?_getD, List.getElem?_map, List.getElem?_eq_getElem h0R, List.getD_eq_getElem?_getD, List.getElem?_eq_getElem h0R]
                  rfl
                rw [e, K4.out] at e1 e4
                refine ⟨b, c, e3, fun W' hb => ⟨(hb.cell (p := ⟨g12, 0, none⟩) hg12).trans ((ho12.cellAt 0 (by omega)).trans e1), (hb.cell (p := ⟨b, 0, none⟩) e3).trans (e4 0 (by simp [encS])), Nat.lt_of_lt_of_le hg12 hb.size, Nat.lt_of_lt_of_le e3 hb.size⟩⟩)
              clear ho12 hr12 hb12
              go_wp2_with fail
              refine (TX.out _ _ _ HS12.out.texts HC12.out.texts).mono ?_
              rintro e w13 ⟨rfl, hb13⟩
              have HB13 := Lib.hid (bl_then HB12.out hb13)
              have HY13 := Lib.hid (bl_then (bl_refl w12) hb13)
              have HC13 := Lib.hid (HC12.out.kept hb13)
              have HT13 := Lib.hid (HT12.out.kept hb13)
              clear hb13
              go_wp2_with fail
              refine (RT.out _ _ HC13.out).mono ?_
              rintro e w14 ⟨v14, rfl, ho14, hb14⟩
              have HB14 := Lib.hid (bl_then HB13.out hb14)
              have HY14 := Lib.hid (bl_then HY13.out hb14)
              have HT14 := Lib.hid (HT13.out.kept hb14)
              have HV14 := Lib.hid (strs_own ho14 (by have := HTL.out; have := HL12.out; omega))
              clear hb14 ho14
              go_wp2_with fail
              refine (TX2.out _ _ _ HT14.out.texts HV14.out.texts).mono ?_
              rintro e w15 ⟨rfl, hb15⟩
              have HB15 := Lib.hid (bl_then HB14.out hb15)
              have HY15 := Lib.hid (bl_then HY14.out hb15)
              clear hb15
              obtain ⟨b12, cb12, _, hf⟩ := HFST.out
              obtain ⟨f1, f2, f3, f4⟩ := hf _ HY15.out
              have hbsaa : bs [97, 97] = ⟨#[97, 97]⟩ := rfl
              rw [hbsaa] at f2
              have hN0 : (0 : Int) < (N : Int) := by omega
              clear hf hbsaa
              go_wp2_with fail
              refine (AW.out _ (HG.out.kept HB15.out)).mono ?_
              rintro e w16 ⟨rfl, hb16⟩
              have HB16 := Lib.hid (bl_then HB15.out hb16)
              clear hb16
              go_wp2_with fail
              go_ret
              exact ⟨rfl, HB16.out⟩
end Go.Proofs.Ytpclkocfbkjabaa
