/-
  The reference: Of, the graph of a set.
-/
import Derived.Test.YtnamafakjkcmjaaT29
namespace Go.Proofs.Ytnamafakjkcmjaa
open Go.RowKit Go.Shelf
set_option linter.unusedVariables false
set_option linter.unusedSimpArgs false

/-- A graph in the hand: its states and its rows. -/
def GraphV (w : World) (base : Nat) (v : Value) (S : List Str) (T : Tab) : Prop := ∃ vS vT hdrs, v = .agg #[vS, vT] ∧ w.ownsRow base 9 1 vS S.length (encS S) ∧ w.ownsRow base 74 1 vT T.length hdrs ∧ RowsAt w w.heap.size hdrs T
/-- The states so far. -/
def layTo (set : List Str) (q k i : Nat) : List Str := (List.range k).flatMap (lay set q) ++ ((wordsL q k).take i).filter (okL set)
theorem layTo_zero (set : List Str) (q k : Nat) : layTo set q k 0 = (List.range k).flatMap (lay set q) := by simp [layTo]
theorem layTo_all (set : List Str) (q k : Nat) : layTo set q k (wordsL q k).length = layTo set q (k + 1) 0 := by
  unfold layTo
  rw [List.take_length, List.range_succ, List.flatMap_append, List.take_zero]
  simp [lay]
theorem layTo_no {set : List Str} {q k i : Nat} (h : i < (wordsL q k).length) (hk : okL set (wordsL q k)[i] = false) : layTo set q k (i + 1) = layTo set q k i := by
  unfold layTo
  rw [List.take_succ_eq_append_getElem h, List.filter_append]
  simp [hk]
theorem layTo_yes {set : List Str} {q k i : Nat} (h : i < (wordsL q k).length) (hk : okL set (wordsL q k)[i] = true) : layTo set q k (i + 1) = layTo set q k i ++ [(wordsL q k)[i]] := by
  unfold layTo
  rw [List.take_succ_eq_append_getElem h, List.filter_append, ← List.append_assoc]
  simp [hk]
theorem layTo_few {set : List Str} {q k i : Nat} (hq : q ≤ 3) (hk : k ≤ 4) : (layTo set q k i).length ≤ 500 := by
  unfold layTo
  rw [List.length_append]
  have h1 : (((wordsL q k).take i).filter (okL set)).length ≤ 243 := Nat.le_trans (List.length_filter_le _ _) (Nat.le_trans (List.length_take_le' _ _) (words_few hq (by omega)))
  have h2 : ∀ d, (lay set q d).length ≤ 3 ^ d := fun d => by
    refine Nat.le_trans (List.length_filter_le _ _) ?_
    rw [words_len]
    exact Nat.pow_le_pow_left hq d
  have a0 := h2 0
  have a1 := h2 1
  have a2 := h2 2
  have a3 := h2 3
  have h3 : ((List.range k).flatMap (lay set q)).length ≤ 40 := by
    have : k = 0 ∨ k = 1 ∨ k = 2 ∨ k = 3 ∨ k = 4 := by omega
    rcases this with rfl | rfl | rfl | rfl | rfl <;> simp [List.range, List.range.loop, List.flatMap_cons] <;> omega
  omega
/-- The graph under way: its states. -/
def GB (w : World) (gB : Nat) (W : World) (vS : Value) (st : List Str) : Prop := Whole W gB 72 #[vS, .slice none 0 0] ∧ W.ownsRow w.heap.size 9 1 vS st.length (encS st) ∧ Below w.heap.size w W ∧ w.heap.size < gB ∧ Whole W w.heap.size 72 #[.slice none 0 0, .slice none 0 0]
theorem GB.kept {w : World} {gB : Nat} {W W' : World} {vS : Value} {st : List Str} (h : GB w gB W vS st) (hb : Below W.heap.size W W') : GB w gB W' vS st :=
  ⟨h.1.kept hb, own_kept h.2.1 hb, bl_then h.2.2.1 hb, h.2.2.2.1, h.2.2.2.2.kept hb⟩
theorem tab_take {set : List Str} {q k : Nat} (h : k < (stL set q).length) : (tabL set q).take (k + 1) = (tabL set q).take k ++ [rowL set q (stL set q)[k]] := by
  unfold tabL
  rw [List.take_succ_eq_append_getElem (by simpa using h), List.getElem_map]
/-- The graph under way: its rows. -/
def GT (w : World) (gB : Nat) (W : World) (vS vT : Value) (S : List Str) (T : Tab) (k : Nat) : Prop := Whole W gB 72 #[vS, vT] ∧ ∃ hdrs, W.ownsRow w.heap.size 9 1 vS S.length (encS S) ∧ W.ownsRow w.heap.size 74 1 vT k hdrs ∧ RowsAt W W.heap.size hdrs (T.take k) ∧
  Below w.heap.size w W ∧ w.heap.size < gB ∧ Whole W w.heap.size 72 #[.slice none 0 0, .slice none 0 0]
set_option maxRecDepth 100000 in
set_option maxHeartbeats 4000000 in
theorem Of_any (q : Nat) (hq : 1 ≤ q ∧ q ≤ 3) (v : Value) (ss : List ByteArray) (w : World) (hv : StrsAt w v ss) (hz : ∀ p ∈ ss, p.size ≤ 1000) (hl : ss.length ≤ 1000) (h0 : okL (pats ss) [] = true) :
    Calls Try.prog 38 #[.int .i64 q, v] w fun e w' => ∃ g, e = .returned g ∧ GraphV w' w.heap.size g (stL (pats ss) q) (tabL (pats ss) q) ∧ Below w.heap.size w w' := by
  obtain ⟨i0, hi, hz0, hz1, hz2⟩ := info_parts infoS
  obtain ⟨j0, hj, jz0, jz1, jz2⟩ := info_parts infoI
  obtain ⟨r0, hr, rz0, rz1, rz2⟩ := info_parts infoR
  have WO := Lib.hid fun k hk W => refWords_any q k hq hk W
  have AV := Lib.hid fun s W h1 h2 => Avoids_any v ss s W h1 hz hl h2
  have HV := Lib.hid hv
  have H0 := Lib.hid h0
  obtain ⟨set, hset⟩ : ∃ set, set = pats ss := ⟨_, rfl⟩
  rw [← hset] at AV ⊢
  obtain ⟨gB, hgB⟩ : ∃ gB, gB = w.heap.size + 1 := ⟨_, rfl⟩
  have G0 : Hid (GB w gB ((w.alloc (.cells #[.slice none 0 0, .slice none 0 0] 72)).alloc (.cells #[.slice none 0 0, .slice none 0 0] 72)) (.slice none 0 0) (layTo set q 0 0)) := Lib.hid (by
    refine ⟨?_, World.ownsRow_nil _ _ _ _, bl_alloc (bl_alloc (bl_refl w) _) _, by omega, (Whole.new w _ _).alloc _⟩
    rw [hgB]
    exact Whole.new2 w _ _ _)
  rw [hset, ← hset] at G0
  have HSET := Lib.hid hset
  clear hset hv h0 hz hl
  have HGB := Lib.hid hgB
  go_enter Try.func38, Try.ntmps38
  go_wp2_with fail
  rw [← hgB]
  clear hgB
  go_loopw [6] (fun i wr => ∃ (k : Nat) (vS : Value), k ≤ 5 ∧ i = .int .i64 k ∧ Hid (GB w gB wr vS (layTo set q k 0))) (fun i _ => 5 - (intOf i).toNat)
  case atStart => exact ⟨0, _, by omega, rfl, G0⟩
  case round =>
    obtain ⟨k, vS, hk, rfl, HG⟩ := hrel
    clear G0
    by_cases hk5 : k < 5
    · have WOk := Lib.hid fun W => WO.out k (by omega) W
      go_wp2_with fail
      refine (WOk.out _).mono ?_
      rintro e w2 ⟨vl, rfl, hol, rl⟩
      have hfew := words_few (n := k) hq.2 (by omega)
      have hpos : 0 < (wordsL q k).length := by rw [words_len]; exact Nat.pow_pos hq.1
      obtain ⟨N, hN⟩ : ∃ N, N = (wordsL q k).length := ⟨_, rfl⟩
      have HN := Lib.hid hN
      rw [← hN] at hol hfew hpos
      clear hN
      obtain ⟨gl, cl, rfl, hgl, hgl2⟩ := own_form hol hpos
      have HOL := Lib.hid hol
      have HG2 := Lib.hid (HG.out.kept rl)
      have hne2 : vS.ownBlock ≠ some gl := fun e => by have := (HG.out.2.1.lt gl e).2; omega
      have hlw : w.heap.size ≤ wr.heap.size := HG.out.2.2.1.size
      have HNE := Lib.hid hne2
      clear hol rl hne2 HG
      go_wp2_with fail
      have HW0 := Lib.hid hlw
      obtain ⟨B0, hB0⟩ : ∃ B0, B0 = wr.heap.size := ⟨_, rfl⟩
      rw [← hB0] at HOL HW0 hgl
      clear hB0 hlw
      go_loopw [8] (fun i wx => ∃ (j : Nat) (vX : Value), j ≤ N ∧ i = .int .i64 j ∧ Hid (GB w gB wx vX (layTo set q k j)) ∧ Hid (wx.ownsRow B0 9 1 (.slice (some ⟨gl, 0, none⟩) N cl) N (encS (wordsL q k))) ∧ Hid (vX.ownBlock ≠ some gl)) (fun i _ => N - (intOf i).toNat)
      case atStart => exact ⟨0, vS, Nat.zero_le _, rfl, HG2, HOL, HNE⟩
      case round =>
        obtain ⟨j, vX, hj', rfl, HGj, HOj, HNEj⟩ := hrel
        clear HG2 HOL HNE
        by_cases hjN : j < N
        · have hjw : j < (wordsL q k).length := by have := HN.out; omega
          obtain ⟨s, hs⟩ : ∃ s, s = (wordsL q k)[j] := ⟨_, rfl⟩
          have hsl : s.length ≤ 5 := by rw [hs, ((mem_words q k _).1 (List.getElem_mem hjw)).1]; omega
          have ce : wr.cell? ⟨gl, j, none⟩ = some (.string (bs s)) := by
            rw [HOj.out.cellAt j (by omega), hs]
            unfold encS
            rw [List.getElem?_map, List.getElem?_eq_getElem hjw]
            rfl
          have lg := (HOj.out.lt gl rfl).2
          have AVs := Lib.hid (AV.out (bs s) wr (HV.out.kept HGj.out.2.2.1) (by show s.length ≤ _; omega))
          rw [sb_bs] at AVs
          cases hok : okL set s with
          | false =>
            rw [hok] at AVs
            have e := layTo_no hjw (by rw [← hs]; exact hok)
            have HG3 : Hid (GB w gB wr vX (layTo set q k (j + 1))) := Lib.hid (by rw [e]; exact HGj.out)
            clear e hok hs HGj
            go_wp2_with fail
            refine AVs.out.mono ?_
            rintro e w3 ⟨rfl, rfl⟩
            go_wp2_with fail
            go_roundw
            case rel => exact ⟨j + 1, vX, by omega, by go_num, HG3, HOj, HNEj⟩
            case measure => simp [intOf]; omega
          | true =>
            rw [hok] at AVs
            have hgw := layTo_few (set := set) (k := k) (i := j) hq.2 (by omega)
            have e := layTo_yes hjw (by rw [← hs]; exact hok)
            rw [← hs] at e
            have HE := Lib.hid e
            obtain ⟨a1, a2, a3, a4, a5⟩ := HGj.out
            have hsb := a3.size
            have c1 := (a1.cell 0).trans rfl
            have l1 := a1.lt
            obtain ⟨NL, hNL⟩ : ∃ NL, NL = (layTo set q k j).length := ⟨_, rfl⟩
            have HNL := Lib.hid hNL
            rw [← hNL] at a2 hgw
            clear hNL
            obtain ⟨A, ca, rfl, _⟩ := own_any a2
            have A1 := Lib.hid a1
            have A3 := Lib.hid a3
            have A5 := Lib.hid a5
            clear a1 a3 e hok hs HGj a5
            go_wp2_with fail
            refine AVs.out.mono ?_
            rintro e w3 ⟨rfl, rfl⟩
            go_wp2_with (at_builtin; refine wpList_append_lies _ rfl (.tmp 36) (.tmp 41) _ rfl w.heap.size 9 i0 _ 1 16 Try.underlying22 hi hz0 hz1 hz2 rfl (by decide) (.slice A NL ca) NL (encS (layTo set q k j)) rfl (a2.alloc _) ⟨wr.heap.size, 0, none⟩ 1 1 [.string (bs s)] rfl rfl (cells_new _ _ _) (by intro u hu; rw [List.mem_singleton.1 hu]; rfl) (by omega) (by unfold maxLen; omega) (by omega) (by simp; omega) _ rfl ?_; intro g6 c6 w6 hown6 hg6 hat hlt; have hoA := a2.alloc (.cells #[.string (bs s)] 9); have hWA := A1.out.alloc (.cells #[.string (bs s)] 9); have hW6 := hWA.grown hg6 (hWA.ne_own hoA (by decide)); have d6 := (hW6.cell 0).trans rfl; have k6 := hW6.lt; have f6 := hW6.frozen 0)
            rw [← encS_snoc, ← HE.out] at hown6
            have hlen : (layTo set q k (j + 1)).length = NL + 1 := by rw [HE.out, List.length_append, List.length_singleton, HNL.out]
            have HG6 : Hid (GB w gB (w6.setCell ⟨gB, 0, none⟩ (.slice (some ⟨g6, 0, none⟩) (NL + 1) c6)) (.slice (some ⟨g6, 0, none⟩) (NL + 1) c6) (layTo set q k (j + 1))) := Lib.hid (by
              have hb6 := bl_grown (bl_alloc A3.out (.cells #[.string (bs s)] 9)) hoA (Nat.le_refl _) hg6
              have h5 := (A5.out.alloc (.cells #[.string (bs s)] 9)).grown hg6 ((A5.out.alloc (.cells #[.string (bs s)] 9)).ne_own hoA (by decide))
              refine ⟨hW6.set 0 _, ?_, bl_set hb6 (by show w.heap.size ≤ gB; omega) _, a4, h5.far (by show w.heap.size ≠ gB; omega) _⟩
              rw [hlen]
              exact own_far hown6 hW6 (by decide) 0 _)
            have HO6 : Hid ((w6.setCell ⟨gB, 0, none⟩ (.slice (some ⟨g6, 0, none⟩) (NL + 1) c6)).ownsRow B0 9 1 (.slice (some ⟨gl, 0, none⟩) N cl) N (encS (wordsL q k))) := Lib.hid (by
              refine own_far ((HOj.out.alloc (.cells #[.string (bs s)] 9)).kept hg6 (.inr fun e => HNEj.out ?_)) hW6 (by decide) 0 _
              rw [← e]; rfl)
            have HN6 : Hid ((Value.slice (some ⟨g6, 0, none⟩) (NL + 1) c6).ownBlock ≠ some gl) := Lib.hid fun e => by
              have e2 : g6 = gl := by simpa [Value.ownBlock] using e
              rcases hat with h | h
              · exact HNEj.out (by rw [h, e2])
              · rw [World.size_alloc] at h; omega
            clear hown6 hg6 hat hlt hoA hWA hW6 d6 k6 f6 A1 A3 A5 a2 HOj HNEj
            go_roundw
            case rel => exact ⟨j + 1, _, by omega, by go_num, HG6, HO6, HN6⟩
            case measure => simp [intOf]; omega
        · have ej : N = j := by omega
          have e := layTo_all set q k
          rw [← HN.out, ej] at e
          rw [e] at HGj
          clear ej e HOj HNEj
          go_wp2_with fail
          go_roundw
          case rel => exact ⟨k + 1, vX, by omega, by go_num, HGj⟩
          case measure => simp [intOf]; omega
    · have ek : k = 5 := by omega
      have e : layTo set q k 0 = stL set q := by rw [ek, layTo_zero]; rfl
      rw [e] at HG
      clear e ek
      obtain ⟨a1, a2, a3, a4, a5⟩ := HG.out
      have hfew := stL_few set hq.2
      have hpos : 0 < (stL set q).length := by rw [stL_fix (by rw [HSET.out]; exact H0.out)]; simp
      obtain ⟨S, hS⟩ : ∃ S, S = stL set q := ⟨_, rfl⟩
      have HS := Lib.hid hS
      rw [← hS] at a2 hfew hpos
      obtain ⟨SN, hSN⟩ : ∃ SN, SN = S.length := ⟨_, rfl⟩
      have HSN := Lib.hid hSN
      rw [← hSN] at a2 hfew hpos
      clear hS hSN HG
      obtain ⟨gS, cS, rfl, hgS, hgS2⟩ := own_form a2 hpos
      have GT0 : Hid (GT w gB wr (.slice (some ⟨gS, 0, none⟩) SN cS) (.slice none 0 0) S (tabL set q) 0) := Lib.hid ⟨a1, [], by rw [← HSN.out]; exact a2, World.ownsRow_nil _ _ _ _, RowsAt.nil _ _, a3, a4, a5⟩
      clear a1 a2 a3 a5
      go_wp2_with fail
      go_loopw [10] (fun i wr => ∃ (k : Nat) (vT : Value), k ≤ SN ∧ i = .int .i64 k ∧ Hid (GT w gB wr (.slice (some ⟨gS, 0, none⟩) SN cS) vT S (tabL set q) k)) (fun i _ => SN - (intOf i).toNat)
      case atStart => exact ⟨0, _, Nat.zero_le _, rfl, GT0⟩
      case round =>
        obtain ⟨k, vT, hk', rfl, HG⟩ := hrel
        clear GT0
        obtain ⟨a1, hdrs, a2, a3, a4, a5, a6, a7⟩ := HG.out
        rw [← HSN.out] at a2
        have c1 := (a1.cell 0).trans rfl
        have c2 := (a1.cell 1).trans rfl
        have l1 := a1.lt
        have hwz := a5.size
        by_cases hkS : k < SN
        · have hkl : k < S.length := by have := HSN.out; omega
          obtain ⟨s, hs⟩ : ∃ s, s = S[k] := ⟨_, rfl⟩
          have ce : wr.cell? ⟨gS, k, none⟩ = some (.string (bs s)) := by
            rw [a2.cellAt k (by omega), hs]
            unfold encS
            rw [List.getElem?_map, List.getElem?_eq_getElem hkl]
            rfl
          have lg := (a2.lt gS rfl).2
          have hsm : s ∈ stL set q := by rw [hs, ← HS.out]; exact List.getElem_mem hkl
          have hsl : s.length ≤ 4 := (mem_stL.1 hsm).1
          have HSM := Lib.hid hsm
          have HSK := Lib.hid hs
          clear a1 a2 a3 a4 a5 a7 hsm hs
          go_wp2_with fail
          obtain ⟨W1, hW1⟩ : ∃ W1, W1 = wr := ⟨_, rfl⟩
          rw [← hW1] at HG c1 c2 l1 hwz ce lg ⊢
          clear hW1
          have C1 := Lib.hid c1
          have C2 := Lib.hid c2
          have CE := Lib.hid ce
          have O1 := Lib.hid (World.ownsRow_nil W1 W1.heap.size 3 1)
          clear c1 c2 ce
          go_loopw [11, 12] (fun v i wx => ∃ c : Nat, c ≤ q ∧ i = .int .i64 c ∧ wx.ownsRow W1.heap.size 3 1 v c (encI ((rowL set q s).take c)) ∧ Hid (Below W1.heap.size W1 wx)) (fun _ i _ => q - (intOf i).toNat)
          case atStart => exact ⟨0, Nat.zero_le _, rfl, O1.out, Lib.hid (bl_refl W1)⟩
          case round =>
            obtain ⟨c, hc, rfl, ho, HB⟩ := hrel
            have hbz := HB.out.size
            by_cases hcq : c < q
            · obtain ⟨tt, htt⟩ : ∃ tt, tt = s ++ [ltr c] := ⟨_, rfl⟩
              have happ : bs s ++ bs [ltr c] = bs tt := by rw [htt]; exact bs_append _ _
              have habc := abc_at hcq hq.2
              have HTT := Lib.hid htt
              have zs1 : (bs s).size ≤ 4 := hsl
              have zs2 : (bs [ltr c]).size ≤ 1 := Nat.le_refl _
              have htl : tt.length ≤ 5 := by rw [htt]; simp; omega
              obtain ⟨D, hD⟩ : ∃ D, D = c + 1 := ⟨_, rfl⟩
              have hc3 : (D : Int) ≤ 3 := by omega
              have hc4 : (c : Int) ≤ (D : Int) := by omega
              have hc5 : (0 : Int) ≤ (c : Int) := Int.natCast_nonneg c
              have hc6 : c ≤ 2 := by omega
              have hsum : ¬ 9223372036854775807 < (bs s).size + (bs [ltr c]).size := by omega
              have hw1 : (c : Int) + 1 = (D : Int) := by omega
              rw [← hD] at habc
              have d1 := (HB.out.cell (p := ⟨gB, 0, none⟩) l1).trans C1.out
              have d2 := (HB.out.cell (p := ⟨gS, k, none⟩) lg).trans CE.out
              have k1 := Nat.lt_of_lt_of_le l1 HB.out.size
              have k2 := Nat.lt_of_lt_of_le lg HB.out.size
              have hD3 : D ≤ 3 := by omega
              have hk1 : (k : Int) < (SN : Int) := by omega
              have hk0 : (0 : Int) ≤ (k : Int) := Int.natCast_nonneg k
              clear htt hD
              go_wp2_with fail
              have hw2 := wrapN (D := D) (by omega)
              have hw3 := wrapN64 (D := D) (by omega)
              go_quiet (fail)
              clear hw2 hw3 hw1 hc3 hc4 hc5 habc happ d1 d2 hk1 hk0 hsum
              have ho2 := ho.kept (grown_drew wr nq) (by cases h : u11.ownBlock <;> simp)
              have HB2 := Lib.hid (bl_drewN HB.out nq)
              clear ho HB
              have hbz2 := HB2.out.size
              generalize wr.drewN nq = W2 at *
              obtain ⟨b1, hdrs, b2, b3, b4, b5, b6, b7⟩ := HG.out
              have AVt := Lib.hid (AV.out (bs tt) W2 (HV.out.kept (bl_then b5 HB2.out)) (by show tt.length ≤ _; omega))
              have B2 := Lib.hid b2
              clear b1 b2 b3 b4 b5 b7
              rw [sb_bs] at AVt
              cases hok : okL set tt with
              | false =>
                rw [hok] at AVt
                have HR : Hid ((rowL set q s)[c]? = some (-1)) := row_at hcq (by unfold toL; rw [← HTT.out, hok]; rfl)
                clear hok
                go_wp2_with fail
                refine AVt.out.mono ?_
                rintro e w3 ⟨rfl, rfl⟩
                go_wp2_with (at_builtin; refine wpList_append_own _ rfl (.tmp 70) (.tmp 71) _ rfl W1.heap.size 3 j0 _ 1 8 Try.underlying74 hj jz0 jz1 jz2 rfl (by decide) _ c (encI ((rowL set q s).take c)) rfl (ho2.alloc _) ⟨W2.heap.size, 0, none⟩ 1 1 [.int .i64 (-1)] rfl rfl (cells_new _ _ _) (by intro u hu; rw [List.mem_singleton.1 hu]; rfl) (by unfold maxLen; omega) (by omega) (by simp; omega) ?_; intro v6 w6 hown6 hg6 _)
                rw [← takes_row HR.out] at hown6
                have hoA := ho2.alloc (.cells #[.int .i64 (-1)] 3)
                have HB6 := Lib.hid (bl_grown (bl_alloc HB2.out (.cells #[.int .i64 (-1)] 3)) hoA (Nat.le_refl _) hg6)
                have HO6 := Lib.hid hown6
                clear hg6 hoA hown6 ho2 HB2
                go_wp2_with fail
                go_roundw
                case rel => exact ⟨c + 1, by omega, by go_num, HO6.out, HB6⟩
                case measure => simp [intOf]; omega
              | true =>
                rw [hok] at AVt
                have hmem : last4 tt ∈ S := by rw [HS.out, HTT.out]; exact last4_mem HSM.out hcq (by rw [← HTT.out]; exact hok)
                have HR : Hid ((rowL set q s)[c]? = some ((S.idxOf (last4 tt) : Nat) : Int)) := row_at hcq (by unfold toL; rw [← HTT.out, if_pos hok, HS.out])
                have HFI : Hid (∀ W', Below W1.heap.size W1 W' → Calls Try.prog 57 #[.slice (some ⟨gS, 0, none⟩) SN cS, .string (bs (last4 tt))] W' fun e w' => e = .returned (.int .i64 (S.idxOf (last4 tt))) ∧ W' = w') := Lib.hid fun W' hb => by
                  have h := own_kept B2.out hb
                  have := find_any _ S (last4 tt) W' w.heap.size h (by have := HSN.out; omega) hmem
                  exact this
                have hix := List.idxOf_lt_length_of_mem hmem
                obtain ⟨J, hJ⟩ : ∃ J, J = S.idxOf (last4 tt) := ⟨_, rfl⟩
                rw [← hJ] at HR HFI hix
                have hJ9 : J ≤ 121 := by have := HSN.out; omega
                obtain ⟨TL, hTL⟩ : ∃ TL, TL = tt.length := ⟨_, rfl⟩
                have hts : (bs tt).size = TL := hTL.symm
                obtain ⟨D4, hD4⟩ : ∃ D4 : Nat, D4 = TL - 4 := ⟨_, rfl⟩
                obtain ⟨E1, hE1⟩ : ∃ E1 : Int, E1 = (TL : Int) - 5 := ⟨_, rfl⟩
                obtain ⟨E2, hE2⟩ : ∃ E2 : Int, E2 = E1 + 1 := ⟨_, rfl⟩
                have hmax : max (0 : Int) E2 = (D4 : Int) := by omega
                have hd1 : (D4 : Int) ≤ (TL : Int) := by omega
                have hd0 : (0 : Int) ≤ (D4 : Int) := Int.natCast_nonneg D4
                have hext : (bs tt).extract D4 TL = bs (last4 tt) := by
                  rw [hD4, hTL]
                  apply sb_inj
                  unfold last4 sb bs
                  simp
                  exact List.take_of_length_le (by simp)
                have hwr1 : IntKind.i64.wrap ((TL : Int) - 5) = E1 := by rw [← hE1]; exact wrapI (by omega)
                have hwr2 : IntKind.i64.wrap (E1 + 1) = E2 := by rw [← hE2]; exact wrapI (by omega)
                have d1 := (HB2.out.cell (p := ⟨gB, 0, none⟩) l1).trans C1.out
                have k1 := Nat.lt_of_lt_of_le l1 HB2.out.size
                obtain ⟨A, ca, rfl, _⟩ := own_any ho2
                have ag : ∀ cap, (Value.slice A c cap).ownBlock ≠ some gB := fun cap h => by
                  have := (ho2.lt gB (by cases A <;> simp_all [Value.ownBlock])).1
                  omega
                clear hok hmem hix hJ hTL hD4 hE1 hE2
                go_wp2_with fail
                refine AVt.out.mono ?_
                rintro e w3 ⟨rfl, rfl⟩
                go_wp2_with fail
                go_region_held3 (fun w' => w'.cell? ⟨gB, 0, none⟩ = some (.slice (some ⟨gS, 0, none⟩) SN cS))
                  (first
                    | go_keep
                    | (rw [hgrow.cell_far _ (by simp; omega) (Ne.symm (ag _))]; assumption))
                  (first
                    | ((go_at_call 57); (refine (HFI.out _ (bl_drewN HB2.out 1)).mono ?_); (rintro e w5 ⟨rfl, rfl⟩))
                    | (refine step_append_lies _ (by rfl) _ _ _ (by rfl) W1.heap.size 3 j0 _ 1 8 Try.underlying74 hj jz0 jz1 jz2 rfl (by omega) (.slice A c ca) c _ (by rfl) ((ho2.alloc _).drew)
                        ⟨W2.heap.size, 0, none⟩ 1 1 [.int .i64 J] (by rfl) (by rfl) (World.news_of_block (cs := #[.int .i64 J]) (t := 3) (fr := (0, 0)) (heap_alloc_new W2 _)) (by simp [Value.oneCell'])
                        (by omega) (by unfold maxLen; omega) (by omega) (by simp; omega) (W2.heap.size + 1) (by simp) ?_; intro gg cap w1 hown1 hgrow hat hlt))
                rw [← takes_row HR.out] at hown1
                have HB6 := Lib.hid (HB2.out.grown (((grown_alloc W2 (.cells #[.int .i64 J] 3) _).trans (grown_drew _ 1 |>.but _)).trans hgrow) HB2.out.size (fun k e => (ho2.lt k e).1))
                have HO6 := Lib.hid hown1
                clear hown1 hgrow hat hlt ho2 HB2 d1 hwr1 hwr2 hmax hd1 hd0 hext
                go_wp2_with fail
                go_roundw
                case rel => exact ⟨c + 1, by omega, by go_num, HO6.out, HB6⟩
                case measure => simp [intOf]; omega
            · have ec : c = q := by omega
              subst ec
              have hrow : (rowL set c s).take c = rowL set c s := List.take_of_length_le (by simp [rowL])
              rw [hrow] at ho
              obtain ⟨b1, hdrs, b2, b3, b4, b5, b6, b7⟩ := HG.out
              have c2 := (HB.out.cell (p := ⟨gB, 1, none⟩) l1).trans C2.out
              have k1 := Nat.lt_of_lt_of_le l1 HB.out.size
              have e1 := b1.kept HB.out
              have e2 := own_kept b2 HB.out
              have e3 := own_kept b3 HB.out
              have e4 := b4.kept HB.out
              have e5 := bl_then b5 HB.out
              have e7 := b7.kept HB.out
              have e8 := e4.snoc (by exact HB.out.size) ho (by simp [rowL]) hq.1
              obtain ⟨AT, cT, rfl, _⟩ := own_any e3
              obtain ⟨gr, cr, rfl, _, _⟩ := own_form ho hq.1
              have E1 := Lib.hid e1
              have E2 := Lib.hid e2
              have E5 := Lib.hid e5
              have E7 := Lib.hid e7
              have E8 := Lib.hid e8
              have hz5 := e5.size
              clear b1 b2 b3 b4 b5 b7 e1 e2 e4 e5 e7 e8 HB
              go_wp2_with (at_builtin; refine wpList_append_lies _ rfl (.tmp 88) (.tmp 90) _ rfl w.heap.size 74 r0 _ 1 24 Try.underlying58 hr rz0 rz1 rz2 rfl (by decide) (.slice AT k cT) k hdrs rfl (e3.alloc _) ⟨wr.heap.size, 0, none⟩ 1 1 [.slice (some ⟨gr, 0, none⟩) c cr] rfl rfl (cells_new _ _ _) (by intro u hu; rw [List.mem_singleton.1 hu]; rfl) (by omega) (by unfold maxLen; omega) (by omega) (by simp; omega) _ rfl ?_; intro g6 c6 w6 hown6 hg6 hat hlt; have hoA := e3.alloc (.cells #[.slice (some ⟨gr, 0, none⟩) c cr] 74); have hWA := E1.out.alloc (.cells #[.slice (some ⟨gr, 0, none⟩) c cr] 74); have hW6 := hWA.grown hg6 (hWA.ne_own hoA (by decide)); have d6 := (hW6.cell 1).trans rfl; have k6 := hW6.lt; have f6 := hW6.frozen 1)
              have hrowk : (tabL set c).take (k + 1) = (tabL set c).take k ++ [rowL set c s] := by
                rw [HSK.out]
                have h := HS.out
                subst h
                exact tab_take hkl
              have HG6 : Hid (GT w gB (w6.setCell ⟨gB, 1, none⟩ (.slice (some ⟨g6, 0, none⟩) (k + 1) c6)) (.slice (some ⟨gS, 0, none⟩) SN cS) (.slice (some ⟨g6, 0, none⟩) (k + 1) c6) S (tabL set c) (k + 1)) := Lib.hid (by
                have hb6 := bl_grown (bl_alloc E5.out (.cells #[.slice (some ⟨gr, 0, none⟩) c cr] 74)) hoA (Nat.le_refl _) hg6
                have h5 := (E7.out.alloc (.cells #[.slice (some ⟨gr, 0, none⟩) c cr] 74)).grown hg6 ((E7.out.alloc (.cells #[.slice (some ⟨gr, 0, none⟩) c cr] 74)).ne_own hoA (by decide))
                have h2 := own_other (E2.out.alloc (.cells #[.slice (some ⟨gr, 0, none⟩) c cr] 74)) hoA (by decide) hg6
                have h4 := (E8.out.alloc (.cells #[.slice (some ⟨gr, 0, none⟩) c cr] 74)).grown hg6 (fun r hr => own_not_int hoA (by decide) r hr _)
                have hs6 := hg6.size
                simp only [World.size_alloc] at hs6
                refine ⟨hW6.set 1 _, _, own_far h2 hW6 (by decide) 1 _, own_far hown6 hW6 (by decide) 1 _, ?_, bl_set hb6 (by show w.heap.size ≤ gB; omega) _, b6, h5.far (by show w.heap.size ≠ gB; omega) _⟩
                rw [hrowk]
                exact (h4.far hW6 (by decide) 1 _).mono (by simp [World.setCell]; omega))
              clear hown6 hg6 hat hlt hoA hWA hW6 d6 k6 f6 E1 E2 E5 E7 E8 e3 hrowk ho
              go_roundw
              case rel => exact ⟨k + 1, _, by omega, by go_num, HG6⟩
              case measure => simp [intOf]; omega
        · have ek : k = SN := by omega
          have hTl : (tabL set q).length = SN := by unfold tabL; rw [List.length_map, ← HS.out, ← HSN.out]
          have htk : (tabL set q).take k = tabL set q := List.take_of_length_le (by omega)
          rw [htk] at a4
          obtain ⟨AT, cT, rfl, _⟩ := own_any a3
          have f0 := a7.frozen 0
          have f1 := a7.frozen 1
          have g0 := (a7.cell 0).trans rfl
          have g1 := (a7.cell 1).trans rfl
          have A1 := Lib.hid a1
          have A2 := Lib.hid a2
          have A3 := Lib.hid a3
          have A4 := Lib.hid a4
          have A5 := Lib.hid a5
          have A7 := Lib.hid a7
          have l7 := a7.lt
          clear a1 a2 a3 a4 a5 a7 htk
          go_wp2_with fail
          have hR0 := A7.out.set 0 (.slice (some ⟨gS, 0, none⟩) SN cS)
          have hR1 := hR0.set 1 (.slice AT SN cT)
          refine bodyPost_ret (res_cell rfl rfl (hR1.load Try.underlying72 rfl (by kernel_rfl))) rfl ?_
          refine ⟨_, rfl, ⟨_, _, hdrs, rfl, ?_, ?_, ?_⟩, bl_set (bl_set A5.out (Nat.le_refl _) _) (Nat.le_refl _) _⟩
          · rw [← HS.out, ← HSN.out]
            exact own_far (own_far A2.out A7.out (by decide) 0 _) hR0 (by decide) 1 _
          · rw [hTl]
            have A3' := A3.out
            rw [ek] at A3'
            exact own_far (own_far A3' A7.out (by decide) 0 _) hR0 (by decide) 1 _
          · exact ((A4.out.far A7.out (by decide) 0 _).far hR0 (by decide) 1 _).mono (by simp [World.setCell])
end Go.Proofs.Ytnamafakjkcmjaa
