/-
  The reference: Rings.
-/
import Derived.Test.YtpclkocfbkjabaaT35
namespace Go.Proofs.Ytpclkocfbkjabaa
open Go.RowKit Go.Shelf
set_option linter.unusedVariables false
set_option linter.unusedSimpArgs false

def ringTo (l : List Str) (r : Str) (k : Nat) : List Str := (l.take k).filter fun w => turned w == r
def repsTo (l : List Str) (k : Nat) : List (List Str) := ((l.take k).filter fun w => turned w == w).map (ringOf l)
theorem ringTo_no {l : List Str} {r : Str} {k : Nat} (h : k < l.length) (e : (turned l[k] == r) = false) : ringTo l r (k + 1) = ringTo l r k := by
  unfold ringTo
  rw [List.take_succ_eq_append_getElem h, List.filter_append]
  simp [e]
theorem ringTo_yes {l : List Str} {r : Str} {k : Nat} (h : k < l.length) (e : (turned l[k] == r) = true) : ringTo l r (k + 1) = ringTo l r k ++ [l[k]] := by
  unfold ringTo
  rw [List.take_succ_eq_append_getElem h, List.filter_append]
  simp [e]
theorem ringTo_len (l : List Str) (r : Str) (k : Nat) : (ringTo l r k).length ≤ k := by
  unfold ringTo
  refine Nat.le_trans (List.length_filter_le _ _) ?_
  simp; omega
theorem repsTo_no {l : List Str} {k : Nat} (h : k < l.length) (e : (turned l[k] == l[k]) = false) : repsTo l (k + 1) = repsTo l k := by
  unfold repsTo
  rw [List.take_succ_eq_append_getElem h, List.filter_append]
  simp [e]
theorem repsTo_yes {l : List Str} {k : Nat} (h : k < l.length) (e : (turned l[k] == l[k]) = true) : repsTo l (k + 1) = repsTo l k ++ [ringOf l l[k]] := by
  unfold repsTo
  rw [List.take_succ_eq_append_getElem h, List.filter_append]
  simp [e]
theorem repsTo_len (l : List Str) (k : Nat) : (repsTo l k).length ≤ k := by
  unfold repsTo
  rw [List.length_map]
  refine Nat.le_trans (List.length_filter_le _ _) ?_
  simp; omega
theorem ringOf_pos {l : List Str} {k : Nat} (h : k < l.length) (e : (turned l[k] == l[k]) = true) : 0 < (ringOf l l[k]).length :=
  List.length_pos_of_mem (List.mem_filter.2 ⟨List.getElem_mem h, e⟩)
set_option maxRecDepth 100000 in
set_option maxHeartbeats 4000000 in
theorem refRings_any (q n : Nat) (hq : 1 ≤ q ∧ q ≤ 3) (hn : 1 ≤ n ∧ n ≤ 5) (w : World) :
    Calls Try.prog 25 #[.int .i64 q, .int .i64 n] w fun e w' => ∃ v hdrs, e = .returned v ∧ w'.ownsRow w.heap.size 22 1 v (refR (wordsL q n)).length hdrs ∧ RowsV w' w'.heap.size 9 hdrs ((refR (wordsL q n)).map encS) ∧ Below w.heap.size w w' := by
  obtain ⟨i0, hi, hz0, hz1, hz2⟩ := info_parts infoS
  obtain ⟨j0, hj, jz0, jz1, jz2⟩ := info_parts infoSs
  have wa := fun W => refWords_any q n hq hn.2 W
  have TU := Lib.hid fun s W h => Turned_any s W h
  have hfew := words_few hq.2 hn.2
  have hpos : 0 < (wordsL q n).length := by rw [words_len]; exact Nat.pow_pos hq.1
  obtain ⟨l, hl⟩ : ∃ l, l = wordsL q n := ⟨_, rfl⟩
  have HLN := Lib.hid fun s (h : s ∈ l) => show s.length ≤ 100 by rw [hl] at h; have := ((mem_words q n _).1 h).1; omega
  rw [← hl] at hfew hpos wa ⊢
  clear hl
  obtain ⟨N, hN⟩ : ∃ N, N = l.length := ⟨_, rfl⟩
  have HN := Lib.hid hN
  rw [← hN] at hfew hpos wa
  have WA := Lib.hid wa
  clear hN wa
  go_enter Try.func25, Try.ntmps25
  go_wp2_with fail
  refine (WA.out _).mono ?_
  rintro e w1 ⟨v1, rfl, ho, r1⟩
  obtain ⟨g1, c1, rfl, hg1, hg12⟩ := own_form ho hpos
  have hrd : Hid (∀ j, ∀ h : j < l.length, w1.cell? ⟨g1, j, none⟩ = some (.string (bs l[j]))) := Lib.hid fun j h => by
    rw [ho.cellAt j (by have := HN.out; omega)]
    unfold encS
    rw [List.getElem?_map, List.getElem?_eq_getElem h]
    rfl
  have B1 := Lib.hid r1
  clear ho r1 hg1
  go_wp2_with fail
  go_loopw [6, 7] (fun v i wr => ∃ (k : Nat) (hdrs : List Value), k ≤ N ∧ i = .int .i64 k ∧ Hid (wr.ownsRow w1.heap.size 22 1 v (repsTo l k).length hdrs) ∧
    Hid (RowsV wr wr.heap.size 9 hdrs ((repsTo l k).map encS)) ∧ Hid (Below w1.heap.size w1 wr)) (fun _ i _ => N - (intOf i).toNat)
  case atStart => exact ⟨0, [], Nat.zero_le _, rfl, Lib.hid (World.ownsRow_nil _ _ _ _), Lib.hid (RowsV.nil _ _ _), Lib.hid (bl_refl _)⟩
  case round =>
    obtain ⟨k, hdrs, hk, rfl, HO, HR, HB⟩ := hrel
    by_cases hkN : k < N
    · have hkw : k < l.length := by have := HN.out; omega
      have hrl := repsTo_len l k
      have RNO := Lib.hid (repsTo_no hkw)
      have RYES := Lib.hid (repsTo_yes hkw)
      have RPOS := Lib.hid (ringOf_pos hkw)
      have hsl := HLN.out _ (List.getElem_mem hkw)
      have ce := (HB.out.cell (p := ⟨g1, k, none⟩) hg12).trans (hrd.out k hkw)
      have lg : g1 < wr.heap.size := Nat.lt_of_lt_of_le hg12 HB.out.size
      have HC := Lib.hid (hrd.out k hkw)
      obtain ⟨s, hs⟩ : ∃ s, s = l[k] := ⟨_, rfl⟩
      rw [← hs] at RNO RYES RPOS hsl ce HC
      have hk1 : (k : Int) < (N : Int) := by omega
      have hk0 : (0 : Int) ≤ (k : Int) := by omega
      clear hs
      go_wp2_with fail
      go_region_held3 (fun w' => w'.cell? ⟨g1, k, none⟩ = some (.string (bs s)))
        (first
          | go_keep
          | exact (hb5.cell (p := ⟨g1, k, none⟩) lg).trans ce)
        (first
          | ((go_at_call 30); (refine (TU.out s _ hsl).mono ?_); (rintro e w5 ⟨rfl, hb5⟩)))
      have HB5 := Lib.hid (bl_then (bl_drewN HB.out 1) hb5)
      have HO5 := Lib.hid (own_kept (own_kept HO.out (bl_drewN (bl_refl wr) 1)) hb5)
      have HR5 := Lib.hid (((HR.out.kept (bl_drewN (bl_refl wr) 1)).kept hb5).mono hb5.size)
      obtain ⟨W2, hW2⟩ : ∃ W2, W2 = w5 := ⟨_, rfl⟩
      rw [← hW2] at HB5 HO5 HR5 ⊢
      clear hW2 hb5 HO HR HB ce lg
      cases hts : turned s == s with
      | false =>
        have hl2 : ((bs (turned s)).toList == (bs s).toList) = false := by rw [bs_toList, bs_toList]; exact hts
        have e := RNO.out hts
        rw [← e] at HO5 HR5
        clear e hts
        simp only [hl2, Bool.not_false, Bool.not_true]
        go_wp2_with fail
        go_roundw
        case rel => exact ⟨k + 1, hdrs, by omega, by go_num, HO5, HR5, HB5⟩
        case measure => simp [intOf]; omega
      | true =>
        have hl2 : ((bs (turned s)).toList == (bs s).toList) = true := by rw [bs_toList, bs_toList]; exact hts
        have RY := Lib.hid (RYES.out hts)
        have RP := Lib.hid (RPOS.out hts)
        clear hts RNO RYES RPOS
        simp only [hl2, Bool.not_false, Bool.not_true]
        go_wp2_with fail
        go_loopw [8, 9] (fun v i wx => ∃ m : Nat, m ≤ N ∧ i = .int .i64 m ∧ Hid (wx.ownsRow W2.heap.size 9 1 v (ringTo l s m).length (encS (ringTo l s m))) ∧ Hid (Below W2.heap.size W2 wx)) (fun _ i _ => N - (intOf i).toNat)
        case atStart => exact ⟨0, Nat.zero_le _, rfl, Lib.hid (World.ownsRow_nil _ _ _ _), Lib.hid (bl_refl _)⟩
        case round =>
          obtain ⟨m, hm, rfl, HM, HBx⟩ := hrel
          have hmw1 := HB5.out.size
          have HBB := Lib.hid (bl_then HB5.out HBx.out)
          by_cases hmN : m < N
          · have hmw : m < l.length := by have := HN.out; omega
            have hrl2 := ringTo_len l s m
            have TNO := Lib.hid (ringTo_no (r := s) hmw)
            have TYES := Lib.hid (ringTo_yes (r := s) hmw)
            have htl := HLN.out _ (List.getElem_mem hmw)
            have ct := (HBB.out.cell (p := ⟨g1, m, none⟩) hg12).trans (hrd.out m hmw)
            have ce := (HBB.out.cell (p := ⟨g1, k, none⟩) hg12).trans HC.out
            have lg : g1 < wr.heap.size := Nat.lt_of_lt_of_le hg12 HBB.out.size
            obtain ⟨t, ht⟩ : ∃ t, t = l[m] := ⟨_, rfl⟩
            rw [← ht] at TNO TYES htl ct
            have hm1 : (m : Int) < (N : Int) := by omega
            have hm0 : (0 : Int) ≤ (m : Int) := by omega
            clear ht
            go_wp2_with fail
            go_region_held3 (fun w' => w'.cell? ⟨g1, m, none⟩ = some (.string (bs t)) ∧ w'.cell? ⟨g1, k, none⟩ = some (.string (bs s)))
              (first
                | go_keep
                | exact ⟨(hb6.cell (p := ⟨g1, m, none⟩) lg).trans ct, (hb6.cell (p := ⟨g1, k, none⟩) lg).trans ce⟩)
              (first
                | ((go_at_call 30); (refine (TU.out t _ htl).mono ?_); (rintro e w6 ⟨rfl, hb6⟩)))
            have HB6 := Lib.hid (bl_then (bl_drewN HBx.out 1) hb6)
            have HM6 := Lib.hid (own_kept (own_kept HM.out (bl_drewN (bl_refl wr) 1)) hb6)
            have cA := (hb6.cell (p := ⟨g1, m, none⟩) lg).trans ct
            have cB := (hb6.cell (p := ⟨g1, k, none⟩) lg).trans ce
            obtain ⟨W3, hW3⟩ : ∃ W3, W3 = w6 := ⟨_, rfl⟩
            have lg3 : g1 < w6.heap.size := Nat.lt_of_lt_of_le lg hb6.size
            rw [← hW3] at HB6 HM6 cA cB lg3 ⊢
            clear hW3 hb6 HM HBx ce ct lg
            cases hts : turned t == s with
            | false =>
              have hl3 : ((bs (turned t)).toList == (bs s).toList) = false := by rw [bs_toList, bs_toList]; exact hts
              have e := TNO.out hts
              rw [← e] at HM6
              clear e hts
              simp only [hl3]
              go_wp2_with fail
              go_roundw
              case rel => exact ⟨m + 1, by omega, by go_num, HM6, HB6⟩
              case measure => simp [intOf]; omega
            | true =>
              have hl3 : ((bs (turned t)).toList == (bs s).toList) = true := by rw [bs_toList, bs_toList]; exact hts
              have TY := Lib.hid (TYES.out hts)
              have hz6 := HB6.out.size
              have ho6 := HM6.out
              clear hts
              simp only [hl3]
              go_wp2_with (at_builtin; refine wpList_append_own _ rfl (.tmp 45) (.tmp 50) _ rfl W2.heap.size 9 i0 _ 1 16 Try.underlying22 hi hz0 hz1 hz2 rfl (by decide) _ (ringTo l s m).length (encS (ringTo l s m)) rfl (ho6.alloc _) ⟨W3.heap.size, 0, none⟩ 1 1 [.string (bs t)] rfl rfl (cells_new _ _ _) (by intro u hu; rw [List.mem_singleton.1 hu]; rfl) (by unfold maxLen; omega) (by omega) (by simp; omega) ?_; intro v7 w7 hown7 hg7 _)
              have hoA := ho6.alloc (.cells #[.string (bs t)] 9)
              have HB7 := Lib.hid (bl_grown (bl_alloc HB6.out (.cells #[.string (bs t)] 9)) hoA (Nat.le_refl _) hg7)
              have HO7 : Hid (w7.ownsRow W2.heap.size 9 1 v7 (ringTo l s (m + 1)).length (encS (ringTo l s (m + 1)))) := Lib.hid (by
                rw [TY.out, encS_snoc, List.length_append, List.length_singleton]; exact hown7)
              clear hg7 hoA hown7 ho6
              go_wp2_with fail
              go_roundw
              case rel => exact ⟨m + 1, by omega, by go_num, HO7, HB7⟩
              case measure => simp [intOf]; omega
          · have em : N = m := by omega
            subst em
            have e : ringTo l s N = ringOf l s := by unfold ringTo; rw [HN.out, List.take_length]; rfl
            rw [e] at HM
            have hM := HM.out
            obtain ⟨RN, hRN⟩ : ∃ RN, RN = (ringOf l s).length := ⟨_, rfl⟩
            have hRp := RP.out
            rw [← hRN] at hM hRp
            obtain ⟨g8, c8, rfl, _, _⟩ := own_form hM hRp
            have hO8 := own_kept HO5.out HBx.out
            have hR8 := (HR5.out.kept HBx.out).mono HBx.out.size
            have hR9 := Lib.hid (hR8.snoc (Nat.le_refl _) hM hRp)
            have hz8 := HBB.out.size
            clear hM hR8 HM HBx e hRN
            go_wp2_with (at_builtin; refine wpList_append_own _ rfl (.tmp 52) (.tmp 54) _ rfl w1.heap.size 22 j0 _ 1 24 Try.underlying34 hj jz0 jz1 jz2 rfl (by decide) _ (repsTo l k).length hdrs rfl (hO8.alloc _) ⟨wr.heap.size, 0, none⟩ 1 1 [.slice (some ⟨g8, 0, none⟩) RN c8] rfl rfl (cells_new _ _ _) (by intro u hu; rw [List.mem_singleton.1 hu]; rfl) (by unfold maxLen; omega) (by omega) (by simp; omega) ?_; intro v7 w7 hown7 hg7 _)
            have hoA := hO8.alloc (.cells #[.slice (some ⟨g8, 0, none⟩) RN c8] 22)
            have HB7 := Lib.hid (bl_grown (bl_alloc HBB.out (.cells #[.slice (some ⟨g8, 0, none⟩) RN c8] 22)) hoA (Nat.le_refl _) hg7)
            have hs7 := hg7.size
            simp only [World.size_alloc] at hs7
            have hRA := (hR9.out.kept (bl_alloc (bl_refl wr) (.cells #[.slice (some ⟨g8, 0, none⟩) RN c8] 22))).grown hg7 (fun r hr => .inr (own_typ' hoA (by decide) r hr))
            have HO7 : Hid (w7.ownsRow w1.heap.size 22 1 v7 (repsTo l (k + 1)).length (hdrs ++ [.slice (some ⟨g8, 0, none⟩) RN c8])) := Lib.hid (by
              rw [RY.out, List.length_append, List.length_singleton]; exact hown7)
            have HR7 : Hid (RowsV w7 w7.heap.size 9 (hdrs ++ [.slice (some ⟨g8, 0, none⟩) RN c8]) ((repsTo l (k + 1)).map encS)) := Lib.hid (by
              rw [RY.out, List.map_append]; exact hRA.mono (by omega))
            clear hg7 hoA hown7 hRA hR9 hO8
            go_wp2_with fail
            go_roundw
            case rel => exact ⟨k + 1, _, by omega, by go_num, HO7, HR7, HB7⟩
            case measure => simp [intOf]; omega
    · have ek : N = k := by omega
      subst ek
      have e : repsTo l N = refR l := by unfold repsTo; rw [HN.out, List.take_length]; rfl
      rw [e] at HO HR
      have HF : Hid (∃ v hdrs, Ending.returned u6 = .returned v ∧ wr.ownsRow w.heap.size 22 1 v (refR l).length hdrs ∧ RowsV wr wr.heap.size 9 hdrs ((refR l).map encS) ∧ Below w.heap.size w wr) := Lib.hid ⟨u6, hdrs, rfl, own_low HO.out B1.out.size, HR.out, bl_then B1.out HB.out⟩
      clear e HO HR
      go_wp2_with fail
      go_ret
      exact HF.out
end Go.Proofs.Ytpclkocfbkjabaa
