/-
  The reference: Tidy, Needed.
-/
import Derived.Test.YtpclkocfbkjabaaT52
import Derived.Deep.RegionHeld3
namespace Go.Proofs.Ytpclkocfbkjabaa
open Go.RowKit Go.Shelf
set_option linter.unusedVariables false
set_option linter.unusedSimpArgs false

/-- Is no other pattern in the one at this place? -/
def rtB (ss : List ByteArray) (i : Nat) : Bool := okL (pats (dropB ss i)) (sb (ss.getD i ByteArray.empty))
def selTo (f : Nat → Bool) (ss : List ByteArray) (k : Nat) : List ByteArray := ((List.range k).filter f).map fun i => ss.getD i ByteArray.empty
theorem sel_succ (f : Nat → Bool) (ss : List ByteArray) (k : Nat) : selTo f ss (k + 1) = selTo f ss k ++ (if f k = true then [ss.getD k ByteArray.empty] else []) := by
  unfold selTo
  rw [List.range_succ, List.filter_append, List.map_append]
  cases h : f k <;> simp [h]
theorem sel_len (f : Nat → Bool) (ss : List ByteArray) (k : Nat) : (selTo f ss k).length ≤ k := by
  unfold selTo
  rw [List.length_map]
  refine Nat.le_trans (List.length_filter_le _ _) ?_
  simp
set_option maxRecDepth 100000 in
set_option maxHeartbeats 4000000 in
theorem RTidy_any (v : Value) (ss : List ByteArray) (w : World) (hv : StrsAt w v ss) (hl : ss.length ≤ 1000) (hz : ∀ p ∈ ss, p.size ≤ 1000) :
    Calls Try.prog 41 #[v] w fun e w' => ∃ v', e = .returned v' ∧ w'.ownsRow w.heap.size 9 1 v' (selTo (rtB ss) ss ss.length).length (encB (selTo (rtB ss) ss ss.length)) ∧ Below w.heap.size w w' := by
  obtain ⟨j0, hj, jz0, jz1, jz2⟩ := info_parts infoS
  have WO := Lib.hid fun i W h1 h2 => without_any v ss i W h1 h2 hl
  have AV := Lib.hid fun i v s W (h1 : StrsAt W v (dropB ss i)) h2 => Avoids_any v (dropB ss i) s W h1 (fun p hp => hz p (drop_sub ss i p hp)) (by have : (dropB ss i).length ≤ ss.length := (by unfold dropB; simp; omega); omega) h2
  have HZ := Lib.hid hz
  have HV := Lib.hid hv
  obtain ⟨N, hN⟩ : ∃ N, N = ss.length := ⟨_, rfl⟩
  have HN := Lib.hid hN
  obtain ⟨A, cA, rfl, _, _, hA⟩ := id hv
  rw [← hN] at HV hl hA WO ⊢
  have HA := Lib.hid hA
  clear hv hN hA hz
  go_enter Try.func41, Try.ntmps41
  go_wp2_with fail
  go_loopw [3, 4] (fun ov iv wr => ∃ k : Nat, k ≤ N ∧ iv = .int .i64 k ∧ Hid (wr.ownsRow w.heap.size 9 1 ov (selTo (rtB ss) ss k).length (encB (selTo (rtB ss) ss k))) ∧ Hid (Below w.heap.size w wr)) (fun _ iv _ => N - (intOf iv).toNat)
  case atStart => exact ⟨0, Nat.zero_le _, rfl, Lib.hid (World.ownsRow_nil _ _ _ _), Lib.hid (bl_refl w)⟩
  case round =>
    obtain ⟨k, hk, rfl, HO, HBk⟩ := hrel
    obtain ⟨A6, c6, rfl, hA6⟩ := own_any HO.out
    by_cases hlt : k < N
    · obtain ⟨g, off, rfl, hg, hc⟩ := HA.out (by omega)
      have hkl : k < ss.length := by have := HN.out; omega
      have ct := (HBk.out.cell (p := ⟨g, off + k, none⟩) hg).trans (hc k hlt)
      have lg := Nat.lt_of_lt_of_le hg HBk.out.size
      have hssz : (ss.getD k ByteArray.empty).size ≤ 1000 := by
        rw [List.getD_eq_getElem?_getD, List.getElem?_eq_getElem hkl]
        exact HZ.out _ (List.getElem_mem hkl)
      have hsl := sel_succ (rtB ss) ss k
      have hrt : rtB ss k = okL (pats (dropB ss k)) (sb (ss.getD k ByteArray.empty)) := rfl
      obtain ⟨s, hs⟩ : ∃ s, s = ss.getD k ByteArray.empty := ⟨_, rfl⟩
      rw [← hs] at ct hsl hssz hrt
      have HSL := Lib.hid hsl
      have HRT := Lib.hid hrt
      have hkN : (k : Int) < (N : Int) := by omega
      have hk0 : (0 : Int) ≤ (k : Int) := by omega
      have HVk := Lib.hid (HV.out.kept HBk.out)
      have HNk := Lib.hid hkl
      have hlen := drop_len hkl
      rw [← HN.out] at hlen
      clear hc hs hsl hrt
      go_wp2_with fail
      go_region_held3 (fun w' => w'.cell? ⟨g, off + k, none⟩ = some (.string s))
        (first
          | go_keep
          | exact (hb6.cell (p := ⟨g, off + k, none⟩) lg).trans ct)
        (first
          | ((go_at_call 76); (refine (WO.out k _ (HVk.out.kept (bl_drewN (bl_refl wr) 1)) hlt).mono ?_); (rintro e w6 ⟨v6, rfl, ho6, hb6⟩))
          | ((go_at_call 70); (refine (AV.out k _ s w6 (strs_own ho6 (by omega)) (by omega)).mono ?_); (rintro e w7 ⟨rfl, rfl⟩)))
      have HB5 := Lib.hid (bl_then (bl_drewN HBk.out 1) hb6)
      have ho5 := own_kept (own_kept HO.out (bl_drewN (bl_refl wr) 1)) hb6
      have hz5 := HB5.out.size
      have hnl := sel_len (rtB ss) ss k
      cases hend : okL (pats (dropB ss k)) (sb s) with
      | false =>
        have hno : (rtB ss) k = false := HRT.out.trans hend
        have HO6 : Hid (w6.ownsRow w.heap.size 9 1 _ (selTo (rtB ss) ss (k + 1)).length (encB (selTo (rtB ss) ss (k + 1)))) := Lib.hid (by rw [HSL.out, hno, if_neg (by simp), List.append_nil]; exact ho5)
        clear hend hno ho5 hb6
        go_wp2_with fail
        go_roundw
        case rel => exact ⟨k + 1, by omega, by go_num, HO6, HB5⟩
        case measure => simp [intOf]; omega
      | true =>
        have hyes : (rtB ss) k = true := HRT.out.trans hend
        have hsl2 := HSL.out
        rw [hyes, if_pos rfl] at hsl2
        have HSL2 := Lib.hid hsl2
        have ct6 := (hb6.cell (p := ⟨g, off + k, none⟩) lg).trans ct
        have lg6 := Nat.lt_of_lt_of_le lg hb6.size
        clear hend hyes hb6 hsl2
        go_wp2_with (at_builtin; refine wpList_append_own _ rfl (.tmp 19) (.tmp 24) _ rfl w.heap.size 9 j0 _ 1 16 Try.underlying22 hj jz0 jz1 jz2 rfl (by decide) (.slice A6 (selTo (rtB ss) ss k).length c6) (selTo (rtB ss) ss k).length (encB (selTo (rtB ss) ss k)) rfl (ho5.alloc _) ⟨w6.heap.size, 0, none⟩ 1 1 [.string s] rfl rfl (cells_new _ _ _) (by intro u hu; rw [List.mem_singleton.1 hu]; rfl) (by unfold maxLen; omega) (by omega) (by simp; omega) ?_; intro v8 w8 hown8 hg8 _)
        have hoA := ho5.alloc (.cells #[.string s] 9)
        have HB8 := Lib.hid (bl_grown (bl_alloc HB5.out (.cells #[.string s] 9)) hoA (Nat.le_refl _) hg8)
        have HO8 : Hid (w8.ownsRow w.heap.size 9 1 v8 (selTo (rtB ss) ss (k + 1)).length (encB (selTo (rtB ss) ss (k + 1)))) := Lib.hid (by rw [HSL2.out, encB_snoc, List.length_append]; exact hown8)
        clear hg8 hoA hown8 ho5
        go_wp2_with fail
        go_roundw
        case rel => exact ⟨k + 1, by omega, by go_num, HO8, HB8⟩
        case measure => simp [intOf]; omega
    · have ek : N = k := by omega
      subst ek
      go_wp2_with fail
      go_ret
      exact ⟨_, rfl, HO.out, HBk.out⟩
set_option maxRecDepth 100000 in
set_option maxHeartbeats 4000000 in
theorem RNeeded_any (q : Nat) (hq : 1 ≤ q ∧ q ≤ 3) (v : Value) (ss : List ByteArray) (w : World) (hv : StrsAt w v ss) (hl : ss.length ≤ 1000) (hz : ∀ p ∈ ss, p.size ≤ 1000) (h0 : okL (pats ss) [] = true) :
    Calls Try.prog 42 #[.int .i64 q, v] w fun e w' => ∃ v', e = .returned v' ∧ w'.ownsRow w.heap.size 9 1 v' (selTo (ndB q ss) ss ss.length).length (encB (selTo (ndB q ss) ss ss.length)) ∧ Below w.heap.size w w' := by
  obtain ⟨j0, hj, jz0, jz1, jz2⟩ := info_parts infoS
  have WO := Lib.hid fun i W h1 h2 => without_any v ss i W h1 h2 hl
  have UV := Lib.hid fun i v W (h1 : StrsAt W v (dropB ss i)) => Unav_any q hq v (dropB ss i) W h1 (fun p hp => hz p (drop_sub ss i p hp)) (by have : (dropB ss i).length ≤ ss.length + 0 := (by unfold dropB; simp; omega); omega) (drop_ok h0)
  have HV := Lib.hid hv
  obtain ⟨N, hN⟩ : ∃ N, N = ss.length := ⟨_, rfl⟩
  have HN := Lib.hid hN
  obtain ⟨A, cA, rfl, _, _, hA⟩ := id hv
  rw [← hN] at HV hl hA WO ⊢
  have HA := Lib.hid hA
  clear hv hN hA hz h0
  go_enter Try.func42, Try.ntmps42
  go_wp2_with fail
  go_loopw [5, 6] (fun ov iv wr => ∃ k : Nat, k ≤ N ∧ iv = .int .i64 k ∧ Hid (wr.ownsRow w.heap.size 9 1 ov (selTo (ndB q ss) ss k).length (encB (selTo (ndB q ss) ss k))) ∧ Hid (Below w.heap.size w wr)) (fun _ iv _ => N - (intOf iv).toNat)
  case atStart => exact ⟨0, Nat.zero_le _, rfl, Lib.hid (World.ownsRow_nil _ _ _ _), Lib.hid (bl_refl w)⟩
  case round =>
    obtain ⟨k, hk, rfl, HO, HBk⟩ := hrel
    obtain ⟨A6, c6, rfl, hA6⟩ := own_any HO.out
    by_cases hlt : k < N
    · obtain ⟨g, off, rfl, hg, hc⟩ := HA.out (by omega)
      have hkl : k < ss.length := by have := HN.out; omega
      have ct := (HBk.out.cell (p := ⟨g, off + k, none⟩) hg).trans (hc k hlt)
      have lg := Nat.lt_of_lt_of_le hg HBk.out.size
      have hsl := sel_succ (ndB q ss) ss k
      obtain ⟨s, hs⟩ : ∃ s, s = ss.getD k ByteArray.empty := ⟨_, rfl⟩
      rw [← hs] at ct hsl
      have HSL := Lib.hid hsl
      have hkN : (k : Int) < (N : Int) := by omega
      have hk0 : (0 : Int) ≤ (k : Int) := by omega
      have HVk := Lib.hid (HV.out.kept HBk.out)
      have hlen := drop_len hkl
      rw [← HN.out] at hlen
      clear hc hs hsl
      go_wp2_with fail
      refine (WO.out k _ HVk.out hlt).mono ?_
      rintro e w6 ⟨v6, rfl, ho6, hb6⟩
      have HS6 := Lib.hid (strs_own ho6 (by omega))
      have HB6 := Lib.hid hb6
      clear ho6 hb6
      go_wp2_with fail
      refine (UV.out k _ w6 HS6.out).mono ?_
      rintro e w7 ⟨rfl, r7⟩
      have hb7 := bl_then HB6.out r7
      clear r7
      have HB5 := Lib.hid (bl_then HBk.out hb7)
      have ho5 := own_kept HO.out hb7
      have hz5 := HB5.out.size
      have hnl := sel_len (ndB q ss) ss k
      cases hend : (!endsB (tabL (pats (dropB ss k)) q)) with
      | false =>
        have hno : (ndB q ss) k = false := hend
        have HO6 : Hid (w7.ownsRow w.heap.size 9 1 _ (selTo (ndB q ss) ss (k + 1)).length (encB (selTo (ndB q ss) ss (k + 1)))) := Lib.hid (by rw [HSL.out, hno, if_neg (by simp), List.append_nil]; exact ho5)
        have hend2 : endsB (tabL (pats (dropB ss k)) q) = true := (by simpa using hend)
        clear hend hno ho5 hb7
        go_wp2_with fail
        go_roundw
        case rel => exact ⟨k + 1, by omega, by go_num, HO6, HB5⟩
        case measure => simp [intOf]; omega
      | true =>
        have hyes : (ndB q ss) k = true := hend
        have hsl2 := HSL.out
        rw [hyes, if_pos rfl] at hsl2
        have HSL2 := Lib.hid hsl2
        have ct6 := (hb7.cell (p := ⟨g, off + k, none⟩) lg).trans ct
        have lg6 := Nat.lt_of_lt_of_le lg hb7.size
        have hend2 : endsB (tabL (pats (dropB ss k)) q) = false := (by simpa using hend)
        clear hend hyes hb7 hsl2
        go_wp2_with (at_builtin; refine wpList_append_own _ rfl (.tmp 19) (.tmp 24) _ rfl w.heap.size 9 j0 _ 1 16 Try.underlying22 hj jz0 jz1 jz2 rfl (by decide) (.slice A6 (selTo (ndB q ss) ss k).length c6) (selTo (ndB q ss) ss k).length (encB (selTo (ndB q ss) ss k)) rfl (ho5.alloc _) ⟨w7.heap.size, 0, none⟩ 1 1 [.string s] rfl rfl (cells_new _ _ _) (by intro u hu; rw [List.mem_singleton.1 hu]; rfl) (by unfold maxLen; omega) (by omega) (by simp; omega) ?_; intro v8 w8 hown8 hg8 _)
        have hoA := ho5.alloc (.cells #[.string s] 9)
        have HB8 := Lib.hid (bl_grown (bl_alloc HB5.out (.cells #[.string s] 9)) hoA (Nat.le_refl _) hg8)
        have HO8 : Hid (w8.ownsRow w.heap.size 9 1 v8 (selTo (ndB q ss) ss (k + 1)).length (encB (selTo (ndB q ss) ss (k + 1)))) := Lib.hid (by rw [HSL2.out, encB_snoc, List.length_append]; exact hown8)
        clear hg8 hoA hown8 ho5
        go_wp2_with fail
        go_roundw
        case rel => exact ⟨k + 1, by omega, by go_num, HO8, HB8⟩
        case measure => simp [intOf]; omega
    · have ek : N = k := by omega
      subst ek
      go_wp2_with fail
      go_ret
      exact ⟨_, rfl, HO.out, HBk.out⟩
end Go.Proofs.Ytpclkocfbkjabaa
