/-
  Needed; the reference's without, Tidy, Needed.
-/
import Derived.Test.YtpclkocfbkjabaaT50
namespace Go.Proofs.Ytpclkocfbkjabaa
open Go.RowKit Go.Shelf
set_option linter.unusedVariables false
set_option linter.unusedSimpArgs false

theorem unav_any (q : Nat) (v : Value) (ss : List ByteArray) (w : World) (hv : StrsAt w v ss) (hq : 1 ≤ q ∧ q ≤ 3) (h0 : okL (pats ss) [] = true) (hG : HasG w) :
    Calls Try.prog 52 #[.int .i64 q, v] w fun e w' => e = .returned (.bool (endsB (tabL (pats ss) q))) ∧ Below w.heap.size w w' := by
  have hT := tab_ok (q := q) h0
  have hS := stL_few (pats ss) hq.2
  have hN : 0 < (stL (pats ss) q).length := by rw [stL_fix h0]; simp
  refine (isUnavoidable_any q v ss w hv hq h0 hG).mono ?_
  rintro e w' ⟨⟨l, hl, rfl⟩, hb⟩
  refine ⟨?_, hb⟩
  congr 2
  rcases hl with ⟨rfl, h⟩ | ⟨m, rfl, h1, h2⟩
  · unfold endsB
    rw [h 1000]
    rfl
  · rw [ends_iff hT hN hS (.inr ⟨m, rfl, h1, h2⟩)]
    simp
/-- Is the pattern at this place needed? -/
def ndB (q : Nat) (ss : List ByteArray) (i : Nat) : Bool := !endsB (tabL (pats (dropB ss i)) q)
def ndTo (q : Nat) (ss : List ByteArray) (k : Nat) : List ByteArray := ((List.range k).filter (ndB q ss)).map fun i => ss.getD i ByteArray.empty
theorem nd_succ (q : Nat) (ss : List ByteArray) (k : Nat) : ndTo q ss (k + 1) = ndTo q ss k ++ (if ndB q ss k = true then [ss.getD k ByteArray.empty] else []) := by
  unfold ndTo
  rw [List.range_succ, List.filter_append, List.map_append]
  cases h : ndB q ss k <;> simp [h]
theorem nd_len (q : Nat) (ss : List ByteArray) (k : Nat) : (ndTo q ss k).length ≤ k := by
  unfold ndTo
  rw [List.length_map]
  refine Nat.le_trans (List.length_filter_le _ _) ?_
  simp
theorem encB_snoc (L : List ByteArray) (s : ByteArray) : encB (L ++ [s]) = encB L ++ [.string s] := by simp [encB]
theorem Needed_no (q : Int) (v : Value) (ss : List ByteArray) (w : World) (hv : StrsAt w v ss) (hset : setB q ss = false) :
    Calls Try.prog 38 #[.int .i64 q, v] w fun e w' => e = .returned (.tuple #[.slice none 0 0, .int .i64 2]) ∧ Below w.heap.size w w' := by
  have IS := Lib.hid (isSet_any q v ss w hv)
  rw [hset] at IS
  clear hv hset
  go_enter Try.func38, Try.ntmps38
  go_wp2_with fail
  refine IS.out.mono ?_
  rintro e w1 ⟨rfl, r1⟩
  go_wp2_with fail
  go_ret2
  exact ⟨rfl, r1⟩
theorem Needed_none (q : Nat) (v : Value) (ss : List ByteArray) (w : World) (hv : StrsAt w v ss) (hset : setB q ss = true) (hG : HasG w) (he : endsB (tabL (pats ss) q) = false) :
    Calls Try.prog 38 #[.int .i64 q, v] w fun e w' => e = .returned (.tuple #[.slice none 0 0, .int .i64 6]) ∧ Below w.heap.size w w' := by
  have hq : 1 ≤ q ∧ q ≤ 3 := by have := (setB_parts hset).1; omega
  have h0 := ok_nil (pats_some hset)
  have IS := Lib.hid (isSet_any q v ss w hv)
  rw [hset] at IS
  have UN := Lib.hid fun W h1 h2 => unav_any q v ss W h1 hq h0 h2
  rw [he] at UN
  have HV := Lib.hid hv
  have HG := Lib.hid hG
  clear hv hset hG he h0
  go_enter Try.func38, Try.ntmps38
  go_wp2_with fail
  refine IS.out.mono ?_
  rintro e w1 ⟨rfl, r1⟩
  go_wp2_with fail
  refine (UN.out _ (HV.out.kept r1) (HG.out.kept r1)).mono ?_
  rintro e w2 ⟨rfl, r2⟩
  have HB := Lib.hid (bl_then r1 r2)
  clear r1 r2
  go_wp2_with fail
  go_ret2
  exact ⟨rfl, HB.out⟩
set_option maxRecDepth 100000 in
set_option maxHeartbeats 4000000 in
theorem Needed_any (q : Nat) (v : Value) (ss : List ByteArray) (w : World) (hv : StrsAt w v ss) (hset : setB q ss = true) (hG : HasG w) (he : endsB (tabL (pats ss) q) = true) :
    Calls Try.prog 38 #[.int .i64 q, v] w fun e w' => ∃ v', e = .returned (.tuple #[v', .int .i64 0]) ∧ w'.ownsRow w.heap.size 9 1 v' (ndTo q ss ss.length).length (encB (ndTo q ss ss.length)) ∧ Below w.heap.size w w' := by
  have hq : 1 ≤ q ∧ q ≤ 3 := by have := (setB_parts hset).1; omega
  have h0 := ok_nil (pats_some hset)
  have h12 := (setB_parts hset).2.1
  obtain ⟨j0, hj, jz0, jz1, jz2⟩ := info_parts infoS
  have IS := Lib.hid (isSet_any q v ss w hv)
  rw [hset] at IS
  have UN := Lib.hid fun W h1 h2 => unav_any q v ss W h1 hq h0 h2
  rw [he] at UN
  have CL := Lib.hid fun W h => cloneB_any v ss W h (by omega)
  have DE := Lib.hid fun i v base W h1 h2 => del_any v ss i base W h1 (by omega) h2
  have UD := Lib.hid fun i v W h1 h2 => unav_any q v (dropB ss i) W h1 hq (drop_ok h0) h2
  have HV := Lib.hid hv
  have HG := Lib.hid hG
  obtain ⟨N, hN⟩ : ∃ N, N = ss.length := ⟨_, rfl⟩
  have HN := Lib.hid hN
  obtain ⟨A, cA, rfl, _, _, hA⟩ := id hv
  rw [← hN] at HV h12 UN CL hA IS DE ⊢
  have HA := Lib.hid hA
  clear hv hset hG he h0 hN hA
  go_enter Try.func38, Try.ntmps38
  go_wp2_with fail
  refine IS.out.mono ?_
  rintro e w1 ⟨rfl, r1⟩
  go_wp2_with fail
  refine (UN.out _ (HV.out.kept r1) (HG.out.kept r1)).mono ?_
  rintro e w2 ⟨rfl, r2⟩
  have HB := Lib.hid (bl_then r1 r2)
  clear r1 r2
  go_wp2_with fail
  go_loopw [6, 19] (fun ov iv wr => ∃ k : Nat, k ≤ N ∧ iv = .int .i64 k ∧ Hid (wr.ownsRow w.heap.size 9 1 ov (ndTo q ss k).length (encB (ndTo q ss k))) ∧ Hid (Below w.heap.size w wr)) (fun _ iv _ => N - (intOf iv).toNat)
  case atStart => exact ⟨0, Nat.zero_le _, rfl, Lib.hid (World.ownsRow_nil _ _ _ _), HB⟩
  case round =>
    obtain ⟨k, hk, rfl, HO, HBk⟩ := hrel
    clear HB
    by_cases hlt : k < N
    · obtain ⟨g, off, rfl, hg, hc⟩ := HA.out (by omega)
      have hkl : k < ss.length := by have := HN.out; omega
      have hkc := (HBk.out.cell (p := ⟨g, off + k, none⟩) hg).trans (hc k hlt)
      have hgw := Nat.lt_of_lt_of_le hg HBk.out.size
      obtain ⟨s, hs⟩ : ∃ s, s = ss.getD k ByteArray.empty := ⟨_, rfl⟩
      rw [← hs] at hkc
      have hnd := nd_succ q ss k
      rw [← hs] at hnd
      have HND := Lib.hid hnd
      have hkN : (k : Int) < (N : Int) := by omega
      have hw1 : IntKind.i64.wrap ((k : Int) + 1) = ((k + 1 : Nat) : Int) := by rw [show (k : Int) + 1 = ((k + 1 : Nat) : Int) by omega]; exact wrapI (by omega)
      have HVk := Lib.hid (HV.out.kept HBk.out)
      have HGk := Lib.hid (HG.out.kept HBk.out)
      clear hc hs hnd
      go_wp2_with fail
      refine (CL.out wr HVk.out).mono ?_
      rintro e w3 ⟨v3, rfl, ho3, r3⟩
      have HO3 := Lib.hid ho3
      have HR3 := Lib.hid r3
      clear ho3 r3
      go_wp2_with fail
      refine (DE.out k v3 wr.heap.size w3 (by omega) HO3.out).mono ?_
      rintro e w4 ⟨v4, rfl, hs4, r4⟩
      have hr34 : Below wr.heap.size wr w4 := HR3.out.trans r4
      have HS4 := Lib.hid hs4
      have HR4 := Lib.hid hr34
      clear hs4 r4 hr34
      go_wp2_with fail
      refine (UD.out k v4 w4 HS4.out (HGk.out.kept HR4.out)).mono ?_
      rintro e w5 ⟨rfl, r5⟩
      have hr5 := bl_then HR4.out r5
      have HB5 := Lib.hid (bl_then HBk.out hr5)
      have ho5 := own_kept HO.out hr5
      have hz5 := HB5.out.size
      have hnl := nd_len q ss k
      clear HR3 HR4 HO3 HS4 HVk r5
      cases hend : endsB (tabL (pats (dropB ss k)) q) with
      | true =>
        have hno : ndB q ss k = false := by unfold ndB; rw [hend]; rfl
        have HO6 : Hid (w5.ownsRow w.heap.size 9 1 _ (ndTo q ss (k + 1)).length (encB (ndTo q ss (k + 1)))) := Lib.hid (by rw [HND.out, hno, if_neg (by simp), List.append_nil]; exact ho5)
        clear hend hno ho5 hr5
        go_wp2_with fail
        go_roundw
        case rel => exact ⟨k + 1, by omega, by go_num, HO6, HB5⟩
        case measure => simp [intOf]; omega
      | false =>
        have hyes : ndB q ss k = true := by unfold ndB; rw [hend]; rfl
        have hnd2 := HND.out
        rw [hyes, if_pos rfl] at hnd2
        have HND2 := Lib.hid hnd2
        clear hend hyes hr5 hnd2
        go_wp2_with (at_builtin; refine wpList_append_own _ rfl (.tmp 33) (.tmp 35) _ rfl w.heap.size 9 j0 _ 1 16 Try.underlying22 hj jz0 jz1 jz2 rfl (by decide) _ (ndTo q ss k).length (encB (ndTo q ss k)) rfl (ho5.alloc _) ⟨w5.heap.size, 0, none⟩ 1 1 [.string s] rfl rfl (cells_new _ _ _) (by intro u hu; rw [List.mem_singleton.1 hu]; rfl) (by unfold maxLen; omega) (by omega) (by simp; omega) ?_; intro v6 w6 hown6 hg6 _)
        have hoA := ho5.alloc (.cells #[.string s] 9)
        have HB6 := Lib.hid (bl_grown (bl_alloc HB5.out (.cells #[.string s] 9)) hoA (Nat.le_refl _) hg6)
        have HO6 : Hid (w6.ownsRow w.heap.size 9 1 v6 (ndTo q ss (k + 1)).length (encB (ndTo q ss (k + 1)))) := Lib.hid (by rw [HND2.out, encB_snoc, List.length_append]; exact hown6)
        clear hg6 hoA hown6 ho5
        go_wp2_with fail
        go_roundw
        case rel => exact ⟨k + 1, by omega, by go_num, HO6, HB6⟩
        case measure => simp [intOf]; omega
    · have ek : N = k := by omega
      subst ek
      go_wp2_with fail
      go_ret2
      exact ⟨_, rfl, HO.out, HBk.out⟩
end Go.Proofs.Ytpclkocfbkjabaa
