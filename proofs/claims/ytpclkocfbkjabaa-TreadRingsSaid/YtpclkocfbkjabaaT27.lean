/-
  Overlap, of the program and of the reference; ints.
-/
import Derived.Test.YtpclkocfbkjabaaT26
namespace Go.Proofs.Ytpclkocfbkjabaa
open Go.RowKit Go.Shelf
set_option linter.unusedVariables false
set_option linter.unusedSimpArgs false

theorem wrapN {D : Nat} (h : D ≤ 1000000) : IntKind.i64.wrap (D : Int) = (D : Int) := wrapI (by omega)
theorem wrapN64 {D : Nat} (h : D ≤ 1000000) : wrap64 (D : Int) = (D : Int) := by unfold wrap64; omega
def ovB (u w : ByteArray) (k : Nat) : Bool := (u.extract (u.size - k) u.size).toList == (w.extract 0 k).toList
def ovF (u w : ByteArray) : Nat → List Int
  | 0 => []
  | k + 1 => if ovB u w (k + 1) then ovF u w k ++ [((k + 1 : Nat) : Int)] else ovF u w k
theorem ovF_len (u w : ByteArray) : ∀ k, (ovF u w k).length ≤ k
  | 0 => Nat.le_refl _
  | k + 1 => by
    have := ovF_len u w k
    unfold ovF
    split
    · simp; omega
    · omega
theorem ovF_no {u w : ByteArray} {k : Nat} (h : ovB u w (k + 1) = false) : ovF u w (k + 1) = ovF u w k := if_neg (by rw [h]; simp)
theorem ovF_yes {u w : ByteArray} {k : Nat} (h : ovB u w (k + 1) = true) : ovF u w (k + 1) = ovF u w k ++ [((k + 1 : Nat) : Int)] := if_pos h
theorem ov_suffix {u w : ByteArray} {k : Nat} (h1 : k ≤ u.size) (h2 : k ≤ w.size) : Lib.hasSuffix u.data.toList (w.extract 0 k).data.toList = ovB u w k := by
  have hz : (w.extract 0 k).size = k := by rw [ByteArray.size_extract]; omega
  rw [← Lib.hasSuffix_raw, hz, decide_eq_true h1, Bool.true_and]
  rfl
set_option maxRecDepth 100000 in
set_option maxHeartbeats 4000000 in
theorem Overlap_no (u w : ByteArray) (W : World) (h : 60 < u.size ∨ 60 < w.size) :
    Calls Try.prog 32 #[.string u, .string w] W fun e w' => e = .returned (.tuple #[.slice none 0 0, .int .i64 2]) ∧ W = w' := by
  by_cases hu : 60 < u.size
  · have h1 : (60 : Int) < (u.size : Int) := by omega
    go_enter Try.func32, Try.ntmps32
    go_wp2
    go_ret2
    exact ⟨rfl, rfl⟩
  · have h1 : ¬ (60 : Int) < (u.size : Int) := by omega
    have h2 : (60 : Int) < (w.size : Int) := by omega
    go_enter Try.func32, Try.ntmps32
    go_wp2
    go_ret2
    exact ⟨rfl, rfl⟩
set_option maxRecDepth 100000 in
set_option maxHeartbeats 4000000 in
theorem Overlap_any (u w : ByteArray) (W : World) (hu : u.size ≤ 60) (hw : w.size ≤ 60) :
    Calls Try.prog 32 #[.string u, .string w] W fun e w' => ∃ v, e = .returned (.tuple #[v, .int .i64 0]) ∧ w'.ownsRow W.heap.size 3 1 v (ovF u w (min u.size w.size)).length (encI (ovF u w (min u.size w.size))) ∧ Below W.heap.size W w' := by
  obtain ⟨i0, hi, hz0, hz1, hz2⟩ := info_parts infoI
  obtain ⟨M, hM⟩ : ∃ M, M = min u.size w.size := ⟨_, rfl⟩
  rw [← hM]
  have h1 : ¬ (60 : Int) < (u.size : Int) := by omega
  have h2 : ¬ (60 : Int) < (w.size : Int) := by omega
  have hmin : min (u.size : Int) (w.size : Int) = (M : Int) := by omega
  have HS := Lib.hid fun s p W h => Try.strings_HasSuffix s p W h
  have O0 := Lib.hid (World.ownsRow_nil W W.heap.size 3 1)
  have HM := Lib.hid (show M ≤ u.size ∧ M ≤ w.size ∧ M ≤ 60 by omega)
  clear hM
  go_enter Try.func32, Try.ntmps32
  go_wp2_with fail
  go_loopw [6, 7] (fun v i wr => ∃ k : Nat, k ≤ M ∧ i = .int .i64 ((k + 1 : Nat) : Int) ∧ wr.ownsRow W.heap.size 3 1 v (ovF u w k).length (encI (ovF u w k)) ∧ Hid (Below W.heap.size W wr)) (fun _ i _ => M + 1 - (intOf i).toNat)
  case atStart => exact ⟨0, Nat.zero_le _, rfl, O0.out, Lib.hid (bl_refl W)⟩
  case round =>
    obtain ⟨k, hk, rfl, ho, HB⟩ := hrel
    have hlen := ovF_len u w k
    by_cases hlt : k < M
    · have hk1 : ((k + 1 : Nat) : Int) ≤ (M : Int) := by omega
      have hk2 : ((k + 1 : Nat) : Int) ≤ (w.size : Int) := by have := HM.out; omega
      have hk3 : (0 : Int) ≤ ((k + 1 : Nat) : Int) := by omega
      obtain ⟨KK, hKK⟩ : ∃ KK : Nat, KK = k + 1 := ⟨_, rfl⟩
      have HKK := Lib.hid hKK
      rw [← hKK] at hk1 hk2 hk3 ⊢
      have HSk := HS.out u (w.extract 0 KK)
      rw [ov_suffix (by have := HM.out; omega) (by have := HM.out; omega)] at HSk
      have HSK := Lib.hid fun W => HSk W (by have := HM.out; omega)
      have hbw := HB.out.size
      clear hKK HSk
      cases hov : ovB u w KK with
      | false =>
        rw [hov] at HSK
        have e : Hid (ovF u w (k + 1) = ovF u w k) := Lib.hid (ovF_no (by rw [← HKK.out, hov]))
        rw [← e.out] at ho
        clear hov
        have HO := Lib.hid ho
        clear ho
        go_wp2_with fail
        refine (HSK.out _).mono ?_
        rintro e w2 ⟨rfl, rfl⟩
        go_wp2_with fail
        go_roundw
        case rel => exact ⟨k + 1, by omega, by rw [HKK.out]; go_num, HO.out, HB⟩
        case measure => rw [HKK.out]; simp [intOf]; omega
      | true =>
        rw [hov] at HSK
        have e : Hid (ovF u w (k + 1) = ovF u w k ++ [((k + 1 : Nat) : Int)]) := Lib.hid (ovF_yes (by rw [← HKK.out, hov]))
        clear hov
        go_wp2_with fail
        refine (HSK.out _).mono ?_
        rintro e2 w2 ⟨rfl, rfl⟩
        go_wp2_with (at_builtin; refine wpList_append_own _ rfl (.tmp 30) (.tmp 32) _ rfl W.heap.size 3 i0 _ 1 8 Try.underlying45 hi hz0 hz1 hz2 rfl (by decide) _ (ovF u w k).length (encI (ovF u w k)) rfl (ho.alloc _) ⟨w2.heap.size, 0, none⟩ 1 1 [.int .i64 KK] rfl rfl (cells_new _ _ _) (by intro u hu; rw [List.mem_singleton.1 hu]; rfl) (by unfold maxLen; omega) (by omega) (by simp; omega) ?_; intro v6 w6 hown6 hg6 _)
        have hoA := ho.alloc (.cells #[.int .i64 KK] 3)
        have HB6 := Lib.hid (bl_grown (bl_alloc HB.out (.cells #[.int .i64 KK] 3)) hoA (Nat.le_refl _) hg6)
        have HO6 : Hid (w6.ownsRow W.heap.size 3 1 v6 (ovF u w (k + 1)).length (encI (ovF u w (k + 1)))) := Lib.hid (by
          rw [e.out, encI_snoc, ← HKK.out, List.length_append, List.length_singleton]; exact hown6)
        clear hg6 hoA hown6 ho
        go_wp2_with fail
        go_roundw
        case rel => exact ⟨k + 1, by omega, by rw [HKK.out]; go_num, HO6.out, HB6⟩
        case measure => rw [HKK.out]; simp [intOf]; omega
    · have ek : k = M := by omega
      subst ek
      have HO := Lib.hid ho
      clear ho
      go_wp2_with fail
      go_ret2
      exact ⟨_, rfl, HO.out, HB.out⟩
set_option maxRecDepth 100000 in
set_option maxHeartbeats 4000000 in
theorem refOverlap_any (u w : ByteArray) (W : World) (hu : u.size ≤ 61) (hw : w.size ≤ 61) :
    Calls Try.prog 34 #[.string u, .string w] W fun e w' => ∃ v, e = .returned v ∧ w'.ownsRow W.heap.size 3 1 v (ovF u w (min u.size w.size)).length (encI (ovF u w (min u.size w.size))) ∧ Below W.heap.size W w' := by
  obtain ⟨i0, hi, hz0, hz1, hz2⟩ := info_parts infoI
  obtain ⟨M, hM⟩ : ∃ M, M = min u.size w.size := ⟨_, rfl⟩
  rw [← hM]
  have O0 := Lib.hid (World.ownsRow_nil W W.heap.size 3 1)
  obtain ⟨US, hUS⟩ : ∃ US, US = u.size := ⟨_, rfl⟩
  obtain ⟨WS, hWS⟩ : ∃ WS, WS = w.size := ⟨_, rfl⟩
  have hus : u.size = US := hUS.symm
  have hws : w.size = WS := hWS.symm
  have HM := Lib.hid (show M ≤ US ∧ M ≤ WS ∧ M ≤ 61 ∧ (M = US ∨ M = WS) ∧ US ≤ 61 by omega)
  have hM61 : M ≤ 61 := by omega
  clear hM hUS hWS hu hw
  go_enter Try.func34, Try.ntmps34
  go_wp2_with fail
  go_loopw [5, 6] (fun v i wr => ∃ k : Nat, k ≤ M ∧ i = .int .i64 ((k + 1 : Nat) : Int) ∧ wr.ownsRow W.heap.size 3 1 v (ovF u w k).length (encI (ovF u w k)) ∧ Hid (Below W.heap.size W wr)) (fun _ i _ => M + 1 - (intOf i).toNat)
  case atStart => exact ⟨0, Nat.zero_le _, rfl, O0.out, Lib.hid (bl_refl W)⟩
  case round =>
    obtain ⟨k, hk, rfl, ho, HB⟩ := hrel
    have hlen := ovF_len u w k
    by_cases hlt : k < M
    · have hk1 : ((k + 1 : Nat) : Int) ≤ (US : Int) := by have := HM.out; omega
      have hk2 : ((k + 1 : Nat) : Int) ≤ (WS : Int) := by have := HM.out; omega
      have hk3 : (0 : Int) ≤ ((k + 1 : Nat) : Int) := by omega
      obtain ⟨KK, hKK⟩ : ∃ KK : Nat, KK = k + 1 := ⟨_, rfl⟩
      have hKb : KK ≤ 61 := by omega
      obtain ⟨D, hD⟩ : ∃ D : Nat, D = US - KK := ⟨_, rfl⟩
      have hd1 : (US : Int) - (KK : Int) = (D : Int) := by omega
      have hd6 : D ≤ 1000000 := by have := HM.out; omega
      have hd3 : (D : Int) ≤ (US : Int) := by omega
      have hd4 : (0 : Int) ≤ (D : Int) := Int.natCast_nonneg D
      have HKK := Lib.hid hKK
      rw [← hKK] at hk1 hk2 hk3 ⊢
      have hov0 : ovB u w KK = ((u.extract D US).toList == (w.extract 0 KK).toList) := by unfold ovB; rw [hus, hD]
      have hbw := HB.out.size
      clear hKK hD
      cases hov : ovB u w KK with
      | false =>
        have e : Hid (ovF u w (k + 1) = ovF u w k) := Lib.hid (ovF_no (by rw [← HKK.out, hov]))
        rw [← e.out] at ho
        rw [hov] at hov0
        have hov1 := hov0.symm
        clear hov hov0
        have HO := Lib.hid ho
        clear ho
        go_wp2_with fail
        have hd2 := wrapN hd6
        have hd5 := wrapN64 hd6
        go_quiet (fail)
        clear hd1 hd2 hd5 hd6 hd3 hd4 hov1
        have HB2 := Lib.hid (bl_drewN HB.out nq)
        have HO2 := Lib.hid (HO.out.kept (grown_drew wr nq) (by cases h : u5.ownBlock <;> simp))
        go_wp2_with fail
        go_roundw
        case rel => exact ⟨k + 1, by omega, by rw [HKK.out]; go_num, HO2.out, HB2⟩
        case measure => rw [HKK.out]; simp [intOf]; omega
      | true =>
        have e : Hid (ovF u w (k + 1) = ovF u w k ++ [((k + 1 : Nat) : Int)]) := Lib.hid (ovF_yes (by rw [← HKK.out, hov]))
        rw [hov] at hov0
        have hov1 := hov0.symm
        clear hov hov0
        go_wp2_with fail
        have hd2 := wrapN hd6
        have hd5 := wrapN64 hd6
        go_quiet (fail)
        clear hd1 hd2 hd5 hd6 hd3 hd4 hov1
        have HB2 := Lib.hid (bl_drewN HB.out nq)
        have ho2 := ho.kept (grown_drew wr nq) (by cases h : u5.ownBlock <;> simp)
        generalize wr.drewN nq = W2 at *
        have hbw2 := HB2.out.size
        clear ho HB
        go_wp2_with (at_builtin; refine wpList_append_own _ rfl (.tmp 29) (.tmp 31) _ rfl W.heap.size 3 i0 _ 1 8 Try.underlying45 hi hz0 hz1 hz2 rfl (by decide) _ (ovF u w k).length (encI (ovF u w k)) rfl (ho2.alloc _) ⟨W2.heap.size, 0, none⟩ 1 1 [.int .i64 KK] rfl rfl (cells_new _ _ _) (by intro u hu; rw [List.mem_singleton.1 hu]; rfl) (by have := HM.out; unfold maxLen; omega) (by have := HM.out; omega) (by simp; omega) ?_; intro v6 w6 hown6 hg6 _)
        have hoA := ho2.alloc (.cells #[.int .i64 KK] 3)
        have HB6 := Lib.hid (bl_grown (bl_alloc HB2.out (.cells #[.int .i64 KK] 3)) hoA (Nat.le_refl _) hg6)
        have HO6 : Hid (w6.ownsRow W.heap.size 3 1 v6 (ovF u w (k + 1)).length (encI (ovF u w (k + 1)))) := Lib.hid (by
          rw [e.out, encI_snoc, ← HKK.out, List.length_append, List.length_singleton]; exact hown6)
        clear hg6 hoA hown6 ho2
        go_wp2_with fail
        go_roundw
        case rel => exact ⟨k + 1, by omega, by rw [HKK.out]; go_num, HO6.out, HB6⟩
        case measure => rw [HKK.out]; simp [intOf]; omega
    · have ek : k = M := by omega
      subst ek
      have HO := Lib.hid ho
      clear ho
      by_cases hu : k = US
      · have h1 : ¬ ((k + 1 : Nat) : Int) ≤ (US : Int) := by omega
        have h1' : (US : Int) < ((k + 1 : Nat) : Int) := by omega
        clear hu
        go_wp2_with fail
        go_ret
        exact ⟨_, rfl, HO.out, HB.out⟩
      · have h0 : ((k + 1 : Nat) : Int) ≤ (US : Int) := by have := HM.out; omega
        have h1 : ¬ ((k + 1 : Nat) : Int) ≤ (WS : Int) := by have := HM.out; omega
        have h1' : (WS : Int) < ((k + 1 : Nat) : Int) := by omega
        go_wp2_with fail
        go_ret
        exact ⟨_, rfl, HO.out, HB.out⟩
/-- A list of numbers that can be read. -/
def IntsAt (w : World) (v : Value) (L : List Int) : Prop := ∃ A c, v = .slice A L.length c ∧ (0 < L.length → ∃ g, A = some ⟨g, 0, none⟩ ∧ g < w.heap.size ∧ ∀ i, i < L.length → w.cell? ⟨g, i, none⟩ = some (.int .i64 (L.getD i 0)))
theorem ints_at {w : World} {base : Nat} {v : Value} {L : List Int} (h : w.ownsRow base 3 1 v L.length (encI L)) : IntsAt w v L := by
  obtain ⟨A, c, e, hA⟩ := own_any h
  refine ⟨A, c, e, fun h0 => ?_⟩
  obtain ⟨g, e2, hg⟩ := hA h0
  refine ⟨g, e2, hg, fun i hi => ?_⟩
  rw [e, e2] at h
  rw [h.cellAt i (by omega)]
  unfold encI
  rw [List.getElem?_map, List.getElem?_eq_getElem hi, List.getD_eq_getElem?_getD, List.getElem?_eq_getElem hi]
  rfl
theorem IntsAt.kept {w w' : World} {v : Value} {L : List Int} (h : IntsAt w v L) (hb : Below w.heap.size w w') : IntsAt w' v L := by
  obtain ⟨A, c, e, hA⟩ := h
  refine ⟨A, c, e, fun h0 => ?_⟩
  obtain ⟨g, e2, hg, hc⟩ := hA h0
  exact ⟨g, e2, Nat.lt_of_lt_of_le hg hb.size, fun i hi => (hb.cell (p := ⟨g, i, none⟩) hg).trans (hc i hi)⟩
set_option maxRecDepth 100000 in
set_option maxHeartbeats 4000000 in
theorem ints_same (v v' : Value) (L : List Int) (W : World) (h : IntsAt W v L) (h' : IntsAt W v' L) (hL : L.length ≤ 1000000) :
    Calls Try.prog 33 #[v, v'] W fun e w' => e = .returned (.bool true) ∧ Below W.heap.size W w' := by
  obtain ⟨A, c, rfl, hA⟩ := h
  obtain ⟨A', c', rfl, hA'⟩ := h'
  obtain ⟨N, hN⟩ : ∃ N, N = L.length := ⟨_, rfl⟩
  have HN := Lib.hid hN
  rw [← hN] at hA hA' hL ⊢
  have HA := Lib.hid hA
  have HA' := Lib.hid hA'
  clear hA hA' hN
  go_enter Try.func33, Try.ntmps33
  go_wp2_with fail
  go_loopw [5] (fun i wr => ∃ k : Nat, k ≤ N ∧ i = .int .i64 k ∧ Hid (Below W.heap.size W wr)) (fun i _ => N - (intOf i).toNat)
  case atStart => exact ⟨0, Nat.zero_le _, rfl, Lib.hid (bl_refl W)⟩
  case round =>
    obtain ⟨k, hk, rfl, HB⟩ := hrel
    by_cases hlt : k < N
    · obtain ⟨g, rfl, hg, hc⟩ := HA.out (by omega)
      obtain ⟨g', rfl, hg', hc'⟩ := HA'.out (by omega)
      have e1 := (HB.out.cell (p := ⟨g, k, none⟩) hg).trans (hc k hlt)
      have e2 := (HB.out.cell (p := ⟨g', k, none⟩) hg').trans (hc' k hlt)
      have l1 : g < wr.heap.size := Nat.lt_of_lt_of_le hg HB.out.size
      have l2 : g' < wr.heap.size := Nat.lt_of_lt_of_le hg' HB.out.size
      obtain ⟨x, hx⟩ : ∃ x, x = L.getD k 0 := ⟨_, rfl⟩
      rw [← hx] at e1 e2
      clear hc hc' hx
      go_wp2_with fail
      go_quiet (fail)
      have HB2 := Lib.hid (bl_drewN HB.out nq)
      go_wp2_with fail
      go_roundw
      case rel => exact ⟨k + 1, by omega, by go_num, HB2⟩
      case measure => simp [intOf]; omega
    · have ek : k = N := by omega
      subst ek
      go_wp2_with fail
      go_ret
      exact ⟨rfl, HB.out⟩
end Go.Proofs.Ytpclkocfbkjabaa
