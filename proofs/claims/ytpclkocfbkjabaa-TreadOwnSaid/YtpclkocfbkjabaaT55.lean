/-
  The laws' with and tame. (Printed by tools/gen55.py.)
-/
import Derived.Test.YtpclkocfbkjabaaT54
import Derived.Laws.AppendOwnNone
namespace Go.Proofs.Ytpclkocfbkjabaa
open Go.RowKit Go.Shelf
set_option linter.unusedVariables false
set_option linter.unusedSimpArgs false

def withL (L : List ByteArray) (s : ByteArray) (k : Nat) : List ByteArray := L.take k ++ s :: L.drop k
theorem withL_len (L : List ByteArray) (s : ByteArray) (k : Nat) : (withL L s k).length ≤ L.length + 1 := by unfold withL; simp; omega
theorem withL_has (L : List ByteArray) (s : ByteArray) (k : Nat) : s ∈ withL L s k := by unfold withL; simp
theorem withL_ne (L : List ByteArray) (s : ByteArray) (k : Nat) : withL L s k ≠ [] := by unfold withL; simp
theorem withL_mem {L : List ByteArray} {s x : ByteArray} {k : Nat} (h : x ∈ withL L s k) : x = s ∨ x ∈ L := by
  unfold withL at h
  rcases List.mem_append.1 h with h | h
  · exact .inr (List.mem_of_mem_take h)
  · rcases List.mem_cons.1 h with h | h
    · exact .inl h
    · exact .inr (List.mem_of_mem_drop h)
theorem withL_old {L : List ByteArray} {s x : ByteArray} {k : Nat} (h : x ∈ L) : x ∈ withL L s k := by
  unfold withL
  rw [← List.take_append_drop k L] at h
  rcases List.mem_append.1 h with h | h
  · exact List.mem_append_left _ h
  · exact List.mem_append_right _ (List.mem_cons_of_mem _ h)
theorem withL_sorted {L : List ByteArray} {s : ByteArray} {k : Nat} (hs : L.Pairwise fun a b => sb a < sb b) (hlo : ∀ j (h : j < L.length), j < k → sb L[j] < sb s) (hhi : ∀ j (h : j < L.length), k ≤ j → sb s < sb L[j]) : (withL L s k).Pairwise fun a b => sb a < sb b := by
  unfold withL
  rw [List.pairwise_append]
  refine ⟨hs.sublist (List.take_sublist _ _), List.pairwise_cons.2 ⟨fun x hx => ?_, hs.sublist (List.drop_sublist _ _)⟩, fun a ha b hb => ?_⟩
  · obtain ⟨j, hj, rfl⟩ := List.mem_iff_getElem.1 hx
    rw [List.getElem_drop]
    exact hhi _ _ (by omega)
  · obtain ⟨i, hi, rfl⟩ := List.mem_iff_getElem.1 ha
    rw [List.length_take] at hi
    rw [List.getElem_take]
    rcases List.mem_cons.1 hb with rfl | hb
    · exact hlo i (by omega) (by omega)
    · obtain ⟨j, hj, rfl⟩ := List.mem_iff_getElem.1 hb
      rw [List.length_drop] at hj
      rw [List.getElem_drop]
      exact str_trans (hlo i (by omega) (by omega)) (hhi (k + j) (by omega) (by omega))
/-- What 'with' has made. -/
def WithOk (L : List ByteArray) (s : ByteArray) (w' : World) (v' : Value) : Prop := ∃ L', StrsAt w' v' L' ∧ (L'.Pairwise fun a b => sb a < sb b) ∧ (∀ x ∈ L', x = s ∨ x ∈ L) ∧ L'.length ≤ L.length + 1 ∧ s ∈ L' ∧ (∀ x ∈ L, x ∈ L') ∧ (L' = [] → v' = .slice none 0 0)
theorem str_total (a b : Str) : a < b ∨ a = b ∨ b < a := by
  rcases Classical.em (a < b) with h | h
  · exact .inl h
  · rcases Classical.em (b < a) with h2 | h2
    · exact .inr (.inr h2)
    · exact .inr (.inl (List.le_antisymm (List.not_lt.1 h2) (List.not_lt.1 h)))
set_option maxRecDepth 100000 in
set_option maxHeartbeats 4000000 in
theorem with_any (v : Value) (L : List ByteArray) (s : ByteArray) (w : World) (hv : StrsAt w v L) (hl : L.length ≤ 1000) (hs : L.Pairwise fun a b => sb a < sb b) (hnil : L = [] → v = .slice none 0 0) :
    Calls Try.prog 68 #[v, .string s] w fun e w' => ∃ v', e = .returned v' ∧ WithOk L s w' v' ∧ Below w.heap.size w w' := by
  obtain ⟨j0, hj, jz0, jz1, jz2⟩ := info_parts infoS
  by_cases hL0 : L = []
  · obtain rfl := hnil hL0
    subst hL0
    clear hv hs hnil hl
    go_enter Try.func68, Try.ntmps68
    go_wp2_with fail
    go_loopw [5] (fun iv wr => iv = .int .i64 0 ∧ wr = w) (fun _ _ => 0)
    case atStart => exact ⟨rfl, rfl⟩
    case round =>
      obtain ⟨rfl, rfl⟩ := hrel
      go_wp2_with (at_builtin; first | (refine wpList_append_own_none rfl (.tmp 34) (.tmp 37) _ rfl wr.heap.size 9 j0 1 Try.underlying22 hj (.slice none 0 0) 0 [] rfl (World.ownsRow_nil wr wr.heap.size 9 1) rfl ?_) | (refine wpList_append_own _ rfl (.tmp 39) (.tmp 41) _ rfl wr.heap.size 9 j0 _ 1 16 Try.underlying22 hj jz0 jz1 jz2 rfl (by decide) (.slice none 0 0) 0 [] rfl (World.ownsRow_nil _ wr.heap.size 9 1) ⟨wr.heap.size, 0, none⟩ 1 1 [.string s] rfl rfl (cells_new _ _ _) (by intro u hu; rw [List.mem_singleton.1 hu]; rfl) (by unfold maxLen; omega) (by omega) (by simp) ?_; intro v7 w7 hown7 hg7 _; have HB7 := Lib.hid (bl_grown (bl_alloc (bl_refl wr) (.cells #[.string s] 9)) (World.ownsRow_nil (wr.alloc (.cells #[.string s] 9)) wr.heap.size 9 1) (Nat.le_refl _) hg7); obtain ⟨g7, c7, rfl, _, _⟩ := own_form hown7 (by omega); have HO7 := Lib.hid hown7; clear hg7 hown7) | (refine wpList_append_own_none rfl (.tmp 43) (.tmp 46) _ rfl wr.heap.size 9 j0 1 Try.underlying22 hj (.slice (some ⟨g7, 0, none⟩) (0 + 1) c7) (0 + 1) ([] ++ [.string s]) rfl HO7.out rfl ?_))
      go_wp2_with fail
      go_ret
      exact ⟨_, rfl, ⟨[s], strs_own (base := wr.heap.size) (L := [s]) HO7.out (by simp), by simp, fun x hx => .inl (by simpa using hx), by simp, by simp, fun x hx => absurd hx List.not_mem_nil, fun h => by cases h⟩, HB7.out⟩
  · obtain ⟨N, hN⟩ : ∃ N, N = L.length := ⟨_, rfl⟩
    have hN0 : 0 < N := by rw [hN]; exact List.length_pos_iff.2 hL0
    obtain ⟨A, c, rfl, hlc, hcm, hA⟩ := hv
    obtain ⟨g, off, rfl, hg, hc⟩ := hA (by omega)
    have HN := Lib.hid hN
    have HS0 := Lib.hid hs
    rw [← hN] at hl hlc
    have HC := Lib.hid hc
    have e5 : Value.slice (some ⟨g, off, none⟩) L.length c = .slice (some ⟨g, off, none⟩) N c := by rw [hN]
    rw [e5]
    clear hN hA hs hnil hL0 e5 hc
    go_enter Try.func68, Try.ntmps68
    go_wp2_with fail
    go_loopw [5] (fun iv wr => ∃ k : Nat, k ≤ N ∧ iv = .int .i64 k ∧ Hid (∀ j (h : j < L.length), j < k → sb L[j] < sb s) ∧ Hid (Below w.heap.size w wr)) (fun iv _ => N - (intOf iv).toNat)
    case atStart => exact ⟨0, Nat.zero_le _, rfl, Lib.hid (fun j _ h => absurd h (Nat.not_lt_zero _)), Lib.hid (bl_refl w)⟩
    case round =>
      obtain ⟨k, hk, rfl, HLO, HB⟩ := hrel
      have hc := HC.out
      by_cases hlt : k < N
      · have hkl : k < L.length := by have := HN.out; omega
        have hkc0 := (HB.out.cell (p := ⟨g, off + k, none⟩) hg).trans (hc k hkl)
        rw [show L.getD k ByteArray.empty = L[k] by rw [List.getD_eq_getElem?_getD, List.getElem?_eq_getElem hkl]; rfl] at hkc0
        have hgw := Nat.lt_of_lt_of_le hg HB.out.size
        obtain ⟨t, ht⟩ : ∃ t, t = L[k] := ⟨_, rfl⟩
        have HT := Lib.hid ht
        have hli := less_iff t s
        have hbq := str_beq t s
        rw [← ht] at hkc0
        have hlt' : (k : Int) < (N : Int) := by omega
        clear ht
        by_cases hless : sb t < sb s
        · have hle := hli.2 hless
          have HLO2 : Hid (∀ j (h : j < L.length), j < k + 1 → sb L[j] < sb s) := Lib.hid fun j h hj => by
            rcases Nat.lt_or_ge j k with h1 | h1
            · exact HLO.out j h h1
            · obtain rfl : j = k := by omega
              rw [← HT.out]; exact hless
          clear hli hbq hless hc
          go_wp2_with fail
          go_roundw
          case rel => exact ⟨k + 1, by omega, by go_num, HLO2, HB⟩
          case measure => simp [intOf]; omega
        · have hle : Op.bytesLess t.toList s.toList = false := by
            cases h : Op.bytesLess t.toList s.toList with
            | true => exact absurd (hli.1 h) hless
            | false => rfl
          by_cases heq : t = s
          · have hbq2 : (t.toList == s.toList) = true := by rw [hbq]; simp [heq]
            have HEQ := Lib.hid heq
            have HST := Lib.hid (show StrsAt wr (.slice (some ⟨g, off, none⟩) N c) L from ⟨some ⟨g, off, none⟩, c, by rw [HN.out], by rw [← HN.out]; exact hlc, hcm, fun _ => ⟨g, off, rfl, hgw, fun i hi => (HB.out.cell (p := ⟨g, off + i, none⟩) hg).trans (hc i hi)⟩⟩)
            have HMEM : Hid (s ∈ L) := Lib.hid (by rw [← HEQ.out, HT.out]; exact List.getElem_mem hkl)
            clear hli hbq hless heq hc
            go_wp2_with fail
            go_ret
            exact ⟨_, rfl, ⟨L, HST.out, HS0.out, fun x hx => .inr hx, Nat.le_succ _, HMEM.out, fun x hx => hx, fun h => by have := HN.out; rw [h] at this; simp at this; omega⟩, HB.out⟩
          · have hbq2 : (t.toList == s.toList) = false := by rw [hbq]; simp [heq]
            have HHI : Hid (∀ j (h : j < L.length), k ≤ j → sb s < sb L[j]) := Lib.hid (fun j h hkj => by
              have h1 : sb s < sb L[k] := by
                rw [← HT.out]
                rcases str_total (sb t) (sb s) with h | h | h
                · exact absurd h hless
                · exact absurd (sb_inj h) heq
                · exact h
              rcases Nat.lt_or_ge k j with h2 | h2
              · exact str_trans h1 (List.pairwise_iff_getElem.1 HS0.out k j hkl h h2)
              · obtain rfl : j = k := by omega
                exact h1)
            have n1 : ∀ (j : Nat) u, (encB (L.take k))[j]? = some u → wr.cell? ((⟨g, off, none⟩ : Addr).add j) = some u := by
              have := src_cells (n := 0) hg hc HB.out 0 (L.take k) (fun j hj => by
                rw [List.length_take] at hj
                refine ⟨by omega, ?_⟩
                rw [Nat.zero_add, List.getD_eq_getElem?_getD, List.getD_eq_getElem?_getD, List.getElem?_take_of_lt (by omega)])
              exact this
            have n2 : ∀ W, Below wr.heap.size wr W → ∀ (j : Nat) u, (encB (L.drop k))[j]? = some u → W.cell? ((⟨g, off + k, none⟩ : Addr).add j) = some u := fun W hb =>
              src_cells (n := 0) hg hc (bl_then HB.out hb) k (L.drop k) (fun j hj => by
                rw [List.length_drop] at hj
                refine ⟨by omega, ?_⟩
                rw [List.getD_eq_getElem?_getD, List.getD_eq_getElem?_getD, List.getElem?_drop])
            have l1 : (encB (L.take k)).length = k * 1 := by rw [encB_len, List.length_take]; have := HN.out; omega
            have l2 : (encB (L.drop k)).length = (N - k) * 1 := by rw [encB_len, List.length_drop]; have := HN.out; omega
            have hsm : encB (L.take k) ++ [.string s] ++ encB (L.drop k) = encB (withL L s k) := by unfold withL encB; simp
            have hln : (withL L s k).length = N + 1 := by unfold withL; simp; have := HN.out; omega
            have o1 := encB_one (L.take k)
            have o2 := encB_one (L.drop k)
            obtain ⟨L1, hL1⟩ : ∃ l, l = encB (L.take k) := ⟨_, rfl⟩
            obtain ⟨L2, hL2⟩ : ∃ l, l = encB (L.drop k) := ⟨_, rfl⟩
            rw [← hL1] at n1 l1 hsm o1
            rw [← hL2] at n2 l2 hsm o2
            have N1 := Lib.hid n1
            have N2 := Lib.hid n2
            have M1 := Lib.hid l1
            have M2 := Lib.hid l2
            have O1 := Lib.hid o1
            have O2 := Lib.hid o2
            have HSM := Lib.hid hsm
            have HLN := Lib.hid hln
            have hkN : (k : Int) ≤ (N : Int) := by omega
            have hk0 : (0 : Int) ≤ (k : Int) := by omega
            have hkc : (k : Int) ≤ (c : Int) := by omega
            clear n1 n2 l1 l2 hsm hln o1 o2 hL1 hL2
            clear hli hbq hless heq hc
            have hci : ¬ c = k := by omega
            go_wp2_with (at_builtin; first | (refine wpList_append_own wr rfl (.tmp 34) (.tmp 37) _ rfl wr.heap.size 9 j0 _ 1 16 Try.underlying22 hj jz0 jz1 jz2 rfl (by decide) (.slice none 0 0) 0 [] rfl (World.ownsRow_nil wr wr.heap.size 9 1) ⟨g, off, none⟩ k c L1 rfl M1.out N1.out O1.out (by unfold maxLen; omega) (by omega) (Nat.le_refl _) ?_; intro v6 w6 hown6 hg6 _; rw [Nat.zero_add, List.nil_append] at hown6; have hb6 := bl_grown (bl_refl wr) (World.ownsRow_nil wr wr.heap.size 9 1) (Nat.le_refl _) hg6; have HB6 := Lib.hid hb6; have hz6 := hb6.size; obtain ⟨A6, c6, rfl, hA6⟩ := own_any hown6; have HO6 := Lib.hid hown6; clear hb6 hg6 hown6) | (refine wpList_append_own _ rfl (.tmp 39) (.tmp 41) _ rfl wr.heap.size 9 j0 _ 1 16 Try.underlying22 hj jz0 jz1 jz2 rfl (by decide) (.slice A6 k c6) k L1 rfl (HO6.out.alloc _) ⟨w6.heap.size, 0, none⟩ 1 1 [.string s] rfl rfl (cells_new _ _ _) (by intro u hu; rw [List.mem_singleton.1 hu]; rfl) (by unfold maxLen; omega) (by omega) (by simp; omega) ?_; intro v7 w7 hown7 hg7 _; have hb7 := bl_grown (bl_alloc HB6.out (.cells #[.string s] 9)) (HO6.out.alloc (.cells #[.string s] 9)) (Nat.le_refl _) hg7; have HB7 := Lib.hid hb7; have N7 := Lib.hid (N2.out w7 hb7); have hz7 := hb7.size; obtain ⟨g7, c7, rfl, _, _⟩ := own_form hown7 (by omega); have HO7 := Lib.hid hown7; clear hb7 hg7 hown7) | (refine wpList_append_own w7 rfl (.tmp 43) (.tmp 46) _ rfl wr.heap.size 9 j0 _ 1 16 Try.underlying22 hj jz0 jz1 jz2 rfl (by decide) (.slice (some ⟨g7, 0, none⟩) (k + 1) c7) (k + 1) (L1 ++ [.string s]) rfl HO7.out ⟨g, off + k, none⟩ (N - k) (c - k) L2 rfl (by first | rfl | (have := M2.out; simp at this ⊢; omega)) (N7.out) O2.out (by unfold maxLen; omega) (by omega) hz7 ?_; intro v8 w8 hown8 hg8 _; have HB8 := Lib.hid (bl_grown HB7.out HO7.out (Nat.le_refl _) hg8); have HO8 := Lib.hid hown8; clear hg8 hown8))
            go_wp2_with fail
            go_ret
            refine ⟨_, rfl, ⟨withL L s k, ?_, withL_sorted HS0.out HLO.out HHI.out, fun x hx => withL_mem hx, withL_len _ _ _, withL_has _ _ _, fun x hx => withL_old hx, fun h => absurd h (withL_ne _ _ _)⟩, bl_then HB.out HB8.out⟩
            refine strs_own (base := wr.heap.size) ?_ (by have := withL_len L s k; have := HN.out; omega)
            have h := HO8.out
            rw [HSM.out, show k + 1 + (N - k) = (withL L s k).length by have := HLN.out; omega] at h
            exact h
      · have ek : k = N := by omega
        have HHI : Hid (∀ j (h : j < L.length), k ≤ j → sb s < sb L[j]) := Lib.hid (fun j h hkj => by have := HN.out; omega)
        have n1 : ∀ (j : Nat) u, (encB (L.take k))[j]? = some u → wr.cell? ((⟨g, off, none⟩ : Addr).add j) = some u := by
          have := src_cells (n := 0) hg hc HB.out 0 (L.take k) (fun j hj => by
            rw [List.length_take] at hj
            refine ⟨by omega, ?_⟩
            rw [Nat.zero_add, List.getD_eq_getElem?_getD, List.getD_eq_getElem?_getD, List.getElem?_take_of_lt (by omega)])
          exact this
        have n2 : ∀ W, Below wr.heap.size wr W → ∀ (j : Nat) u, (encB (L.drop k))[j]? = some u → W.cell? ((⟨g, off + k, none⟩ : Addr).add j) = some u := fun W hb =>
          src_cells (n := 0) hg hc (bl_then HB.out hb) k (L.drop k) (fun j hj => by
            rw [List.length_drop] at hj
            refine ⟨by omega, ?_⟩
            rw [List.getD_eq_getElem?_getD, List.getD_eq_getElem?_getD, List.getElem?_drop])
        have l1 : (encB (L.take k)).length = k * 1 := by rw [encB_len, List.length_take]; have := HN.out; omega
        have l2 : (encB (L.drop k)).length = (N - k) * 1 := by rw [encB_len, List.length_drop]; have := HN.out; omega
        have hsm : encB (L.take k) ++ [.string s] ++ encB (L.drop k) = encB (withL L s k) := by unfold withL encB; simp
        have hln : (withL L s k).length = N + 1 := by unfold withL; simp; have := HN.out; omega
        have o1 := encB_one (L.take k)
        have o2 := encB_one (L.drop k)
        obtain ⟨L1, hL1⟩ : ∃ l, l = encB (L.take k) := ⟨_, rfl⟩
        obtain ⟨L2, hL2⟩ : ∃ l, l = encB (L.drop k) := ⟨_, rfl⟩
        rw [← hL1] at n1 l1 hsm o1
        rw [← hL2] at n2 l2 hsm o2
        have N1 := Lib.hid n1
        have N2 := Lib.hid n2
        have M1 := Lib.hid l1
        have M2 := Lib.hid l2
        have O1 := Lib.hid o1
        have O2 := Lib.hid o2
        have HSM := Lib.hid hsm
        have HLN := Lib.hid hln
        have hkN : (k : Int) ≤ (N : Int) := by omega
        have hk0 : (0 : Int) ≤ (k : Int) := by omega
        have hkc : (k : Int) ≤ (c : Int) := by omega
        clear n1 n2 l1 l2 hsm hln o1 o2 hL1 hL2
        clear hc ek
        by_cases hci : c = k
        · have hN1 : N = k := by omega
          have hL2 : L2 = [] := List.eq_nil_of_length_eq_zero (by have := M2.out; omega)
          subst hL2
          obtain rfl : k = N := hN1.symm
          obtain rfl : k = c := hci.symm
          go_wp2_with (at_builtin; first | (refine wpList_append_own wr rfl (.tmp 34) (.tmp 37) _ rfl wr.heap.size 9 j0 _ 1 16 Try.underlying22 hj jz0 jz1 jz2 rfl (by decide) (.slice none 0 0) 0 [] rfl (World.ownsRow_nil wr wr.heap.size 9 1) ⟨g, off, none⟩ k k L1 rfl M1.out N1.out O1.out (by unfold maxLen; omega) (by omega) (Nat.le_refl _) ?_; intro v6 w6 hown6 hg6 _; rw [Nat.zero_add, List.nil_append] at hown6; have hb6 := bl_grown (bl_refl wr) (World.ownsRow_nil wr wr.heap.size 9 1) (Nat.le_refl _) hg6; have HB6 := Lib.hid hb6; have hz6 := hb6.size; obtain ⟨A6, c6, rfl, hA6⟩ := own_any hown6; have HO6 := Lib.hid hown6; clear hb6 hg6 hown6) | (refine wpList_append_own _ rfl (.tmp 39) (.tmp 41) _ rfl wr.heap.size 9 j0 _ 1 16 Try.underlying22 hj jz0 jz1 jz2 rfl (by decide) (.slice A6 k c6) k L1 rfl (HO6.out.alloc _) ⟨w6.heap.size, 0, none⟩ 1 1 [.string s] rfl rfl (cells_new _ _ _) (by intro u hu; rw [List.mem_singleton.1 hu]; rfl) (by unfold maxLen; omega) (by omega) (by simp; omega) ?_; intro v7 w7 hown7 hg7 _; have hb7 := bl_grown (bl_alloc HB6.out (.cells #[.string s] 9)) (HO6.out.alloc (.cells #[.string s] 9)) (Nat.le_refl _) hg7; have HB7 := Lib.hid hb7; have N7 := Lib.hid (N2.out w7 hb7); have hz7 := hb7.size; obtain ⟨g7, c7, rfl, _, _⟩ := own_form hown7 (by omega); have HO7 := Lib.hid hown7; clear hb7 hg7 hown7) | (refine wpList_append_own w7 rfl (.tmp 43) (.tmp 46) _ rfl wr.heap.size 9 j0 _ 1 16 Try.underlying22 hj jz0 jz1 jz2 rfl (by decide) (.slice (some ⟨g7, 0, none⟩) (k + 1) c7) (k + 1) (L1 ++ [.string s]) rfl HO7.out ⟨g, off, none⟩ (0) (0) [] rfl (by first | rfl | (have := M2.out; simp at this ⊢; omega)) (by intro j u hu; simp at hu) O2.out (by unfold maxLen; omega) (by omega) hz7 ?_; intro v8 w8 hown8 hg8 _; have HB8 := Lib.hid (bl_grown HB7.out HO7.out (Nat.le_refl _) hg8); have HO8 := Lib.hid hown8; clear hg8 hown8))
          go_wp2_with fail
          go_ret
          refine ⟨_, rfl, ⟨withL L s k, ?_, withL_sorted HS0.out HLO.out HHI.out, fun x hx => withL_mem hx, withL_len _ _ _, withL_has _ _ _, fun x hx => withL_old hx, fun h => absurd h (withL_ne _ _ _)⟩, bl_then HB.out HB8.out⟩
          refine strs_own (base := wr.heap.size) ?_ (by have := withL_len L s k; have := HN.out; omega)
          have h := HO8.out
          rw [HSM.out, show k + 1 + 0 = (withL L s k).length by have := HLN.out; omega] at h
          exact h
        · go_wp2_with (at_builtin; first | (refine wpList_append_own wr rfl (.tmp 34) (.tmp 37) _ rfl wr.heap.size 9 j0 _ 1 16 Try.underlying22 hj jz0 jz1 jz2 rfl (by decide) (.slice none 0 0) 0 [] rfl (World.ownsRow_nil wr wr.heap.size 9 1) ⟨g, off, none⟩ k c L1 rfl M1.out N1.out O1.out (by unfold maxLen; omega) (by omega) (Nat.le_refl _) ?_; intro v6 w6 hown6 hg6 _; rw [Nat.zero_add, List.nil_append] at hown6; have hb6 := bl_grown (bl_refl wr) (World.ownsRow_nil wr wr.heap.size 9 1) (Nat.le_refl _) hg6; have HB6 := Lib.hid hb6; have hz6 := hb6.size; obtain ⟨A6, c6, rfl, hA6⟩ := own_any hown6; have HO6 := Lib.hid hown6; clear hb6 hg6 hown6) | (refine wpList_append_own _ rfl (.tmp 39) (.tmp 41) _ rfl wr.heap.size 9 j0 _ 1 16 Try.underlying22 hj jz0 jz1 jz2 rfl (by decide) (.slice A6 k c6) k L1 rfl (HO6.out.alloc _) ⟨w6.heap.size, 0, none⟩ 1 1 [.string s] rfl rfl (cells_new _ _ _) (by intro u hu; rw [List.mem_singleton.1 hu]; rfl) (by unfold maxLen; omega) (by omega) (by simp; omega) ?_; intro v7 w7 hown7 hg7 _; have hb7 := bl_grown (bl_alloc HB6.out (.cells #[.string s] 9)) (HO6.out.alloc (.cells #[.string s] 9)) (Nat.le_refl _) hg7; have HB7 := Lib.hid hb7; have N7 := Lib.hid (N2.out w7 hb7); have hz7 := hb7.size; obtain ⟨g7, c7, rfl, _, _⟩ := own_form hown7 (by omega); have HO7 := Lib.hid hown7; clear hb7 hg7 hown7) | (refine wpList_append_own w7 rfl (.tmp 43) (.tmp 46) _ rfl wr.heap.size 9 j0 _ 1 16 Try.underlying22 hj jz0 jz1 jz2 rfl (by decide) (.slice (some ⟨g7, 0, none⟩) (k + 1) c7) (k + 1) (L1 ++ [.string s]) rfl HO7.out ⟨g, off + k, none⟩ (N - k) (c - k) L2 rfl (by first | rfl | (have := M2.out; simp at this ⊢; omega)) (N7.out) O2.out (by unfold maxLen; omega) (by omega) hz7 ?_; intro v8 w8 hown8 hg8 _; have HB8 := Lib.hid (bl_grown HB7.out HO7.out (Nat.le_refl _) hg8); have HO8 := Lib.hid hown8; clear hg8 hown8))
          go_wp2_with fail
          go_ret
          refine ⟨_, rfl, ⟨withL L s k, ?_, withL_sorted HS0.out HLO.out HHI.out, fun x hx => withL_mem hx, withL_len _ _ _, withL_has _ _ _, fun x hx => withL_old hx, fun h => absurd h (withL_ne _ _ _)⟩, bl_then HB.out HB8.out⟩
          refine strs_own (base := wr.heap.size) ?_ (by have := withL_len L s k; have := HN.out; omega)
          have h := HO8.out
          rw [HSM.out, show k + 1 + (N - k) = (withL L s k).length by have := HLN.out; omega] at h
          exact h
end Go.Proofs.Ytpclkocfbkjabaa
