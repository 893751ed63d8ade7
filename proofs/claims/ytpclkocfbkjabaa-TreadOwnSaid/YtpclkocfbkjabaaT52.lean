/-
  The reference: without.
-/
import Derived.Test.YtpclkocfbkjabaaT51
namespace Go.Proofs.Ytpclkocfbkjabaa
open Go.RowKit Go.Shelf
set_option linter.unusedVariables false
set_option linter.unusedSimpArgs false

theorem src_cells {w W : World} {g off n : Nat} {ss : List ByteArray} (hg : g < w.heap.size) (hc : ∀ j, j < ss.length → w.cell? ⟨g, off + j, none⟩ = some (.string (ss.getD j ByteArray.empty))) (hb : Below w.heap.size w W) (o : Nat) (L : List ByteArray)
    (hL : ∀ j, j < L.length → o + j < ss.length ∧ L.getD j ByteArray.empty = ss.getD (o + j) ByteArray.empty) : ∀ (j : Nat) u, (encB L)[j]? = some u → W.cell? ((⟨g, off + o, none⟩ : Addr).add j) = some u := by
  intro j u hu
  have hj : j < L.length := by
    rcases Nat.lt_or_ge j L.length with h | h
    · exact h
    · rw [List.getElem?_eq_none (by simp [encB]; omega)] at hu; cases hu
  rw [encB_at hj] at hu
  injection hu with hu
  obtain ⟨h1, h2⟩ := hL j hj
  rw [show (⟨g, off + o, none⟩ : Addr).add j = ⟨g, off + o + j, none⟩ by unfold Addr.add; split <;> simp_all, ← hu, h2, hb.cell (p := ⟨g, off + o + j, none⟩) hg, Nat.add_assoc]
  exact hc _ h1
theorem encB_one (L : List ByteArray) : ∀ u ∈ encB L, u.oneCell' = true := by
  intro u hu
  unfold encB at hu
  obtain ⟨s, _, rfl⟩ := List.mem_map.1 hu
  rfl
theorem encB_len (L : List ByteArray) : (encB L).length = L.length := by simp [encB]
set_option maxRecDepth 100000 in
set_option maxHeartbeats 400000 in
theorem without_any (v : Value) (ss : List ByteArray) (i : Nat) (w : World) (hv : StrsAt w v ss) (hi : i < ss.length) (hl : ss.length ≤ 1000) :
    Calls Try.prog 76 #[v, .int .i64 i] w fun e w' => ∃ v', e = .returned v' ∧ w'.ownsRow w.heap.size 9 1 v' (dropB ss i).length (encB (dropB ss i)) ∧ Below w.heap.size w w' := by
  obtain ⟨j0, hj, jz0, jz1, jz2⟩ := info_parts infoS
  obtain ⟨A, c, rfl, hlc, hcm, hA⟩ := hv
  obtain ⟨g, off, rfl, hg, hc⟩ := hA (by omega)
  have n1 : ∀ (j : Nat) u, (encB (ss.take i))[j]? = some u → w.cell? ((⟨g, off, none⟩ : Addr).add j) = some u := by
    have := src_cells (n := 0) (W := w) hg hc (bl_refl w) 0 (ss.take i) (fun j hj => by
      rw [List.length_take] at hj
      refine ⟨by omega, ?_⟩
      rw [Nat.zero_add, List.getD_eq_getElem?_getD, List.getD_eq_getElem?_getD, List.getElem?_take_of_lt (by omega)])
    exact this
  have n2 : ∀ W, Below w.heap.size w W → ∀ (j : Nat) u, (encB (ss.drop (i + 1)))[j]? = some u → W.cell? ((⟨g, off + (i + 1), none⟩ : Addr).add j) = some u := fun W hb =>
    src_cells (n := 0) hg hc hb (i + 1) (ss.drop (i + 1)) (fun j hj => by
      rw [List.length_drop] at hj
      refine ⟨by omega, ?_⟩
      rw [List.getD_eq_getElem?_getD, List.getD_eq_getElem?_getD, List.getElem?_drop])
  have l1 : (encB (ss.take i)).length = i * 1 := by rw [encB_len, List.length_take]; omega
  have l2 : (encB (ss.drop (i + 1))).length = (ss.length - (i + 1)) * 1 := by rw [encB_len, List.length_drop]; omega
  have hsum : encB (ss.take i) ++ encB (ss.drop (i + 1)) = encB (dropB ss i) := by unfold dropB encB; rw [List.map_append]
  have hlen : i + (ss.length - (i + 1)) = (dropB ss i).length := by rw [drop_len hi]; omega
  obtain ⟨N, hN⟩ : ∃ N, N = ss.length := ⟨_, rfl⟩
  rw [← hN] at hi hl hlc l2 hlen ⊢
  obtain ⟨L1, hL1⟩ : ∃ L, L = encB (ss.take i) := ⟨_, rfl⟩
  obtain ⟨L2, hL2⟩ : ∃ L, L = encB (ss.drop (i + 1)) := ⟨_, rfl⟩
  have o1 := encB_one (ss.take i)
  have o2 := encB_one (ss.drop (i + 1))
  rw [← hL1] at n1 l1 hsum o1
  rw [← hL2] at n2 l2 hsum o2
  have N1 := Lib.hid n1
  have N2 := Lib.hid n2
  have M1 := Lib.hid l1
  have M2 := Lib.hid l2
  have O1 := Lib.hid o1
  have O2 := Lib.hid o2
  have HS := Lib.hid hsum
  have HL := Lib.hid hlen
  have hiN : (i : Int) ≤ (N : Int) := by omega
  have hi1 : (i : Int) + 1 ≤ (N : Int) := by omega
  have hw1 : IntKind.i64.wrap ((i : Int) + 1) = ((i + 1 : Nat) : Int) := by rw [show (i : Int) + 1 = ((i + 1 : Nat) : Int) by omega]; exact wrapI (by omega)
  have hic : (i : Int) ≤ (c : Int) := by omega
  have hi1c : (i : Int) + 1 ≤ (c : Int) := by omega
  clear hA hc n1 n2 l1 l2 hsum hlen hN hL1 hL2 o1 o2
  by_cases hci : c = i + 1
  · have hN1 : N = i + 1 := by omega
    subst hci
    subst hN1
    have hL2 : L2 = [] := List.eq_nil_of_length_eq_zero (by have := M2.out; omega)
    subst hL2
    go_enter Try.func76, Try.ntmps76
    go_wp2_with (at_builtin; first | (refine wpList_append_own w rfl (.tmp 6) (.tmp 9) _ rfl w.heap.size 9 j0 _ 1 16 Try.underlying22 hj jz0 jz1 jz2 rfl (by decide) (.slice none 0 0) 0 [] rfl (World.ownsRow_nil w w.heap.size 9 1) ⟨g, off, none⟩ i (i + 1) L1 rfl M1.out N1.out O1.out (by unfold maxLen; omega) (by omega) (Nat.le_refl _) ?_; intro v6 w6 hown6 hg6 _; rw [Nat.zero_add, List.nil_append] at hown6; have hb6 := bl_grown (bl_refl w) (World.ownsRow_nil w w.heap.size 9 1) (Nat.le_refl _) hg6; have HB6 := Lib.hid hb6; have N6 := Lib.hid (N2.out w6 hb6); have hz6 := hb6.size; obtain ⟨A6, c6, rfl, hA6⟩ := own_any hown6; have HO6 := Lib.hid hown6; clear hb6 hg6 hown6) | (refine wpList_append_own w6 rfl (.tmp 11) (.tmp 15) _ rfl w.heap.size 9 j0 _ 1 16 Try.underlying22 hj jz0 jz1 jz2 rfl (by decide) (.slice A6 i c6) i L1 rfl HO6.out ⟨g, off, none⟩ 0 0 [] rfl rfl (by intro j u hu; simp at hu) (by intro u hu; cases hu) (by unfold maxLen; omega) (by omega) hz6 ?_; intro v7 w7 hown7 hg7 _; have HB7 := Lib.hid (bl_grown HB6.out HO6.out (Nat.le_refl _) hg7); have HO7 := Lib.hid hown7; clear hg7 hown7))
    go_wp2_with fail
    go_ret
    refine ⟨_, rfl, ?_, HB7.out⟩
    have h := HO7.out
    rw [HS.out, show i + 0 = (dropB ss i).length by have := HL.out; omega] at h
    exact h
  · go_enter Try.func76, Try.ntmps76
    go_wp2_with (at_builtin; first | (refine wpList_append_own w rfl (.tmp 6) (.tmp 9) _ rfl w.heap.size 9 j0 _ 1 16 Try.underlying22 hj jz0 jz1 jz2 rfl (by decide) (.slice none 0 0) 0 [] rfl (World.ownsRow_nil w w.heap.size 9 1) ⟨g, off, none⟩ i c L1 rfl M1.out N1.out O1.out (by unfold maxLen; omega) (by omega) (Nat.le_refl _) ?_; intro v6 w6 hown6 hg6 _; rw [Nat.zero_add, List.nil_append] at hown6; have hb6 := bl_grown (bl_refl w) (World.ownsRow_nil w w.heap.size 9 1) (Nat.le_refl _) hg6; have HB6 := Lib.hid hb6; have N6 := Lib.hid (N2.out w6 hb6); have hz6 := hb6.size; obtain ⟨A6, c6, rfl, hA6⟩ := own_any hown6; have HO6 := Lib.hid hown6; clear hb6 hg6 hown6) | (refine wpList_append_own w6 rfl (.tmp 11) (.tmp 15) _ rfl w.heap.size 9 j0 _ 1 16 Try.underlying22 hj jz0 jz1 jz2 rfl (by decide) (.slice A6 i c6) i L1 rfl HO6.out ⟨g, off + (i + 1), none⟩ (N - (i + 1)) (c - (i + 1)) L2 rfl (by have := M2.out; omega) N6.out O2.out (by unfold maxLen; omega) (by omega) hz6 ?_; intro v7 w7 hown7 hg7 _; have HB7 := Lib.hid (bl_grown HB6.out HO6.out (Nat.le_refl _) hg7); have HO7 := Lib.hid hown7; clear hg7 hown7))
    go_wp2_with fail
    go_ret
    refine ⟨_, rfl, ?_, HB7.out⟩
    have h := HO7.out
    rw [HS.out, HL.out] at h
    exact h
end Go.Proofs.Ytpclkocfbkjabaa
