/-
  Memory that is written over: what stays. The law TreadOwn.
-/
import Derived.Test.YtpclkocfbkjabaaT58
import Derived.Test.YtpclkocfbkjabaaMD
import Derived.Test.YtpclkocfbkjabaaA24
namespace Go.Proofs.Ytpclkocfbkjabaa
open Go.RowKit Go.Shelf
set_option linter.unusedVariables false
set_option linter.unusedSimpArgs false

theorem patC_id {q : Nat} {L : List ByteArray} (h : setB q L = true) : patC L = L := by
  obtain ⟨_, h1, h2, _⟩ := setB_iff.1 h
  unfold patC
  rw [List.take_of_length_le (by omega)]
  have : ∀ x ∈ L, cut6 x = x := fun x hx => by
    have := (h2 x hx).2.1
    unfold cut6
    rw [show min x.size 6 = x.size by omega, ByteArray.extract_zero_size]
  rw [List.map_congr_left this, List.map_id']
structure UpAt (w2 : World) (Bs : List (Nat × Nat)) (g9 : Nat) (curH : Array Value) (W : World) : Prop where
  low : Below w2.heap.size w2 W
  head : W.heap[g9]? = some (.cells curH 22 (0, 0))
  rows : ∀ p ∈ Bs, w2.heap.size ≤ p.1 ∧ ∃ cur, W.heap[p.1]? = some (.cells cur 9 (0, 0)) ∧ p.2 ≤ cur.size
theorem UpAt.kept {w2 : World} {Bs : List (Nat × Nat)} {g9 : Nat} {curH : Array Value} {W W' : World} (h : UpAt w2 Bs g9 curH W) (hb : Below W.heap.size W W') : UpAt w2 Bs g9 curH W' := by
  refine ⟨bl_then h.low hb, ?_, fun p hp => ?_⟩
  · rw [hb.block g9 (Array.getElem?_eq_some_iff.1 h.head).1]; exact h.head
  · obtain ⟨h1, cur, h2, h3⟩ := h.rows p hp
    exact ⟨h1, cur, by rw [hb.block p.1 (Array.getElem?_eq_some_iff.1 h2).1]; exact h2, h3⟩
theorem UpAt.set {w2 : World} {Bs : List (Nat × Nat)} {g9 : Nat} {curH : Array Value} {W : World} (h : UpAt w2 Bs g9 curH W) {p : Nat × Nat} (hp : p ∈ Bs) (j : Nat) (u : Value) : UpAt w2 Bs g9 curH (W.setCell ⟨p.1, j, none⟩ u) := by
  obtain ⟨h1, cur, h2, h3⟩ := h.rows p hp
  refine ⟨bl_set h.low h1 u, ?_, fun p' hp' => ?_⟩
  · rw [Below.heap_setCell W ⟨p.1, j, none⟩ u g9 (fun e => ?_)]
    · exact h.head
    · have e : g9 = p.1 := e
      rw [← e, h.head] at h2
      simp only [Option.some.injEq, Obj.cells.injEq] at h2
      exact absurd h2.2.1 (by decide)
  · obtain ⟨h1', cur', h2', h3'⟩ := h.rows p' hp'
    refine ⟨h1', ?_⟩
    by_cases e : p'.1 = p.1
    · rw [e] at h2' ⊢
      exact ⟨_, heap_setCell_same W p.1 j cur' 9 u h2', by simpa using h3'⟩
    · exact ⟨cur', by rw [Below.heap_setCell W ⟨p.1, j, none⟩ u p'.1 e]; exact h2', h3'⟩
theorem UpAt.cell {w2 : World} {Bs : List (Nat × Nat)} {g9 : Nat} {curH : Array Value} {W : World} (h : UpAt w2 Bs g9 curH W) {p : Nat × Nat} (hp : p ∈ Bs) {j : Nat} (hj : j < p.2) :
    (∃ u, W.cell? ⟨p.1, j, none⟩ = some u) ∧ W.frozen? ⟨p.1, j, none⟩ = false ∧ p.1 < W.heap.size := by
  obtain ⟨h1, cur, h2, h3⟩ := h.rows p hp
  refine ⟨⟨cur[j]'(by omega), ?_⟩, frozen_of_row W p.1 j cur 9 h2, (Array.getElem?_eq_some_iff.1 h2).1⟩
  have hw : Whole W p.1 9 cur := h2
  rw [hw.cell j, Array.getElem?_eq_getElem (by omega)]
theorem UpAt.hdr {w2 : World} {Bs : List (Nat × Nat)} {g9 : Nat} {curH : Array Value} {W : World} (h : UpAt w2 Bs g9 curH W) (i : Nat) : W.cell? ⟨g9, i, none⟩ = curH[i]? := by
  have hw : Whole W g9 22 curH := h.head
  exact hw.cell i
/-- A row of one's own is such memory. -/
theorem own_up {w W : World} {base n : Nat} {v : Value} {xs : List Value} {w2 : World} (h : W.ownsRow base 9 1 v n xs) (hb : w2.heap.size ≤ base) : ∃ A c, v = .slice A n c ∧ (0 < n → ∃ g, A = some ⟨g, 0, none⟩ ∧ w2.heap.size ≤ g ∧ ∃ cur, W.heap[g]? = some (.cells cur 9 (0, 0)) ∧ n ≤ cur.size) := by
  rcases h.2 with ⟨rfl, rfl⟩ | ⟨g, cap, cur, rfl, h1, h2, h3, h4, h5, h6⟩
  · exact ⟨none, 0, rfl, fun h => absurd h (Nat.lt_irrefl 0)⟩
  · exact ⟨_, _, rfl, fun _ => ⟨g, rfl, by omega, cur, h2, by omega⟩⟩
theorem own_ring {q : Nat} (hq : 1 ≤ q ∧ q ≤ 3) : (ringsL q 2).length ≤ 12 ∧ 0 < (ringsL q 2).length ∧ (∀ i, i < (ringsL q 2).length → ((ringsL q 2).getD i []).length ≤ 5) ∧ (ringsL q 2).getD 0 [] = [[97, 97]] := by
  rw [ringsI_eq]
  have h : ∀ q ∈ [1, 2, 3], ((decide ((ringsI q 2).length ≤ 12) && decide (0 < (ringsI q 2).length)) && ((List.range (ringsI q 2).length).all fun i => decide (((ringsI q 2).getD i []).length ≤ 5)) && decide ((ringsI q 2).getD 0 [] = [[97, 97]])) = true := by decide +kernel
  have := h q (by simp; omega)
  simp only [Bool.and_eq_true, decide_eq_true_iff, List.all_eq_true, List.mem_range] at this
  exact ⟨this.1.1.1, this.1.1.2, this.1.2, this.2⟩
end Go.Proofs.Ytpclkocfbkjabaa
