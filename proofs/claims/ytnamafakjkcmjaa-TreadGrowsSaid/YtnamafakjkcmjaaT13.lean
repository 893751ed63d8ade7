/-
  A square of truth values: rows in blocks of their own, which are written.
-/
import Derived.Test.YtnamafakjkcmjaaT12
namespace Go.Proofs.Ytnamafakjkcmjaa
open Go.RowKit Go.Shelf
set_option linter.unusedVariables false
set_option linter.unusedSimpArgs false

def bRow (N : Nat) (M : Nat → Bool) : List Value := (List.range N).map fun j => .bool (M j)
theorem bRow_len (N : Nat) (M : Nat → Bool) : (bRow N M).length = N := by simp [bRow]
theorem bRow_at {N j : Nat} (M : Nat → Bool) (h : j < N) : (bRow N M)[j]? = some (.bool (M j)) := by
  unfold bRow
  rw [List.getElem?_map, List.getElem?_range h]
  rfl
theorem bRow_set {N j : Nat} (M : Nat → Bool) (u : Bool) (h : j < N) : (bRow N M).set j (.bool u) = bRow N fun b => if b = j then u else M b := by
  apply List.ext_getElem?
  intro b
  by_cases hb : b < N
  · rw [bRow_at _ hb]
    by_cases e : j = b
    · subst e
      rw [List.getElem?_set_self (by rw [bRow_len]; exact h), if_pos rfl]
    · rw [List.getElem?_set_ne e, bRow_at _ hb, if_neg (Ne.symm e)]
  · rw [List.getElem?_eq_none (by rw [List.length_set, bRow_len]; omega), List.getElem?_eq_none (by rw [bRow_len]; omega)]
def rowS (b N : Nat) : Value := .slice (some ⟨b, 0, none⟩) N N
/-- The square, as far as its rows are made. -/
structure Mt (we : World) (bl : List (Nat × TypeId × Value)) (H : Nat) (ds : List Deferred) (gL N k : Nat) (rb : Nat → Nat) (M : Nat → Nat → Bool) (W : World) : Prop where
  env : Env we bl H ds W
  hdr : W.ownsRow we.heap.size 62 1 (.slice (some ⟨gL, 0, none⟩) N N) N (upto (fun i => rowS (rb i) N) (.slice none 0 0) N k)
  rows : ∀ i, i < k → W.ownsRow we.heap.size 4 1 (rowS (rb i) N) N (bRow N (M i))
  inj : ∀ i j, i < k → j < k → rb i = rb j → i = j
variable {we : World} {bl : List (Nat × TypeId × Value)} {H : Nat} {ds : List Deferred} {gL N k : Nat} {rb : Nat → Nat} {M : Nat → Nat → Bool} {W : World}
theorem own_notcell {w : World} {base : Nat} {e : TypeId} {n cap g : Nat} {xs : List Value} (h : w.ownsRow base e 1 (.slice (some ⟨g, 0, none⟩) n cap) n xs) : ∃ cur, w.heap[g]? = some (.cells cur e (0, 0)) := by
  rcases h.2 with ⟨h', _⟩ | ⟨g', cap', cur, h', _, hg, _⟩
  · simp at h'
  · simp only [Value.slice.injEq, Option.some.injEq, Addr.mk.injEq, and_true, true_and] at h'
    obtain ⟨rfl, rfl⟩ := h'
    exact ⟨cur, hg⟩
theorem Mt.kept {W' : World} (h : Mt we bl H ds gL N k rb M W) (hb : Below W.heap.size W W') : Mt we bl H ds gL N k rb M W' :=
  ⟨h.env.below hb, own_kept h.hdr hb, fun i hi => own_kept (h.rows i hi) hb, h.inj⟩
theorem Mt.own {β : Type} {B : Nat} (hB : we.heap.size ≤ B) (hH : H ≤ B) : OwnFrom B (fun (_ : β) W => Mt we bl H ds gL N k rb M W) := by
  rintro s A D row ⟨h1, h2, h3, h4⟩ hg hr
  have hc : ∀ r, row = some r → ∀ t cur, A.heap[r]? ≠ some (.cells cur t (0, 0)) := fun r e t cur hx => by
    obtain ⟨_, o, ho, hc⟩ := hr r e
    rw [ho] at hx
    injection hx with hx
    rw [hx] at hc
    cases hc
  have hne : ∀ {base : Nat} {e : TypeId} {v : Value} {n : Nat} {xs : List Value}, A.ownsRow base e 1 v n xs → D.ownsRow base e 1 v n xs := fun {base e v n xs} ho => ho.kept hg (by
    cases row with
    | none => cases h : v.ownBlock <;> simp
    | some r => exact own_ne ho (hc r rfl _))
  exact ⟨Env.own (β := Unit) hB hH () A D row h1 hg hr, hne h2, fun i hi => hne (h3 i hi), h4⟩
theorem Mt.draw (h : Mt we bl H ds gL N k rb M W) (n : Nat) : Mt we bl H ds gL N k rb M (W.drewN n) :=
  ⟨h.env.kept (grown_drew W n) (fun r e => by cases e), h.hdr.kept (grown_drew W n) (by right; simp [Value.ownBlock]), fun i hi => (h.rows i hi).kept (grown_drew W n) (by right; simp [rowS, Value.ownBlock]), h.inj⟩
theorem Mt.at1 (h : Mt we bl H ds gL N k rb M W) {i : Nat} (hk : k ≤ N) (hi : i < k) : W.cell? ⟨gL, i, none⟩ = some (rowS (rb i) N) := by
  rw [h.hdr.cellAt i (by omega), upto_at _ _ (by omega), if_pos hi]
theorem Mt.at2 (h : Mt we bl H ds gL N k rb M W) {i j : Nat} (hi : i < k) (hj : j < N) : W.cell? ⟨rb i, j, none⟩ = some (.bool (M i j)) := by
  rw [(h.rows i hi).cellAt j (by omega), bRow_at _ hj]
theorem Mt.fr2 (h : Mt we bl H ds gL N k rb M W) {i j : Nat} (hi : i < k) : W.frozen? ⟨rb i, j, none⟩ = false := (h.rows i hi).frozenAt j
theorem Mt.lt1 (h : Mt we bl H ds gL N k rb M W) : gL < W.heap.size := (h.hdr.lt _ rfl).2
theorem Mt.lt2 (h : Mt we bl H ds gL N k rb M W) {i : Nat} (hi : i < k) : rb i < W.heap.size := ((h.rows i hi).lt _ rfl).2
theorem Mt.ge2 (h : Mt we bl H ds gL N k rb M W) {i : Nat} (hi : i < k) : we.heap.size ≤ rb i := ((h.rows i hi).lt _ rfl).1
/-- A store into a row. -/
theorem Mt.store (h : Mt we bl H ds gL N k rb M W) (hbl : ∀ b ∈ bl, b.2.1 ≠ 4) {i j : Nat} (hi : i < k) (hj : j < N) (u : Bool) :
    Mt we bl H ds gL N k rb (fun a b => if a = i ∧ b = j then u else M a b) (W.setCell ⟨rb i, j, none⟩ (.bool u)) := by
  have h0 := h.rows i hi
  obtain ⟨h1, h2⟩ := World.ownsRow.stored (show W.ownsRow we.heap.size 4 1 (.slice (some ⟨rb i, 0, none⟩) N N) N _ from h0) j (.bool u)
  obtain ⟨cur, hcur⟩ := own_notcell (show W.ownsRow we.heap.size 4 1 (.slice (some ⟨rb i, 0, none⟩) N N) N _ from h0)
  refine ⟨h.env.kept h2 fun r x => ?_, h.hdr.kept h2 (own_ne h.hdr (own_typ (show W.ownsRow we.heap.size 4 1 (.slice (some ⟨rb i, 0, none⟩) N N) N _ from h0) (by decide))), fun a ha => ?_, h.inj⟩
  · cases x
    refine ⟨fun b hb hx => boxed_typ (h.env.box b hb) (hbl b hb) cur (by rw [← hx]; exact hcur), h.ge2 hi, .inr fun hx => ?_⟩
    rw [hcur] at hx; cases hx
  · by_cases e : a = i
    · subst e
      rw [bRow_set _ _ hj] at h1
      have : (fun b => if b = j then u else M a b) = fun b => if a = a ∧ b = j then u else M a b := by funext b; simp
      rw [this] at h1
      exact h1
    · have : (fun b => if a = i ∧ b = j then u else M a b) = M a := by funext b; simp [e]
      rw [this]
      exact (h.rows a ha).kept h2 (.inr fun hx => e (h.inj a i ha hi (by simpa [rowS, Value.ownBlock] using hx)))
theorem upto_congr {F G : Nat → Value} {z : Value} {N i : Nat} (h : ∀ j, j < i → F j = G j) : upto F z N i = upto G z N i := by
  unfold upto
  apply List.map_congr_left
  intro j _
  by_cases e : j < i
  · rw [if_pos e, if_pos e, h j e]
  · rw [if_neg e, if_neg e]
theorem bRow_false (N : Nat) : bRow N (fun _ => false) = List.replicate N (.bool false) := by
  unfold bRow
  rw [List.map_const', List.length_range]
/-- A new row. -/
theorem Mt.grow (h : Mt we bl H ds gL N k rb M W) (hk : k < N) (hNl : N ≤ 1000) (hbl : ∀ b ∈ bl, b.2.1 ≠ 62) (hwe : we.heap.size ≤ W.heap.size) (o : Obj) {M' : Nat → Nat → Bool} (hM : ∀ a, a < k → M' a = M a) (hMk : M' k = fun _ => false) :
    Mt we bl H ds gL N (k + 1) (fun i => if i = k then W.heap.size + 1 else rb i) M' ((((W.setCell ⟨gL, k, none⟩ (rowS (W.heap.size + 1) N)).alloc o).alloc (.cells (madeCells #[.bool false] N) 4)).drew) := by
  obtain ⟨h1, h2⟩ := h.hdr.stored k (rowS (W.heap.size + 1) N)
  obtain ⟨cur, hcur⟩ := own_notcell h.hdr
  have hz : (W.setCell ⟨gL, k, none⟩ (rowS (W.heap.size + 1) N)).heap.size = W.heap.size := by simp [World.setCell]
  have hb2 : Below (W.setCell ⟨gL, k, none⟩ (rowS (W.heap.size + 1) N)).heap.size (W.setCell ⟨gL, k, none⟩ (rowS (W.heap.size + 1) N)) ((((W.setCell ⟨gL, k, none⟩ (rowS (W.heap.size + 1) N)).alloc o).alloc (.cells (madeCells #[.bool false] N) 4)).drew) := bl_drewN (bl_alloc (bl_alloc (bl_refl _) _) _) 1
  have hM0 : Mt we bl H ds gL N k rb M W → ∀ i, i < k → (W.setCell ⟨gL, k, none⟩ (rowS (W.heap.size + 1) N)).ownsRow we.heap.size 4 1 (rowS (rb i) N) N (bRow N (M i)) := fun h i hi =>
    (h.rows i hi).kept h2 (own_ne (h.rows i hi) (own_typ h.hdr (by decide)))
  have hE : Env we bl H ds (W.setCell ⟨gL, k, none⟩ (rowS (W.heap.size + 1) N)) := h.env.kept h2 fun r x => by
    cases x
    refine ⟨fun b hb hx => boxed_typ (h.env.box b hb) (hbl b hb) cur (by rw [← hx]; exact hcur), (h.hdr.lt _ rfl).1, .inr fun hx => ?_⟩
    rw [hcur] at hx; cases hx
  refine ⟨hE.below hb2, ?_, fun i hi => ?_, fun i j hi hj e => ?_⟩
  · have h3 := own_kept h1 hb2
    rw [upto_congr (G := fun i => rowS (if i = k then W.heap.size + 1 else rb i) N) (fun j hj => by rw [if_neg (by omega)])] at h3
    have h4 := upto_set (fun i => rowS (if i = k then W.heap.size + 1 else rb i) N) (.slice none 0 0) hk
    rw [if_pos rfl] at h4
    rw [h4] at h3
    exact h3
  · by_cases e : i = k
    · subst e
      rw [if_pos rfl, hMk, bRow_false, ← toList_madeCells_one]
      have := World.ownsRow_lit (base := we.heap.size) (e := 4) (size := 1) ((W.setCell ⟨gL, i, none⟩ (rowS (W.heap.size + 1) N)).alloc o) (madeCells #[.bool false] N) N (by simp [hz]; omega) (by unfold maxLen; omega) (by rw [← Array.length_toList, toList_madeCells_one]; simp)
      rw [World.size_alloc, hz] at this
      exact this
    · rw [if_neg e, hM i (by omega)]
      exact own_kept (hM0 h i (by omega)) hb2
  · by_cases ei : i = k
    · by_cases ej : j = k
      · rw [ei, ej]
      · rw [if_pos ei, if_neg ej] at e
        have := h.lt2 (i := j) (by omega)
        omega
    · by_cases ej : j = k
      · rw [if_neg ei, if_pos ej] at e
        have := h.lt2 (i := i) (by omega)
        omega
      · rw [if_neg ei, if_neg ej] at e
        exact h.inj i j (by omega) (by omega) e
end Go.Proofs.Ytnamafakjkcmjaa
