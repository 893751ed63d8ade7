/-
  The reference's square of truth values, and its row of numbers.
-/
import Derived.Test.YtnamafakjkcmjaaT34
import Derived.Test.YtnamafakjkcmjaaA31
import Derived.Test.YtnamafakjkcmjaaA28
namespace Go.Proofs.Ytnamafakjkcmjaa
open Go.RowKit Go.Shelf
set_option linter.unusedVariables false
set_option linter.unusedSimpArgs false

theorem own_any3 {w : World} {base : Nat} {e : TypeId} {size : Nat} {v : Value} {n : Nat} {xs : List Value} (h : w.ownsRow base e size v n xs) : ∃ A c, v = .slice A n c := by
  rcases h.2 with ⟨rfl, h0⟩ | ⟨g, cap, cur, rfl, _⟩
  · exact ⟨none, 0, by rw [h0]⟩
  · exact ⟨_, _, rfl⟩
def mqHdr (rb : Nat → Nat) (N k : Nat) : List Value := (List.range k).map fun i => rowS (rb i) N
theorem mqHdr_at {rb : Nat → Nat} {N k i : Nat} (h : i < k) : (mqHdr rb N k)[i]? = some (rowS (rb i) N) := by
  unfold mqHdr
  rw [List.getElem?_map, List.getElem?_range h]
  rfl
/-- The square, as far as its rows are made, the header in a slice that grows. -/
structure Mq (base : Nat) (hv : Value) (N k : Nat) (rb : Nat → Nat) (M : Nat → Nat → Bool) (W : World) : Prop where
  hdr : W.ownsRow base 62 1 hv k (mqHdr rb N k)
  rows : ∀ i, i < k → W.ownsRow base 4 1 (rowS (rb i) N) N (bRow N (M i))
  inj : ∀ i j, i < k → j < k → rb i = rb j → i = j
section
variable {base : Nat} {hv : Value} {N k : Nat} {rb : Nat → Nat} {M : Nat → Nat → Bool} {W : World}
theorem Mq.start (base N : Nat) (rb : Nat → Nat) (M : Nat → Nat → Bool) (W : World) : Mq base (.slice none 0 0) N 0 rb M W :=
  ⟨World.ownsRow_nil _ _ _ _, fun i h => absurd h (Nat.not_lt_zero _), fun i j h => absurd h (Nat.not_lt_zero _)⟩
theorem Mq.kept {W' : World} (h : Mq base hv N k rb M W) (hb : Below W.heap.size W W') : Mq base hv N k rb M W' :=
  ⟨own_kept h.hdr hb, fun i hi => own_kept (h.rows i hi) hb, h.inj⟩
theorem Mq.at1 {g c : Nat} (h : Mq base (.slice (some ⟨g, 0, none⟩) k c) N k rb M W) {i : Nat} (hi : i < k) : W.cell? ⟨g, i, none⟩ = some (.slice (some ⟨rb i, 0, none⟩) N N) :=
  (h.hdr.cellAt i (by omega)).trans (mqHdr_at hi)
theorem Mq.at2 (h : Mq base hv N k rb M W) {i j : Nat} (hi : i < k) (hj : j < N) : W.cell? ⟨rb i, j, none⟩ = some (.bool (M i j)) := by
  rw [(h.rows i hi).cellAt j (by omega), bRow_at _ hj]
theorem Mq.fr2 (h : Mq base hv N k rb M W) {i j : Nat} (hi : i < k) : W.frozen? ⟨rb i, j, none⟩ = false := (h.rows i hi).frozenAt j
theorem Mq.lt1 {g c : Nat} (h : Mq base (.slice (some ⟨g, 0, none⟩) k c) N k rb M W) : g < W.heap.size := (h.hdr.lt _ rfl).2
theorem Mq.lt2 (h : Mq base hv N k rb M W) {i : Nat} (hi : i < k) : rb i < W.heap.size := ((h.rows i hi).lt _ rfl).2
theorem Mq.ge2 (h : Mq base hv N k rb M W) {i : Nat} (hi : i < k) : base ≤ rb i := ((h.rows i hi).lt _ rfl).1
theorem Mq.store (h : Mq base hv N k rb M W) {i j : Nat} (hi : i < k) (hj : j < N) (u : Bool) :
    Mq base hv N k rb (fun a b => if a = i ∧ b = j then u else M a b) (W.setCell ⟨rb i, j, none⟩ (.bool u)) := by
  have h0 : W.ownsRow base 4 1 (.slice (some ⟨rb i, 0, none⟩) N N) N _ := h.rows i hi
  obtain ⟨h1, h2⟩ := World.ownsRow.stored h0 j (.bool u)
  refine ⟨h.hdr.kept h2 (own_ne h.hdr (own_typ h0 (by decide))), fun a ha => ?_, h.inj⟩
  by_cases e : a = i
  · subst e
    rw [bRow_set _ _ hj] at h1
    have : (fun b => if b = j then u else M a b) = fun b => if a = a ∧ b = j then u else M a b := by funext b; simp
    rw [this] at h1
    exact h1
  · have : (fun b => if a = i ∧ b = j then u else M a b) = M a := by funext b; simp [e]
    rw [this]
    exact (h.rows a ha).kept h2 (.inr fun hx => e (h.inj a i ha hi (by simpa [rowS, Value.ownBlock] using hx)))
/-- One row more. -/
theorem Mq.snoc {b : Nat} {v7 : Value} {W7 : World} {M' : Nat → Nat → Bool} (h : Mq base hv N k rb M W) (hr : W.ownsRow base 4 1 (rowS b N) N (bRow N (M' k))) (hb : ∀ i, i < k → rb i ≠ b) (hg : W.grownBy W7 hv.ownBlock)
    (ho : W7.ownsRow base 62 1 v7 (k + 1) (mqHdr rb N k ++ [rowS b N])) (hM : ∀ a, a < k → M' a = M a) : Mq base v7 N (k + 1) (fun i => if i = k then b else rb i) M' W7 := by
  refine ⟨?_, fun i hi => ?_, fun i j hi hj e => ?_⟩
  · have e : mqHdr (fun i => if i = k then b else rb i) N (k + 1) = mqHdr rb N k ++ [rowS b N] := by
      unfold mqHdr
      rw [List.range_succ, List.map_append, List.map_singleton]
      dsimp only
      rw [if_pos rfl]
      congr 1
      refine List.map_congr_left fun i hi => ?_
      have := List.mem_range.1 hi
      rw [if_neg (by omega)]
    rw [e]
    exact ho
  · by_cases e : i = k
    · subst e
      rw [if_pos rfl]
      exact own_other hr h.hdr (by decide) hg
    · rw [if_neg e, hM i (by omega)]
      exact own_other (h.rows i (by omega)) h.hdr (by decide) hg
  · by_cases ei : i = k <;> by_cases ej : j = k
    · rw [ei, ej]
    · rw [if_pos ei, if_neg ej] at e
      exact absurd e.symm (hb j (by omega))
    · rw [if_neg ei, if_pos ej] at e
      exact absurd e (hb i (by omega))
    · rw [if_neg ei, if_neg ej] at e
      exact h.inj i j (by omega) (by omega) e
end
/-- A row of numbers. -/
def nRow (N : Nat) (cs : Nat → Int) : List Value := (List.range N).map fun j => .int .i64 (cs j)
theorem nRow_at {N j : Nat} (cs : Nat → Int) (h : j < N) : (nRow N cs)[j]? = some (.int .i64 (cs j)) := by
  unfold nRow
  rw [List.getElem?_map, List.getElem?_range h]
  rfl
theorem nRow_len (N : Nat) (cs : Nat → Int) : (nRow N cs).length = N := by simp [nRow]
theorem nRow_set {N i : Nat} (cs : Nat → Int) (u : Int) (h : i < N) : (nRow N cs).set i (.int .i64 u) = nRow N (updC cs i u) := by
  apply List.ext_getElem?
  intro b
  by_cases hb : b < N
  · rw [nRow_at _ hb]
    unfold updC
    by_cases e : i = b
    · subst e
      rw [List.getElem?_set_self (by rw [nRow_len]; exact h), if_pos rfl]
    · rw [List.getElem?_set_ne e, nRow_at _ hb, if_neg (Ne.symm e)]
  · rw [List.getElem?_eq_none (by rw [List.length_set, nRow_len]; omega), List.getElem?_eq_none (by rw [nRow_len]; omega)]
theorem nRow_zero (N : Nat) : nRow N (fun _ => 0) = List.replicate N (.int .i64 0) := by
  unfold nRow
  rw [List.map_const', List.length_range]
/-- The number that lies in a cell. -/
def numAt (W : World) (g i : Nat) : Int := match W.cell? ⟨g, i, none⟩ with | some (.int _ x) => x | _ => 0
theorem numAt_of {W : World} {g i : Nat} {x : Int} (h : W.cell? ⟨g, i, none⟩ = some (.int .i64 x)) : numAt W g i = x := by
  unfold numAt
  rw [h]
/-- The numbers of the circles as they stand before a state is looked at. -/
def ownC (M : Nat → Nat → Bool) (i : Nat) : Nat → Int := fun a => if a < i ∧ M a a = true then 1 else 0
theorem ownC_zero (M : Nat → Nat → Bool) : ownC M 0 = fun _ => 0 := by funext a; simp [ownC]
theorem ownC_yes {M : Nat → Nat → Bool} {i : Nat} (h : M i i = true) : updC (ownC M i) i 1 = ownC M (i + 1) := by
  funext a
  unfold updC ownC
  by_cases e : a = i
  · subst e; rw [if_pos rfl, if_pos ⟨by omega, h⟩]
  · rw [if_neg e]
    by_cases h2 : a < i ∧ M a a = true
    · rw [if_pos h2, if_pos ⟨by omega, h2.2⟩]
    · rw [if_neg h2, if_neg (fun h3 => h2 ⟨by omega, h3.2⟩)]
theorem ownC_no {M : Nat → Nat → Bool} {i : Nat} (h : M i i = false) : ownC M i = ownC M (i + 1) := by
  funext a
  unfold ownC
  by_cases h2 : a < i ∧ M a a = true
  · rw [if_pos h2, if_pos ⟨by omega, h2.2⟩]
  · have h5 : ¬ (a < i + 1 ∧ M a a = true) := fun h3 => by
      rcases Nat.lt_or_eq_of_le (Nat.le_of_lt_succ h3.1) with h4 | h4
      · exact h2 ⟨h4, h3.2⟩
      · rw [h4, h] at h3
        cases h3.2
    rw [if_neg h2, if_neg h5]
theorem ownC_all {M : Nat → Nat → Bool} {N : Nat} {R : Nat → Bool} (hM : Trans M N) (hR : ∀ i, i < N → R i = M i i) : CsOk M R N (ownC M N) := by
  have h := CsOk.start hM hR
  refine ⟨fun i hi hz => ?_, fun i hi hz => ?_⟩
  · unfold ownC; rw [if_neg (by rw [hz]; simp)]
  · have := h.one i hi hz
    unfold ownC
    rw [if_pos ⟨hi, hz⟩]
    simpa [hz] using this
theorem self_in {T : Tab} {N q : Nat} {M : Nat → Nat → Bool} (hT : TabOk T N q) (hM : LeadOk T N M) (h1 : ∀ i, i < N → inN T M i ≤ 1) (i : Nat) (hi : i < N) : (fun i => inN T M i == 1) i = M i i := by
  have h2 := in_circle hT hM hi
  have h3 := h1 i hi
  show (inN T M i == 1) = M i i
  cases h : M i i with
  | true =>
    have := h2.2 ((hM i i hi hi).1 h)
    simp; omega
  | false =>
    have : ¬ 1 ≤ inN T M i := fun h4 => by rw [(hM i i hi hi).2 (h2.1 h4)] at h; cases h
    simp; omega
/-- How many letters of the first ones lead back to the circle. -/
def inC (T : Tab) (M : Nat → Nat → Bool) (i c : Nat) : Nat := ((stepsL ((T.getD i []).take c)).filter fun p => M p.2 i).length
theorem inC_zero (T : Tab) (M : Nat → Nat → Bool) (i : Nat) : inC T M i 0 = 0 := by simp [inC, stepsL]
theorem inC_le (T : Tab) (M : Nat → Nat → Bool) (i c : Nat) : inC T M i c ≤ c := by
  unfold inC stepsL
  refine Nat.le_trans (List.length_filter_le _ _) (Nat.le_trans (List.length_filterMap_le _ _) ?_)
  rw [List.length_zipIdx, List.length_take]
  omega
/-- Nothing grew at the pairs that were looked at. -/
def CalmTo (M : Nat → Nat → Bool) (N : Nat) (cs : Nat → Int) (i j : Nat) : Prop := ∀ a b, a < N → b < N → (a < i ∨ (a = i ∧ b < j)) → M a a = true → M b b = true → M a b = true → M b a = false → cs b < cs a
theorem CalmTo.start (M : Nat → Nat → Bool) (N : Nat) (cs : Nat → Int) : CalmTo M N cs 0 0 := fun a b _ _ h => by omega
theorem CalmTo.next {M : Nat → Nat → Bool} {N i j : Nat} {cs : Nat → Int} (h : CalmTo M N cs i j) (hx : M i i = true → M j j = true → M i j = true → M j i = false → cs j < cs i) : CalmTo M N cs i (j + 1) := fun a b ha hb hab h1 h2 h3 h4 => by
  by_cases e : a = i ∧ b = j
  · obtain ⟨rfl, rfl⟩ := e
    exact hx h1 h2 h3 h4
  · exact h a b ha hb (by omega) h1 h2 h3 h4
theorem CalmTo.row {M : Nat → Nat → Bool} {N i : Nat} {cs : Nat → Int} (h : CalmTo M N cs i N) : CalmTo M N cs (i + 1) 0 := fun a b ha hb hab h1 h2 h3 h4 => h a b ha hb (by omega) h1 h2 h3 h4
theorem CalmTo.all {M : Nat → Nat → Bool} {N : Nat} {cs : Nat → Int} (h : CalmTo M N cs N 0) : Calm M N cs := fun a b ha hb h1 h2 h3 h4 => h a b ha hb (.inl ha) h1 h2 h3 h4
def oneIf : Value → Nat
  | .bool true => 1
  | _ => 0
/-- How far a round of the numbers is: nothing has changed, or they have grown. -/
def RoundAt (M : Nat → Nat → Bool) (C : Nat → Int) (N : Nat) (cs0 cs : Nat → Int) (ch : Bool) (i j : Nat) : Prop := (ch = true ∧ gapC C cs N < gapC C cs0 N) ∨ (ch = false ∧ cs = cs0 ∧ CalmTo M N cs i j)
end Go.Proofs.Ytnamafakjkcmjaa
