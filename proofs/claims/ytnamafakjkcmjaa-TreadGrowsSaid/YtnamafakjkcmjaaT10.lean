/-
  Rows of rows: a slice of slices, each in a block of its own; the closed ways from a state.
-/
import Derived.Test.YtnamafakjkcmjaaT9
import Derived.Deep.OwnRows
namespace Go.Proofs.Ytnamafakjkcmjaa
open Go.RowKit Go.Shelf
set_option linter.unusedVariables false
set_option linter.unusedSimpArgs false

/-- Rows of values of one type, each in a block of its own below B. -/
def RowsV (w : World) (B : Nat) (e : TypeId) (hdrs : List Value) (R : List (List Value)) : Prop := hdrs.length = R.length ∧ ∀ i, i < R.length → ∃ b c cur, hdrs[i]? = some (.slice (some ⟨b, 0, none⟩) (R.getD i []).length c) ∧ b < B ∧
  w.heap[b]? = some (.cells cur e (0, 0)) ∧ ∀ j, j < (R.getD i []).length → cur[j]? = (R.getD i [])[j]?
theorem RowsV.nil (w : World) (B : Nat) (e : TypeId) : RowsV w B e [] [] := ⟨rfl, fun i h => absurd h (Nat.not_lt_zero _)⟩
theorem RowsV.mono {w : World} {B B' : Nat} {e : TypeId} {hdrs : List Value} {R : List (List Value)} (h : RowsV w B e hdrs R) (hb : B ≤ B') : RowsV w B' e hdrs R := by
  refine ⟨h.1, fun i hi => ?_⟩
  obtain ⟨b, c, cur, h1, h2, h3⟩ := h.2 i hi
  exact ⟨b, c, cur, h1, by omega, h3⟩
theorem RowsV.moved {w w' : World} {B : Nat} {e : TypeId} {hdrs : List Value} {R : List (List Value)} (h : RowsV w B e hdrs R) (hm : ∀ b cur, b < B → w.heap[b]? = some (.cells cur e (0, 0)) → w'.heap[b]? = w.heap[b]?) : RowsV w' B e hdrs R := by
  refine ⟨h.1, fun i hi => ?_⟩
  obtain ⟨b, c, cur, h1, h2, h3, h4⟩ := h.2 i hi
  exact ⟨b, c, cur, h1, h2, (hm b cur h2 h3).trans h3, h4⟩
theorem RowsV.kept {w w' : World} {B : Nat} {e : TypeId} {hdrs : List Value} {R : List (List Value)} (h : RowsV w B e hdrs R) (hb : Below w.heap.size w w') : RowsV w' B e hdrs R :=
  h.moved fun b cur _ h3 => hb.block b (Array.getElem?_eq_some_iff.1 h3).1
theorem RowsV.grown {w w' : World} {B : Nat} {e : TypeId} {hdrs : List Value} {R : List (List Value)} {row : Option Nat} (h : RowsV w B e hdrs R) (hg : w.grownBy w' row) (hne : ∀ r, row = some r → B ≤ r ∨ ∀ cur, w.heap[r]? ≠ some (.cells cur e (0, 0))) : RowsV w' B e hdrs R :=
  h.moved fun b cur hlt h3 => hg.block b (Array.getElem?_eq_some_iff.1 h3).1 (fun x => by
    rcases hne b x.symm with h5 | h5
    · omega
    · exact h5 cur h3)
theorem RowsV.snoc {w : World} {B B0 : Nat} {e : TypeId} {hdrs : List Value} {R : List (List Value)} {v : Value} {row : List Value} {n : Nat} (h : RowsV w B e hdrs R) (hB : B ≤ w.heap.size) (ho : w.ownsRow B0 e 1 v n row) (h0 : 0 < n) : RowsV w w.heap.size e (hdrs ++ [v]) (R ++ [row]) := by
  have hn : row.length = n := by have := ho.1; omega
  refine ⟨by simp [h.1], fun i hi => ?_⟩
  rcases Nat.lt_or_ge i R.length with h1 | h1
  · have h2 := (h.mono hB).2 i h1
    rw [List.getElem?_append_left (by rw [h.1]; exact h1), show (R ++ [row]).getD i [] = R.getD i [] by rw [List.getD_eq_getElem?_getD, List.getElem?_append_left h1, ← List.getD_eq_getElem?_getD]]
    exact h2
  · have h2 : i = R.length := by simp at hi; omega
    subst h2
    rw [show (R ++ [row]).getD R.length [] = row by simp [List.getD_eq_getElem?_getD], ← h.1]
    rcases ho.2 with ⟨_, hz⟩ | ⟨g, cap, cur, rfl, hb, hh, h3, h4, h5, h6⟩
    · omega
    · refine ⟨g, cap, cur, by simp [hn], (Array.getElem?_eq_some_iff.1 hh).1, hh, fun j hj => ?_⟩
      have h7 : (cur.toList.take (n * 1))[j]? = row[j]? := by rw [h6]
      rw [List.getElem?_take_of_lt (by omega), Array.getElem?_toList] at h7
      exact h7
/-- A row's header, and its cells. -/
theorem RowsV.at {w : World} {B : Nat} {e : TypeId} {hdrs : List Value} {R : List (List Value)} (h : RowsV w B e hdrs R) {i : Nat} (hi : i < R.length) : ∃ b c, hdrs[i]? = some (.slice (some ⟨b, 0, none⟩) (R.getD i []).length c) ∧ b < B ∧ b < w.heap.size ∧ ∀ j, j < (R.getD i []).length → w.cell? ⟨b, j, none⟩ = (R.getD i [])[j]? := by
  obtain ⟨b, c, cur, h1, h2, h3, h4⟩ := h.2 i hi
  exact ⟨b, c, h1, h2, (Array.getElem?_eq_some_iff.1 h3).1, fun j hj => (cell_of_row w b j cur e (0, 0) h3).trans (h4 j hj)⟩
/-- A block of its own, of one type, against a block of another type or of no cells. -/
theorem own_ne {w : World} {base : Nat} {e : TypeId} {v : Value} {n : Nat} {xs : List Value} {r : Nat} (h : w.ownsRow base e 1 v n xs) (hr : ∀ cur, w.heap[r]? ≠ some (.cells cur e (0, 0))) : v.ownBlock = none ∨ v.ownBlock ≠ some r := by
  rcases h.2 with ⟨rfl, _⟩ | ⟨g, cap, cur, rfl, _, hg, _⟩
  · exact .inl rfl
  · refine .inr fun hq => ?_
    have : g = r := by simpa [Value.ownBlock] using hq
    subst this
    exact hr cur hg
theorem own_typ {w : World} {base : Nat} {e e' : TypeId} {n cap g : Nat} {xs : List Value} (h : w.ownsRow base e 1 (.slice (some ⟨g, 0, none⟩) n cap) n xs) (hne : e ≠ e') : ∀ cur, w.heap[g]? ≠ some (.cells cur e' (0, 0)) := by
  rcases h.2 with ⟨h', _⟩ | ⟨g', cap', cur, h', _, hg, _⟩
  · simp at h'
  · simp only [Value.slice.injEq, Option.some.injEq, Addr.mk.injEq, and_true, true_and] at h'
    obtain ⟨rfl, rfl⟩ := h'
    intro cur' hc
    rw [hg] at hc
    injection hc with hc
    injection hc with _ hc
    exact hne hc
theorem boxed_typ {W : World} {B : Nat} {t e : TypeId} {u : Value} (h : Boxed W B t u) (hne : t ≠ e) : ∀ cur, W.heap[B]? ≠ some (.cells cur e (0, 0)) := by
  intro cur hc
  unfold Boxed at h
  rw [h] at hc
  injection hc with hc
  injection hc with _ hc
  exact hne hc

/-! ### The first letter that will do -/
def NoneYet {T : Tab} {i : Nat} (p : Nat → Bool) (pre : List (StpOf T i)) : Prop := ∀ y ∈ pre, p y.1.2 = false
def FoundAt {T : Tab} {i : Nat} (p : Nat → Bool) (pre : List (StpOf T i)) (c j : Nat) : Prop := ∃ (pre' : List (StpOf T i)) (y : StpOf T i), pre = pre' ++ [y] ∧ y.1 = (c, j) ∧ NoneYet p pre' ∧ p j = true
theorem NoneYet.start {T : Tab} {i : Nat} (p : Nat → Bool) : NoneYet p ([] : List (StpOf T i)) := fun y h => absurd h List.not_mem_nil
theorem NoneYet.push {T : Tab} {i : Nat} {p : Nat → Bool} {pre : List (StpOf T i)} {x : StpOf T i} (h : NoneYet p pre) (hx : p x.1.2 = false) : NoneYet p (pre ++ [x]) := by
  intro y hy
  rcases List.mem_append.1 hy with hy | hy
  · exact h y hy
  · rw [List.mem_singleton.1 hy]; exact hx
theorem NoneYet.found {T : Tab} {i c j : Nat} {p : Nat → Bool} {pre : List (StpOf T i)} (h : NoneYet p pre) (hm : (c, j) ∈ stp T i) (hx : p j = true) : FoundAt p (pre ++ [(⟨(c, j), hm⟩ : StpOf T i)]) c j := ⟨pre, ⟨(c, j), hm⟩, rfl, rfl, h, hx⟩
theorem FoundAt.first {T : Tab} {i c j : Nat} {p : Nat → Bool} {pre : List (StpOf T i)} (h : FoundAt p pre c j) (hp : pre.map (·.1) <+: stp T i) : firstG p (stp T i) = some (c, j) ∧ (c, j) ∈ stp T i ∧ p j = true := by
  obtain ⟨pre', y, rfl, e, h1, h2⟩ := h
  rw [List.map_append] at hp
  refine ⟨?_, e ▸ y.2, h2⟩
  rw [← e]
  exact firstG_found hp (fun z hz => by obtain ⟨t, ht, rfl⟩ := List.mem_map.1 hz; exact h1 t ht) (by rw [e]; exact h2)
theorem NoneYet.all {T : Tab} {i : Nat} {p : Nat → Bool} {xs : List (StpOf T i)} (h : NoneYet p xs) (hx : xs.map (·.1) = stp T i) : ((stp T i).any fun y => p y.2) = false := by
  rw [List.any_eq_false]
  intro y hy
  have : y ∈ xs.map (·.1) := by rw [hx]; exact hy
  obtain ⟨z, hz, rfl⟩ := List.mem_map.1 this
  rw [h z hz]; simp

/-! ### Closed ways -/
/-- Whether there is a way of k letters from a state to the wanted one. -/
def rc (T : Tab) (f : Nat) : Nat → Nat → Bool
  | 0, j => j == f
  | k + 1, j => (stp T j).any fun p => rc T f k p.2
/-- The first way of m letters, each to a state from which the rest can come. -/
def wayG (P : Nat → Nat → Bool) (T : Tab) : Nat → Nat → Str
  | 0, _ => []
  | m + 1, i => match firstG (P m) (stp T i) with
    | some (c, j) => ltr c :: wayG P T m j
    | none => []
theorem wayG_succ {P : Nat → Nat → Bool} {T : Tab} {m i c j : Nat} (h : firstG (P m) (stp T i) = some (c, j)) : wayG P T (m + 1) i = ltr c :: wayG P T m j := by
  show (match firstG (P m) (stp T i) with | some (c, j) => ltr c :: wayG P T m j | none => []) = _
  rw [h]
def rcRow (T : Tab) (f N k : Nat) : List Value := (List.range N).map fun j => .bool (rc T f k j)
def rcRows (T : Tab) (f N k : Nat) : List (List Value) := (List.range k).map (rcRow T f N)
theorem rcRows_succ (T : Tab) (f N k : Nat) : rcRows T f N (k + 1) = rcRows T f N k ++ [rcRow T f N k] := by
  unfold rcRows
  rw [List.range_succ, List.map_append]
  rfl
theorem rcRows_len (T : Tab) (f N k : Nat) : (rcRows T f N k).length = k := by simp [rcRows]
theorem rcRow_len (T : Tab) (f N k : Nat) : (rcRow T f N k).length = N := by simp [rcRow]
theorem rcRows_at (T : Tab) (f N : Nat) {k i : Nat} (h : i < k) : (rcRows T f N k).getD i [] = rcRow T f N i := by
  unfold rcRows
  rw [List.getD_eq_getElem?_getD, List.getElem?_map, List.getElem?_range h]
  rfl
theorem rcRow_at (T : Tab) (f : Nat) {N k j : Nat} (h : j < N) : (rcRow T f N k)[j]? = some (.bool (rc T f k j)) := by
  unfold rcRow
  rw [List.getElem?_map, List.getElem?_range h]
  rfl
theorem infoB : (Try.prog.info? 4).map (fun i => (i.zero, i.size, i.bytes)) = some (some (.bool false), 1, 1) := by kernel_rfl
theorem infoBs : (Try.prog.info? 62).map (fun i => (i.zero, i.size, i.bytes)) = some (some (.slice none 0 0), 1, 24) := by kernel_rfl
end Go.Proofs.Ytnamafakjkcmjaa
