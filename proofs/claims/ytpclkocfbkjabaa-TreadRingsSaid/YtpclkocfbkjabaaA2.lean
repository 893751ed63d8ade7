/-
  How many letters can come from a state on: plain laws on tables. No program stands in this text.
-/
import Derived.Test.YtpclkocfbkjabaaA1
namespace Go.Proofs.Ytpclkocfbkjabaa
open Go
set_option linter.unusedVariables false

/-- The letters that can come, with the states to which they lead. -/
def stepsL (row : List Int) : List (Nat × Nat) := row.zipIdx.filterMap fun p => if 0 ≤ p.1 then some (p.2, p.1.toNat) else none
abbrev Tab := List (List Int)
def stp (T : Tab) (i : Nat) : List (Nat × Nat) := stepsL (T.getD i [])
theorem mem_steps {row : List Int} {c j : Nat} : (c, j) ∈ stepsL row ↔ row[c]? = some (j : Int) := by
  unfold stepsL
  rw [List.mem_filterMap]
  constructor
  · rintro ⟨⟨x, k⟩, h, e⟩
    have h2 := List.mk_mem_zipIdx_iff_getElem?.1 h
    by_cases hx : 0 ≤ x
    · rw [if_pos hx] at e
      simp only [Option.some.injEq, Prod.mk.injEq] at e
      obtain ⟨rfl, rfl⟩ := e
      rw [h2]
      congr 1
      omega
    · rw [if_neg hx] at e; cases e
  · intro h
    refine ⟨((j : Int), c), List.mk_mem_zipIdx_iff_getElem?.2 h, ?_⟩
    rw [if_pos (by omega)]
    simp
/-- A table over n states and q letters. -/
structure TabOk (T : Tab) (n q : Nat) : Prop where
  len : T.length = n
  row : ∀ r ∈ T, r.length = q
  to : ∀ r ∈ T, ∀ x ∈ r, x = -1 ∨ (0 ≤ x ∧ x < n)
theorem TabOk.at {T : Tab} {n q i : Nat} (h : TabOk T n q) (hi : i < n) : (T.getD i []).length = q ∧ ∀ x ∈ T.getD i [], x = -1 ∨ (0 ≤ x ∧ x < n) := by
  have hi' : i < T.length := by rw [h.len]; exact hi
  have e : T.getD i [] = T[i] := by rw [List.getD_eq_getElem?_getD, List.getElem?_eq_getElem hi']; rfl
  rw [e]
  exact ⟨h.row _ (List.getElem_mem hi'), h.to _ (List.getElem_mem hi')⟩
theorem TabOk.stp {T : Tab} {n q i c j : Nat} (h : TabOk T n q) (hi : i < n) (hm : (c, j) ∈ stp T i) : c < q ∧ j < n := by
  obtain ⟨h1, h2⟩ := h.at hi
  have h3 := mem_steps.1 hm
  obtain ⟨h4, h5⟩ := List.getElem?_eq_some_iff.1 h3
  refine ⟨by omega, ?_⟩
  have := h2 (j : Int) (h5 ▸ List.getElem_mem h4)
  omega
def can (T : Tab) : Nat → Nat → Bool
  | 0, _ => true
  | m + 1, i => (stp T i).any fun p => can T m p.2
theorem can_zero (T : Tab) (i : Nat) : can T 0 i = true := rfl
theorem can_succ {T : Tab} {m i : Nat} : can T (m + 1) i = true ↔ ∃ c j, (c, j) ∈ stp T i ∧ can T m j = true := by
  rw [show can T (m + 1) i = (stp T i).any fun p => can T m p.2 from rfl, List.any_eq_true]
  constructor
  · rintro ⟨⟨c, j⟩, h1, h2⟩; exact ⟨c, j, h1, h2⟩
  · rintro ⟨c, j, h1, h2⟩; exact ⟨(c, j), h1, h2⟩
theorem can_less {T : Tab} : ∀ {m i : Nat}, can T (m + 1) i = true → can T m i = true
  | 0, i, _ => rfl
  | m + 1, i, h => by
    obtain ⟨c, j, h1, h2⟩ := can_succ.1 h
    exact can_succ.2 ⟨c, j, h1, can_less h2⟩
theorem can_le {T : Tab} {m k i : Nat} (hk : k ≤ m) (h : can T m i = true) : can T k i = true := by
  induction m with
  | zero => obtain rfl : k = 0 := by omega
            exact h
  | succ m ih =>
    rcases Nat.lt_or_eq_of_le hk with h1 | h1
    · exact ih (by omega) (can_less h)
    · rw [h1]; exact h
/-- v letters at most; -1: as many as one likes. -/
def Lng (T : Tab) (i : Nat) (v : Int) : Prop := (v = -1 ∧ ∀ m, can T m i = true) ∨ ∃ m : Nat, v = m ∧ can T m i = true ∧ can T (m + 1) i = false
theorem Lng.ge {T : Tab} {i : Nat} {v : Int} (h : Lng T i v) : -1 ≤ v := by
  rcases h with ⟨rfl, _⟩ | ⟨m, rfl, _⟩
  · exact Int.le_refl _
  · omega
theorem Lng.one {T : Tab} {i : Nat} {v u : Int} (h : Lng T i v) (k : Lng T i u) : v = u := by
  rcases h with ⟨rfl, h⟩ | ⟨m, rfl, h, h'⟩ <;> rcases k with ⟨rfl, k⟩ | ⟨n, rfl, k, k'⟩
  · rfl
  · rw [h] at k'; cases k'
  · rw [k] at h'; cases h'
  · rcases Nat.lt_trichotomy m n with e | e | e
    · rw [can_le (show m + 1 ≤ n by omega) k] at h'; cases h'
    · rw [e]
    · rw [can_le (show n + 1 ≤ m by omega) h] at k'; cases k'
theorem Lng.can_iff {T : Tab} {i : Nat} {v : Int} (h : Lng T i v) (m : Nat) : can T m i = true ↔ (v < 0 ∨ (m : Int) ≤ v) := by
  rcases h with ⟨rfl, h⟩ | ⟨k, rfl, h, h'⟩
  · exact ⟨fun _ => .inl (by omega), fun _ => h m⟩
  · constructor
    · intro hm
      rcases Nat.lt_or_ge k m with e | e
      · rw [can_le (show k + 1 ≤ m by omega) hm] at h'; cases h'
      · exact .inr (by omega)
    · rintro (e | e)
      · omega
      · exact can_le (by omega) h
/-- Ways of so many steps. -/
def PathN (T : Tab) : Nat → Nat → Nat → Prop
  | 0, i, j => i = j
  | m + 1, i, j => ∃ c k, (c, k) ∈ stp T i ∧ PathN T m k j
theorem PathN.snoc {T : Tab} : ∀ {m i j c k : Nat}, PathN T m i j → (c, k) ∈ stp T j → PathN T (m + 1) i k
  | 0, i, j, c, k, h, hk => by
    obtain rfl : i = j := h
    exact ⟨c, k, hk, rfl⟩
  | m + 1, i, j, c, k, ⟨c', k', h1, h2⟩, hk => ⟨c', k', h1, PathN.snoc h2 hk⟩
theorem can_path {T : Tab} : ∀ {m i j n : Nat}, PathN T m i j → can T n j = true → can T (m + n) i = true
  | 0, i, j, n, h, hn => by
    obtain rfl : i = j := h
    rw [Nat.zero_add]; exact hn
  | m + 1, i, j, n, ⟨c, k, h1, h2⟩, hn => by
    rw [show m + 1 + n = (m + n) + 1 by omega]
    exact can_succ.2 ⟨c, k, h1, can_path h2 hn⟩
theorem PathN.endless {T : Tab} {m i : Nat} (h : PathN T (m + 1) i i) : ∀ n, can T n i = true
  | 0 => rfl
  | n + 1 => can_le (show n + 1 ≤ m + 1 + n by omega) (can_path h (PathN.endless h n))
theorem endless_up {T : Tab} {i c j : Nat} (h : (c, j) ∈ stp T i) (hj : ∀ n, can T n j = true) : ∀ n, can T n i = true
  | 0 => rfl
  | n + 1 => can_succ.2 ⟨c, j, h, hj n⟩
/-- What the loop over the steps of a state has found. -/
def Best (T : Tab) (pre : List (Nat × Nat)) (M : Int) : Prop := ∃ N : Nat, M = N ∧ (N = 0 ∨ ∃ p ∈ pre, Lng T p.2 ((N : Int) - 1)) ∧ ∀ p ∈ pre, ∃ v : Nat, Lng T p.2 v ∧ v + 1 ≤ N
theorem Best.start (T : Tab) : Best T [] 0 := ⟨0, rfl, .inl rfl, fun p h => by cases h⟩
theorem Best.push {T : Tab} {pre : List (Nat × Nat)} {M v : Int} {c j : Nat} (h : Best T pre M) (hv : Lng T j v) (h0 : 0 ≤ v) : Best T (pre ++ [(c, j)]) (max M (v + 1)) := by
  obtain ⟨N, rfl, h1, h2⟩ := h
  obtain ⟨u, rfl⟩ : ∃ u : Nat, v = u := ⟨v.toNat, by omega⟩
  refine ⟨max N (u + 1), by omega, ?_, ?_⟩
  · rcases Nat.le_total N (u + 1) with e | e
    · rw [Nat.max_eq_right e]
      exact .inr ⟨(c, j), by simp, by rw [show (((u + 1 : Nat) : Int) - 1) = u by omega]; exact hv⟩
    · rw [Nat.max_eq_left e]
      rcases h1 with h1 | ⟨p, hp, hl⟩
      · exact .inl h1
      · exact .inr ⟨p, List.mem_append_left _ hp, hl⟩
  · intro p hp
    rcases List.mem_append.1 hp with hp | hp
    · obtain ⟨x, hx, hle⟩ := h2 p hp
      exact ⟨x, hx, by omega⟩
    · obtain rfl := List.mem_singleton.1 hp
      exact ⟨u, hv, by omega⟩
theorem Best.all {T : Tab} {i : Nat} {M : Int} (h : Best T (stp T i) M) : Lng T i M := by
  obtain ⟨N, rfl, h1, h2⟩ := h
  refine .inr ⟨N, rfl, ?_, ?_⟩
  · rcases h1 with rfl | ⟨⟨c, j⟩, hp, hl⟩
    · rfl
    · rcases hl with ⟨e, hc⟩ | ⟨m, e, hc, _⟩
      · obtain rfl : N = 0 := by omega
        rfl
      · obtain rfl : N = m + 1 := by omega
        exact can_succ.2 ⟨c, j, hp, hc⟩
  · cases hc : can T (N + 1) i with
    | false => rfl
    | true =>
      obtain ⟨c, j, hp, hj⟩ := can_succ.1 hc
      obtain ⟨v, hv, hle⟩ := h2 _ hp
      have := (hv.can_iff N).1 hj
      omega
/-- What is known on the way: -2 at the states on the way, else how many letters can come. -/
structure Known (T : Tab) (n : Nat) (K : Nat → Option Int) (st : List Nat) : Prop where
  way : ∀ k ∈ st, K k = some (-2)
  old : ∀ k v, K k = some v → (v = -2 ∧ k ∈ st) ∨ Lng T k v
  lt : ∀ k v, K k = some v → k < n
def setK (K : Nat → Option Int) (i : Nat) (v : Int) : Nat → Option Int := fun k => if k = i then some v else K k
theorem setK_same (K : Nat → Option Int) (i : Nat) (v : Int) : setK K i v i = some v := if_pos rfl
theorem setK_other (K : Nat → Option Int) {i k : Nat} (v : Int) (h : k ≠ i) : setK K i v k = K k := if_neg h
def freeK (n : Nat) (K : Nat → Option Int) : Nat := (List.range n).countP fun k => (K k).isNone
theorem free_set {n i : Nat} {K : Nat → Option Int} (v : Int) (hi : i < n) (h : K i = none) : freeK n (setK K i v) < freeK n K := by
  unfold freeK
  induction n with
  | zero => omega
  | succ n ih =>
    rw [List.range_succ, List.countP_append, List.countP_append, List.countP_singleton, List.countP_singleton]
    by_cases e : i = n
    · subst e
      rw [setK_same, h]
      have : (List.range i).countP (fun k => (setK K i v k).isNone) = (List.range i).countP fun k => (K k).isNone := by
        apply List.countP_congr
        intro k hk
        rw [setK_other K v (by have := List.mem_range.1 hk; omega)]
      rw [this]
      simp
    · have := ih (by omega)
      rw [setK_other K v (Ne.symm e)]
      omega
theorem free_le {n : Nat} {K K' : Nat → Option Int} (h : ∀ k v, K k = some v → (K' k).isSome = true) : freeK n K' ≤ freeK n K := by
  unfold freeK
  apply List.countP_mono_left
  intro k _ hk
  cases hc : K k with
  | none => rfl
  | some v =>
    have := h k v hc
    rw [Option.isNone_iff_eq_none] at hk
    rw [hk] at this
    cases this
theorem Known.start (T : Tab) (n : Nat) : Known T n (fun _ => none) [] :=
  ⟨fun k h => absurd h List.not_mem_nil, fun k v h => absurd h (by simp), fun k v h => absurd h (by simp)⟩
theorem Known.enter {T : Tab} {n i : Nat} {K : Nat → Option Int} {st : List Nat} (h : Known T n K st) (hi : i < n) (hn : K i = none) : Known T n (setK K i (-2)) (i :: st) := by
  refine ⟨fun k hk => ?_, fun k v hk => ?_, fun k v hk => ?_⟩
  · by_cases e : k = i
    · rw [e, setK_same]
    · rw [setK_other _ _ e]
      rcases List.mem_cons.1 hk with h1 | h1
      · exact absurd h1 e
      · exact h.way k h1
  · by_cases e : k = i
    · rw [e, setK_same] at hk
      injection hk with hk
      exact .inl ⟨hk.symm, by rw [e]; exact List.mem_cons_self ..⟩
    · rw [setK_other _ _ e] at hk
      rcases h.old k v hk with ⟨h1, h2⟩ | h1
      · exact .inl ⟨h1, List.mem_cons_of_mem _ h2⟩
      · exact .inr h1
  · by_cases e : k = i
    · rw [e]; exact hi
    · rw [setK_other _ _ e] at hk
      exact h.lt k v hk
theorem Known.leave {T : Tab} {n i : Nat} {K : Nat → Option Int} {st : List Nat} {v : Int} (h : Known T n K (i :: st)) (hi : i < n) (hst : i ∉ st) (hv : Lng T i v) : Known T n (setK K i v) st := by
  refine ⟨fun k hk => ?_, fun k u hk => ?_, fun k u hk => ?_⟩
  · rw [setK_other _ _ (fun e => by subst e; exact hst hk)]
    exact h.way k (List.mem_cons_of_mem _ hk)
  · by_cases e : k = i
    · rw [e, setK_same] at hk
      injection hk with hk
      rw [e, ← hk]
      exact .inr hv
    · rw [setK_other _ _ e] at hk
      rcases h.old k u hk with ⟨h1, h2⟩ | h1
      · rcases List.mem_cons.1 h2 with h3 | h3
        · exact absurd h3 e
        · exact .inl ⟨h1, h3⟩
      · exact .inr h1
  · by_cases e : k = i
    · rw [e]; exact hi
    · rw [setK_other _ _ e] at hk
      exact h.lt k u hk
/-- The greedy way: the first letter behind which just so many letters can come. -/
def firstG (p : Nat → Bool) : List (Nat × Nat) → Option (Nat × Nat)
  | [] => none
  | (c, j) :: l => if p j then some (c, j) else firstG p l
/-- The first word of m letters from a state on. -/
def wayL (T : Tab) : Nat → Nat → Str
  | 0, _ => []
  | m + 1, i => match firstG (can T m) (stp T i) with
    | some (c, j) => ltr c :: wayL T m j
    | none => []
theorem firstG_some {p : Nat → Bool} : ∀ {l : List (Nat × Nat)}, (∃ c j, (c, j) ∈ l ∧ p j = true) → ∃ c j, firstG p l = some (c, j) ∧ (c, j) ∈ l ∧ p j = true
  | [], ⟨c, j, h, _⟩ => by cases h
  | (c, j) :: l, ⟨c', j', h, hp⟩ => by
    cases hj : p j with
    | true => exact ⟨c, j, by unfold firstG; rw [if_pos hj], List.mem_cons_self .., hj⟩
    | false =>
      have : ∃ c j, (c, j) ∈ l ∧ p j = true := by
        rcases List.mem_cons.1 h with e | e
        · injection e with e1 e2
          subst e2
          rw [hj] at hp; cases hp
        · exact ⟨c', j', e, hp⟩
      obtain ⟨a, b, h1, h2, h3⟩ := firstG_some this
      exact ⟨a, b, by unfold firstG; rw [if_neg (by simp [hj])]; exact h1, List.mem_cons_of_mem _ h2, h3⟩
theorem firstG_skip {p : Nat → Bool} : ∀ (pre l : List (Nat × Nat)), (∀ x ∈ pre, p x.2 = false) → firstG p (pre ++ l) = firstG p l
  | [], l, _ => rfl
  | (c, j) :: pre, l, h => by
    rw [List.cons_append, firstG, if_neg (by rw [h (c, j) (List.mem_cons_self ..)]; simp)]
    exact firstG_skip pre l fun x hx => h x (List.mem_cons_of_mem _ hx)
theorem firstG_congr {p q : Nat → Bool} : ∀ {l : List (Nat × Nat)}, (∀ x ∈ l, p x.2 = q x.2) → firstG p l = firstG q l
  | [], _ => rfl
  | (c, j) :: l, h => by
    unfold firstG
    have h1 := h (c, j) (List.mem_cons_self ..)
    simp only at h1
    rw [h1, firstG_congr fun x hx => h x (List.mem_cons_of_mem _ hx)]
theorem wayL_len (T : Tab) : ∀ (m i : Nat), can T m i = true → (wayL T m i).length = m
  | 0, _, _ => rfl
  | m + 1, i, h => by
    obtain ⟨c, j, h1, _, h3⟩ := firstG_some (can_succ.1 h)
    unfold wayL
    rw [h1]
    simp [wayL_len T m j h3]
end Go.Proofs.Ytpclkocfbkjabaa
