/-
  Circles among bridges: endless ways, a way to find them by striking what leads nowhere, and what a visit in depth knows. No program stands in this text.
-/
import Derived.Test.YtpclkocfbkjabaaA1
namespace Go.Proofs.Ytpclkocfbkjabaa
open Go
set_option linter.unusedVariables false

abbrev Br := Str × Str
/-- A way of so many steps. -/
def walkB (E : List Br) : Nat → Str → Prop
  | 0, _ => True
  | m + 1, s => ∃ t, (s, t) ∈ E ∧ walkB E m t
def PathB (E : List Br) : Nat → Str → Str → Prop
  | 0, s, t => s = t
  | m + 1, s, t => ∃ u, (s, u) ∈ E ∧ PathB E m u t
def HasCyc (E : List Br) : Prop := ∃ s, ∀ m, walkB E m s
theorem walkB_less {E : List Br} : ∀ {m : Nat} {s : Str}, walkB E (m + 1) s → walkB E m s
  | 0, s, _ => trivial
  | m + 1, s, ⟨t, h1, h2⟩ => ⟨t, h1, walkB_less h2⟩
theorem walkB_le {E : List Br} {m k : Nat} {s : Str} (hk : k ≤ m) (h : walkB E m s) : walkB E k s := by
  induction m with
  | zero => obtain rfl : k = 0 := by omega
            exact h
  | succ m ih =>
    rcases Nat.lt_or_eq_of_le hk with h1 | h1
    · exact ih (by omega) (walkB_less h)
    · rw [h1]; exact h
theorem walkB_path {E : List Br} : ∀ {m : Nat} {s t : Str} {n : Nat}, PathB E m s t → walkB E n t → walkB E (m + n) s
  | 0, s, t, n, h, hn => by
    obtain rfl : s = t := h
    rw [Nat.zero_add]; exact hn
  | m + 1, s, t, n, ⟨u, h1, h2⟩, hn => by
    rw [show m + 1 + n = (m + n) + 1 by omega]
    exact ⟨u, h1, walkB_path h2 hn⟩
theorem PathB.endless {E : List Br} {m : Nat} {s : Str} (h : PathB E (m + 1) s s) : ∀ n, walkB E n s
  | 0 => trivial
  | n + 1 => walkB_le (show n + 1 ≤ m + 1 + n by omega) (walkB_path h (PathB.endless h n))
theorem PathB.snoc {E : List Br} : ∀ {m : Nat} {s t u : Str}, PathB E m s t → (t, u) ∈ E → PathB E (m + 1) s u
  | 0, s, t, u, h, hu => by
    obtain rfl : s = t := h
    exact ⟨u, hu, rfl⟩
  | m + 1, s, t, u, ⟨v, h1, h2⟩, hu => ⟨v, h1, PathB.snoc h2 hu⟩
/-- What leads nowhere is struck. -/
def pr (E : List Br) : List Br := E.filter fun e => E.any fun f => f.1 == e.2
def prN (E : List Br) : Nat → List Br
  | 0 => E
  | m + 1 => pr (prN E m)
def cycB (E : List Br) : Bool := !(prN E E.length).isEmpty
theorem mem_prN {E : List Br} : ∀ {m : Nat} {e : Br}, e ∈ prN E m ↔ e ∈ E ∧ walkB E m e.2
  | 0, e => ⟨fun h => ⟨h, trivial⟩, fun h => h.1⟩
  | m + 1, e => by
    show e ∈ pr (prN E m) ↔ _
    unfold pr
    rw [List.mem_filter, List.any_eq_true]
    constructor
    · rintro ⟨h1, f, h2, h3⟩
      have h4 := mem_prN.1 h1
      have h5 := mem_prN.1 h2
      have h6 : f.1 = e.2 := by simpa using h3
      refine ⟨h4.1, f.2, ?_, h5.2⟩
      rw [← h6]
      exact h5.1
    · rintro ⟨h1, t, h2, h3⟩
      exact ⟨mem_prN.2 ⟨h1, walkB_less ⟨t, h2, h3⟩⟩, (e.2, t), mem_prN.2 ⟨h2, h3⟩, by simp⟩
theorem prN_stop (E : List Br) : ∀ m : Nat, (∃ k, k ≤ m ∧ prN E (k + 1) = prN E k) ∨ (prN E m).length + m ≤ E.length
  | 0 => .inr (by simp [prN])
  | m + 1 => by
    rcases prN_stop E m with ⟨k, h1, h2⟩ | h
    · exact .inl ⟨k, by omega, h2⟩
    · by_cases e : prN E (m + 1) = prN E m
      · exact .inl ⟨m, by omega, e⟩
      · have h2 : (prN E (m + 1)).length ≤ (prN E m).length := List.length_filter_le _ _
        have h3 : (prN E (m + 1)).length ≠ (prN E m).length := by
          intro h3
          apply e
          show List.filter _ _ = _
          rw [List.filter_eq_self]
          exact List.length_filter_eq_length_iff.1 h3
        exact .inr (by omega)
theorem prN_fix {E : List Br} {k : Nat} (h : prN E (k + 1) = prN E k) : ∀ j, prN E (k + j) = prN E k
  | 0 => rfl
  | j + 1 => by
    show pr (prN E (k + j)) = _
    rw [prN_fix h j]
    exact h
theorem cyc_iff (E : List Br) : cycB E = true ↔ HasCyc E := by
  unfold cycB
  constructor
  · intro h
    have hne : prN E E.length ≠ [] := by
      intro e
      rw [e] at h
      simp at h
    rcases prN_stop E E.length with ⟨k, h1, h2⟩ | h1
    · have h3 := prN_fix h2
      have h4 : prN E k ≠ [] := by
        have := h3 (E.length - k)
        rw [show k + (E.length - k) = E.length by omega] at this
        rw [← this]; exact hne
      obtain ⟨e, he⟩ := List.exists_mem_of_ne_nil _ h4
      refine ⟨e.2, fun m => ?_⟩
      have h5 : e ∈ prN E (k + m) := by rw [h3 m]; exact he
      exact walkB_le (by omega) (mem_prN.1 h5).2
    · exact absurd (List.length_eq_zero_iff.1 (by omega)) hne
  · rintro ⟨s, hs⟩
    obtain ⟨t, h1, h2⟩ := hs (E.length + 1)
    have h3 : (s, t) ∈ prN E E.length := mem_prN.2 ⟨h1, h2⟩
    cases he : prN E E.length with
    | nil => rw [he] at h3; cases h3
    | cons a l => rfl
/-- The strings from which a bridge leads, and those to which one leads. -/
def nodesB (E : List Br) : List Str := E.map (·.1) ++ E.map (·.2)
theorem node_to {E : List Br} {s t : Str} (h : (s, t) ∈ E) : t ∈ nodesB E := List.mem_append.2 (.inr (List.mem_map.2 ⟨_, h, rfl⟩))
theorem node_from {E : List Br} {s t : Str} (h : (s, t) ∈ E) : s ∈ nodesB E := List.mem_append.2 (.inl (List.mem_map.2 ⟨_, h, rfl⟩))
def freeB (E : List Br) (K : Str → Nat) : Nat := (nodesB E).countP fun s => K s == 0
/-- 0: new, 1: on the way, 2: done. -/
structure KnownB (E : List Br) (K : Str → Nat) (st : List Str) : Prop where
  le : ∀ s, K s ≤ 2
  way : ∀ s, K s = 1 ↔ s ∈ st
  dead : ∀ s, K s = 2 → ∃ m, ¬ walkB E m s
def setB' (K : Str → Nat) (s : Str) (v : Nat) : Str → Nat := fun x => if x = s then v else K x
theorem setB_same (K : Str → Nat) (s : Str) (v : Nat) : setB' K s v s = v := if_pos rfl
theorem setB_other {s x : Str} (K : Str → Nat) (v : Nat) (h : x ≠ s) : setB' K s v x = K x := if_neg h
theorem KnownB.start (E : List Br) : KnownB E (fun _ => 0) [] := ⟨fun _ => by omega, fun s => ⟨fun h => by omega, fun h => (List.not_mem_nil h).elim⟩, fun s h => by omega⟩
theorem KnownB.enter {E : List Br} {K : Str → Nat} {st : List Str} {s : Str} (h : KnownB E K st) (hs : K s = 0) : KnownB E (setB' K s 1) (s :: st) := by
  refine ⟨fun x => ?_, fun x => ?_, fun x hx => ?_⟩
  · unfold setB'; split
    · omega
    · exact h.le x
  · by_cases e : x = s
    · subst e; rw [setB_same]; simp
    · rw [setB_other _ _ e, h.way]; simp [e]
  · by_cases e : x = s
    · subst e; rw [setB_same] at hx; omega
    · rw [setB_other _ _ e] at hx; exact h.dead x hx
theorem KnownB.leave {E : List Br} {K : Str → Nat} {st : List Str} {s : Str} (h : KnownB E K (s :: st)) (hs : s ∉ st) (hd : ∃ m, ¬ walkB E m s) : KnownB E (setB' K s 2) st := by
  refine ⟨fun x => ?_, fun x => ?_, fun x hx => ?_⟩
  · unfold setB'; split
    · omega
    · exact h.le x
  · by_cases e : x = s
    · subst e; rw [setB_same]; exact ⟨fun h => by omega, fun h => absurd h hs⟩
    · rw [setB_other _ _ e, h.way]; simp [e]
  · by_cases e : x = s
    · subst e; exact hd
    · rw [setB_other _ _ e] at hx; exact h.dead x hx
theorem free_enter {E : List Br} {K : Str → Nat} {s : Str} {v : Nat} (hs : s ∈ nodesB E) (h0 : K s = 0) (hv : v ≠ 0) : freeB E (setB' K s v) < freeB E K := by
  unfold freeB
  generalize nodesB E = L at hs ⊢
  have hle : ∀ L : List Str, L.countP (fun x => setB' K s v x == 0) ≤ L.countP (fun x => K x == 0) := fun L => by
    refine List.countP_mono_left fun x _ hx => ?_
    by_cases e : x = s
    · subst e; rw [setB_same] at hx; simp at hx; omega
    · rw [setB_other _ _ e] at hx; exact hx
  obtain ⟨a, b, rfl⟩ := List.append_of_mem hs
  rw [List.countP_append, List.countP_append, List.countP_cons, List.countP_cons, setB_same, h0]
  have := hle a
  have := hle b
  have e1 : (v == 0) = false := by simpa using hv
  rw [e1]
  simp
  omega
theorem free_less {E : List Br} {K K' : Str → Nat} (h : ∀ s, K s ≠ 0 → K' s ≠ 0) : freeB E K' ≤ freeB E K := by
  unfold freeB
  refine List.countP_mono_left fun x _ hx => ?_
  simp only [beq_iff_eq] at *
  exact Decidable.byContradiction fun h2 => h x h2 hx
theorem dead_all {E : List Br} {s : Str} : ∀ (l : List Str), (∀ t ∈ l, ∃ m, ¬ walkB E m t) → ∃ m, ∀ t ∈ l, ¬ walkB E m t
  | [], _ => ⟨0, fun t h => (List.not_mem_nil h).elim⟩
  | a :: l, h => by
    obtain ⟨m1, h1⟩ := h a (List.mem_cons_self ..)
    obtain ⟨m2, h2⟩ := dead_all (s := s) l fun t ht => h t (List.mem_cons_of_mem _ ht)
    refine ⟨max m1 m2, fun t ht hw => ?_⟩
    rcases List.mem_cons.1 ht with rfl | ht
    · exact h1 (walkB_le (Nat.le_max_left ..) hw)
    · exact h2 t ht (walkB_le (Nat.le_max_right ..) hw)
/-- A string all of whose followers lead nowhere for ever. -/
theorem dead_up {E : List Br} {s : Str} {l : List Str} (hl : ∀ t, (s, t) ∈ E → t ∈ l) (h : ∀ t ∈ l, ∃ m, ¬ walkB E m t) : ∃ m, ¬ walkB E m s := by
  obtain ⟨m, hm⟩ := dead_all (s := s) l h
  exact ⟨m + 1, fun ⟨t, h1, h2⟩ => hm t (hl t h1) h2⟩
theorem no_cyc {E : List Br} (h : ∀ s t, (s, t) ∈ E → ∃ m, ¬ walkB E m s) : cycB E = false := by
  cases hc : cycB E with
  | false => rfl
  | true =>
    obtain ⟨s, hs⟩ := (cyc_iff E).1 hc
    obtain ⟨t, h1, _⟩ := hs 1
    obtain ⟨m, hm⟩ := h s t h1
    exact absurd (hs m) hm
end Go.Proofs.Ytpclkocfbkjabaa
