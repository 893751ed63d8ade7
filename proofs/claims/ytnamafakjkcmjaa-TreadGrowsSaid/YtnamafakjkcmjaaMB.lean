/-
  Several texts in one: XA8, XA9, XA10, XA11, XA12, XA13, XA14, XA15, XA16, XA17.
-/
import Derived.Test.YtnamafakjkcmjaaT17
import Derived.Test.YtnamafakjkcmjaaMA
import Derived.Test.YtnamafakjkcmjaaMC
set_option linter.unusedVariables false
set_option linter.unusedSimpArgs false
namespace Go.Proofs.Ytnamafakjkcmjaa
open Go
set_option linter.unusedVariables false

def turnL (s : Str) (i : Nat) : Str := s.drop i ++ s.take i
theorem turnL_zero (s : Str) : turnL s 0 = s := by simp [turnL]
theorem turnL_len (s : Str) (i : Nat) : (turnL s i).length = s.length := by simp [turnL]; omega
/-- The turns of a word that are not known yet: what is known behind it, and the ring. -/
def ringF (s : Str) : Nat → List Str × List Str → List Str × List Str
  | 0, kr => kr
  | i + 1, kr =>
    let kr' := ringF s i kr
    if turnL s i ∈ kr'.1 then kr' else (turnL s i :: kr'.1, kr'.2 ++ [turnL s i])
theorem ringF_old {s : Str} {i : Nat} {kr : List Str × List Str} (h : turnL s i ∈ (ringF s i kr).1) : ringF s (i + 1) kr = ringF s i kr := if_pos h
theorem ringF_new {s : Str} {i : Nat} {kr : List Str × List Str} (h : turnL s i ∉ (ringF s i kr).1) : ringF s (i + 1) kr = (turnL s i :: (ringF s i kr).1, (ringF s i kr).2 ++ [turnL s i]) := if_neg h
theorem ringF_len (s : Str) (L : List Str) : ∀ i, (ringF s i (L, [])).2.length ≤ i
  | 0 => Nat.le_refl _
  | i + 1 => by
    have := ringF_len s L i
    by_cases h : turnL s i ∈ (ringF s i (L, [])).1
    · rw [ringF_old h]; omega
    · rw [ringF_new h]; simp; omega
theorem ringF_pos {s : Str} {L : List Str} (h : s ∉ L) : ∀ i, 0 < (ringF s (i + 1) (L, [])).2.length
  | 0 => by
    have : turnL s 0 ∉ (ringF s 0 (L, [])).1 := by rw [turnL_zero]; exact h
    rw [ringF_new this]; simp
  | i + 1 => by
    have := ringF_pos h i
    by_cases h2 : turnL s (i + 1) ∈ (ringF s (i + 1) (L, [])).1
    · rw [ringF_old h2]; exact this
    · rw [ringF_new h2]; simp
/-- One word more. -/
def ringStep (n : Nat) (ko : List Str × List (List Str)) (s : Str) : List Str × List (List Str) :=
  if s ∈ ko.1 then ko else ((ringF s n (ko.1, [])).1, ko.2 ++ [sortS (ringF s n (ko.1, [])).2])
/-- The rings of a list of words. -/
def ringsF (n : Nat) (l : List Str) : List Str × List (List Str) := l.foldl (ringStep n) ([], [])
theorem ringsF_succ {n k : Nat} {l : List Str} (h : k < l.length) : ringsF n (l.take (k + 1)) = ringStep n (ringsF n (l.take k)) l[k] := by
  unfold ringsF
  rw [List.take_succ_eq_append_getElem h, List.foldl_append]
  rfl
theorem ringsF_len (n : Nat) (l : List Str) : ∀ k, k ≤ l.length → (ringsF n (l.take k)).2.length ≤ k
  | 0, _ => by simp [ringsF]
  | k + 1, h => by
    have := ringsF_len n l k (by omega)
    rw [ringsF_succ (by omega)]
    unfold ringStep
    split
    · omega
    · simp; omega
def ringsL (q n : Nat) : List (List Str) := (ringsF n (wordsL q n)).2
theorem rings_count : (ringsL 2 2).length = 3 := by decide +kernel
end Go.Proofs.Ytnamafakjkcmjaa

namespace Go.Proofs.Ytnamafakjkcmjaa
open Go
set_option linter.unusedVariables false

abbrev Br := Str × Str
/-- A way of so many steps. -/
def walkB (E : List Br) : Nat → Str → Prop
  | 0, _ => True
  | m + 1, s => ∃ t, (s, t) ∈ E ∧ walkB E m t
def PathB (E : List Br) : Nat → Str → Str → Prop
  | 0, s, t => s = t
  | m + 1, s, t => ∃ u, (s, u) ∈ E ∧ PathB E m u t
def HasCyc (E : List Br) : Prop := ∃ s, ∀ m, walkB E m s
theorem walkB_less {E : List Br} : ∀ {m : Nat} {s : Str}, walkB E (m + 1) s → walkB E m s
  | 0, s, _ => trivial
  | m + 1, s, ⟨t, h1, h2⟩ => ⟨t, h1, walkB_less h2⟩
theorem walkB_le {E : List Br} {m k : Nat} {s : Str} (hk : k ≤ m) (h : walkB E m s) : walkB E k s := by
  induction m with
  | zero => obtain rfl : k = 0 := by omega
            exact h
  | succ m ih =>
    rcases Nat.lt_or_eq_of_le hk with h1 | h1
    · exact ih (by omega) (walkB_less h)
    · rw [h1]; exact h
theorem walkB_path {E : List Br} : ∀ {m : Nat} {s t : Str} {n : Nat}, PathB E m s t → walkB E n t → walkB E (m + n) s
  | 0, s, t, n, h, hn => by
    obtain rfl : s = t := h
    rw [Nat.zero_add]; exact hn
  | m + 1, s, t, n, ⟨u, h1, h2⟩, hn => by
    rw [show m + 1 + n = (m + n) + 1 by omega]
    exact ⟨u, h1, walkB_path h2 hn⟩
theorem PathB.endless {E : List Br} {m : Nat} {s : Str} (h : PathB E (m + 1) s s) : ∀ n, walkB E n s
  | 0 => trivial
  | n + 1 => walkB_le (show n + 1 ≤ m + 1 + n by omega) (walkB_path h (PathB.endless h n))
theorem PathB.snoc {E : List Br} : ∀ {m : Nat} {s t u : Str}, PathB E m s t → (t, u) ∈ E → PathB E (m + 1) s u
  | 0, s, t, u, h, hu => by
    obtain rfl : s = t := h
    exact ⟨u, hu, rfl⟩
  | m + 1, s, t, u, ⟨v, h1, h2⟩, hu => ⟨v, h1, PathB.snoc h2 hu⟩
/-- What leads nowhere is struck. -/
def pr (E : List Br) : List Br := E.filter fun e => E.any fun f => f.1 == e.2
def prN (E : List Br) : Nat → List Br
  | 0 => E
  | m + 1 => pr (prN E m)
def cycB (E : List Br) : Bool := !(prN E E.length).isEmpty
theorem mem_prN {E : List Br} : ∀ {m : Nat} {e : Br}, e ∈ prN E m ↔ e ∈ E ∧ walkB E m e.2
  | 0, e => ⟨fun h => ⟨h, trivial⟩, fun h => h.1⟩
  | m + 1, e => by
    show e ∈ pr (prN E m) ↔ _
    unfold pr
    rw [List.mem_filter, List.any_eq_true]
    constructor
    · rintro ⟨h1, f, h2, h3⟩
      have h4 := mem_prN.1 h1
      have h5 := mem_prN.1 h2
      have h6 : f.1 = e.2 := by simpa using h3
      refine ⟨h4.1, f.2, ?_, h5.2⟩
      rw [← h6]
      exact h5.1
    · rintro ⟨h1, t, h2, h3⟩
      exact ⟨mem_prN.2 ⟨h1, walkB_less ⟨t, h2, h3⟩⟩, (e.2, t), mem_prN.2 ⟨h2, h3⟩, by simp⟩
theorem prN_stop (E : List Br) : ∀ m : Nat, (∃ k, k ≤ m ∧ prN E (k + 1) = prN E k) ∨ (prN E m).length + m ≤ E.length
  | 0 => .inr (by simp [prN])
  | m + 1 => by
    rcases prN_stop E m with ⟨k, h1, h2⟩ | h
    · exact .inl ⟨k, by omega, h2⟩
    · by_cases e : prN E (m + 1) = prN E m
      · exact .inl ⟨m, by omega, e⟩
      · have h2 : (prN E (m + 1)).length ≤ (prN E m).length := List.length_filter_le _ _
        have h3 : (prN E (m + 1)).length ≠ (prN E m).length := by
          intro h3
          apply e
          show List.filter _ _ = _
          rw [List.filter_eq_self]
          exact List.length_filter_eq_length_iff.1 h3
        exact .inr (by omega)
theorem prN_fix {E : List Br} {k : Nat} (h : prN E (k + 1) = prN E k) : ∀ j, prN E (k + j) = prN E k
  | 0 => rfl
  | j + 1 => by
    show pr (prN E (k + j)) = _
    rw [prN_fix h j]
    exact h
theorem cyc_iff (E : List Br) : cycB E = true ↔ HasCyc E := by
  unfold cycB
  constructor
  · intro h
    have hne : prN E E.length ≠ [] := by
      intro e
      rw [e] at h
      simp at h
    rcases prN_stop E E.length with ⟨k, h1, h2⟩ | h1
    · have h3 := prN_fix h2
      have h4 : prN E k ≠ [] := by
        have := h3 (E.length - k)
        rw [show k + (E.length - k) = E.length by omega] at this
        rw [← this]; exact hne
      obtain ⟨e, he⟩ := List.exists_mem_of_ne_nil _ h4
      refine ⟨e.2, fun m => ?_⟩
      have h5 : e ∈ prN E (k + m) := by rw [h3 m]; exact he
      exact walkB_le (by omega) (mem_prN.1 h5).2
    · exact absurd (List.length_eq_zero_iff.1 (by omega)) hne
  · rintro ⟨s, hs⟩
    obtain ⟨t, h1, h2⟩ := hs (E.length + 1)
    have h3 : (s, t) ∈ prN E E.length := mem_prN.2 ⟨h1, h2⟩
    cases he : prN E E.length with
    | nil => rw [he] at h3; cases h3
    | cons a l => rfl
/-- The strings from which a bridge leads, and those to which one leads. -/
def nodesB (E : List Br) : List Str := E.map (·.1) ++ E.map (·.2)
theorem node_to {E : List Br} {s t : Str} (h : (s, t) ∈ E) : t ∈ nodesB E := List.mem_append.2 (.inr (List.mem_map.2 ⟨_, h, rfl⟩))
theorem node_from {E : List Br} {s t : Str} (h : (s, t) ∈ E) : s ∈ nodesB E := List.mem_append.2 (.inl (List.mem_map.2 ⟨_, h, rfl⟩))
def freeB (E : List Br) (K : Str → Nat) : Nat := (nodesB E).countP fun s => K s == 0
/-- 0: new, 1: on the way, 2: done. -/
structure KnownB (E : List Br) (K : Str → Nat) (st : List Str) : Prop where
  le : ∀ s, K s ≤ 2
  way : ∀ s, K s = 1 ↔ s ∈ st
  dead : ∀ s, K s = 2 → ∃ m, ¬ walkB E m s
def setB' (K : Str → Nat) (s : Str) (v : Nat) : Str → Nat := fun x => if x = s then v else K x
theorem setB_same (K : Str → Nat) (s : Str) (v : Nat) : setB' K s v s = v := if_pos rfl
theorem setB_other {s x : Str} (K : Str → Nat) (v : Nat) (h : x ≠ s) : setB' K s v x = K x := if_neg h
theorem KnownB.start (E : List Br) : KnownB E (fun _ => 0) [] := ⟨fun _ => by omega, fun s => ⟨fun h => by omega, fun h => (List.not_mem_nil h).elim⟩, fun s h => by omega⟩
theorem KnownB.enter {E : List Br} {K : Str → Nat} {st : List Str} {s : Str} (h : KnownB E K st) (hs : K s = 0) : KnownB E (setB' K s 1) (s :: st) := by
  refine ⟨fun x => ?_, fun x => ?_, fun x hx => ?_⟩
  · unfold setB'; split
    · omega
    · exact h.le x
  · by_cases e : x = s
    · subst e; rw [setB_same]; simp
    · rw [setB_other _ _ e, h.way]; simp [e]
  · by_cases e : x = s
    · subst e; rw [setB_same] at hx; omega
    · rw [setB_other _ _ e] at hx; exact h.dead x hx
theorem KnownB.leave {E : List Br} {K : Str → Nat} {st : List Str} {s : Str} (h : KnownB E K (s :: st)) (hs : s ∉ st) (hd : ∃ m, ¬ walkB E m s) : KnownB E (setB' K s 2) st := by
  refine ⟨fun x => ?_, fun x => ?_, fun x hx => ?_⟩
  · unfold setB'; split
    · omega
    · exact h.le x
  · by_cases e : x = s
    · subst e; rw [setB_same]; exact ⟨fun h => by omega, fun h => absurd h hs⟩
    · rw [setB_other _ _ e, h.way]; simp [e]
  · by_cases e : x = s
    · subst e; exact hd
    · rw [setB_other _ _ e] at hx; exact h.dead x hx
theorem free_enter {E : List Br} {K : Str → Nat} {s : Str} {v : Nat} (hs : s ∈ nodesB E) (h0 : K s = 0) (hv : v ≠ 0) : freeB E (setB' K s v) < freeB E K := by
  unfold freeB
  generalize nodesB E = L at hs ⊢
  have hle : ∀ L : List Str, L.countP (fun x => setB' K s v x == 0) ≤ L.countP (fun x => K x == 0) := fun L => by
    refine List.countP_mono_left fun x _ hx => ?_
    by_cases e : x = s
    · subst e; rw [setB_same] at hx; simp at hx; omega
    · rw [setB_other _ _ e] at hx; exact hx
  obtain ⟨a, b, rfl⟩ := List.append_of_mem hs
  rw [List.countP_append, List.countP_append, List.countP_cons, List.countP_cons, setB_same, h0]
  have := hle a
  have := hle b
  have e1 : (v == 0) = false := by simpa using hv
  rw [e1]
  simp
  omega
theorem free_less {E : List Br} {K K' : Str → Nat} (h : ∀ s, K s ≠ 0 → K' s ≠ 0) : freeB E K' ≤ freeB E K := by
  unfold freeB
  refine List.countP_mono_left fun x _ hx => ?_
  simp only [beq_iff_eq] at *
  exact Decidable.byContradiction fun h2 => h x h2 hx
theorem dead_all {E : List Br} {s : Str} : ∀ (l : List Str), (∀ t ∈ l, ∃ m, ¬ walkB E m t) → ∃ m, ∀ t ∈ l, ¬ walkB E m t
  | [], _ => ⟨0, fun t h => (List.not_mem_nil h).elim⟩
  | a :: l, h => by
    obtain ⟨m1, h1⟩ := h a (List.mem_cons_self ..)
    obtain ⟨m2, h2⟩ := dead_all (s := s) l fun t ht => h t (List.mem_cons_of_mem _ ht)
    refine ⟨max m1 m2, fun t ht hw => ?_⟩
    rcases List.mem_cons.1 ht with rfl | ht
    · exact h1 (walkB_le (Nat.le_max_left ..) hw)
    · exact h2 t ht (walkB_le (Nat.le_max_right ..) hw)
/-- A string all of whose followers lead nowhere for ever. -/
theorem dead_up {E : List Br} {s : Str} {l : List Str} (hl : ∀ t, (s, t) ∈ E → t ∈ l) (h : ∀ t ∈ l, ∃ m, ¬ walkB E m t) : ∃ m, ¬ walkB E m s := by
  obtain ⟨m, hm⟩ := dead_all (s := s) l h
  exact ⟨m + 1, fun ⟨t, h1, h2⟩ => hm t (hl t h1) h2⟩
theorem no_cyc {E : List Br} (h : ∀ s t, (s, t) ∈ E → ∃ m, ¬ walkB E m s) : cycB E = false := by
  cases hc : cycB E with
  | false => rfl
  | true =>
    obtain ⟨s, hs⟩ := (cyc_iff E).1 hc
    obtain ⟨t, h1, _⟩ := hs 1
    obtain ⟨m, hm⟩ := h s t h1
    exact absurd (hs m) hm
end Go.Proofs.Ytnamafakjkcmjaa

namespace Go.Proofs.Ytnamafakjkcmjaa
open Go
set_option linter.unusedVariables false

def insS (x : Str) : List Str → List Str
  | [] => [x]
  | y :: l => if x ≤ y then x :: y :: l else y :: insS x l
def isortS (L : List Str) : List Str := L.foldr insS []
theorem insS_perm (x : Str) : ∀ l, (insS x l).Perm (x :: l)
  | [] => .refl _
  | y :: l => by
    unfold insS
    split
    · exact .refl _
    · exact ((insS_perm x l).cons y).trans (.swap ..)
theorem isortS_perm : ∀ L, (isortS L).Perm L
  | [] => .refl _
  | x :: L => (insS_perm x _).trans ((isortS_perm L).cons x)
theorem insS_sorted (x : Str) : ∀ l : List Str, l.Pairwise (· ≤ ·) → (insS x l).Pairwise (· ≤ ·)
  | [], _ => by simp [insS]
  | y :: l, h => by
    obtain ⟨h1, h2⟩ := List.pairwise_cons.1 h
    unfold insS
    split
    · rename_i hxy
      refine List.pairwise_cons.2 ⟨fun z hz => ?_, h⟩
      rcases List.mem_cons.1 hz with rfl | hz
      · exact hxy
      · exact List.le_trans hxy (h1 z hz)
    · rename_i hxy
      refine List.pairwise_cons.2 ⟨fun z hz => ?_, insS_sorted x l h2⟩
      rcases List.mem_cons.1 ((insS_perm x l).mem_iff.1 hz) with rfl | hz
      · exact (List.le_total y z).resolve_right hxy
      · exact h1 z hz
theorem isortS_sorted : ∀ L : List Str, (isortS L).Pairwise (· ≤ ·)
  | [] => .nil
  | x :: L => insS_sorted x _ (isortS_sorted L)
theorem sortS_sorted (L : List Str) : (sortS L).Pairwise (· ≤ ·) := by
  have := List.pairwise_mergeSort (le := fun x y : Str => decide (x ≤ y)) (fun a b c h1 h2 => by simp only [decide_eq_true_eq] at *; exact List.le_trans h1 h2) (fun a b => by simp only [Bool.or_eq_true, decide_eq_true_eq]; exact List.le_total a b) L
  exact this.imp (by intro a b h; simpa using h)
theorem sortS_eq (L : List Str) : sortS L = isortS L :=
  (((List.mergeSort_perm L _).trans (isortS_perm L).symm).eq_of_pairwise (fun _ _ _ _ h1 h2 => List.le_antisymm h1 h2) (sortS_sorted L) (isortS_sorted L))

theorem sortS_perm (L : List Str) : (sortS L).Perm L := List.mergeSort_perm L _
def ofB (n : Nat) (s : Str) : Br := (s.take (n - 1), s.drop 1)
def addB (E : List Br) (b : Br) : List Br := if b ∈ E then E else b :: E
def delB (E : List Br) (b : Br) : List Br := E.filter fun x => x ≠ b
structure Cs where
  E : List Br
  out : List Str
  cnt : Nat
def tryL (n : Nat) (ch : Cs → Bool × Cs) : List Str → Cs → Bool × Cs
  | [], s => (false, s)
  | w :: l, s =>
    let E2 := delB s.E (ofB n w)
    if cycB E2 then tryL n ch l ⟨addB E2 (ofB n w), s.out, s.cnt + 1⟩
    else
      let r := ch ⟨E2, s.out ++ [w], s.cnt⟩
      if r.1 then r else tryL n ch l ⟨addB r.2.E (ofB n w), r.2.out.dropLast, r.2.cnt + 1⟩
def chooseL (n : Nat) : List (List Str) → Cs → Bool × Cs
  | [], s => (true, s)
  | ring :: rest, s =>
    let r := tryL n (chooseL n rest) ring ⟨ring.foldl (fun E w => addB E (ofB n w)) s.E, s.out, s.cnt + ring.length⟩
    if r.1 then r else (false, ⟨ring.foldl (fun E w => delB E (ofB n w)) r.2.E, r.2.out, r.2.cnt⟩)
def fewL (q n : Nat) : List Str := sortS (chooseL n (ringsL q n) ⟨[], [], 0⟩).2.out

def fewI (q n : Nat) : List Str := isortS (chooseL n (ringsL q n) ⟨[], [], 0⟩).2.out
theorem fewL_eq (q n : Nat) : fewL q n = fewI q n := sortS_eq _
/-- The rings with the sorting that can be carried out. -/
def ringStepI (n : Nat) (ko : List Str × List (List Str)) (s : Str) : List Str × List (List Str) :=
  if s ∈ ko.1 then ko else ((ringF s n (ko.1, [])).1, ko.2 ++ [isortS (ringF s n (ko.1, [])).2])
def ringsI (q n : Nat) : List (List Str) := ((wordsL q n).foldl (ringStepI n) ([], [])).2
theorem ringsI_eq (q n : Nat) : ringsL q n = ringsI q n := by
  unfold ringsL ringsI ringsF
  have : ringStep n = ringStepI n := by
    funext ko s
    unfold ringStep ringStepI
    rw [sortS_eq]
  rw [this]
theorem few_eq (q n : Nat) : fewL q n = isortS (chooseL n (ringsI q n) ⟨[], [], 0⟩).2.out := by
  rw [fewL_eq]
  unfold fewI
  rw [ringsI_eq]
theorem few_count : (fewL 2 2).length = 3 := by
  rw [few_eq]
  decide +kernel
/-! ### What the choice does to the words that were chosen -/
theorem tryL_out {n : Nat} {ch : Cs → Bool × Cs} (h : ∀ s, (ch s).1 = false → (ch s).2.out = s.out) : ∀ (l : List Str) (s : Cs), (tryL n ch l s).1 = false → (tryL n ch l s).2.out = s.out
  | [], s, _ => rfl
  | w :: l, s, hf => by
    unfold tryL at hf ⊢
    dsimp only at hf ⊢
    split at hf
    · rename_i hc
      rw [if_pos hc]
      exact tryL_out h l _ hf
    · rename_i hc
      rw [if_neg hc]
      split at hf
      · rename_i hr
        rw [hr] at hf; cases hf
      · rename_i hr
        rw [if_neg hr]
        rw [tryL_out h l _ hf]
        dsimp only
        rw [h _ (by simpa using hr)]
        simp
theorem chooseL_out (n : Nat) : ∀ (l : List (List Str)) (s : Cs), (chooseL n l s).1 = false → (chooseL n l s).2.out = s.out
  | [], s, h => by cases h
  | ring :: rest, s, h => by
    unfold chooseL at h ⊢
    dsimp only at h ⊢
    split at h
    · rename_i hr
      rw [hr] at h; cases h
    · rename_i hr
      rw [if_neg hr]
      dsimp only
      exact tryL_out (fun s => chooseL_out n rest s) ring _ (by simpa using hr)
/-- How many stores at most. -/
def cost : Nat → Nat
  | 0 => 0
  | k + 1 => 5 * (cost k + 2)
end Go.Proofs.Ytnamafakjkcmjaa

namespace Go.Proofs.Ytnamafakjkcmjaa
open Go
set_option linter.unusedVariables false

theorem tryL_append (n : Nat) (ch : Cs → Bool × Cs) : ∀ (l l' : List Str) (s : Cs), tryL n ch (l ++ l') s = if (tryL n ch l s).1 = true then tryL n ch l s else tryL n ch l' (tryL n ch l s).2
  | [], l', s => by simp [tryL]
  | w :: l, l', s => by
    show tryL n ch (w :: (l ++ l')) s = _
    rw [tryL, tryL]
    dsimp only
    split
    · exact tryL_append n ch l l' _
    · split
      · rfl
      · exact tryL_append n ch l l' _
theorem tryL_true {n : Nat} {ch : Cs → Bool × Cs} {l : List Str} {s : Cs} {j : Nat} (h : (tryL n ch (l.take j) s).1 = true) : tryL n ch l s = tryL n ch (l.take j) s := by
  have := tryL_append n ch (l.take j) (l.drop j) s
  rw [List.take_append_drop, if_pos h] at this
  exact this
theorem tryL_one (n : Nat) (ch : Cs → Bool × Cs) (w : Str) (s : Cs) : tryL n ch [w] s =
    if cycB (delB s.E (ofB n w)) = true then (false, ⟨addB (delB s.E (ofB n w)) (ofB n w), s.out, s.cnt + 1⟩)
    else if (ch ⟨delB s.E (ofB n w), s.out ++ [w], s.cnt⟩).1 = true then ch ⟨delB s.E (ofB n w), s.out ++ [w], s.cnt⟩
    else (false, ⟨addB (ch ⟨delB s.E (ofB n w), s.out ++ [w], s.cnt⟩).2.E (ofB n w), (ch ⟨delB s.E (ofB n w), s.out ++ [w], s.cnt⟩).2.out.dropLast, (ch ⟨delB s.E (ofB n w), s.out ++ [w], s.cnt⟩).2.cnt + 1⟩) := rfl
theorem tryL_step {n : Nat} {ch : Cs → Bool × Cs} {l : List Str} {s : Cs} {j : Nat} (hj : j < l.length) (h : (tryL n ch (l.take j) s).1 = false) : tryL n ch (l.take (j + 1)) s = tryL n ch [l[j]] (tryL n ch (l.take j) s).2 := by
  rw [List.take_succ_eq_append_getElem hj, tryL_append, h]
  rfl
theorem tryL_cnt {n c : Nat} {ch : Cs → Bool × Cs} (hch : ∀ s, (ch s).2.cnt ≤ s.cnt + c) : ∀ (l : List Str) (s : Cs), (tryL n ch l s).2.cnt ≤ s.cnt + l.length * (c + 1)
  | [], s => by simp [tryL]
  | w :: l, s => by
    rw [tryL]
    dsimp only
    rw [List.length_cons, Nat.succ_mul]
    split
    · have := tryL_cnt (n := n) hch l ⟨addB (delB s.E (ofB n w)) (ofB n w), s.out, s.cnt + 1⟩
      dsimp only at this
      omega
    · have h1 := hch ⟨delB s.E (ofB n w), s.out ++ [w], s.cnt⟩
      dsimp only at h1
      split
      · omega
      · have := tryL_cnt (n := n) hch l ⟨addB (ch ⟨delB s.E (ofB n w), s.out ++ [w], s.cnt⟩).2.E (ofB n w), (ch ⟨delB s.E (ofB n w), s.out ++ [w], s.cnt⟩).2.out.dropLast, (ch ⟨delB s.E (ofB n w), s.out ++ [w], s.cnt⟩).2.cnt + 1⟩
        dsimp only at this
        omega
theorem chooseL_cnt (n : Nat) : ∀ (l : List (List Str)) (s : Cs), (∀ r ∈ l, r.length ≤ 5) → (chooseL n l s).2.cnt ≤ s.cnt + cost l.length
  | [], s, _ => by simp [chooseL]
  | ring :: rest, s, h => by
    have h1 := h ring (List.mem_cons_self ..)
    have h2 := tryL_cnt (n := n) (ch := chooseL n rest) (c := cost rest.length) (fun s => chooseL_cnt n rest s fun r hr => h r (List.mem_cons_of_mem _ hr)) ring ⟨ring.foldl (fun E w => addB E (ofB n w)) s.E, s.out, s.cnt + ring.length⟩
    have h3 : ring.length * (cost rest.length + 1) ≤ 5 * (cost rest.length + 1) := Nat.mul_le_mul_right _ h1
    have h4 : cost (rest.length + 1) = 5 * (cost rest.length + 2) := rfl
    rw [chooseL]
    dsimp only at h2 ⊢
    rw [List.length_cons, h4]
    split
    · omega
    · dsimp only; omega
theorem foldl_take {α β : Type} (f : β → α → β) {l : List α} {j : Nat} (h : j < l.length) (b : β) : (l.take (j + 1)).foldl f b = f ((l.take j).foldl f b) l[j] := by
  rw [List.take_succ_eq_append_getElem h, List.foldl_append]
  rfl
/-- The state ahead of the words of a ring. -/
def st1 (n : Nat) (ring : List Str) (s : Cs) : Cs := ⟨ring.foldl (fun E w => addB E (ofB n w)) s.E, s.out, s.cnt + ring.length⟩
theorem chooseL_yes {n : Nat} {ring : List Str} {rest : List (List Str)} {s : Cs} (h : (tryL n (chooseL n rest) ring (st1 n ring s)).1 = true) : chooseL n (ring :: rest) s = tryL n (chooseL n rest) ring (st1 n ring s) := by
  rw [chooseL]
  exact if_pos h
theorem chooseL_no {n : Nat} {ring : List Str} {rest : List (List Str)} {s : Cs} (h : (tryL n (chooseL n rest) ring (st1 n ring s)).1 = false) : chooseL n (ring :: rest) s =
    (false, ⟨ring.foldl (fun E w => delB E (ofB n w)) (tryL n (chooseL n rest) ring (st1 n ring s)).2.E, (tryL n (chooseL n rest) ring (st1 n ring s)).2.out, (tryL n (chooseL n rest) ring (st1 n ring s)).2.cnt⟩) := by
  rw [chooseL]
  exact if_neg (by
    intro h2
    have h3 : (tryL n (chooseL n rest) ring (st1 n ring s)).1 = true := h2
    rw [h] at h3; cases h3)
theorem cost_le {k : Nat} (h : k ≤ 12) : cost k ≤ 1000000000 := by
  have : k = 0 ∨ k = 1 ∨ k = 2 ∨ k = 3 ∨ k = 4 ∨ k = 5 ∨ k = 6 ∨ k = 7 ∨ k = 8 ∨ k = 9 ∨ k = 10 ∨ k = 11 ∨ k = 12 := by omega
  rcases this with rfl | rfl | rfl | rfl | rfl | rfl | rfl | rfl | rfl | rfl | rfl | rfl | rfl <;> decide
end Go.Proofs.Ytnamafakjkcmjaa

namespace Go.Proofs.Ytnamafakjkcmjaa
open Go
set_option linter.unusedVariables false

theorem ringF_turn (s : Str) (L : List Str) : ∀ i, ∀ t ∈ (ringF s i (L, [])).2, t.length = s.length
  | 0, t, h => by cases h
  | i + 1, t, h => by
    by_cases hm : turnL s i ∈ (ringF s i (L, [])).1
    · rw [ringF_old hm] at h
      exact ringF_turn s L i t h
    · rw [ringF_new hm] at h
      rcases List.mem_append.1 h with h | h
      · exact ringF_turn s L i t h
      · rw [List.mem_singleton.1 h, turnL_len]
theorem ringStep_ok {n m : Nat} {ko : List Str × List (List Str)} {s : Str} (hs : s.length = m) (h : ∀ r ∈ ko.2, r.length ≤ n ∧ ∀ w ∈ r, w.length = m) : ∀ r ∈ (ringStep n ko s).2, r.length ≤ n ∧ ∀ w ∈ r, w.length = m := by
  unfold ringStep
  split
  · exact h
  · intro r hr
    rcases List.mem_append.1 hr with hr | hr
    · exact h r hr
    · rw [List.mem_singleton.1 hr]
      refine ⟨by rw [(sortS_perm _).length_eq]; exact ringF_len _ _ _, fun w hw => ?_⟩
      rw [ringF_turn s ko.1 n w ((sortS_perm _).mem_iff.1 hw), hs]
theorem ringsF_ok {n m : Nat} : ∀ (l : List Str) (ko : List Str × List (List Str)), (∀ s ∈ l, s.length = m) → (∀ r ∈ ko.2, r.length ≤ n ∧ ∀ w ∈ r, w.length = m) → ∀ r ∈ (l.foldl (ringStep n) ko).2, r.length ≤ n ∧ ∀ w ∈ r, w.length = m
  | [], ko, _, h => h
  | s :: l, ko, hl, h => ringsF_ok l _ (fun s hs => hl s (List.mem_cons_of_mem _ hs)) (ringStep_ok (hl s (List.mem_cons_self ..)) h)
theorem ringsL_ok (q n : Nat) : ∀ r ∈ ringsL q n, r.length ≤ n ∧ ∀ w ∈ r, w.length = n :=
  ringsF_ok _ _ (fun s hs => ((mem_words q n s).1 hs).1) (fun r h => by cases h)
theorem tryL_olen {n c : Nat} {ch : Cs → Bool × Cs} (h1 : ∀ s, (ch s).1 = false → (ch s).2.out = s.out) (h2 : ∀ s, (ch s).2.out.length ≤ s.out.length + c) : ∀ (l : List Str) (s : Cs), (tryL n ch l s).2.out.length ≤ s.out.length + 1 + c
  | [], s => by simp [tryL]; omega
  | w :: l, s => by
    rw [tryL]
    dsimp only
    split
    · exact tryL_olen h1 h2 l ⟨addB (delB s.E (ofB n w)) (ofB n w), s.out, s.cnt + 1⟩
    · split
      · have := h2 ⟨delB s.E (ofB n w), s.out ++ [w], s.cnt⟩
        simp at this
        omega
      · rename_i hf
        have h3 := h1 ⟨delB s.E (ofB n w), s.out ++ [w], s.cnt⟩ (by simpa using hf)
        have := tryL_olen (n := n) h1 h2 l ⟨addB (ch ⟨delB s.E (ofB n w), s.out ++ [w], s.cnt⟩).2.E (ofB n w), (ch ⟨delB s.E (ofB n w), s.out ++ [w], s.cnt⟩).2.out.dropLast, (ch ⟨delB s.E (ofB n w), s.out ++ [w], s.cnt⟩).2.cnt + 1⟩
        dsimp only at this h3 ⊢
        rw [h3] at this ⊢
        simpa using this
theorem chooseL_olen (n : Nat) : ∀ (l : List (List Str)) (s : Cs), (chooseL n l s).2.out.length ≤ s.out.length + l.length
  | [], s => by simp [chooseL]
  | ring :: rest, s => by
    have h := tryL_olen (n := n) (ch := chooseL n rest) (c := rest.length) (fun s h => chooseL_out n rest s h) (fun s => chooseL_olen n rest s) ring (st1 n ring s)
    rw [show (st1 n ring s).out = s.out from rfl] at h
    cases hf : (tryL n (chooseL n rest) ring (st1 n ring s)).1 with
    | true => rw [chooseL_yes hf, List.length_cons]; omega
    | false =>
      rw [chooseL_no hf, List.length_cons]
      dsimp only
      omega
end Go.Proofs.Ytnamafakjkcmjaa

namespace Go.Proofs.Ytnamafakjkcmjaa
open Go
set_option linter.unusedVariables false

/-- Growth's numbers are known as soon as they fit. -/
theorem ch_unique {M : Nat → Nat → Bool} {R : Nat → Bool} {N : Nat} (hM : ∀ a b c, a < N → b < N → c < N → M a b = true → M b c = true → M a c = true) {V : Nat → Int}
    (hV : ∀ i, i < N → V i = foldC V (fun j => M i j && !M j i) N + if R i then 1 else 0) : ∀ (f i : Nat), i < N → rkC M N i ≤ f → chC M R N i = V i
  | 0, i, hi, h => absurd (rk_pos (M := M) hi) (by omega)
  | f + 1, i, hi, h => by
    rw [ch_eq hM hi, hV i hi, foldC_congr (g' := V) fun k hk hp => ?_]
    simp only [Bool.and_eq_true, Bool.not_eq_true'] at hp
    have := rk_lt hM hi hk hp.1 hp.2
    exact ch_unique hM hV f k hk (by omega)
theorem foldC_pred {g : Nat → Int} {p p' : Nat → Bool} : ∀ {j : Nat}, (∀ k, k < j → p k = p' k) → foldC g p j = foldC g p' j
  | 0, _ => rfl
  | j + 1, h => by
    unfold foldC
    rw [foldC_pred fun k hk => h k (by omega), h j (by omega)]
/-- A table of distances, 0 where there is no way. -/
def dOf (D : List (List Nat)) (a b : Nat) : Nat := (D.getD a []).getD b 0
/-- The table is a table of ways: each number has a letter that leads one nearer; no letter leads out of it. -/
def certB (T : Tab) (N : Nat) (D : List (List Nat)) : Bool :=
  (List.range N).all fun a => (List.range N).all fun b =>
    (decide (dOf D a b = 0) || ((stp T a).any fun p => (decide (p.2 < N) && (if dOf D a b = 1 then decide (p.2 = b) else decide (dOf D p.2 b + 1 = dOf D a b) && decide (dOf D p.2 b ≠ 0))))) &&
    ((stp T a).all fun p => decide (p.2 < N) && (decide (p.2 ≠ b) || decide (dOf D a b ≠ 0)) && (decide (dOf D p.2 b = 0) || decide (dOf D a b ≠ 0)))
theorem cert_path {T : Tab} {N : Nat} {D : List (List Nat)} (h : certB T N D = true) : ∀ (d a b : Nat), a < N → b < N → dOf D a b = d + 1 → PathN T (d + 1) a b := by
  have h' : ∀ a b, a < N → b < N → (dOf D a b = 0 ∨ ∃ p ∈ stp T a, p.2 < N ∧ (if dOf D a b = 1 then p.2 = b else dOf D p.2 b + 1 = dOf D a b ∧ dOf D p.2 b ≠ 0)) := by
    intro a b ha hb
    unfold certB at h
    simp only [List.all_eq_true, List.mem_range, Bool.and_eq_true, Bool.or_eq_true, decide_eq_true_eq, List.any_eq_true] at h
    rcases (h a ha b hb).1 with h1 | ⟨p, hp, h1, h2⟩
    · exact .inl h1
    · refine .inr ⟨p, hp, h1, ?_⟩
      split at h2
      · rename_i e; rw [if_pos e]; simpa using h2
      · rename_i e; rw [if_neg e]; simpa using h2
  intro d
  induction d with
  | zero =>
    intro a b ha hb hd
    rcases h' a b ha hb with h1 | ⟨⟨c, j⟩, hp, h1, h2⟩
    · omega
    · rw [if_pos (by omega)] at h2
      exact ⟨c, j, hp, h2⟩
  | succ d ih =>
    intro a b ha hb hd
    rcases h' a b ha hb with h1 | ⟨⟨c, j⟩, hp, h1, h2⟩
    · omega
    · rw [if_neg (by omega)] at h2
      exact ⟨c, j, hp, ih j b h1 hb (by have := h2.1; dsimp only at this; omega)⟩
theorem cert_all {T : Tab} {N : Nat} {D : List (List Nat)} (h : certB T N D = true) : ∀ (m a b : Nat), a < N → b < N → PathN T (m + 1) a b → dOf D a b ≠ 0 := by
  have h' : ∀ a b, a < N → b < N → ∀ p ∈ stp T a, p.2 < N ∧ (p.2 = b → dOf D a b ≠ 0) ∧ (dOf D p.2 b ≠ 0 → dOf D a b ≠ 0) := by
    intro a b ha hb p hp
    unfold certB at h
    simp only [List.all_eq_true, List.mem_range, Bool.and_eq_true, Bool.or_eq_true, decide_eq_true_eq] at h
    obtain ⟨⟨h1, h2⟩, h3⟩ := (h a ha b hb).2 p hp
    exact ⟨h1, fun e => h2.resolve_left fun h => h e, fun e => h3.resolve_left e⟩
  intro m
  induction m with
  | zero =>
    rintro a b ha hb ⟨c, j, hp, hj⟩
    exact (h' a b ha hb _ hp).2.1 hj
  | succ m ih =>
    rintro a b ha hb ⟨c, j, hp, hj⟩
    obtain ⟨h1, _, h3⟩ := h' a b ha hb _ hp
    exact h3 (ih j b h1 hb hj)
theorem cert_lead {T : Tab} {N : Nat} {D : List (List Nat)} {M : Nat → Nat → Bool} (h : certB T N D = true) (hM : LeadOk T N M) {a b : Nat} (ha : a < N) (hb : b < N) : M a b = decide (dOf D a b ≠ 0) := by
  rw [Bool.eq_iff_iff, hM a b ha hb, decide_eq_true_eq]
  constructor
  · rintro ⟨m, hp⟩
    exact cert_all h m a b ha hb hp
  · intro hd
    obtain ⟨d, hd⟩ : ∃ d, dOf D a b = d + 1 := ⟨dOf D a b - 1, by omega⟩
    exact ⟨d, cert_path h d a b ha hb hd⟩

/-! ### The four results -/
def aw1 : List ByteArray := [⟨#[97, 97]⟩, ⟨#[97, 98]⟩, ⟨#[98, 98]⟩]
def aw2 : List ByteArray := [⟨#[97, 97]⟩, ⟨#[98, 98]⟩]
def aw3 : List ByteArray := [⟨#[98, 97]⟩]
theorem aw1_set : setB 2 aw1 = true := by decide +kernel
theorem aw2_set : setB 2 aw2 = true := by decide +kernel
theorem aw3_set : setB 2 aw3 = true := by decide +kernel
theorem aw1_tab : tabL (pats aw1) 2 = [[1, 2], [-1, -1], [3, -1], [-1, -1]] := by decide +kernel
theorem aw2_tab : tabL (pats aw2) 2 = [[1, 2], [-1, 3], [4, -1], [5, -1], [-1, 6], [-1, 7], [8, -1], [8, -1], [-1, 7]] := by decide +kernel
theorem aw3_tab : tabL (pats aw3) 2 = [[1, 2], [3, 4], [-1, 5], [6, 7], [-1, 8], [-1, 9], [10, 11], [-1, 12], [-1, 13], [-1, 14], [10, 11], [-1, 12], [-1, 13], [-1, 14], [-1, 14]] := by decide +kernel
theorem aw1_way {m : Nat} (h : Lng (tabL (pats aw1) 2) 0 m) : wayL (tabL (pats aw1) 2) m 0 = [98, 97] := by
  have h2 : Lng (tabL (pats aw1) 2) 0 (2 : Nat) := .inr ⟨2, rfl, by rw [aw1_tab]; decide +kernel, by rw [aw1_tab]; decide +kernel⟩
  have e := h.one h2
  have e2 : m = 2 := by omega
  rw [e2, aw1_tab]
  decide +kernel
theorem aw1_can : can (tabL (pats aw1) 2) 1000 0 = false := by
  cases h : can (tabL (pats aw1) 2) 1000 0 with
  | false => rfl
  | true =>
    have h3 := can_le (show 3 ≤ 1000 by omega) h
    rw [aw1_tab] at h3
    exact absurd h3 (by decide +kernel)
theorem aw2_len : (stL (pats aw2) 2).length = 9 := by decide +kernel
theorem aw2_ok : okL (pats aw2) [] = true := ok_nil (pats_some aw2_set)
theorem aw2_no {m : Nat} (h : Lng (tabL (pats aw2) 2) 0 m) : False := by
  have hc : can (tabL (pats aw2) 2) 9 0 = true := by rw [aw2_tab]; decide +kernel
  have hT := tab_ok (q := 2) aw2_ok
  rw [aw2_len] at hT
  have := can_ever hT (by omega) hc (m + 1)
  rcases h with ⟨h, _⟩ | ⟨k, h1, h2, h3⟩
  · omega
  · have e : k = m := by omega
    rw [e] at h3
    rw [h3] at this; cases this
theorem aw2_best {n : Nat} (h0 : 1 ≤ n) (h1 : ∀ m, 1 ≤ m → m < n → ∀ i, i < 9 → rc (tabL (pats aw2) 2) i m i = false) (h2 : ∃ i, i < 9 ∧ rc (tabL (pats aw2) 2) i n i = true) : bestN (tabL (pats aw2) 2) n 9 = [97, 98] := by
  have e : n = 2 := by
    rcases Nat.lt_trichotomy n 2 with h | h | h
    · have e1 : n = 1 := by omega
      subst e1
      obtain ⟨i, hi, hr⟩ := h2
      have : ∀ i, i < 9 → rc (tabL (pats aw2) 2) i 1 i = false := by rw [aw2_tab]; decide +kernel
      rw [this i hi] at hr; cases hr
    · exact h
    · have := h1 2 (by omega) h 7 (by omega)
      rw [aw2_tab] at this
      exact absurd this (by decide +kernel)
  rw [e, aw2_tab]
  decide +kernel
theorem aw3_len : (stL (pats aw3) 2).length = 15 := by decide +kernel
/-- Distances by rounds. -/
def distStep (T : Tab) (N : Nat) (D : List (List Nat)) : List (List Nat) :=
  (List.range N).map fun a => (List.range N).map fun b =>
    if dOf D a b ≠ 0 then dOf D a b
    else match (stp T a).find? fun p => dOf D p.2 b ≠ 0 with
      | some p => dOf D p.2 b + 1
      | none => 0
def dist0 (T : Tab) (N : Nat) : List (List Nat) := (List.range N).map fun a => (List.range N).map fun b => if (stp T a).any fun p => p.2 == b then 1 else 0
def distN (T : Tab) (N : Nat) : Nat → List (List Nat)
  | 0 => dist0 T N
  | k + 1 => distStep T N (distN T N k)
def aw3D : List (List Nat) := [[0, 1, 1, 2, 2, 2, 3, 3, 3, 3, 4, 4, 4, 4, 4], [0, 0, 0, 1, 1, 0, 2, 2, 2, 0, 3, 3, 3, 3, 4],
  [0, 0, 0, 0, 0, 1, 0, 0, 0, 2, 0, 0, 0, 0, 3], [0, 0, 0, 0, 0, 0, 1, 1, 0, 0, 2, 2, 2, 3, 4],
  [0, 0, 0, 0, 0, 0, 0, 0, 1, 0, 0, 0, 0, 2, 3], [0, 0, 0, 0, 0, 0, 0, 0, 0, 1, 0, 0, 0, 0, 2],
  [0, 0, 0, 0, 0, 0, 0, 0, 0, 0, 1, 1, 2, 3, 4], [0, 0, 0, 0, 0, 0, 0, 0, 0, 0, 0, 0, 1, 2, 3],
  [0, 0, 0, 0, 0, 0, 0, 0, 0, 0, 0, 0, 0, 1, 2], [0, 0, 0, 0, 0, 0, 0, 0, 0, 0, 0, 0, 0, 0, 1],
  [0, 0, 0, 0, 0, 0, 0, 0, 0, 0, 1, 1, 2, 3, 4], [0, 0, 0, 0, 0, 0, 0, 0, 0, 0, 0, 0, 1, 2, 3],
  [0, 0, 0, 0, 0, 0, 0, 0, 0, 0, 0, 0, 0, 1, 2], [0, 0, 0, 0, 0, 0, 0, 0, 0, 0, 0, 0, 0, 0, 1],
  [0, 0, 0, 0, 0, 0, 0, 0, 0, 0, 0, 0, 0, 0, 1]]
def aw3T : Tab := [[1, 2], [3, 4], [-1, 5], [6, 7], [-1, 8], [-1, 9], [10, 11], [-1, 12], [-1, 13], [-1, 14], [10, 11], [-1, 12], [-1, 13], [-1, 14], [-1, 14]]
theorem aw3_cert : certB aw3T 15 aw3D = true := by decide +kernel
def aw3M (a b : Nat) : Bool := decide (dOf aw3D a b ≠ 0)
def aw3V (i : Nat) : Int := [2, 2, 1, 2, 1, 1, 2, 1, 1, 1, 2, 1, 1, 1, 1].getD i 0
def inN' (T : Tab) (M : Nat → Nat → Bool) (i : Nat) : Nat := ((stp T i).filter fun p => M p.2 i).length
theorem inN'_same {T : Tab} {N q : Nat} {M M' : Nat → Nat → Bool} (hT : TabOk T N q) (h : ∀ a b, a < N → b < N → M a b = M' a b) {i : Nat} (hi : i < N) : inN' T M i = inN' T M' i := by
  unfold inN'
  rw [List.filter_congr fun p hp => h p.2 i (hT.stp hi hp).2 hi]
theorem aw3_grow {M : Nat → Nat → Bool} (hM : LeadOk (tabL (pats aw3) 2) 15 M) : (∀ i, i < 15 → inN' (tabL (pats aw3) 2) M i ≤ 1) ∧ chC M (fun i => inN' (tabL (pats aw3) 2) M i == 1) 15 0 = 2 := by
  have hT := tab_ok (q := 2) (ok_nil (pats_some aw3_set))
  have hMM : ∀ a b, a < 15 → b < 15 → M a b = aw3M a b := fun a b ha hb => cert_lead (D := aw3D) (by rw [aw3_tab]; exact aw3_cert) hM ha hb
  rw [aw3_len] at hT
  have hin : ∀ i, i < 15 → inN' (tabL (pats aw3) 2) M i = inN' aw3T aw3M i := fun i hi => by
    rw [inN'_same hT hMM hi, aw3_tab]; rfl
  constructor
  · intro i hi
    rw [hin i hi]
    exact (by decide +kernel : ∀ i, i < 15 → inN' aw3T aw3M i ≤ 1) i hi
  · rw [ch_unique (V := aw3V) (fun a b c ha hb hc h1 h2 => hM.trans ha hb hc h1 h2) (fun i hi => ?_) 15 0 (by omega) (rk_le _ _ _)]
    · rfl
    · rw [hin i hi, foldC_pred (p' := fun j => aw3M i j && !aw3M j i) fun k hk => by rw [hMM i k hi hk, hMM k i hk hi]]
      exact (by decide +kernel : ∀ i, i < 15 → aw3V i = foldC aw3V (fun j => aw3M i j && !aw3M j i) 15 + if (inN' aw3T aw3M i == 1) = true then 1 else 0) i hi
end Go.Proofs.Ytnamafakjkcmjaa

namespace Go.Proofs.Ytnamafakjkcmjaa
open Go
set_option linter.unusedVariables false

def most1 : Int := 1152921504606846977
def sumC (g : Nat → Int) (l : List (Nat × Nat)) : Int := l.foldl (fun s p => min (s + g p.2) most1) 0
def cntT (T : Tab) : Nat → Nat → Int
  | 0, _ => 1
  | m + 1, i => sumC (cntT T m) (stp T i)
theorem sumC_snoc (g : Nat → Int) (l : List (Nat × Nat)) (p : Nat × Nat) : sumC g (l ++ [p]) = min (sumC g l + g p.2) most1 := by
  unfold sumC
  rw [List.foldl_append]
  rfl
theorem snoc_ind {α : Type} {P : List α → Prop} (h0 : P []) (h1 : ∀ l x, P l → P (l ++ [x])) (l : List α) : P l := by
  have : ∀ n, ∀ l : List α, l.length = n → P l := by
    intro n
    induction n with
    | zero => intro l h; rw [List.eq_nil_of_length_eq_zero h]; exact h0
    | succ n ih =>
      intro l h
      rcases List.eq_nil_or_concat l with rfl | ⟨t, b, rfl⟩
      · simp at h
      · rw [List.concat_eq_append] at *
        exact h1 _ _ (ih _ (by simpa using h))
  exact this _ l rfl
theorem sumC_bound {g : Nat → Int} (hg : ∀ j, 0 ≤ g j) (l : List (Nat × Nat)) : 0 ≤ sumC g l ∧ sumC g l ≤ most1 := by
  refine snoc_ind (P := fun l => 0 ≤ sumC g l ∧ sumC g l ≤ most1) ⟨Int.le_refl _, (by decide : (0 : Int) ≤ most1)⟩ (fun l x h => ?_) l
  rw [sumC_snoc]
  have := hg x.2
  have : (0 : Int) ≤ most1 := by decide
  omega
theorem cnt_bound (T : Tab) : ∀ m i, 0 ≤ cntT T m i ∧ cntT T m i ≤ most1
  | 0, _ => ⟨(by decide : (0 : Int) ≤ 1), (by decide : (1 : Int) ≤ most1)⟩
  | m + 1, i => sumC_bound (fun j => (cnt_bound T m j).1) _
theorem sumC_pos {g : Nat → Int} (hg : ∀ j, 0 ≤ g j) (l : List (Nat × Nat)) : 0 < sumC g l ↔ ∃ p ∈ l, 0 < g p.2 := by
  refine snoc_ind (P := fun l => 0 < sumC g l ↔ ∃ p ∈ l, 0 < g p.2) ⟨fun h => absurd h (by show ¬ (0 : Int) < 0; omega), fun ⟨p, h, _⟩ => by cases h⟩ (fun l x h => ?_) l
  rw [sumC_snoc]
  have h0 := (sumC_bound hg l).1
  have h1 := hg x.2
  have h2 : (0 : Int) < most1 := by decide
  constructor
  · intro hp
    by_cases hl : 0 < sumC g l
    · obtain ⟨p, hp, hq⟩ := h.1 hl
      exact ⟨p, List.mem_append_left _ hp, hq⟩
    · exact ⟨x, by simp, by omega⟩
  · rintro ⟨p, hp, hq⟩
    rcases List.mem_append.1 hp with hp | hp
    · have := h.2 ⟨p, hp, hq⟩; omega
    · rw [List.mem_singleton.1 hp] at hq; omega
theorem cnt_pos (T : Tab) : ∀ m i, 0 < cntT T m i ↔ can T m i = true
  | 0, _ => ⟨fun _ => rfl, fun _ => by show (0 : Int) < 1; decide⟩
  | m + 1, i => by
    rw [show cntT T (m + 1) i = sumC (cntT T m) (stp T i) from rfl, sumC_pos (fun j => (cnt_bound T m j).1), can_succ]
    constructor
    · rintro ⟨⟨c, j⟩, h1, h2⟩
      exact ⟨c, j, h1, (cnt_pos T m j).1 h2⟩
    · rintro ⟨c, j, h1, h2⟩
      exact ⟨(c, j), h1, (cnt_pos T m j).2 h2⟩
theorem cnt_zero {T : Tab} {m i : Nat} : cntT T m i = 0 ↔ can T m i = false := by
  have := cnt_pos T m i
  have := (cnt_bound T m i).1
  cases h : can T m i with
  | true => simp [h] at *; omega
  | false => simp [h] at *; omega
def cntRow (T : Tab) (N m : Nat) : List Int := (List.range N).map (cntT T m)
def cntRows (T : Tab) (N n : Nat) : Tab := (List.range n).map (cntRow T N)
theorem cntRow_len (T : Tab) (N m : Nat) : (cntRow T N m).length = N := by simp [cntRow]
theorem cntRows_len (T : Tab) (N n : Nat) : (cntRows T N n).length = n := by simp [cntRows]
theorem cntRow_at {T : Tab} {N m i : Nat} (h : i < N) : (cntRow T N m).getD i 0 = cntT T m i := by
  unfold cntRow
  rw [List.getD_eq_getElem?_getD, List.getElem?_map, List.getElem?_range h]
  rfl
theorem cntRows_at {T : Tab} {N n m : Nat} (h : m < n) : (cntRows T N n).getD m [] = cntRow T N m := by
  unfold cntRows
  rw [List.getD_eq_getElem?_getD, List.getElem?_map, List.getElem?_range h]
  rfl
theorem cntRows_succ (T : Tab) (N n : Nat) : cntRows T N (n + 1) = cntRows T N n ++ [cntRow T N n] := by
  unfold cntRows
  rw [List.range_succ, List.map_append]
  rfl
theorem cntRow_snoc (T : Tab) (m i : Nat) : cntRow T (i + 1) m = cntRow T i m ++ [cntT T m i] := by
  unfold cntRow
  rw [List.range_succ, List.map_append]
  rfl
/-- The sum over the first letters. -/
def sumTo (T : Tab) (m i c : Nat) : Int := sumC (cntT T m) (stepsL ((T.getD i []).take c))
theorem steps_snoc {row : List Int} {k : Nat} (hk : k < row.length) : stepsL (row.take (k + 1)) = stepsL (row.take k) ++ (if 0 ≤ row.getD k 0 then [(k, (row.getD k 0).toNat)] else []) := by
  have e : row.getD k 0 = row[k] := by rw [List.getD_eq_getElem?_getD, List.getElem?_eq_getElem hk]; rfl
  rw [e]
  unfold stepsL
  rw [List.take_succ_eq_append_getElem hk, List.zipIdx_append, List.filterMap_append]
  congr 1
  simp only [List.length_take, Nat.min_eq_left (Nat.le_of_lt hk), List.zipIdx_singleton, List.filterMap_cons, List.filterMap_nil]
  by_cases h : 0 ≤ row[k]
  · rw [if_pos h, if_pos h]; simp
  · rw [if_neg h, if_neg h]
theorem sumTo_no {T : Tab} {m i c : Nat} (hc : c < (T.getD i []).length) (h : (T.getD i []).getD c 0 < 0) : sumTo T m i (c + 1) = sumTo T m i c := by
  unfold sumTo
  rw [steps_snoc hc, if_neg (by omega), List.append_nil]
theorem sumTo_yes {T : Tab} {m i c j : Nat} (hc : c < (T.getD i []).length) (h : (T.getD i []).getD c 0 = (j : Int)) : sumTo T m i (c + 1) = min (sumTo T m i c + cntT T m j) most1 := by
  unfold sumTo
  rw [steps_snoc hc, h, if_pos (by omega), sumC_snoc]
  rfl
theorem sumTo_all {T : Tab} {m i c : Nat} (hc : (T.getD i []).length ≤ c) : sumTo T m i c = cntT T (m + 1) i := by
  unfold sumTo
  rw [List.take_of_length_le hc]
  rfl
theorem sumTo_zero (T : Tab) (m i : Nat) : sumTo T m i 0 = 0 := rfl
theorem sumTo_bound (T : Tab) (m i c : Nat) : 0 ≤ sumTo T m i c ∧ sumTo T m i c ≤ most1 := sumC_bound (fun j => (cnt_bound T m j).1) _
end Go.Proofs.Ytnamafakjkcmjaa

namespace Go.Proofs.Ytnamafakjkcmjaa
open Go
set_option linter.unusedVariables false

def minTurn (s : Str) : Nat → Str
  | 0 => s
  | i + 1 => if Op.bytesLess (turnL s i) (minTurn s i) = true then turnL s i else minTurn s i
def turned (s : Str) : Str := minTurn s s.length
def ringOf (l : List Str) (r : Str) : List Str := l.filter fun w => turned w == r
def refR (l : List Str) : List (List Str) := (l.filter fun w => turned w == w).map (ringOf l)
theorem qn_cases {P : Nat → Nat → Prop} (h : ∀ q ∈ [1, 2, 3], ∀ n ∈ [1, 2, 3, 4, 5], P q n) (q n : Nat) (hq : 1 ≤ q ∧ q ≤ 3) (hn : 1 ≤ n ∧ n ≤ 5) : P q n := by
  refine h q ?_ n ?_
  · have : q = 1 ∨ q = 2 ∨ q = 3 := by omega
    rcases this with rfl | rfl | rfl <;> decide
  · have : n = 1 ∨ n = 2 ∨ n = 3 ∨ n = 4 ∨ n = 5 := by omega
    rcases this with rfl | rfl | rfl | rfl | rfl <;> decide
def fewT : Nat → Nat → List Str
  | 1, 1 => [[97]]
  | 1, 2 => [[97, 97]]
  | 1, 3 => [[97, 97, 97]]
  | 1, 4 => [[97, 97, 97, 97]]
  | 1, 5 => [[97, 97, 97, 97, 97]]
  | 2, 1 => [[97], [98]]
  | 2, 2 => [[97, 97], [97, 98], [98, 98]]
  | 2, 3 => [[97, 97, 97], [97, 97, 98], [98, 97, 98], [98, 98, 98]]
  | 2, 4 => [[97, 97, 97, 97], [97, 97, 97, 98], [97, 98, 97, 98], [98, 97, 97, 98], [98, 97, 98, 98], [98, 98, 98, 98]]
  | 2, 5 => [[97, 97, 97, 97, 97], [97, 97, 97, 97, 98], [97, 98, 97, 97, 98], [98, 97, 97, 97, 98], [98, 97, 98, 97, 98], [98, 98, 97, 97, 98], [98, 98, 97, 98, 98], [98, 98, 98, 98, 98]]
  | 3, 1 => [[97], [98], [99]]
  | 3, 2 => [[97, 97], [97, 98], [97, 99], [98, 98], [98, 99], [99, 99]]
  | 3, 3 => [[97, 97, 97], [97, 97, 98], [97, 97, 99], [97, 98, 99], [98, 97, 98], [98, 97, 99], [98, 98, 98], [98, 98, 99], [99, 97, 99], [99, 98, 99], [99, 99, 99]]
  | _, _ => []
def cntR : Nat → Nat → Nat
  | 1, _ => 1
  | 2, 1 => 2
  | 2, 2 => 3
  | 2, 3 => 4
  | 2, 4 => 6
  | 2, 5 => 8
  | 3, 1 => 3
  | 3, 2 => 6
  | 3, 3 => 11
  | 3, 4 => 24
  | 3, 5 => 51
  | _, _ => 0
set_option maxRecDepth 100000 in
theorem cntR_all : ∀ q ∈ [1, 2, 3], ∀ n ∈ [1, 2, 3, 4, 5], (ringsI q n).length = cntR q n := by decide +kernel
set_option maxRecDepth 100000 in
theorem fewI_all : ∀ q ∈ [1, 2, 3], ∀ n ∈ [1, 2, 3, 4, 5], cntR q n ≤ 12 → isortS (chooseL n (ringsI q n) ⟨[], [], 0⟩).2.out = fewT q n := by decide +kernel
set_option maxRecDepth 100000 in
theorem fewOk_all : ∀ q ∈ [1, 2, 3], ∀ n ∈ [1, 2, 3, 4, 5], cntR q n ≤ 12 → (decide ((fewT q n).length = cntR q n) && setB q ((fewT q n).map bs) && !can (tabL (fewT q n) q) 1000 0 && (fewT q n).all fun s => s.length == n) = true := by decide +kernel
set_option maxRecDepth 100000 in
theorem refR_all : ∀ q ∈ [1, 2, 3], ∀ n ∈ [1, 2, 3, 4, 5], refR (wordsL q n) = ringsI q n := by decide +kernel
end Go.Proofs.Ytnamafakjkcmjaa

namespace Go.Proofs.Ytnamafakjkcmjaa
open Go
set_option linter.unusedVariables false

theorem refR_ringsL {q n : Nat} (hq : 1 ≤ q ∧ q ≤ 3) (hn : 1 ≤ n ∧ n ≤ 5) : refR (wordsL q n) = ringsL q n := by
  rw [ringsI_eq]
  exact qn_cases refR_all q n hq hn
theorem cntR_ringsL {q n : Nat} (hq : 1 ≤ q ∧ q ≤ 3) (hn : 1 ≤ n ∧ n ≤ 5) : (ringsL q n).length = cntR q n := by
  rw [ringsI_eq]
  exact qn_cases cntR_all q n hq hn
theorem cntR_pos {q n : Nat} (hq : 1 ≤ q ∧ q ≤ 3) (hn : 1 ≤ n ∧ n ≤ 5) : 0 < cntR q n ∧ cntR q n ≤ 51 :=
  qn_cases (P := fun q n => 0 < cntR q n ∧ cntR q n ≤ 51) (by decide) q n hq hn
theorem fewL_table {q n : Nat} (hq : 1 ≤ q ∧ q ≤ 3) (hn : 1 ≤ n ∧ n ≤ 5) (h : cntR q n ≤ 12) : fewL q n = fewT q n := by
  rw [few_eq]
  exact qn_cases fewI_all q n hq hn h
theorem fewT_facts {q n : Nat} (hq : 1 ≤ q ∧ q ≤ 3) (hn : 1 ≤ n ∧ n ≤ 5) (h : cntR q n ≤ 12) : (fewT q n).length = cntR q n ∧ setB q ((fewT q n).map bs) = true ∧ can (tabL (fewT q n) q) 1000 0 = false ∧ ∀ s ∈ fewT q n, s.length = n := by
  have := qn_cases fewOk_all q n hq hn h
  simp only [Bool.and_eq_true, decide_eq_true_iff, Bool.not_eq_true', List.all_eq_true, beq_iff_eq] at this
  exact ⟨this.1.1.1, this.1.1.2, this.1.2, this.2⟩
theorem choose_pos {q n : Nat} (hq : 1 ≤ q ∧ q ≤ 3) (hn : 1 ≤ n ∧ n ≤ 5) (h : cntR q n ≤ 12) : 0 < (chooseL n (ringsL q n) ⟨[], [], 0⟩).2.out.length := by
  have h1 : (fewL q n).length = (chooseL n (ringsL q n) ⟨[], [], 0⟩).2.out.length := (sortS_perm _).length_eq
  rw [← h1, fewL_table hq hn h, (fewT_facts hq hn h).1]
  exact (cntR_pos hq hn).1
theorem pats_bs (L : List Str) : pats (L.map bs) = L := by
  unfold pats
  rw [List.map_map]
  conv => rhs; rw [← List.map_id L]
  exact List.map_congr_left fun s _ => sb_bs s
end Go.Proofs.Ytnamafakjkcmjaa

namespace Go.Proofs.Ytnamafakjkcmjaa
open Go
set_option linter.unusedVariables false

def incS : List Str → Bool
  | a :: b :: l => Op.bytesLess a b && incS (b :: l)
  | _ => true
theorem incS_at : ∀ {l : List Str} {k : Nat}, incS l = true → (h : k + 1 < l.length) → Op.bytesLess (l[k]'(by omega)) l[k + 1] = true
  | a :: b :: l, 0, hi, _ => by simp [incS] at hi; exact hi.1
  | a :: b :: l, k + 1, hi, h => by
    simp only [incS, Bool.and_eq_true] at hi
    exact incS_at (l := b :: l) (k := k) hi.2 (by simpa using h)
  | [a], k, _, h => by simp at h
  | [], k, _, h => by simp at h
def ringOk (q n : Nat) (r : List Str) : Bool := decide (1 ≤ r.length) && decide (n % r.length = 0) && incS r && r.all fun s => decide (s.length = n) && lettB q s && decide (turned s = r.headD [])
def sumLen (l : List (List Str)) : Nat := l.foldl (fun a r => a + r.length) 0
set_option maxRecDepth 100000 in
theorem rung_all : ∀ q ∈ [1, 2, 3], ∀ n ∈ [1, 2, 3, 4, 5], ((ringsI q n).all (ringOk q n) && incS ((ringsI q n).map fun r => r.headD []) && decide (sumLen (ringsI q n) = q ^ n)) = true := by decide +kernel
theorem sumLen_snoc (l : List (List Str)) (r : List Str) : sumLen (l ++ [r]) = sumLen l + r.length := by unfold sumLen; rw [List.foldl_append]; rfl
theorem rung_facts {q n : Nat} (hq : 1 ≤ q ∧ q ≤ 3) (hn : 1 ≤ n ∧ n ≤ 5) : (∀ r ∈ ringsL q n, ringOk q n r = true) ∧ incS ((ringsL q n).map fun r => r.headD []) = true ∧ sumLen (ringsL q n) = q ^ n := by
  have := qn_cases rung_all q n hq hn
  rw [← ringsI_eq] at this
  simp only [Bool.and_eq_true, decide_eq_true_iff, List.all_eq_true] at this
  exact ⟨this.1.1, this.1.2, this.2⟩
theorem ringOk_parts {q n : Nat} {r : List Str} (h : ringOk q n r = true) : 1 ≤ r.length ∧ n % r.length = 0 ∧ incS r = true ∧ ∀ s ∈ r, s.length = n ∧ lettB q s = true ∧ turned s = r.headD [] := by
  unfold ringOk at h
  simp only [Bool.and_eq_true, decide_eq_true_iff, List.all_eq_true] at h
  exact ⟨h.1.1.1, h.1.1.2, h.1.2, fun s hs => ⟨(h.2 s hs).1.1, (h.2 s hs).1.2, (h.2 s hs).2⟩⟩
end Go.Proofs.Ytnamafakjkcmjaa
