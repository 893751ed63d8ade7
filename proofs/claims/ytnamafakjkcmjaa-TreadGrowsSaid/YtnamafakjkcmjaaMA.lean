/-
  Several texts in one: XA1, XA2, XA3, XA4.
-/
import Derived.Lib.IndexMore
import Derived.Shelf.GgClosure.StringsIndexFunc
import Derived.WalkKit
set_option linter.unusedVariables false
set_option linter.unusedSimpArgs false
namespace Go.Proofs.Ytnamafakjkcmjaa
open Go

abbrev Str := List UInt8
def ltr (c : Nat) : UInt8 := UInt8.ofNat (97 + c)
theorem ltr_inj {c d : Nat} (hc : c < 3) (hd : d < 3) (h : ltr c = ltr d) : c = d := by
  have h2 := congrArg UInt8.toNat h
  have e : ∀ k, k < 3 → (ltr k).toNat = 97 + k := fun k hk => by
    unfold ltr
    rw [UInt8.toNat_ofNat_of_lt' (by simp [UInt8.size]; omega)]
  rw [e c hc, e d hd] at h2
  omega
theorem contains_iff (s p : Str) : Lib.contains s p = true ↔ p <:+: s := by
  unfold Lib.contains
  rw [decide_eq_true_iff]
  constructor
  · intro h
    rcases Lib.index_spec s p with ⟨h1, _⟩ | ⟨i, h1, h2, h3, _⟩
    · omega
    · obtain ⟨t, ht⟩ := List.isPrefixOf_iff_prefix.1 h3
      exact ⟨s.take i, t, by rw [List.append_assoc, ht, List.take_append_drop]⟩
  · rintro ⟨a, b, rfl⟩
    rcases Lib.index_spec (a ++ p ++ b) p with ⟨_, h2⟩ | ⟨i, h1, _⟩
    · have h3 := h2 a.length (by simp <;> omega)
      have h4 : Lib.occAt (a ++ p ++ b) p a.length = true := by
        unfold Lib.occAt
        rw [List.isPrefixOf_iff_prefix]
        exact ⟨b, by simp⟩
      rw [h3] at h4
      cases h4
    · omega
/-- No pattern occurs. -/
def okL (set : List Str) (s : Str) : Bool := !set.any fun p => Lib.contains s p
theorem ok_infix {set : List Str} {s t : Str} (h : t <:+: s) (hs : okL set s = true) : okL set t = true := by
  unfold okL at *
  simp only [Bool.not_eq_true', List.any_eq_false] at *
  intro p hp hc
  exact hs p hp ((contains_iff s p).2 (((contains_iff t p).1 hc).trans h))
theorem ok_nil {set : List Str} (h : ∀ p ∈ set, p ≠ []) : okL set [] = true := by
  unfold okL
  simp only [Bool.not_eq_true', List.any_eq_false]
  intro p hp hc
  have := (contains_iff [] p).1 hc
  exact h p hp (List.infix_nil.1 this)
def wordsL (q : Nat) : Nat → List Str
  | 0 => [[]]
  | n + 1 => (wordsL q n).flatMap fun s => (List.range q).map fun c => s ++ [ltr c]
/-- Only the first q letters. -/
def Lett (q : Nat) (s : Str) : Prop := ∀ b ∈ s, ∃ c, c < q ∧ b = ltr c
theorem mem_words (q : Nat) : ∀ (n : Nat) (s : Str), s ∈ wordsL q n ↔ s.length = n ∧ Lett q s
  | 0, s => by
    simp only [wordsL, List.mem_singleton, List.length_eq_zero_iff]
    exact ⟨fun h => ⟨h, by subst h; intro b hb; cases hb⟩, fun h => h.1⟩
  | n + 1, s => by
    simp only [wordsL, List.mem_flatMap, List.mem_map, List.mem_range]
    constructor
    · rintro ⟨t, ht, c, hc, rfl⟩
      obtain ⟨h1, h2⟩ := (mem_words q n t).1 ht
      refine ⟨by simp [h1], fun b hb => ?_⟩
      rcases List.mem_append.1 hb with h | h
      · exact h2 b h
      · exact ⟨c, hc, List.mem_singleton.1 h⟩
    · rintro ⟨h1, h2⟩
      rcases List.eq_nil_or_concat s with rfl | ⟨t, b, rfl⟩
      · simp at h1
      · rw [List.concat_eq_append] at *
        obtain ⟨c, hc, rfl⟩ := h2 b (by simp)
        exact ⟨t, (mem_words q n t).2 ⟨by simpa using h1, fun b hb => h2 b (by simp [hb])⟩, c, hc, rfl⟩
theorem words_nodup {q : Nat} (hq : q ≤ 3) : ∀ n, (wordsL q n).Nodup
  | 0 => by simp [wordsL]
  | n + 1 => by
    unfold wordsL List.Nodup
    rw [List.pairwise_flatMap]
    refine ⟨fun s _ => ?_, (words_nodup hq n).imp ?_⟩
    · rw [List.pairwise_map]
      refine List.Pairwise.imp_of_mem ?_ List.nodup_range
      intro a b ha hb hne e
      have e2 := List.append_cancel_left e
      simp only [List.cons.injEq, and_true] at e2
      exact hne (ltr_inj (by have := List.mem_range.1 ha; omega) (by have := List.mem_range.1 hb; omega) e2)
    · intro s t hne x hx y hy e
      obtain ⟨c, _, rfl⟩ := List.mem_map.1 hx
      obtain ⟨d, _, rfl⟩ := List.mem_map.1 hy
      exact hne (List.append_inj_left' e rfl)
def lay (set : List Str) (q d : Nat) : List Str := (wordsL q d).filter (okL set)
theorem mem_lay {set : List Str} {q d : Nat} {s : Str} : s ∈ lay set q d ↔ s.length = d ∧ Lett q s ∧ okL set s = true := by
  unfold lay
  rw [List.mem_filter, mem_words, and_assoc]
def kidsL (set : List Str) (q : Nat) (s : Str) : List Str := ((List.range q).map fun c => s ++ [ltr c]).filter (okL set)
theorem kids_bad {set : List Str} {q : Nat} {s : Str} (h : okL set s = false) : kidsL set q s = [] := by
  unfold kidsL
  rw [List.filter_eq_nil_iff]
  intro t ht hok
  obtain ⟨c, _, rfl⟩ := List.mem_map.1 ht
  rw [ok_infix (List.prefix_append s [ltr c]).isInfix hok] at h
  cases h
theorem flatMap_filter_none {α β : Type} (p : α → Bool) (f : α → List β) (h : ∀ x, p x = false → f x = []) : ∀ l : List α, (l.filter p).flatMap f = l.flatMap f
  | [] => rfl
  | a :: l => by
    cases hp : p a with
    | true => rw [List.filter_cons_of_pos hp, List.flatMap_cons, List.flatMap_cons, flatMap_filter_none p f h l]
    | false => rw [List.filter_cons_of_neg (by simp [hp]), List.flatMap_cons, h a hp, flatMap_filter_none p f h l]; rfl
theorem lay_succ (set : List Str) (q d : Nat) : lay set q (d + 1) = (lay set q d).flatMap (kidsL set q) := by
  have e : lay set q (d + 1) = (wordsL q d).flatMap (kidsL set q) := by
    unfold lay
    rw [wordsL, List.filter_flatMap]
    rfl
  rw [e]
  unfold lay
  rw [flatMap_filter_none _ _ (fun s hs => kids_bad hs)]
/-- All states, in order. -/
def stL (set : List Str) (q : Nat) : List Str := (List.range 5).flatMap (lay set q)
theorem stL_eq (set : List Str) (q : Nat) : stL set q = lay set q 0 ++ (lay set q 1 ++ (lay set q 2 ++ (lay set q 3 ++ lay set q 4))) := by
  have e : List.range 5 = [0, 1, 2, 3, 4] := rfl
  unfold stL
  rw [e]
  simp [List.flatMap_cons]
theorem mem_stL {set : List Str} {q : Nat} {s : Str} : s ∈ stL set q ↔ s.length ≤ 4 ∧ Lett q s ∧ okL set s = true := by
  unfold stL
  rw [List.mem_flatMap]
  constructor
  · rintro ⟨d, hd, h⟩
    obtain ⟨h1, h2⟩ := mem_lay.1 h
    have := List.mem_range.1 hd
    exact ⟨by omega, h2⟩
  · rintro ⟨h1, h2⟩
    exact ⟨s.length, List.mem_range.2 (by omega), mem_lay.2 ⟨rfl, h2⟩⟩
theorem stL_sorted (set : List Str) (q : Nat) : (stL set q).Pairwise fun a b => a.length ≤ b.length := by
  unfold stL
  rw [List.pairwise_flatMap]
  refine ⟨fun d _ => List.Pairwise.imp_of_mem (R := fun _ _ => True) ?_ (List.pairwise_of_forall fun _ _ => trivial), ?_⟩
  · intro a b ha hb _
    rw [(mem_lay.1 ha).1, (mem_lay.1 hb).1]
    exact Nat.le_refl _
  · refine List.pairwise_lt_range.imp ?_
    intro d e hde x hx y hy
    rw [(mem_lay.1 hx).1, (mem_lay.1 hy).1]
    omega
theorem stL_nodup (set : List Str) {q : Nat} (hq : q ≤ 3) : (stL set q).Nodup := by
  unfold stL List.Nodup
  rw [List.pairwise_flatMap]
  refine ⟨fun d _ => (words_nodup hq d).filter _, ?_⟩
  refine List.pairwise_lt_range.imp ?_
  intro d e hde x hx y hy hxy
  have h1 := (mem_lay.1 hx).1
  have h2 := (mem_lay.1 hy).1
  rw [hxy] at h1
  omega
def kids4 (set : List Str) (q : Nat) (s : Str) : List Str := if s.length < 4 then kidsL set q s else []
theorem flatMap_same {α β : Type} {f g : α → List β} : ∀ {l : List α}, (∀ x ∈ l, f x = g x) → l.flatMap f = l.flatMap g
  | [], _ => rfl
  | a :: l, h => by rw [List.flatMap_cons, List.flatMap_cons, h a (List.mem_cons_self ..), flatMap_same fun x hx => h x (List.mem_cons_of_mem _ hx)]
theorem lay_kids {set : List Str} {q d : Nat} (hd : d < 4) : (lay set q d).flatMap (kids4 set q) = lay set q (d + 1) := by
  rw [lay_succ]
  refine flatMap_same fun s hs => ?_
  unfold kids4
  rw [if_pos (by rw [(mem_lay.1 hs).1]; exact hd)]
theorem lay_last {set : List Str} {q : Nat} : (lay set q 4).flatMap (kids4 set q) = [] := by
  rw [List.flatMap_eq_nil_iff]
  intro s hs
  unfold kids4
  rw [if_neg (by rw [(mem_lay.1 hs).1]; omega)]
theorem stL_fix {set : List Str} {q : Nat} (h0 : okL set [] = true) : stL set q = [] :: (stL set q).flatMap (kids4 set q) := by
  have e : lay set q 0 = [[]] := by unfold lay wordsL; simp [h0]
  rw [stL_eq, List.flatMap_append, List.flatMap_append, List.flatMap_append, List.flatMap_append, lay_kids (by omega), lay_kids (by omega), lay_kids (by omega), lay_kids (by omega), lay_last, e]
  simp
/-- The states that are known when those before place i were looked at. -/
def knownL (set : List Str) (q i : Nat) : List Str := [] :: ((stL set q).take i).flatMap (kids4 set q)
theorem known_prefix {set : List Str} {q : Nat} (h0 : okL set [] = true) (i : Nat) : knownL set q i <+: stL set q := by
  refine ⟨((stL set q).drop i).flatMap (kids4 set q), ?_⟩
  unfold knownL
  rw [List.cons_append, ← List.flatMap_append, List.take_append_drop]
  exact (stL_fix h0).symm
theorem known_all {set : List Str} {q : Nat} (h0 : okL set [] = true) {i : Nat} (hi : (stL set q).length ≤ i) : knownL set q i = stL set q := by
  unfold knownL
  rw [List.take_of_length_le hi]
  exact (stL_fix h0).symm
theorem known_succ {set : List Str} {q : Nat} {i : Nat} (hi : i < (stL set q).length) : knownL set q (i + 1) = knownL set q i ++ kids4 set q (stL set q)[i] := by
  unfold knownL
  rw [List.take_succ_eq_append_getElem hi, List.flatMap_append]
  simp
theorem known_mono {set : List Str} {q i j : Nat} (h : i ≤ j) : knownL set q i <+: knownL set q j := by
  unfold knownL
  have e : (stL set q).take j = (stL set q).take i ++ ((stL set q).take j).drop i := by
    have := List.take_append_drop i ((stL set q).take j)
    rw [List.take_take, Nat.min_eq_left h] at this
    exact this.symm
  rw [e, List.flatMap_append]
  exact ⟨_, rfl⟩
theorem parent_first {set : List Str} {q : Nat} (h0 : okL set [] = true) {m : Nat} (hm : m < (stL set q).length) : (stL set q)[m] ∈ knownL set q m := by
  have hmem : (stL set q)[m] ∈ stL set q := List.getElem_mem hm
  have hm2 : (stL set q)[m] ∈ [] :: (stL set q).flatMap (kids4 set q) := stL_fix (q := q) h0 ▸ hmem
  rcases List.mem_cons.1 hm2 with h | h
  · rw [h]; exact List.mem_cons_self ..
  · obtain ⟨p, hp, hk⟩ := List.mem_flatMap.1 h
    refine List.mem_cons_of_mem _ (List.mem_flatMap.2 ⟨p, ?_, hk⟩)
    have hlen : (stL set q)[m].length = p.length + 1 := by
      unfold kids4 kidsL at hk
      split at hk
      · obtain ⟨c, _, hc⟩ := List.mem_map.1 (List.mem_filter.1 hk).1
        rw [← hc]; simp
      · cases hk
    obtain ⟨j, hj, rfl⟩ := List.mem_iff_getElem.1 hp
    rw [List.mem_take_iff_getElem]
    refine ⟨j, ?_, rfl⟩
    rcases Nat.lt_or_ge j m with h1 | h1
    · omega
    · exfalso
      rcases Nat.lt_or_eq_of_le h1 with h2 | h2
      · have := List.pairwise_iff_getElem.1 (stL_sorted set q) m j hm hj h2
        omega
      · subst h2; omega
theorem known_gt {set : List Str} {q : Nat} (hq : q ≤ 3) (h0 : okL set [] = true) {i : Nat} (hi : i < (stL set q).length) : i < (knownL set q i).length := by
  rcases Nat.lt_or_ge i (knownL set q i).length with h | h
  · exact h
  · exfalso
    obtain ⟨m, hm⟩ : ∃ m, m = (knownL set q i).length := ⟨_, rfl⟩
    have hmi : m < (stL set q).length := by omega
    have h1 := (known_mono (set := set) (q := q) (show m ≤ i by omega)).subset (parent_first h0 hmi)
    obtain ⟨j, hj, e⟩ := List.mem_iff_getElem.1 h1
    have hp := known_prefix (q := q) h0 i
    have e2 := hp.getElem hj
    rw [e2] at e
    have hne : j ≠ m := by omega
    rcases Nat.lt_or_gt_of_ne hne with h3 | h3
    · exact List.pairwise_iff_getElem.1 (stL_nodup set hq) j m (by omega) hmi h3 e
    · exact List.pairwise_iff_getElem.1 (stL_nodup set hq) m j hmi (by omega) h3 e.symm
theorem known_at {set : List Str} {q : Nat} (hq : q ≤ 3) (h0 : okL set [] = true) {i : Nat} (hi : i < (stL set q).length) : (knownL set q i)[i]'(known_gt hq h0 hi) = (stL set q)[i] :=
  (known_prefix h0 i).getElem _
/-- What is remembered of a word. -/
def last4 (s : Str) : Str := s.drop (s.length - 4)
theorem last4_short {s : Str} (h : s.length ≤ 4) : last4 s = s := by
  unfold last4
  rw [show s.length - 4 = 0 by omega, List.drop_zero]
theorem last4_mem {set : List Str} {q c : Nat} {s : Str} (hs : s ∈ stL set q) (hc : c < q) (hok : okL set (s ++ [ltr c]) = true) : last4 (s ++ [ltr c]) ∈ stL set q := by
  obtain ⟨h1, h2, _⟩ := mem_stL.1 hs
  refine mem_stL.2 ⟨?_, fun b hb => ?_, ok_infix (List.drop_suffix _ _).isInfix hok⟩
  · unfold last4; simp; omega
  · have := List.mem_of_mem_drop hb
    rcases List.mem_append.1 this with h | h
    · exact h2 b h
    · exact ⟨c, hc, List.mem_singleton.1 h⟩
/-- The state to which a letter leads; -1 where a pattern is read. -/
def toL (set : List Str) (q : Nat) (s : Str) (c : Nat) : Int := if okL set (s ++ [ltr c]) = true then (((stL set q).idxOf (last4 (s ++ [ltr c])) : Nat) : Int) else -1
def rowL (set : List Str) (q : Nat) (s : Str) : List Int := (List.range q).map (toL set q s)
def tabL (set : List Str) (q : Nat) : List (List Int) := (stL set q).map (rowL set q)
theorem toL_range {set : List Str} {q c : Nat} {s : Str} (hs : s ∈ stL set q) (hc : c < q) : toL set q s c = -1 ∨ (0 ≤ toL set q s c ∧ toL set q s c < (stL set q).length) := by
  unfold toL
  split
  · rename_i h
    have := List.idxOf_lt_length_of_mem (last4_mem hs hc h)
    exact .inr ⟨by omega, by omega⟩
  · exact .inl rfl
/-- Of a state, the kids that the first letters make. -/
def kidsTo (set : List Str) (q : Nat) (s : Str) (c : Nat) : List Str := if s.length < 4 then ((List.range c).map fun c => s ++ [ltr c]).filter (okL set) else []
set_option linter.unusedVariables false
theorem kidsTo_zero (set : List Str) (q : Nat) (s : Str) : kidsTo set q s 0 = [] := by unfold kidsTo; split <;> rfl
theorem kidsTo_all (set : List Str) (q : Nat) (s : Str) : kidsTo set q s q = kids4 set q s := rfl
theorem kidsTo_bad {set : List Str} {q c : Nat} {s : Str} (h : okL set (s ++ [ltr c]) = false) : kidsTo set q s (c + 1) = kidsTo set q s c := by
  unfold kidsTo
  split
  · rw [List.range_succ, List.map_append, List.filter_append]
    simp [h]
  · rfl
theorem kidsTo_new {set : List Str} {q c : Nat} {s : Str} (hl : s.length < 4) (h : okL set (s ++ [ltr c]) = true) : kidsTo set q s (c + 1) = kidsTo set q s c ++ [s ++ [ltr c]] := by
  unfold kidsTo
  rw [if_pos hl, if_pos hl, List.range_succ, List.map_append, List.filter_append]
  simp [h]
theorem kidsTo_old {set : List Str} {q c : Nat} {s : Str} (hl : ¬ s.length < 4) : kidsTo set q s (c + 1) = kidsTo set q s c := by
  unfold kidsTo
  rw [if_neg hl, if_neg hl]
theorem kidsTo_prefix {set : List Str} {q : Nat} {s : Str} : ∀ {c d : Nat}, c ≤ d → kidsTo set q s c <+: kidsTo set q s d := by
  intro c d h
  unfold kidsTo
  split
  · have e : List.range d = List.range c ++ (List.range (d - c)).map (c + ·) := by
      rw [← List.range_add, Nat.add_sub_cancel' h]
    rw [e, List.map_append, List.filter_append]
    exact ⟨_, rfl⟩
  · exact List.prefix_refl _
/-- Within the round at place i, behind c letters: what is known lies ahead in the list of all. -/
theorem round_prefix {set : List Str} {q i c : Nat} (h0 : okL set [] = true) (hi : i < (stL set q).length) (hc : c ≤ q) : knownL set q i ++ kidsTo set q (stL set q)[i] c <+: stL set q := by
  refine List.IsPrefix.trans ?_ (known_prefix h0 (i + 1))
  rw [known_succ hi, ← kidsTo_all]
  exact List.prefix_append_right_inj _ |>.2 (kidsTo_prefix hc)
/-- A letter whose state is new: it stands at the end of what is known. -/
theorem round_new {set : List Str} {q i c : Nat} (hq : q ≤ 3) (h0 : okL set [] = true) (hi : i < (stL set q).length) (hc : c < q) (hl : (stL set q)[i].length < 4) (hok : okL set ((stL set q)[i] ++ [ltr c]) = true) :
    (stL set q)[i] ++ [ltr c] ∉ knownL set q i ++ kidsTo set q (stL set q)[i] c ∧ (stL set q).idxOf (last4 ((stL set q)[i] ++ [ltr c])) = (knownL set q i ++ kidsTo set q (stL set q)[i] c).length := by
  have hp := round_prefix (c := c + 1) h0 hi hc
  rw [kidsTo_new hl hok, ← List.append_assoc] at hp
  rw [last4_short (by simp; omega)]
  generalize knownL set q i ++ kidsTo set q (stL set q)[i] c = K at *
  generalize (stL set q)[i] ++ [ltr c] = t at *
  obtain ⟨r, hr⟩ := hp
  have hn := stL_nodup set hq
  rw [← hr] at hn ⊢
  have hk : t ∉ K := by
    rw [List.append_assoc] at hn
    intro hk
    exact (List.nodup_append.1 hn).2.2 t hk t (by simp) rfl
  refine ⟨hk, ?_⟩
  rw [List.append_assoc, List.idxOf_append, if_neg hk]
  simp
/-- A letter whose state is known already. -/
theorem round_old {set : List Str} {q i c : Nat} (h0 : okL set [] = true) (hi : i < (stL set q).length) (hl : ¬ (stL set q)[i].length < 4) : knownL set q i = stL set q ∧ kidsTo set q (stL set q)[i] c = [] := by
  refine ⟨?_, by unfold kidsTo; rw [if_neg hl]⟩
  have h := stL_fix (q := q) h0
  rw [← List.take_append_drop i (stL set q), List.flatMap_append] at h
  have h2 : ((stL set q).drop i).flatMap (kids4 set q) = [] := by
    rw [List.flatMap_eq_nil_iff]
    intro s hs
    obtain ⟨j, hj, rfl⟩ := List.mem_iff_getElem.1 hs
    rw [List.length_drop] at hj
    unfold kids4
    rw [if_neg]
    rw [List.getElem_drop]
    rcases Nat.eq_zero_or_pos j with h3 | h3
    · subst h3; exact hl
    · have := List.pairwise_iff_getElem.1 (stL_sorted set q) i (i + j) hi (by omega) (by omega)
      omega
  rw [h2, List.append_nil, List.take_append_drop] at h
  exact h.symm
end Go.Proofs.Ytnamafakjkcmjaa

namespace Go.Proofs.Ytnamafakjkcmjaa
open Go
set_option linter.unusedVariables false

/-- The letters that can come, with the states to which they lead. -/
def stepsL (row : List Int) : List (Nat × Nat) := row.zipIdx.filterMap fun p => if 0 ≤ p.1 then some (p.2, p.1.toNat) else none
abbrev Tab := List (List Int)
def stp (T : Tab) (i : Nat) : List (Nat × Nat) := stepsL (T.getD i [])
theorem mem_steps {row : List Int} {c j : Nat} : (c, j) ∈ stepsL row ↔ row[c]? = some (j : Int) := by
  unfold stepsL
  rw [List.mem_filterMap]
  constructor
  · rintro ⟨⟨x, k⟩, h, e⟩
    have h2 := List.mk_mem_zipIdx_iff_getElem?.1 h
    by_cases hx : 0 ≤ x
    · rw [if_pos hx] at e
      simp only [Option.some.injEq, Prod.mk.injEq] at e
      obtain ⟨rfl, rfl⟩ := e
      rw [h2]
      congr 1
      omega
    · rw [if_neg hx] at e; cases e
  · intro h
    refine ⟨((j : Int), c), List.mk_mem_zipIdx_iff_getElem?.2 h, ?_⟩
    rw [if_pos (by omega)]
    simp
/-- A table over n states and q letters. -/
structure TabOk (T : Tab) (n q : Nat) : Prop where
  len : T.length = n
  row : ∀ r ∈ T, r.length = q
  to : ∀ r ∈ T, ∀ x ∈ r, x = -1 ∨ (0 ≤ x ∧ x < n)
theorem TabOk.at {T : Tab} {n q i : Nat} (h : TabOk T n q) (hi : i < n) : (T.getD i []).length = q ∧ ∀ x ∈ T.getD i [], x = -1 ∨ (0 ≤ x ∧ x < n) := by
  have hi' : i < T.length := by rw [h.len]; exact hi
  have e : T.getD i [] = T[i] := by rw [List.getD_eq_getElem?_getD, List.getElem?_eq_getElem hi']; rfl
  rw [e]
  exact ⟨h.row _ (List.getElem_mem hi'), h.to _ (List.getElem_mem hi')⟩
theorem TabOk.stp {T : Tab} {n q i c j : Nat} (h : TabOk T n q) (hi : i < n) (hm : (c, j) ∈ stp T i) : c < q ∧ j < n := by
  obtain ⟨h1, h2⟩ := h.at hi
  have h3 := mem_steps.1 hm
  obtain ⟨h4, h5⟩ := List.getElem?_eq_some_iff.1 h3
  refine ⟨by omega, ?_⟩
  have := h2 (j : Int) (h5 ▸ List.getElem_mem h4)
  omega
def can (T : Tab) : Nat → Nat → Bool
  | 0, _ => true
  | m + 1, i => (stp T i).any fun p => can T m p.2
theorem can_zero (T : Tab) (i : Nat) : can T 0 i = true := rfl
theorem can_succ {T : Tab} {m i : Nat} : can T (m + 1) i = true ↔ ∃ c j, (c, j) ∈ stp T i ∧ can T m j = true := by
  rw [show can T (m + 1) i = (stp T i).any fun p => can T m p.2 from rfl, List.any_eq_true]
  constructor
  · rintro ⟨⟨c, j⟩, h1, h2⟩; exact ⟨c, j, h1, h2⟩
  · rintro ⟨c, j, h1, h2⟩; exact ⟨(c, j), h1, h2⟩
theorem can_less {T : Tab} : ∀ {m i : Nat}, can T (m + 1) i = true → can T m i = true
  | 0, i, _ => rfl
  | m + 1, i, h => by
    obtain ⟨c, j, h1, h2⟩ := can_succ.1 h
    exact can_succ.2 ⟨c, j, h1, can_less h2⟩
theorem can_le {T : Tab} {m k i : Nat} (hk : k ≤ m) (h : can T m i = true) : can T k i = true := by
  induction m with
  | zero => obtain rfl : k = 0 := by omega
            exact h
  | succ m ih =>
    rcases Nat.lt_or_eq_of_le hk with h1 | h1
    · exact ih (by omega) (can_less h)
    · rw [h1]; exact h
/-- v letters at most; -1: as many as one likes. -/
def Lng (T : Tab) (i : Nat) (v : Int) : Prop := (v = -1 ∧ ∀ m, can T m i = true) ∨ ∃ m : Nat, v = m ∧ can T m i = true ∧ can T (m + 1) i = false
theorem Lng.ge {T : Tab} {i : Nat} {v : Int} (h : Lng T i v) : -1 ≤ v := by
  rcases h with ⟨rfl, _⟩ | ⟨m, rfl, _⟩
  · exact Int.le_refl _
  · omega
theorem Lng.one {T : Tab} {i : Nat} {v u : Int} (h : Lng T i v) (k : Lng T i u) : v = u := by
  rcases h with ⟨rfl, h⟩ | ⟨m, rfl, h, h'⟩ <;> rcases k with ⟨rfl, k⟩ | ⟨n, rfl, k, k'⟩
  · rfl
  · rw [h] at k'; cases k'
  · rw [k] at h'; cases h'
  · rcases Nat.lt_trichotomy m n with e | e | e
    · rw [can_le (show m + 1 ≤ n by omega) k] at h'; cases h'
    · rw [e]
    · rw [can_le (show n + 1 ≤ m by omega) h] at k'; cases k'
theorem Lng.can_iff {T : Tab} {i : Nat} {v : Int} (h : Lng T i v) (m : Nat) : can T m i = true ↔ (v < 0 ∨ (m : Int) ≤ v) := by
  rcases h with ⟨rfl, h⟩ | ⟨k, rfl, h, h'⟩
  · exact ⟨fun _ => .inl (by omega), fun _ => h m⟩
  · constructor
    · intro hm
      rcases Nat.lt_or_ge k m with e | e
      · rw [can_le (show k + 1 ≤ m by omega) hm] at h'; cases h'
      · exact .inr (by omega)
    · rintro (e | e)
      · omega
      · exact can_le (by omega) h
/-- Ways of so many steps. -/
def PathN (T : Tab) : Nat → Nat → Nat → Prop
  | 0, i, j => i = j
  | m + 1, i, j => ∃ c k, (c, k) ∈ stp T i ∧ PathN T m k j
theorem PathN.snoc {T : Tab} : ∀ {m i j c k : Nat}, PathN T m i j → (c, k) ∈ stp T j → PathN T (m + 1) i k
  | 0, i, j, c, k, h, hk => by
    obtain rfl : i = j := h
    exact ⟨c, k, hk, rfl⟩
  | m + 1, i, j, c, k, ⟨c', k', h1, h2⟩, hk => ⟨c', k', h1, PathN.snoc h2 hk⟩
theorem can_path {T : Tab} : ∀ {m i j n : Nat}, PathN T m i j → can T n j = true → can T (m + n) i = true
  | 0, i, j, n, h, hn => by
    obtain rfl : i = j := h
    rw [Nat.zero_add]; exact hn
  | m + 1, i, j, n, ⟨c, k, h1, h2⟩, hn => by
    rw [show m + 1 + n = (m + n) + 1 by omega]
    exact can_succ.2 ⟨c, k, h1, can_path h2 hn⟩
theorem PathN.endless {T : Tab} {m i : Nat} (h : PathN T (m + 1) i i) : ∀ n, can T n i = true
  | 0 => rfl
  | n + 1 => can_le (show n + 1 ≤ m + 1 + n by omega) (can_path h (PathN.endless h n))
theorem endless_up {T : Tab} {i c j : Nat} (h : (c, j) ∈ stp T i) (hj : ∀ n, can T n j = true) : ∀ n, can T n i = true
  | 0 => rfl
  | n + 1 => can_succ.2 ⟨c, j, h, hj n⟩
/-- What the loop over the steps of a state has found. -/
def Best (T : Tab) (pre : List (Nat × Nat)) (M : Int) : Prop := ∃ N : Nat, M = N ∧ (N = 0 ∨ ∃ p ∈ pre, Lng T p.2 ((N : Int) - 1)) ∧ ∀ p ∈ pre, ∃ v : Nat, Lng T p.2 v ∧ v + 1 ≤ N
theorem Best.start (T : Tab) : Best T [] 0 := ⟨0, rfl, .inl rfl, fun p h => by cases h⟩
theorem Best.push {T : Tab} {pre : List (Nat × Nat)} {M v : Int} {c j : Nat} (h : Best T pre M) (hv : Lng T j v) (h0 : 0 ≤ v) : Best T (pre ++ [(c, j)]) (max M (v + 1)) := by
  obtain ⟨N, rfl, h1, h2⟩ := h
  obtain ⟨u, rfl⟩ : ∃ u : Nat, v = u := ⟨v.toNat, by omega⟩
  refine ⟨max N (u + 1), by omega, ?_, ?_⟩
  · rcases Nat.le_total N (u + 1) with e | e
    · rw [Nat.max_eq_right e]
      exact .inr ⟨(c, j), by simp, by rw [show (((u + 1 : Nat) : Int) - 1) = u by omega]; exact hv⟩
    · rw [Nat.max_eq_left e]
      rcases h1 with h1 | ⟨p, hp, hl⟩
      · exact .inl h1
      · exact .inr ⟨p, List.mem_append_left _ hp, hl⟩
  · intro p hp
    rcases List.mem_append.1 hp with hp | hp
    · obtain ⟨x, hx, hle⟩ := h2 p hp
      exact ⟨x, hx, by omega⟩
    · obtain rfl := List.mem_singleton.1 hp
      exact ⟨u, hv, by omega⟩
theorem Best.all {T : Tab} {i : Nat} {M : Int} (h : Best T (stp T i) M) : Lng T i M := by
  obtain ⟨N, rfl, h1, h2⟩ := h
  refine .inr ⟨N, rfl, ?_, ?_⟩
  · rcases h1 with rfl | ⟨⟨c, j⟩, hp, hl⟩
    · rfl
    · rcases hl with ⟨e, hc⟩ | ⟨m, e, hc, _⟩
      · obtain rfl : N = 0 := by omega
        rfl
      · obtain rfl : N = m + 1 := by omega
        exact can_succ.2 ⟨c, j, hp, hc⟩
  · cases hc : can T (N + 1) i with
    | false => rfl
    | true =>
      obtain ⟨c, j, hp, hj⟩ := can_succ.1 hc
      obtain ⟨v, hv, hle⟩ := h2 _ hp
      have := (hv.can_iff N).1 hj
      omega
/-- What is known on the way: -2 at the states on the way, else how many letters can come. -/
structure Known (T : Tab) (n : Nat) (K : Nat → Option Int) (st : List Nat) : Prop where
  way : ∀ k ∈ st, K k = some (-2)
  old : ∀ k v, K k = some v → (v = -2 ∧ k ∈ st) ∨ Lng T k v
  lt : ∀ k v, K k = some v → k < n
def setK (K : Nat → Option Int) (i : Nat) (v : Int) : Nat → Option Int := fun k => if k = i then some v else K k
theorem setK_same (K : Nat → Option Int) (i : Nat) (v : Int) : setK K i v i = some v := if_pos rfl
theorem setK_other (K : Nat → Option Int) {i k : Nat} (v : Int) (h : k ≠ i) : setK K i v k = K k := if_neg h
def freeK (n : Nat) (K : Nat → Option Int) : Nat := (List.range n).countP fun k => (K k).isNone
theorem free_set {n i : Nat} {K : Nat → Option Int} (v : Int) (hi : i < n) (h : K i = none) : freeK n (setK K i v) < freeK n K := by
  unfold freeK
  induction n with
  | zero => omega
  | succ n ih =>
    rw [List.range_succ, List.countP_append, List.countP_append, List.countP_singleton, List.countP_singleton]
    by_cases e : i = n
    · subst e
      rw [setK_same, h]
      have : (List.range i).countP (fun k => (setK K i v k).isNone) = (List.range i).countP fun k => (K k).isNone := by
        apply List.countP_congr
        intro k hk
        rw [setK_other K v (by have := List.mem_range.1 hk; omega)]
      rw [this]
      simp
    · have := ih (by omega)
      rw [setK_other K v (Ne.symm e)]
      omega
theorem free_le {n : Nat} {K K' : Nat → Option Int} (h : ∀ k v, K k = some v → (K' k).isSome = true) : freeK n K' ≤ freeK n K := by
  unfold freeK
  apply List.countP_mono_left
  intro k _ hk
  cases hc : K k with
  | none => rfl
  | some v =>
    have := h k v hc
    rw [Option.isNone_iff_eq_none] at hk
    rw [hk] at this
    cases this
theorem Known.start (T : Tab) (n : Nat) : Known T n (fun _ => none) [] :=
  ⟨fun k h => absurd h List.not_mem_nil, fun k v h => absurd h (by simp), fun k v h => absurd h (by simp)⟩
theorem Known.enter {T : Tab} {n i : Nat} {K : Nat → Option Int} {st : List Nat} (h : Known T n K st) (hi : i < n) (hn : K i = none) : Known T n (setK K i (-2)) (i :: st) := by
  refine ⟨fun k hk => ?_, fun k v hk => ?_, fun k v hk => ?_⟩
  · by_cases e : k = i
    · rw [e, setK_same]
    · rw [setK_other _ _ e]
      rcases List.mem_cons.1 hk with h1 | h1
      · exact absurd h1 e
      · exact h.way k h1
  · by_cases e : k = i
    · rw [e, setK_same] at hk
      injection hk with hk
      exact .inl ⟨hk.symm, by rw [e]; exact List.mem_cons_self ..⟩
    · rw [setK_other _ _ e] at hk
      rcases h.old k v hk with ⟨h1, h2⟩ | h1
      · exact .inl ⟨h1, List.mem_cons_of_mem _ h2⟩
      · exact .inr h1
  · by_cases e : k = i
    · rw [e]; exact hi
    · rw [setK_other _ _ e] at hk
      exact h.lt k v hk
theorem Known.leave {T : Tab} {n i : Nat} {K : Nat → Option Int} {st : List Nat} {v : Int} (h : Known T n K (i :: st)) (hi : i < n) (hst : i ∉ st) (hv : Lng T i v) : Known T n (setK K i v) st := by
  refine ⟨fun k hk => ?_, fun k u hk => ?_, fun k u hk => ?_⟩
  · rw [setK_other _ _ (fun e => by subst e; exact hst hk)]
    exact h.way k (List.mem_cons_of_mem _ hk)
  · by_cases e : k = i
    · rw [e, setK_same] at hk
      injection hk with hk
      rw [e, ← hk]
      exact .inr hv
    · rw [setK_other _ _ e] at hk
      rcases h.old k u hk with ⟨h1, h2⟩ | h1
      · rcases List.mem_cons.1 h2 with h3 | h3
        · exact absurd h3 e
        · exact .inl ⟨h1, h3⟩
      · exact .inr h1
  · by_cases e : k = i
    · rw [e]; exact hi
    · rw [setK_other _ _ e] at hk
      exact h.lt k u hk
/-- The greedy way: the first letter behind which just so many letters can come. -/
def firstG (p : Nat → Bool) : List (Nat × Nat) → Option (Nat × Nat)
  | [] => none
  | (c, j) :: l => if p j then some (c, j) else firstG p l
/-- The first word of m letters from a state on. -/
def wayL (T : Tab) : Nat → Nat → Str
  | 0, _ => []
  | m + 1, i => match firstG (can T m) (stp T i) with
    | some (c, j) => ltr c :: wayL T m j
    | none => []
theorem firstG_some {p : Nat → Bool} : ∀ {l : List (Nat × Nat)}, (∃ c j, (c, j) ∈ l ∧ p j = true) → ∃ c j, firstG p l = some (c, j) ∧ (c, j) ∈ l ∧ p j = true
  | [], ⟨c, j, h, _⟩ => by cases h
  | (c, j) :: l, ⟨c', j', h, hp⟩ => by
    cases hj : p j with
    | true => exact ⟨c, j, by unfold firstG; rw [if_pos hj], List.mem_cons_self .., hj⟩
    | false =>
      have : ∃ c j, (c, j) ∈ l ∧ p j = true := by
        rcases List.mem_cons.1 h with e | e
        · injection e with e1 e2
          subst e2
          rw [hj] at hp; cases hp
        · exact ⟨c', j', e, hp⟩
      obtain ⟨a, b, h1, h2, h3⟩ := firstG_some this
      exact ⟨a, b, by unfold firstG; rw [if_neg (by simp [hj])]; exact h1, List.mem_cons_of_mem _ h2, h3⟩
theorem firstG_skip {p : Nat → Bool} : ∀ (pre l : List (Nat × Nat)), (∀ x ∈ pre, p x.2 = false) → firstG p (pre ++ l) = firstG p l
  | [], l, _ => rfl
  | (c, j) :: pre, l, h => by
    rw [List.cons_append, firstG, if_neg (by rw [h (c, j) (List.mem_cons_self ..)]; simp)]
    exact firstG_skip pre l fun x hx => h x (List.mem_cons_of_mem _ hx)
theorem firstG_congr {p q : Nat → Bool} : ∀ {l : List (Nat × Nat)}, (∀ x ∈ l, p x.2 = q x.2) → firstG p l = firstG q l
  | [], _ => rfl
  | (c, j) :: l, h => by
    unfold firstG
    have h1 := h (c, j) (List.mem_cons_self ..)
    simp only at h1
    rw [h1, firstG_congr fun x hx => h x (List.mem_cons_of_mem _ hx)]
theorem wayL_len (T : Tab) : ∀ (m i : Nat), can T m i = true → (wayL T m i).length = m
  | 0, _, _ => rfl
  | m + 1, i, h => by
    obtain ⟨c, j, h1, _, h3⟩ := firstG_some (can_succ.1 h)
    unfold wayL
    rw [h1]
    simp [wayL_len T m j h3]
end Go.Proofs.Ytnamafakjkcmjaa

namespace Go.Proofs.Ytnamafakjkcmjaa
open Go
set_option linter.unusedVariables false

def bs (l : Str) : ByteArray := ⟨l.toArray⟩
def sb (s : ByteArray) : Str := s.data.toList
theorem sb_bs (l : Str) : sb (bs l) = l := rfl
theorem bs_sb (s : ByteArray) : bs (sb s) = s := rfl
theorem sb_size (s : ByteArray) : (sb s).length = s.size := rfl
theorem sb_inj {s t : ByteArray} (h : sb s = sb t) : s = t := by rw [← bs_sb s, h, bs_sb]
theorem sb_append (s t : ByteArray) : sb (s ++ t) = sb s ++ sb t := by
  unfold sb
  simp
theorem sb_get (s : ByteArray) (i : Nat) (h : i < s.size) : s.get! i = (sb s)[i]'(by rw [sb_size]; exact h) := by
  have h2 : i < s.data.size := h
  have e : s.get! i = s.data[i]! := rfl
  rw [e, getElem!_pos s.data i h2]
  rfl
/-- Is a byte one of the first q letters? -/
def letB (q : Nat) (b : UInt8) : Bool := decide (97 ≤ b.toNat) && decide (b.toNat < 97 + q)
def lettB (q : Nat) (s : Str) : Bool := s.all (letB q)
theorem letB_iff {q : Nat} (hq : q ≤ 3) (b : UInt8) : letB q b = true ↔ ∃ c, c < q ∧ b = ltr c := by
  unfold letB
  rw [Bool.and_eq_true, decide_eq_true_iff, decide_eq_true_iff]
  constructor
  · rintro ⟨h1, h2⟩
    refine ⟨b.toNat - 97, by omega, ?_⟩
    apply UInt8.toNat_inj.1
    unfold ltr
    rw [UInt8.toNat_ofNat_of_lt' (by simp [UInt8.size]; omega)]
    omega
  · rintro ⟨c, hc, rfl⟩
    unfold ltr
    rw [UInt8.toNat_ofNat_of_lt' (by simp [UInt8.size]; omega)]
    omega
theorem lettB_iff {q : Nat} (hq : q ≤ 3) (s : Str) : lettB q s = true ↔ Lett q s := by
  unfold lettB Lett
  rw [List.all_eq_true]
  exact ⟨fun h b hb => (letB_iff hq b).1 (h b hb), fun h b hb => (letB_iff hq b).2 (h b hb)⟩
/-- What is asked of each rune. -/
def badR (q : Nat) (x : Nat) : Bool := decide (x < 97) || decide (97 + q ≤ x)
theorem badR_ascii (q : Nat) (b : UInt8) : badR q b.toNat = !letB q b := by
  unfold badR letB
  by_cases h1 : b.toNat < 97 <;> by_cases h2 : 97 + q ≤ b.toNat <;> simp [h1, h2] <;> omega
theorem decode_wide (s : ByteArray) (i : Nat) (h : 128 ≤ (s.get! i).toNat) : 128 ≤ (Utf8.decode s i).1 := by
  unfold Utf8.decode
  simp only [Nat.add_zero, Utf8.runeError]
  rw [if_neg (by omega)]
  split
  · split <;> simp_all
  · split
    · split <;> simp_all; omega
    · split
      · split <;> simp_all; omega
      · simp
theorem decode_low (s : ByteArray) (i : Nat) (h : (s.get! i).toNat < 128) : Utf8.decode s i = ((s.get! i).toNat, 1) := by
  unfold Utf8.decode
  simp only [Nat.add_zero]
  rw [if_pos h]
theorem idx_from {q : Nat} (hq : q ≤ 3) (s : ByteArray) : ∀ (f pos : Nat), s.size - pos ≤ f → (0 ≤ Lib.idxFuncFrom (badR q) true s f pos ↔ ∃ i, pos ≤ i ∧ i < s.size ∧ letB q (s.get! i) = false)
  | 0, pos, hf => by
    unfold Lib.idxFuncFrom
    constructor
    · intro h; omega
    · rintro ⟨i, h1, h2, _⟩; omega
  | f + 1, pos, hf => by
    unfold Lib.idxFuncFrom
    by_cases hp : pos < s.size
    · rw [if_pos hp]
      by_cases hb : (s.get! pos).toNat < 128
      · rw [decode_low s pos hb]
        simp only
        rw [badR_ascii]
        cases hl : letB q (s.get! pos) with
        | true =>
          simp only [Bool.not_true, Bool.false_eq_true, if_false]
          rw [idx_from hq s f (pos + 1) (by omega)]
          constructor
          · rintro ⟨i, h1, h2⟩; exact ⟨i, by omega, h2⟩
          · rintro ⟨i, h1, h2, h3⟩
            refine ⟨i, ?_, h2, h3⟩
            rcases Nat.lt_or_eq_of_le h1 with h4 | h4
            · exact h4
            · subst h4; rw [hl] at h3; cases h3
        | false =>
          simp only [Bool.not_false, if_true]
          exact ⟨fun _ => ⟨pos, Nat.le_refl _, hp, hl⟩, fun _ => by omega⟩
      · have hw := decode_wide s pos (by omega)
        have hbad : badR q (Utf8.decode s pos).1 = true := by
          unfold badR
          rw [Bool.or_eq_true, decide_eq_true_iff, decide_eq_true_iff]
          omega
        rw [hbad, if_pos rfl]
        refine ⟨fun _ => ⟨pos, Nat.le_refl _, hp, ?_⟩, fun _ => by omega⟩
        unfold letB
        rw [Bool.and_eq_false_iff, decide_eq_false_iff_not, decide_eq_false_iff_not]
        omega
    · rw [if_neg hp]
      constructor
      · intro h; omega
      · rintro ⟨i, h1, h2, _⟩; omega
theorem idx_letters {q : Nat} (hq : q ≤ 3) (s : ByteArray) : decide (0 ≤ Lib.idxFunc (badR q) true s) = !lettB q (sb s) := by
  have h := idx_from hq s s.size 0 (by omega)
  unfold Lib.idxFunc
  suffices hs : (¬ (0 ≤ Lib.idxFuncFrom (badR q) true s s.size 0)) ↔ lettB q (sb s) = true by
    cases hc : lettB q (sb s) with
    | true => rw [hc] at hs; simp [hs.2 rfl]
    | false => rw [hc] at hs; simp at hs; simp [hs]
  rw [h]
  unfold lettB
  rw [List.all_eq_true]
  constructor
  · intro hn b hb
    obtain ⟨i, hi, rfl⟩ := List.mem_iff_getElem.1 hb
    rw [sb_size] at hi
    cases hl : letB q (sb s)[i] with
    | true => rfl
    | false =>
      refine absurd ⟨i, Nat.zero_le _, hi, ?_⟩ hn
      rw [sb_get s i hi]; exact hl
  · rintro ha ⟨i, _, hi, hl⟩
    rw [sb_get s i hi] at hl
    rw [ha _ (List.getElem_mem _)] at hl
    cases hl
/-- A set of patterns: what is asked of the one at a place. -/
def goodB (q : Nat) (ss : List ByteArray) (j : Nat) : Bool :=
  (decide (1 ≤ (ss.getD j ByteArray.empty).size) && decide ((ss.getD j ByteArray.empty).size ≤ 5)) && (lettB q (sb (ss.getD j ByteArray.empty)) && (decide (j = 0) || Op.bytesLess (ss.getD (j - 1) ByteArray.empty).toList (ss.getD j ByteArray.empty).toList))
def setB (q : Int) (ss : List ByteArray) : Bool := (decide (1 ≤ q) && decide (q ≤ 3)) && (decide (ss.length ≤ 12) && (List.range ss.length).all (goodB q.toNat ss))
theorem setB_no {q : Int} {ss : List ByteArray} {j : Nat} (hj : j < ss.length) (h : goodB q.toNat ss j = false) : setB q ss = false := by
  unfold setB
  have : (List.range ss.length).all (goodB q.toNat ss) = false := by
    rw [List.all_eq_false]
    exact ⟨j, List.mem_range.2 hj, by simp [h]⟩
  rw [this]
  simp
theorem setB_yes {q : Int} {ss : List ByteArray} (h1 : 1 ≤ q) (h2 : q ≤ 3) (h3 : ss.length ≤ 12) (h : ∀ j, j < ss.length → goodB q.toNat ss j = true) : setB q ss = true := by
  unfold setB
  have : (List.range ss.length).all (goodB q.toNat ss) = true := by
    rw [List.all_eq_true]
    exact fun j hj => h j (List.mem_range.1 hj)
  rw [this]
  simp [h1, h2, h3]
theorem setB_parts {q : Int} {ss : List ByteArray} (h : setB q ss = true) : (1 ≤ q ∧ q ≤ 3) ∧ ss.length ≤ 12 ∧ ∀ j, j < ss.length → goodB q.toNat ss j = true := by
  unfold setB at h
  simp only [Bool.and_eq_true, decide_eq_true_iff, List.all_eq_true, List.mem_range] at h
  exact h
/-- The patterns as lists. -/
def pats (ss : List ByteArray) : List Str := ss.map sb
theorem pats_some {q : Int} {ss : List ByteArray} (h : setB q ss = true) : ∀ p ∈ pats ss, p ≠ [] := by
  intro p hp e
  obtain ⟨s, hs, rfl⟩ := List.mem_map.1 hp
  obtain ⟨j, hj, rfl⟩ := List.mem_iff_getElem.1 hs
  have := (setB_parts h).2.2 j hj
  unfold goodB at this
  simp only [Bool.and_eq_true, decide_eq_true_iff] at this
  have h1 := this.1.1
  rw [List.getD_eq_getElem?_getD, List.getElem?_eq_getElem hj] at h1
  simp only [Option.getD_some] at h1
  rw [← sb_size, e] at h1
  simp at h1
end Go.Proofs.Ytnamafakjkcmjaa

namespace Go.Proofs.Ytnamafakjkcmjaa
open Go
set_option linter.unusedVariables false

def cntC (T : Tab) (n m : Nat) : Nat := (List.range n).countP (can T m)
theorem cntC_less (T : Tab) (n m : Nat) : cntC T n (m + 1) ≤ cntC T n m :=
  List.countP_mono_left fun i _ h => can_less h
theorem countP_same {α : Type} {p q : α → Bool} : ∀ {l : List α}, (∀ x ∈ l, p x = true → q x = true) → l.countP p = l.countP q → ∀ x ∈ l, q x = true → p x = true
  | [], _, _, x, hx, _ => by cases hx
  | a :: l, h, e, x, hx, hq => by
    have hl : ∀ x ∈ l, p x = true → q x = true := fun x hx => h x (List.mem_cons_of_mem _ hx)
    have hle := List.countP_mono_left (p := p) (q := q) (l := l) hl
    rw [List.countP_cons, List.countP_cons] at e
    have ha := h a (List.mem_cons_self ..)
    cases hpa : p a with
    | true =>
      rw [hpa, ha hpa] at e
      simp only [if_true] at e
      rcases List.mem_cons.1 hx with rfl | hx
      · exact hpa
      · exact countP_same hl (by omega) x hx hq
    | false =>
      cases hqa : q a with
      | true => rw [hpa, hqa] at e; simp at e; omega
      | false =>
        rw [hpa, hqa] at e
        simp only [Bool.false_eq_true, if_false] at e
        rcases List.mem_cons.1 hx with rfl | hx
        · rw [hqa] at hq; cases hq
        · exact countP_same hl (by omega) x hx hq
def Stable (T : Tab) (n m : Nat) : Prop := ∀ i, i < n → can T m i = true → can T (m + 1) i = true
theorem stable_or {T : Tab} {n : Nat} : ∀ m, (∃ j, j ≤ m ∧ Stable T n j) ∨ cntC T n m + m ≤ n
  | 0 => .inr (by unfold cntC; have := List.countP_le_length (p := can T 0) (l := List.range n); simpa using this)
  | m + 1 => by
    rcases stable_or (T := T) (n := n) m with ⟨j, hj, hs⟩ | h
    · exact .inl ⟨j, by omega, hs⟩
    · have hl := cntC_less T n m
      rcases Nat.lt_or_eq_of_le hl with h1 | h1
      · exact .inr (by omega)
      · refine .inl ⟨m, by omega, fun i hi hc => ?_⟩
        exact countP_same (p := can T (m + 1)) (q := can T m) (fun x _ hx => can_less hx) h1 i (List.mem_range.2 hi) hc
theorem stable_up {T : Tab} {n q m : Nat} (hT : TabOk T n q) (h : Stable T n m) : Stable T n (m + 1) := by
  intro i hi hc
  obtain ⟨c, j, h1, h2⟩ := can_succ.1 hc
  exact can_succ.2 ⟨c, j, h1, h j (hT.stp hi h1).2 h2⟩
theorem stable_all {T : Tab} {n q m : Nat} (hT : TabOk T n q) (h : Stable T n m) : ∀ k, Stable T n (m + k)
  | 0 => h
  | k + 1 => stable_up hT (stable_all hT h k)
theorem stable_ever {T : Tab} {n q m i : Nat} (hT : TabOk T n q) (h : Stable T n m) (hi : i < n) (hc : can T m i = true) : ∀ k, can T (m + k) i = true
  | 0 => hc
  | k + 1 => stable_all hT h k i hi (stable_ever hT h hi hc k)
theorem can_ever {T : Tab} {n q i : Nat} (hT : TabOk T n q) (hi : i < n) (hc : can T n i = true) : ∀ k, can T k i = true := by
  intro k
  rcases stable_or (T := T) (n := n) n with ⟨j, hj, hs⟩ | h
  · exact can_le (show k ≤ j + k by omega) (stable_ever hT hs hi (can_le hj hc) k)
  · exfalso
    have h0 : cntC T n n = 0 := by omega
    unfold cntC at h0
    rw [List.countP_eq_zero] at h0
    exact h0 i (List.mem_range.2 hi) hc
theorem Lng.few {T : Tab} {n q i : Nat} {v : Int} (hT : TabOk T n q) (hi : i < n) (h : Lng T i v) : v < n := by
  rcases h with ⟨rfl, _⟩ | ⟨m, rfl, h1, h2⟩
  · omega
  · rcases Nat.lt_or_ge m n with h3 | h3
    · omega
    · have := can_ever hT hi (can_le h3 h1) (m + 1)
      rw [this] at h2; cases h2
theorem tab_ok {set : List Str} {q : Nat} (h0 : okL set [] = true) : TabOk (tabL set q) (stL set q).length q := by
  unfold tabL
  refine ⟨by simp, fun r hr => ?_, fun r hr x hx => ?_⟩
  · obtain ⟨s, _, rfl⟩ := List.mem_map.1 hr
    unfold rowL; simp
  · obtain ⟨s, hs, rfl⟩ := List.mem_map.1 hr
    obtain ⟨c, hc, rfl⟩ := List.mem_map.1 hx
    exact toL_range hs (List.mem_range.1 hc)
/-- What is known, as the program's map has it. -/
def mapN (K : Nat → Option Int) : Int → Option Int := fun x => if 0 ≤ x then K x.toNat else none
theorem mapN_at (K : Nat → Option Int) (i : Nat) : mapN K (i : Int) = K i := by unfold mapN; rw [if_pos (by omega)]; rfl
theorem mapN_set (K : Nat → Option Int) (i : Nat) (v : Int) (x : Int) : (if x = (i : Int) then some v else mapN K x) = mapN (setK K i v) x := by
  unfold mapN setK
  by_cases h : x = (i : Int)
  · subst h; rw [if_pos rfl, if_pos (by omega), if_pos (by omega)]
  · rw [if_neg h]
    by_cases h0 : 0 ≤ x
    · rw [if_pos h0, if_pos h0, if_neg (by omega)]
    · rw [if_neg h0, if_neg h0]
end Go.Proofs.Ytnamafakjkcmjaa
