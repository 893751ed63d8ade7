/-
  Words that avoid a set; the states in which they are read, in the order in which they are found. No program stands in this text.
-/
import Derived.Lib.IndexMore
namespace Go.Proofs.Ytpclkocfbkjabaa
open Go

abbrev Str := List UInt8
def ltr (c : Nat) : UInt8 := UInt8.ofNat (97 + c)
theorem ltr_inj {c d : Nat} (hc : c < 3) (hd : d < 3) (h : ltr c = ltr d) : c = d := by
  have h2 := congrArg UInt8.toNat h
  have e : ∀ k, k < 3 → (ltr k).toNat = 97 + k := fun k hk => by
    unfold ltr
    rw [UInt8.toNat_ofNat_of_lt' (by simp [UInt8.size]; omega)]
  rw [e c hc, e d hd] at h2
  omega
theorem contains_iff (s p : Str) : Lib.contains s p = true ↔ p <:+: s := by
  unfold Lib.contains
  rw [decide_eq_true_iff]
  constructor
  · intro h
    rcases Lib.index_spec s p with ⟨h1, _⟩ | ⟨i, h1, h2, h3, _⟩
    · omega
    · obtain ⟨t, ht⟩ := List.isPrefixOf_iff_prefix.1 h3
      exact ⟨s.take i, t, by rw [List.append_assoc, ht, List.take_append_drop]⟩
  · rintro ⟨a, b, rfl⟩
    rcases Lib.index_spec (a ++ p ++ b) p with ⟨_, h2⟩ | ⟨i, h1, _⟩
    · have h3 := h2 a.length (by simp <;> omega)
      have h4 : Lib.occAt (a ++ p ++ b) p a.length = true := by
        unfold Lib.occAt
        rw [List.isPrefixOf_iff_prefix]
        exact ⟨b, by simp⟩
      rw [h3] at h4
      cases h4
    · omega
/-- No pattern occurs. -/
def okL (set : List Str) (s : Str) : Bool := !set.any fun p => Lib.contains s p
theorem ok_infix {set : List Str} {s t : Str} (h : t <:+: s) (hs : okL set s = true) : okL set t = true := by
  unfold okL at *
  simp only [Bool.not_eq_true', List.any_eq_false] at *
  intro p hp hc
  exact hs p hp ((contains_iff s p).2 (((contains_iff t p).1 hc).trans h))
theorem ok_nil {set : List Str} (h : ∀ p ∈ set, p ≠ []) : okL set [] = true := by
  unfold okL
  simp only [Bool.not_eq_true', List.any_eq_false]
  intro p hp hc
  have := (contains_iff [] p).1 hc
  exact h p hp (List.infix_nil.1 this)
def wordsL (q : Nat) : Nat → List Str
  | 0 => [[]]
  | n + 1 => (wordsL q n).flatMap fun s => (List.range q).map fun c => s ++ [ltr c]
/-- Only the first q letters. -/
def Lett (q : Nat) (s : Str) : Prop := ∀ b ∈ s, ∃ c, c < q ∧ b = ltr c
theorem mem_words (q : Nat) : ∀ (n : Nat) (s : Str), s ∈ wordsL q n ↔ s.length = n ∧ Lett q s
  | 0, s => by
    simp only [wordsL, List.mem_singleton, List.length_eq_zero_iff]
    exact ⟨fun h => ⟨h, by subst h; intro b hb; cases hb⟩, fun h => h.1⟩
  | n + 1, s => by
    simp only [wordsL, List.mem_flatMap, List.mem_map, List.mem_range]
    constructor
    · rintro ⟨t, ht, c, hc, rfl⟩
      obtain ⟨h1, h2⟩ := (mem_words q n t).1 ht
      refine ⟨by simp [h1], fun b hb => ?_⟩
      rcases List.mem_append.1 hb with h | h
      · exact h2 b h
      · exact ⟨c, hc, List.mem_singleton.1 h⟩
    · rintro ⟨h1, h2⟩
      rcases List.eq_nil_or_concat s with rfl | ⟨t, b, rfl⟩
      · simp at h1
      · rw [List.concat_eq_append] at *
        obtain ⟨c, hc, rfl⟩ := h2 b (by simp)
        exact ⟨t, (mem_words q n t).2 ⟨by simpa using h1, fun b hb => h2 b (by simp [hb])⟩, c, hc, rfl⟩
theorem words_nodup {q : Nat} (hq : q ≤ 3) : ∀ n, (wordsL q n).Nodup
  | 0 => by simp [wordsL]
  | n + 1 => by
    unfold wordsL List.Nodup
    rw [List.pairwise_flatMap]
    refine ⟨fun s _ => ?_, (words_nodup hq n).imp ?_⟩
    · rw [List.pairwise_map]
      refine List.Pairwise.imp_of_mem ?_ List.nodup_range
      intro a b ha hb hne e
      have e2 := List.append_cancel_left e
      simp only [List.cons.injEq, and_true] at e2
      exact hne (ltr_inj (by have := List.mem_range.1 ha; omega) (by have := List.mem_range.1 hb; omega) e2)
    · intro s t hne x hx y hy e
      obtain ⟨c, _, rfl⟩ := List.mem_map.1 hx
      obtain ⟨d, _, rfl⟩ := List.mem_map.1 hy
      exact hne (List.append_inj_left' e rfl)
def lay (set : List Str) (q d : Nat) : List Str := (wordsL q d).filter (okL set)
theorem mem_lay {set : List Str} {q d : Nat} {s : Str} : s ∈ lay set q d ↔ s.length = d ∧ Lett q s ∧ okL set s = true := by
  unfold lay
  rw [List.mem_filter, mem_words, and_assoc]
def kidsL (set : List Str) (q : Nat) (s : Str) : List Str := ((List.range q).map fun c => s ++ [ltr c]).filter (okL set)
theorem kids_bad {set : List Str} {q : Nat} {s : Str} (h : okL set s = false) : kidsL set q s = [] := by
  unfold kidsL
  rw [List.filter_eq_nil_iff]
  intro t ht hok
  obtain ⟨c, _, rfl⟩ := List.mem_map.1 ht
  rw [ok_infix (List.prefix_append s [ltr c]).isInfix hok] at h
  cases h
theorem flatMap_filter_none {α β : Type} (p : α → Bool) (f : α → List β) (h : ∀ x, p x = false → f x = []) : ∀ l : List α, (l.filter p).flatMap f = l.flatMap f
  | [] => rfl
  | a :: l => by
    cases hp : p a with
    | true => rw [List.filter_cons_of_pos hp, List.flatMap_cons, List.flatMap_cons, flatMap_filter_none p f h l]
    | false => rw [List.filter_cons_of_neg (by simp [hp]), List.flatMap_cons, h a hp, flatMap_filter_none p f h l]; rfl
theorem lay_succ (set : List Str) (q d : Nat) : lay set q (d + 1) = (lay set q d).flatMap (kidsL set q) := by
  have e : lay set q (d + 1) = (wordsL q d).flatMap (kidsL set q) := by
    unfold lay
    rw [wordsL, List.filter_flatMap]
    rfl
  rw [e]
  unfold lay
  rw [flatMap_filter_none _ _ (fun s hs => kids_bad hs)]
/-- All states, in order. -/
def stL (set : List Str) (q : Nat) : List Str := (List.range 5).flatMap (lay set q)
theorem stL_eq (set : List Str) (q : Nat) : stL set q = lay set q 0 ++ (lay set q 1 ++ (lay set q 2 ++ (lay set q 3 ++ lay set q 4))) := by
  have e : List.range 5 = [0, 1, 2, 3, 4] := rfl
  unfold stL
  rw [e]
  simp [List.flatMap_cons]
theorem mem_stL {set : List Str} {q : Nat} {s : Str} : s ∈ stL set q ↔ s.length ≤ 4 ∧ Lett q s ∧ okL set s = true := by
  unfold stL
  rw [List.mem_flatMap]
  constructor
  · rintro ⟨d, hd, h⟩
    obtain ⟨h1, h2⟩ := mem_lay.1 h
    have := List.mem_range.1 hd
    exact ⟨by omega, h2⟩
  · rintro ⟨h1, h2⟩
    exact ⟨s.length, List.mem_range.2 (by omega), mem_lay.2 ⟨rfl, h2⟩⟩
theorem stL_sorted (set : List Str) (q : Nat) : (stL set q).Pairwise fun a b => a.length ≤ b.length := by
  unfold stL
  rw [List.pairwise_flatMap]
  refine ⟨fun d _ => List.Pairwise.imp_of_mem (R := fun _ _ => True) ?_ (List.pairwise_of_forall fun _ _ => trivial), ?_⟩
  · intro a b ha hb _
    rw [(mem_lay.1 ha).1, (mem_lay.1 hb).1]
    exact Nat.le_refl _
  · refine List.pairwise_lt_range.imp ?_
    intro d e hde x hx y hy
    rw [(mem_lay.1 hx).1, (mem_lay.1 hy).1]
    omega
theorem stL_nodup (set : List Str) {q : Nat} (hq : q ≤ 3) : (stL set q).Nodup := by
  unfold stL List.Nodup
  rw [List.pairwise_flatMap]
  refine ⟨fun d _ => (words_nodup hq d).filter _, ?_⟩
  refine List.pairwise_lt_range.imp ?_
  intro d e hde x hx y hy hxy
  have h1 := (mem_lay.1 hx).1
  have h2 := (mem_lay.1 hy).1
  rw [hxy] at h1
  omega
def kids4 (set : List Str) (q : Nat) (s : Str) : List Str := if s.length < 4 then kidsL set q s else []
theorem flatMap_same {α β : Type} {f g : α → List β} : ∀ {l : List α}, (∀ x ∈ l, f x = g x) → l.flatMap f = l.flatMap g
  | [], _ => rfl
  | a :: l, h => by rw [List.flatMap_cons, List.flatMap_cons, h a (List.mem_cons_self ..), flatMap_same fun x hx => h x (List.mem_cons_of_mem _ hx)]
theorem lay_kids {set : List Str} {q d : Nat} (hd : d < 4) : (lay set q d).flatMap (kids4 set q) = lay set q (d + 1) := by
  rw [lay_succ]
  refine flatMap_same fun s hs => ?_
  unfold kids4
  rw [if_pos (by rw [(mem_lay.1 hs).1]; exact hd)]
theorem lay_last {set : List Str} {q : Nat} : (lay set q 4).flatMap (kids4 set q) = [] := by
  rw [List.flatMap_eq_nil_iff]
  intro s hs
  unfold kids4
  rw [if_neg (by rw [(mem_lay.1 hs).1]; omega)]
theorem stL_fix {set : List Str} {q : Nat} (h0 : okL set [] = true) : stL set q = [] :: (stL set q).flatMap (kids4 set q) := by
  have e : lay set q 0 = [[]] := by unfold lay wordsL; simp [h0]
  rw [stL_eq, List.flatMap_append, List.flatMap_append, List.flatMap_append, List.flatMap_append, lay_kids (by omega), lay_kids (by omega), lay_kids (by omega), lay_kids (by omega), lay_last, e]
  simp
/-- The states that are known when those before place i were looked at. -/
def knownL (set : List Str) (q i : Nat) : List Str := [] :: ((stL set q).take i).flatMap (kids4 set q)
theorem known_prefix {set : List Str} {q : Nat} (h0 : okL set [] = true) (i : Nat) : knownL set q i <+: stL set q := by
  refine ⟨((stL set q).drop i).flatMap (kids4 set q), ?_⟩
  unfold knownL
  rw [List.cons_append, ← List.flatMap_append, List.take_append_drop]
  exact (stL_fix h0).symm
theorem known_all {set : List Str} {q : Nat} (h0 : okL set [] = true) {i : Nat} (hi : (stL set q).length ≤ i) : knownL set q i = stL set q := by
  unfold knownL
  rw [List.take_of_length_le hi]
  exact (stL_fix h0).symm
theorem known_succ {set : List Str} {q : Nat} {i : Nat} (hi : i < (stL set q).length) : knownL set q (i + 1) = knownL set q i ++ kids4 set q (stL set q)[i] := by
  unfold knownL
  rw [List.take_succ_eq_append_getElem hi, List.flatMap_append]
  simp
theorem known_mono {set : List Str} {q i j : Nat} (h : i ≤ j) : knownL set q i <+: knownL set q j := by
  unfold knownL
  have e : (stL set q).take j = (stL set q).take i ++ ((stL set q).take j).drop i := by
    have := List.take_append_drop i ((stL set q).take j)
    rw [List.take_take, Nat.min_eq_left h] at this
    exact this.symm
  rw [e, List.flatMap_append]
  exact ⟨_, rfl⟩
theorem parent_first {set : List Str} {q : Nat} (h0 : okL set [] = true) {m : Nat} (hm : m < (stL set q).length) : (stL set q)[m] ∈ knownL set q m := by
  have hmem : (stL set q)[m] ∈ stL set q := List.getElem_mem hm
  have hm2 : (stL set q)[m] ∈ [] :: (stL set q).flatMap (kids4 set q) := stL_fix (q := q) h0 ▸ hmem
  rcases List.mem_cons.1 hm2 with h | h
  · rw [h]; exact List.mem_cons_self ..
  · obtain ⟨p, hp, hk⟩ := List.mem_flatMap.1 h
    refine List.mem_cons_of_mem _ (List.mem_flatMap.2 ⟨p, ?_, hk⟩)
    have hlen : (stL set q)[m].length = p.length + 1 := by
      unfold kids4 kidsL at hk
      split at hk
      · obtain ⟨c, _, hc⟩ := List.mem_map.1 (List.mem_filter.1 hk).1
        rw [← hc]; simp
      · cases hk
    obtain ⟨j, hj, rfl⟩ := List.mem_iff_getElem.1 hp
    rw [List.mem_take_iff_getElem]
    refine ⟨j, ?_, rfl⟩
    rcases Nat.lt_or_ge j m with h1 | h1
    · omega
    · exfalso
      rcases Nat.lt_or_eq_of_le h1 with h2 | h2
      · have := List.pairwise_iff_getElem.1 (stL_sorted set q) m j hm hj h2
        omega
      · subst h2; omega
theorem known_gt {set : List Str} {q : Nat} (hq : q ≤ 3) (h0 : okL set [] = true) {i : Nat} (hi : i < (stL set q).length) : i < (knownL set q i).length := by
  rcases Nat.lt_or_ge i (knownL set q i).length with h | h
  · exact h
  · exfalso
    obtain ⟨m, hm⟩ : ∃ m, m = (knownL set q i).length := ⟨_, rfl⟩
    have hmi : m < (stL set q).length := by omega
    have h1 := (known_mono (set := set) (q := q) (show m ≤ i by omega)).subset (parent_first h0 hmi)
    obtain ⟨j, hj, e⟩ := List.mem_iff_getElem.1 h1
    have hp := known_prefix (q := q) h0 i
    have e2 := hp.getElem hj
    rw [e2] at e
    have hne : j ≠ m := by omega
    rcases Nat.lt_or_gt_of_ne hne with h3 | h3
    · exact List.pairwise_iff_getElem.1 (stL_nodup set hq) j m (by omega) hmi h3 e
    · exact List.pairwise_iff_getElem.1 (stL_nodup set hq) m j hmi (by omega) h3 e.symm
theorem known_at {set : List Str} {q : Nat} (hq : q ≤ 3) (h0 : okL set [] = true) {i : Nat} (hi : i < (stL set q).length) : (knownL set q i)[i]'(known_gt hq h0 hi) = (stL set q)[i] :=
  (known_prefix h0 i).getElem _
/-- What is remembered of a word. -/
def last4 (s : Str) : Str := s.drop (s.length - 4)
theorem last4_short {s : Str} (h : s.length ≤ 4) : last4 s = s := by
  unfold last4
  rw [show s.length - 4 = 0 by omega, List.drop_zero]
theorem last4_mem {set : List Str} {q c : Nat} {s : Str} (hs : s ∈ stL set q) (hc : c < q) (hok : okL set (s ++ [ltr c]) = true) : last4 (s ++ [ltr c]) ∈ stL set q := by
  obtain ⟨h1, h2, _⟩ := mem_stL.1 hs
  refine mem_stL.2 ⟨?_, fun b hb => ?_, ok_infix (List.drop_suffix _ _).isInfix hok⟩
  · unfold last4; simp; omega
  · have := List.mem_of_mem_drop hb
    rcases List.mem_append.1 this with h | h
    · exact h2 b h
    · exact ⟨c, hc, List.mem_singleton.1 h⟩
/-- The state to which a letter leads; -1 where a pattern is read. -/
def toL (set : List Str) (q : Nat) (s : Str) (c : Nat) : Int := if okL set (s ++ [ltr c]) = true then (((stL set q).idxOf (last4 (s ++ [ltr c])) : Nat) : Int) else -1
def rowL (set : List Str) (q : Nat) (s : Str) : List Int := (List.range q).map (toL set q s)
def tabL (set : List Str) (q : Nat) : List (List Int) := (stL set q).map (rowL set q)
theorem toL_range {set : List Str} {q c : Nat} {s : Str} (hs : s ∈ stL set q) (hc : c < q) : toL set q s c = -1 ∨ (0 ≤ toL set q s c ∧ toL set q s c < (stL set q).length) := by
  unfold toL
  split
  · rename_i h
    have := List.idxOf_lt_length_of_mem (last4_mem hs hc h)
    exact .inr ⟨by omega, by omega⟩
  · exact .inl rfl
/-- Of a state, the kids that the first letters make. -/
def kidsTo (set : List Str) (q : Nat) (s : Str) (c : Nat) : List Str := if s.length < 4 then ((List.range c).map fun c => s ++ [ltr c]).filter (okL set) else []
set_option linter.unusedVariables false
theorem kidsTo_zero (set : List Str) (q : Nat) (s : Str) : kidsTo set q s 0 = [] := by unfold kidsTo; split <;> rfl
theorem kidsTo_all (set : List Str) (q : Nat) (s : Str) : kidsTo set q s q = kids4 set q s := rfl
theorem kidsTo_bad {set : List Str} {q c : Nat} {s : Str} (h : okL set (s ++ [ltr c]) = false) : kidsTo set q s (c + 1) = kidsTo set q s c := by
  unfold kidsTo
  split
  · rw [List.range_succ, List.map_append, List.filter_append]
    simp [h]
  · rfl
theorem kidsTo_new {set : List Str} {q c : Nat} {s : Str} (hl : s.length < 4) (h : okL set (s ++ [ltr c]) = true) : kidsTo set q s (c + 1) = kidsTo set q s c ++ [s ++ [ltr c]] := by
  unfold kidsTo
  rw [if_pos hl, if_pos hl, List.range_succ, List.map_append, List.filter_append]
  simp [h]
theorem kidsTo_old {set : List Str} {q c : Nat} {s : Str} (hl : ¬ s.length < 4) : kidsTo set q s (c + 1) = kidsTo set q s c := by
  unfold kidsTo
  rw [if_neg hl, if_neg hl]
theorem kidsTo_prefix {set : List Str} {q : Nat} {s : Str} : ∀ {c d : Nat}, c ≤ d → kidsTo set q s c <+: kidsTo set q s d := by
  intro c d h
  unfold kidsTo
  split
  · have e : List.range d = List.range c ++ (List.range (d - c)).map (c + ·) := by
      rw [← List.range_add, Nat.add_sub_cancel' h]
    rw [e, List.map_append, List.filter_append]
    exact ⟨_, rfl⟩
  · exact List.prefix_refl _
/-- Within the round at place i, behind c letters: what is known lies ahead in the list of all. -/
theorem round_prefix {set : List Str} {q i c : Nat} (h0 : okL set [] = true) (hi : i < (stL set q).length) (hc : c ≤ q) : knownL set q i ++ kidsTo set q (stL set q)[i] c <+: stL set q := by
  refine List.IsPrefix.trans ?_ (known_prefix h0 (i + 1))
  rw [known_succ hi, ← kidsTo_all]
  exact List.prefix_append_right_inj _ |>.2 (kidsTo_prefix hc)
/-- A letter whose state is new: it stands at the end of what is known. -/
theorem round_new {set : List Str} {q i c : Nat} (hq : q ≤ 3) (h0 : okL set [] = true) (hi : i < (stL set q).length) (hc : c < q) (hl : (stL set q)[i].length < 4) (hok : okL set ((stL set q)[i] ++ [ltr c]) = true) :
    (stL set q)[i] ++ [ltr c] ∉ knownL set q i ++ kidsTo set q (stL set q)[i] c ∧ (stL set q).idxOf (last4 ((stL set q)[i] ++ [ltr c])) = (knownL set q i ++ kidsTo set q (stL set q)[i] c).length := by
  have hp := round_prefix (c := c + 1) h0 hi hc
  rw [kidsTo_new hl hok, ← List.append_assoc] at hp
  rw [last4_short (by simp; omega)]
  generalize knownL set q i ++ kidsTo set q (stL set q)[i] c = K at *
  generalize (stL set q)[i] ++ [ltr c] = t at *
  obtain ⟨r, hr⟩ := hp
  have hn := stL_nodup set hq
  rw [← hr] at hn ⊢
  have hk : t ∉ K := by
    rw [List.append_assoc] at hn
    intro hk
    exact (List.nodup_append.1 hn).2.2 t hk t (by simp) rfl
  refine ⟨hk, ?_⟩
  rw [List.append_assoc, List.idxOf_append, if_neg hk]
  simp
/-- A letter whose state is known already. -/
theorem round_old {set : List Str} {q i c : Nat} (h0 : okL set [] = true) (hi : i < (stL set q).length) (hl : ¬ (stL set q)[i].length < 4) : knownL set q i = stL set q ∧ kidsTo set q (stL set q)[i] c = [] := by
  refine ⟨?_, by unfold kidsTo; rw [if_neg hl]⟩
  have h := stL_fix (q := q) h0
  rw [← List.take_append_drop i (stL set q), List.flatMap_append] at h
  have h2 : ((stL set q).drop i).flatMap (kids4 set q) = [] := by
    rw [List.flatMap_eq_nil_iff]
    intro s hs
    obtain ⟨j, hj, rfl⟩ := List.mem_iff_getElem.1 hs
    rw [List.length_drop] at hj
    unfold kids4
    rw [if_neg]
    rw [List.getElem_drop]
    rcases Nat.eq_zero_or_pos j with h3 | h3
    · subst h3; exact hl
    · have := List.pairwise_iff_getElem.1 (stL_sorted set q) i (i + j) hi (by omega) (by omega)
      omega
  rw [h2, List.append_nil, List.take_append_drop] at h
  exact h.symm
end Go.Proofs.Ytpclkocfbkjabaa
