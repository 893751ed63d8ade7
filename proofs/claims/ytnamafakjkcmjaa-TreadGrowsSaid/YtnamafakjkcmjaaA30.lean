/-
  A finite language of at most twelve patterns has at most 2^48 words of a length: what a word has read is a proper prefix of a pattern, and no such state comes twice.
-/
import Derived.Test.YtnamafakjkcmjaaA29
namespace Go.Proofs.Ytnamafakjkcmjaa
open Go
set_option linter.unusedVariables false
set_option linter.unusedSimpArgs false

/-- The proper beginnings of the patterns. -/
def preL (set : List Str) : List Str := set.flatMap fun p => (List.range (p.length - 1)).map fun k => p.take (k + 1)
theorem mem_pre {set : List Str} {x : Str} : x ∈ preL set ↔ x ≠ [] ∧ ∃ p ∈ set, x <+: p ∧ x.length < p.length := by
  unfold preL
  rw [List.mem_flatMap]
  constructor
  · rintro ⟨p, hp, hx⟩
    obtain ⟨k, hk, rfl⟩ := List.mem_map.1 hx
    have hk := List.mem_range.1 hk
    refine ⟨fun e => ?_, p, hp, List.take_prefix _ _, by rw [List.length_take]; omega⟩
    have := congrArg List.length e
    rw [List.length_take, List.length_nil] at this
    omega
  · rintro ⟨h0, p, hp, hx, hl⟩
    have hpos := List.length_pos_iff.2 h0
    refine ⟨p, hp, List.mem_map.2 ⟨x.length - 1, List.mem_range.2 (by omega), ?_⟩⟩
    rw [show x.length - 1 + 1 = x.length by omega]
    exact (List.prefix_iff_eq_take.1 hx).symm
theorem pre_len {set : List Str} (hp : ∀ p ∈ set, p.length ≤ 5) (hl : set.length ≤ 12) : (preL set).length ≤ 48 := by
  have h : ∀ l : List Str, (∀ p ∈ l, p.length ≤ 5) → (preL l).length ≤ l.length * 4 := by
    intro l
    induction l with
    | nil => intro _; simp [preL]
    | cons a l ih =>
      intro h
      have h1 := ih fun p hp => h p (List.mem_cons_of_mem _ hp)
      have h2 := h a List.mem_cons_self
      have e : preL (a :: l) = (List.range (a.length - 1)).map (fun k => a.take (k + 1)) ++ preL l := by unfold preL; rw [List.flatMap_cons]
      rw [e, List.length_append, List.length_map, List.length_range, List.length_cons]
      omega
  have := h set hp
  omega
/-- The same beginnings stand at two words' ends. -/
def Same (set : List Str) (u u' : Str) : Prop := ∀ x ∈ preL set, x <:+ u ↔ x <:+ u'
theorem Same.symm {set : List Str} {u u' : Str} (h : Same set u u') : Same set u' u := fun x hx => (h x hx).symm
theorem Same.trans {set : List Str} {u u' u'' : Str} (h : Same set u u') (k : Same set u' u'') : Same set u u'' := fun x hx => (h x hx).trans (k x hx)
theorem same_ok {set : List Str} {u u' t : Str} (h : Same set u u') (h1 : okL set u' = true) (h2 : okL set (u ++ t) = true) : okL set (u' ++ t) = true := by
  refine ok_iff.2 fun p hp hinf => ?_
  obtain ⟨a, b, hab⟩ := hinf
  rcases List.append_eq_append_iff.1 hab with ⟨c, e1, e2⟩ | ⟨c, e1, e2⟩
  · exact ok_iff.1 h1 p hp ⟨a, c, e1.symm⟩
  · have hcross : p <:+: t → False := fun hi => ok_iff.1 h2 p hp (hi.trans (List.suffix_append u t).isInfix)
    rcases List.append_eq_append_iff.1 e1 with ⟨d, f1, f2⟩ | ⟨d, f1, f2⟩
    · -- u' = a ++ d, p = d ++ c
      rcases Nat.eq_zero_or_pos d.length with hd | hd
      · rw [List.eq_nil_of_length_eq_zero hd, List.nil_append] at f2
        exact hcross ⟨[], b, by rw [f2, e2]; rfl⟩
      rcases Nat.eq_zero_or_pos c.length with hc | hc
      · rw [List.eq_nil_of_length_eq_zero hc, List.append_nil] at f2
        exact ok_iff.1 h1 p hp ⟨a, [], by rw [f2, f1, List.append_nil]⟩
      have hm : d ∈ preL set := mem_pre.2 ⟨List.length_pos_iff.1 hd, p, hp, ⟨c, f2.symm⟩, by rw [f2, List.length_append]; omega⟩
      obtain ⟨a', ha'⟩ := (h d hm).2 ⟨a, f1.symm⟩
      refine ok_iff.1 h2 p hp ⟨a', b, ?_⟩
      rw [← ha', e2, f2]
      simp
    · exact hcross ⟨d, b, by rw [e2, f2]⟩
theorem same_app {set : List Str} {u u' : Str} (h : Same set u u') (t : Str) : Same set (u ++ t) (u' ++ t) := by
  have one : ∀ {u u' : Str}, Same set u u' → ∀ x ∈ preL set, x <:+ u ++ t → x <:+ u' ++ t := by
    intro u u' h x hx hs
    obtain ⟨a, ha⟩ := hs
    rcases List.append_eq_append_iff.1 ha with ⟨c, e1, e2⟩ | ⟨c, e1, e2⟩
    · rcases Nat.eq_zero_or_pos c.length with hc | hc
      · rw [List.eq_nil_of_length_eq_zero hc, List.nil_append] at e2
        rw [e2]; exact List.suffix_append u' t
      · obtain ⟨_, p, hp, hpre, hlt⟩ := mem_pre.1 hx
        have hcx : c <+: x := ⟨t, e2.symm⟩
        have hm : c ∈ preL set := mem_pre.2 ⟨List.length_pos_iff.1 hc, p, hp, hcx.trans hpre, Nat.lt_of_le_of_lt hcx.length_le hlt⟩
        obtain ⟨a', ha'⟩ := (h c hm).1 ⟨a, e1.symm⟩
        exact ⟨a', by rw [e2, ← ha', List.append_assoc]⟩
    · exact (show x <:+ t from ⟨c, e2.symm⟩).trans (List.suffix_append u' t)
  exact fun x hx => ⟨one h x hx, one h.symm x hx⟩
/-- A state that comes twice: there is no end. -/
theorem circ {set : List Str} {q : Nat} {u s : Str} (h0 : okL set [] = true) (hp : ∀ p ∈ set, p.length ≤ 5) (hq : q ≤ 3) (hl : Lett q (u ++ s)) (hok : okL set (u ++ s) = true) (hs : s ≠ []) (h : Same set u (u ++ s)) (m : Nat) : can (tabL set q) m 0 = true := by
  have hrep : ∀ j : Nat, ∃ w : Str, j ≤ w.length ∧ Lett q w ∧ okL set w = true ∧ Same set u w := by
    intro j
    induction j with
    | zero => exact ⟨u, Nat.zero_le _, (lett_app.1 hl).1, ok_left hok, fun x _ => Iff.rfl⟩
    | succ j ih =>
      obtain ⟨w, h1, h2, h3, h4⟩ := ih
      have := List.length_pos_iff.2 hs
      exact ⟨w ++ s, by rw [List.length_append]; omega, lett_app.2 ⟨h2, (lett_app.1 hl).2⟩, same_ok h4 h3 hok, h.trans (same_app h4 s)⟩
  obtain ⟨w, h1, h2, h3, _⟩ := hrep m
  rw [can_acc]
  have e : w.take m ++ w.drop m = w := List.take_append_drop m w
  rw [← e] at h2 h3
  have := (mem_acc0 h0 hp hq m (w.take m)).2 ⟨by rw [List.length_take]; omega, (lett_app.1 h2).1, ok_left h3⟩
  intro hn
  rw [hn] at this
  cases this
/-- The longest beginning at a word's end. -/
def Top (set : List Str) (u x : Str) : Prop := x ∈ preL set ∧ x <:+ u ∧ ∀ y ∈ preL set, y <:+ u → y.length ≤ x.length
theorem top_same {set : List Str} {u u' x : Str} (h : Top set u x) (h' : Top set u' x) : Same set u u' := by
  have one : ∀ {u u' : Str}, Top set u x → Top set u' x → ∀ y ∈ preL set, y <:+ u → y <:+ u' := fun h h' y hy hs =>
    (List.suffix_of_suffix_length_le hs h.2.1 (h.2.2 y hy hs)).trans h'.2.1
  exact fun y hy => ⟨one h h' y hy, one h' h y hy⟩
theorem top_some {set : List Str} {u : Str} (h : ∃ x ∈ preL set, x <:+ u) : ∃ x, Top set u x := by
  have go : ∀ n : Nat, ∀ x ∈ preL set, x <:+ u → u.length ≤ x.length + n → ∃ x, Top set u x := by
    intro n
    induction n with
    | zero => exact fun x hx hs hl => ⟨x, hx, hs, fun y _ hy => by have := hy.length_le; omega⟩
    | succ n ih =>
      intro x hx hs hl
      by_cases hb : ∃ y ∈ preL set, y <:+ u ∧ x.length < y.length
      · obtain ⟨y, hy, hys, hyl⟩ := hb
        exact ih y hy hys (by omega)
      · exact ⟨x, hx, hs, fun y hy hys => by
          rcases Nat.lt_or_ge x.length y.length with h | h
          · exact absurd ⟨y, hy, hys, h⟩ hb
          · exact h⟩
  obtain ⟨x, hx, hs⟩ := h
  exact go u.length x hx hs (by omega)
theorem part_ways : ∀ {w w' : Str}, w.length = w'.length → w ≠ w' → ∃ c a t b t', w = c ++ a :: t ∧ w' = c ++ b :: t' ∧ a ≠ b
  | [], [], _, h => absurd rfl h
  | [], _ :: _, h, _ => by simp at h
  | _ :: _, [], h, _ => by simp at h
  | a :: w, b :: w', hl, h => by
    by_cases e : a = b
    · subst e
      obtain ⟨c, a', t, b', t', h1, h2, h3⟩ := part_ways (w := w) (w' := w') (by simpa using hl) (fun e => h (by rw [e]))
      exact ⟨a :: c, a', t, b', t', by rw [h1]; rfl, by rw [h2]; rfl, h3⟩
    · exact ⟨[], a, w, b, w', rfl, rfl, e⟩
/-- Some beginning of the word has this state. -/
def Vis (set : List Str) (w x : Str) : Prop := ∃ k, 1 ≤ k ∧ k ≤ w.length ∧ Top set (w.take k) x
section
variable {set : List Str} {q : Nat}
/-- One half: behind its parting letter the other word comes to the same state. -/
theorem vis_half (h0 : okL set [] = true) (hp : ∀ p ∈ set, p.length ≤ 5) (hq : q ≤ 3) (hfin : ∃ m, can (tabL set q) m 0 = false) {c t t' : Str} {a b : UInt8} (hab : a ≠ b)
    (hw : okL set (c ++ a :: t) = true) (lw : Lett q (c ++ a :: t)) (hv : ∀ x ∈ preL set, Vis set (c ++ a :: t) x → Vis set (c ++ b :: t') x) :
    ∃ s r, s ≠ [] ∧ s ++ r = t' ∧ Same set (c ++ [a]) (c ++ [b] ++ s) := by
  obtain ⟨m, hm⟩ := hfin
  have nocirc : ∀ u s, Lett q (u ++ s) → okL set (u ++ s) = true → s ≠ [] → ¬ Same set u (u ++ s) := fun u s h1 h2 h3 h4 => by
    rw [circ h0 hp hq h1 h2 h3 h4 m] at hm; cases hm
  have eu : c ++ a :: t = (c ++ [a]) ++ t := by simp
  have hu : okL set (c ++ [a]) = true := by rw [eu] at hw; exact ok_left hw
  have lu : Lett q (c ++ [a]) := by rw [eu] at lw; exact (lett_app.1 lw).1
  have hx : ∃ x ∈ preL set, x <:+ c ++ [a] := by
    refine Classical.byContradiction fun hn => ?_
    refine nocirc [] (c ++ [a]) lu hu (by simp) fun x hx => ?_
    constructor
    · intro h
      have := List.eq_nil_of_suffix_nil h
      exact absurd this (mem_pre.1 hx).1
    · exact fun h => absurd ⟨x, hx, h⟩ hn
  obtain ⟨x, hx⟩ := top_some hx
  obtain ⟨k, hk1, hk2, hk3⟩ := hv x hx.1 ⟨c.length + 1, by omega, by simp, by
    have : (c ++ a :: t).take (c.length + 1) = c ++ [a] := by rw [eu, List.take_append_of_le_length (by simp), List.take_of_length_le (by simp)]
    rw [this]; exact hx⟩
  have hsame := top_same hx hk3
  rcases Nat.lt_trichotomy k (c.length + 1) with h | h | h
  · exfalso
    have e : (c ++ b :: t').take k = c.take k := List.take_append_of_le_length (by omega)
    rw [e] at hsame
    have e2 : c ++ [a] = c.take k ++ (c.drop k ++ [a]) := by rw [← List.append_assoc, List.take_append_drop]
    refine nocirc (c.take k) (c.drop k ++ [a]) (by rw [← e2]; exact lu) (by rw [← e2]; exact hu) (by simp) ?_
    rw [← e2]
    exact hsame.symm
  · exfalso
    subst h
    have e : (c ++ b :: t').take (c.length + 1) = c ++ [b] := by rw [show c ++ b :: t' = (c ++ [b]) ++ t' by simp, List.take_append_of_le_length (by simp), List.take_of_length_le (by simp)]
    rw [e] at hk3
    have hne := (mem_pre.1 hx.1).1
    obtain ⟨y, z, rfl⟩ : ∃ y z, x = y ++ [z] := ⟨x.dropLast, x.getLast hne, (List.dropLast_concat_getLast hne).symm⟩
    obtain ⟨d, hd⟩ := hx.2.1
    obtain ⟨d', hd'⟩ := hk3.2.1
    rw [← List.append_assoc] at hd hd'
    have e1 := (List.append_inj' hd rfl).2
    have e2 := (List.append_inj' hd' rfl).2
    simp only [List.cons.injEq, and_true] at e1 e2
    exact hab (e1.symm.trans e2)
  · have e : (c ++ b :: t').take k = c ++ [b] ++ t'.take (k - (c.length + 1)) := by
      rw [show c ++ b :: t' = (c ++ [b]) ++ t' by simp, List.take_append, List.take_of_length_le (by simp; omega)]
      congr 1
      simp
    rw [e] at hsame
    have hl : (c ++ b :: t').length = c.length + 1 + t'.length := by simp; omega
    refine ⟨t'.take (k - (c.length + 1)), t'.drop (k - (c.length + 1)), fun en => ?_, List.take_append_drop _ _, hsame⟩
    have := congrArg List.length en
    rw [List.length_take, List.length_nil] at this
    omega
theorem vis_inj (h0 : okL set [] = true) (hp : ∀ p ∈ set, p.length ≤ 5) (hq : q ≤ 3) (hfin : ∃ m, can (tabL set q) m 0 = false) {w w' : Str} (hl : w.length = w'.length)
    (h1 : okL set w = true) (l1 : Lett q w) (h2 : okL set w' = true) (l2 : Lett q w') (hv : ∀ x ∈ preL set, Vis set w x ↔ Vis set w' x) : w = w' := by
  refine Classical.byContradiction fun hne => ?_
  obtain ⟨c, a, t, b, t', rfl, rfl, hab⟩ := part_ways hl hne
  obtain ⟨s', r', hs', e', hm'⟩ := vis_half h0 hp hq hfin hab h1 l1 fun x hx => (hv x hx).1
  obtain ⟨s, r, hs, e, hm⟩ := vis_half h0 hp hq hfin (fun h => hab h.symm) h2 l2 fun x hx => (hv x hx).2
  obtain ⟨m, hmf⟩ := hfin
  have eu : c ++ a :: t = ((c ++ [a]) ++ s) ++ r := by rw [← e]; simp
  have eu' : c ++ b :: t' = ((c ++ [b]) ++ s') ++ r' := by rw [← e']; simp
  rw [eu] at h1 l1
  rw [eu'] at h2 l2
  have k1 := ok_left h1
  have k2 := ok_left h2
  have k3 := (lett_app.1 l1).1
  have k4 := (lett_app.1 l2).1
  have hok := same_ok hm' k2 k1
  have hsm := hm.trans (same_app hm' s)
  rw [List.append_assoc (c ++ [b]) s' s] at hok hsm
  rw [circ h0 hp hq (u := c ++ [b]) (s := s' ++ s) (lett_app.2 ⟨(lett_app.1 k4).1, lett_app.2 ⟨(lett_app.1 k4).2, (lett_app.1 k3).2⟩⟩) hok (by simp [hs]) hsm m] at hmf
  cases hmf
end
def boolLs : Nat → List (List Bool)
  | 0 => [[]]
  | n + 1 => (boolLs n).flatMap fun l => [false :: l, true :: l]
theorem mem_boolLs : ∀ l : List Bool, l ∈ boolLs l.length
  | [] => by simp [boolLs]
  | b :: l => by
    show (b :: l) ∈ (boolLs l.length).flatMap _
    refine List.mem_flatMap.2 ⟨l, mem_boolLs l, ?_⟩
    cases b <;> simp
theorem boolLs_len : ∀ n, (boolLs n).length = 2 ^ n
  | 0 => rfl
  | n + 1 => by
    show ((boolLs n).flatMap fun l => [false :: l, true :: l]).length = _
    rw [flat_const _ 2 _ (fun x _ => rfl), boolLs_len n, Nat.pow_succ]
theorem nodup_len' {α : Type} [DecidableEq α] : ∀ {l l' : List α}, l.Nodup → (∀ x ∈ l, x ∈ l') → l.length ≤ l'.length
  | [], _, _, _ => Nat.zero_le _
  | a :: l, l', hn, hs => by
    have ha := hs a List.mem_cons_self
    rw [List.nodup_cons] at hn
    have h := nodup_len' (l := l) (l' := l'.erase a) hn.2 fun x hx => by
      have hne : x ≠ a := fun e => hn.1 (by rw [← e]; exact hx)
      rw [List.mem_erase_of_ne hne]
      exact hs x (List.mem_cons_of_mem _ hx)
    rw [List.length_erase_of_mem ha] at h
    have := List.length_pos_of_mem ha
    simp only [List.length_cons]
    omega
open Classical in
noncomputable def visV (set : List Str) (w : Str) : List Bool := (preL set).map fun x => decide (Vis set w x)
theorem fin_few {set : List Str} {q : Nat} (h0 : okL set [] = true) (hp : ∀ p ∈ set, p.length ≤ 5) (hl : set.length ≤ 12) (hq : q ≤ 3) (hfin : ∃ m, can (tabL set q) m 0 = false) (n : Nat) : (accL (tabL set q) n 0).length ≤ 2 ^ 48 := by
  have hM := fun s => mem_acc0 h0 hp hq n s
  have hN : (accL (tabL set q) n 0).Nodup := by
    rw [acc_words h0 hp hq]
    refine List.Pairwise.filter _ ?_
    refine List.Pairwise.imp ?_ (words_sorted hq n)
    intro a b h e
    rw [e] at h
    exact str_irrefl b h
  have hnd : ((accL (tabL set q) n 0).map (visV set)).Nodup := by
    rw [List.Nodup, List.pairwise_map]
    refine List.Pairwise.imp_of_mem ?_ hN
    intro a b ha hb hne e
    obtain ⟨a1, a2, a3⟩ := (hM a).1 ha
    obtain ⟨b1, b2, b3⟩ := (hM b).1 hb
    refine hne (vis_inj h0 hp hq hfin (a1.trans b1.symm) a3 a2 b3 b2 fun x hx => ?_)
    unfold visV at e
    have := List.map_inj_left.1 e x hx
    simpa using this
  have := nodup_len' (l' := boolLs (preL set).length) hnd fun x hx => by
    obtain ⟨w, _, rfl⟩ := List.mem_map.1 hx
    have e : (visV set w).length = (preL set).length := by unfold visV; rw [List.length_map]
    rw [← e]
    exact mem_boolLs _
  rw [List.length_map, boolLs_len] at this
  exact Nat.le_trans this (Nat.pow_le_pow_right (by omega) (pre_len hp hl))
end Go.Proofs.Ytnamafakjkcmjaa
