/-
  Several texts in one: XA20, XA21, XA22, XA23.
-/
import Derived.Test.YtnamafakjkcmjaaMB
namespace Go.Proofs.Ytnamafakjkcmjaa
open Go
set_option linter.unusedVariables false
set_option linter.unusedSimpArgs false

theorem ltr_nat {c : Nat} (hc : c < 3) : (ltr c).toNat = 97 + c := by
  unfold ltr
  rw [UInt8.toNat_ofNat_of_lt' (by simp [UInt8.size]; omega)]
theorem last4_of (a b : Str) (h : a = [] ∨ 4 ≤ b.length) : last4 (a ++ b) = last4 b := by
  rcases h with rfl | h
  · rfl
  · unfold last4
    rw [List.length_append, List.drop_append, List.drop_eq_nil_of_le (by omega), List.nil_append]
    congr 1
    omega
theorem last4_app (s t : Str) : last4 (last4 s ++ t) = last4 (s ++ t) := by
  have e : s ++ t = s.take (s.length - 4) ++ (last4 s ++ t) := by
    unfold last4
    rw [← List.append_assoc, List.take_append_drop]
  rw [e]
  refine (last4_of _ _ ?_).symm
  rcases Nat.lt_or_ge 4 s.length with h | h
  · right
    unfold last4
    simp
    omega
  · left
    rw [show s.length - 4 = 0 by omega]
    rfl
theorem suffix_snoc {s t : Str} {b : UInt8} (h : s <:+ t) : s ++ [b] <:+ t ++ [b] := by
  obtain ⟨u, rfl⟩ := h
  exact ⟨u, by simp⟩
theorem ok_step {set : List Str} {s : Str} {b : UInt8} (hp : ∀ p ∈ set, p.length ≤ 5) (hs : okL set s = true) : okL set (last4 s ++ [b]) = okL set (s ++ [b]) := by
  cases h : okL set (s ++ [b]) with
  | true =>
    refine ok_infix ?_ h
    unfold last4
    exact (suffix_snoc (List.drop_suffix _ _)).isInfix
  | false =>
    cases h2 : okL set (last4 s ++ [b]) with
    | false => rfl
    | true =>
      exfalso
      unfold okL at hs h h2
      simp only [Bool.not_eq_true', List.any_eq_false, Bool.not_eq_false', List.any_eq_true] at hs h h2
      obtain ⟨p, hm, hc⟩ := h
      rcases List.infix_concat_iff.1 ((contains_iff _ _).1 hc) with h3 | h3
      · refine h2 p hm ((contains_iff _ _).2 (List.IsSuffix.isInfix ?_))
        have hsuf : last4 s ++ [b] <:+ s ++ [b] := suffix_snoc (List.drop_suffix _ _)
        rcases Nat.lt_or_ge 4 s.length with h4 | h4
        · refine List.suffix_of_suffix_length_le h3 hsuf ?_
          have := hp p hm
          unfold last4
          simp
          omega
        · rw [last4_short h4]; exact h3
      · exact hs p hm ((contains_iff _ _).2 h3)

/-- Where a letter leads. -/
def toT (T : Tab) (i : Nat) (b : UInt8) : Int := (T.getD i []).getD (b.toNat - 97) (-1)
/-- Reading a word from a state on. -/
def runT (T : Tab) : Nat → Str → Option Nat
  | i, [] => some i
  | i, b :: s => if 0 ≤ toT T i b then runT T (toT T i b).toNat s else none
theorem run_nil (T : Tab) (i : Nat) : runT T i [] = some i := rfl
theorem run_cons (T : Tab) (i : Nat) (b : UInt8) (s : Str) : runT T i (b :: s) = if 0 ≤ toT T i b then runT T (toT T i b).toNat s else none := rfl
theorem run_append (T : Tab) : ∀ (s : Str) (i : Nat) (t : Str), runT T i (s ++ t) = (runT T i s).bind fun j => runT T j t
  | [], i, t => rfl
  | b :: s, i, t => by
    rw [List.cons_append, run_cons, run_cons]
    split
    · exact run_append T s _ t
    · rfl
theorem run_one (T : Tab) (i : Nat) (b : UInt8) : runT T i [b] = if 0 ≤ toT T i b then some (toT T i b).toNat else none := rfl
theorem to_step {T : Tab} {i c j : Nat} (hc : c < 3) : toT T i (ltr c) = (j : Int) → (c, j) ∈ stp T i := by
  intro h
  unfold toT at h
  rw [ltr_nat hc, Nat.add_sub_cancel_left] at h
  refine mem_steps.2 ?_
  rw [List.getD_eq_getElem?_getD] at h
  cases e : (T.getD i [])[c]? with
  | none => rw [e] at h; simp at h
  | some x => rw [e] at h; simp at h; exact congrArg some h
theorem step_to {T : Tab} {i c j : Nat} (hc : c < 3) (h : (c, j) ∈ stp T i) : toT T i (ltr c) = (j : Int) := by
  unfold toT
  rw [ltr_nat hc, Nat.add_sub_cancel_left, List.getD_eq_getElem?_getD, mem_steps.1 h]
  rfl
theorem to_state {set : List Str} {q c : Nat} {s : Str} (hq : q ≤ 3) (hc : c < q) (hs : s ∈ stL set q) : toT (tabL set q) ((stL set q).idxOf s) (ltr c) = toL set q s c := by
  have hi := List.idxOf_lt_length_of_mem hs
  unfold toT tabL
  rw [ltr_nat (by omega), Nat.add_sub_cancel_left, List.getD_eq_getElem?_getD, List.getD_eq_getElem?_getD, List.getElem?_map, List.getElem?_eq_getElem hi, List.getElem_idxOf hi]
  simp only [Option.map_some, Option.getD_some]
  unfold rowL
  rw [List.getElem?_map, List.getElem?_range hc]
  rfl
theorem lett_app {q : Nat} {s t : Str} : Lett q (s ++ t) ↔ Lett q s ∧ Lett q t := by
  unfold Lett
  constructor
  · intro h
    exact ⟨fun b hb => h b (List.mem_append_left _ hb), fun b hb => h b (List.mem_append_right _ hb)⟩
  · rintro ⟨h1, h2⟩ b hb
    rcases List.mem_append.1 hb with h | h
    · exact h1 b h
    · exact h2 b h
theorem lett_last4 {q : Nat} {s : Str} (h : Lett q s) : Lett q (last4 s) := fun b hb => h b (List.mem_of_mem_drop hb)
theorem last4_in {set : List Str} {q : Nat} {s : Str} (hl : Lett q s) (h : okL set s = true) : last4 s ∈ stL set q := by
  refine mem_stL.2 ⟨?_, lett_last4 hl, ok_infix (List.drop_suffix _ _).isInfix h⟩
  unfold last4; simp; omega
/-- The state behind a word is that of its last letters. -/
theorem run_ok {set : List Str} {q : Nat} (h0 : okL set [] = true) (hp : ∀ p ∈ set, p.length ≤ 5) (hq : q ≤ 3) (s : Str) (hs : Lett q s) :
    runT (tabL set q) 0 s = if okL set s = true then some ((stL set q).idxOf (last4 s)) else none := by
  revert hs
  refine snoc_ind (P := fun s => Lett q s → runT (tabL set q) 0 s = if okL set s = true then some ((stL set q).idxOf (last4 s)) else none) ?_ ?_ s
  · intro _
    rw [h0, if_pos rfl, run_nil]
    congr 1
    rw [show last4 [] = [] from rfl, stL_fix h0]
    simp
  · intro s b ih hs
    obtain ⟨h1, h2⟩ := lett_app.1 hs
    obtain ⟨c, hc, rfl⟩ := h2 b (by simp)
    rw [run_append, ih h1]
    cases hok : okL set s with
    | false =>
      have : okL set (s ++ [ltr c]) = false := by
        cases h : okL set (s ++ [ltr c]) with
        | false => rfl
        | true => rw [ok_infix (List.prefix_append s [ltr c]).isInfix h] at hok; cases hok
      rw [this]
      rfl
    | true =>
      rw [if_pos rfl, Option.bind_some, run_one, to_state hq hc (last4_in h1 hok)]
      unfold toL
      rw [ok_step hp hok, last4_app]
      split
      · rename_i h
        rw [if_pos (by omega), Int.toNat_natCast]
      · rfl
/-- From any state on. -/
theorem run_from {set : List Str} {q : Nat} (h0 : okL set [] = true) (hp : ∀ p ∈ set, p.length ≤ 5) (hq : q ≤ 3) {t : Str} (ht : t ∈ stL set q) (s : Str) (hs : Lett q s) :
    runT (tabL set q) ((stL set q).idxOf t) s = if okL set (t ++ s) = true then some ((stL set q).idxOf (last4 (t ++ s))) else none := by
  obtain ⟨h1, h2, h3⟩ := mem_stL.1 ht
  have e1 := run_ok h0 hp hq (t ++ s) (lett_app.2 ⟨h2, hs⟩)
  rw [run_append, run_ok h0 hp hq t h2, h3, if_pos rfl, Option.bind_some, last4_short h1] at e1
  exact e1
theorem run_lt {T : Tab} {N q : Nat} (hT : TabOk T N q) : ∀ (s : Str) (i j : Nat), i < N → runT T i s = some j → j < N
  | [], i, j, hi, h => by injection h with h; omega
  | b :: s, i, j, hi, h => by
    rw [run_cons] at h
    split at h
    · rename_i h1
      refine run_lt hT s _ j ?_ h
      have h2 := (hT.at hi).2
      unfold toT at h1 ⊢
      rw [List.getD_eq_getElem?_getD] at h1 ⊢
      cases e : (T.getD i [])[b.toNat - 97]? with
      | none => rw [e] at h1; simp at h1
      | some x =>
        rw [e] at h1
        simp at h1 ⊢
        have := h2 x (List.mem_of_getElem? e)
        omega
    · cases h

/-! ### All words that can come -/
def accL (T : Tab) : Nat → Nat → List Str
  | 0, _ => [[]]
  | m + 1, i => (stp T i).flatMap fun p => (accL T m p.2).map (ltr p.1 :: ·)
theorem acc_succ (T : Tab) (m i : Nat) : accL T (m + 1) i = (stp T i).flatMap fun p => (accL T m p.2).map (ltr p.1 :: ·) := rfl
theorem stp_letter {T : Tab} {N q i c j : Nat} (hT : TabOk T N q) (hq : q ≤ 3) (hi : i < N) (h : (c, j) ∈ stp T i) : c < 3 ∧ j < N := by
  have := hT.stp hi h
  exact ⟨by omega, this.2⟩
theorem mem_acc {T : Tab} {N q : Nat} (hT : TabOk T N q) (hq : q ≤ 3) : ∀ (m i : Nat), i < N → ∀ s, s ∈ accL T m i ↔ s.length = m ∧ Lett q s ∧ ∃ j, runT T i s = some j
  | 0, i, hi, s => by
    simp only [accL, List.mem_singleton, List.length_eq_zero_iff]
    exact ⟨fun h => by subst h; exact ⟨rfl, ⟨fun b hb => absurd hb List.not_mem_nil, i, rfl⟩⟩, fun h => h.1⟩
  | m + 1, i, hi, s => by
    rw [acc_succ, List.mem_flatMap]
    constructor
    · rintro ⟨⟨c, j⟩, h1, h2⟩
      obtain ⟨t, ht, rfl⟩ := List.mem_map.1 h2
      obtain ⟨hc, hj⟩ := stp_letter hT hq hi h1
      obtain ⟨g1, g2, k, g3⟩ := (mem_acc hT hq m j hj t).1 ht
      refine ⟨by simp [g1], fun b hb => ?_, k, ?_⟩
      · rcases List.mem_cons.1 hb with h | h
        · exact ⟨c, (hT.stp hi h1).1, h⟩
        · exact g2 b h
      · rw [run_cons, step_to hc h1, if_pos (by omega), Int.toNat_natCast]
        exact g3
    · rintro ⟨h1, h2, k, h3⟩
      cases s with
      | nil => simp at h1
      | cons b t =>
        obtain ⟨c, hc, rfl⟩ := h2 b (List.mem_cons_self ..)
        rw [run_cons] at h3
        split at h3
        · rename_i h4
          obtain ⟨j, hj⟩ : ∃ j : Nat, toT T i (ltr c) = j := ⟨(toT T i (ltr c)).toNat, by omega⟩
          have hm := to_step (by omega) hj
          rw [hj, Int.toNat_natCast] at h3
          refine ⟨(c, j), hm, List.mem_map.2 ⟨t, (mem_acc hT hq m j (hT.stp hi hm).2 t).2 ⟨by simpa using h1, fun b hb => h2 b (List.mem_cons_of_mem _ hb), k, h3⟩, rfl⟩⟩
        · cases h3
theorem can_acc {T : Tab} : ∀ (m i : Nat), can T m i = true ↔ accL T m i ≠ []
  | 0, i => by simp [can, accL]
  | m + 1, i => by
    rw [can_succ, acc_succ, Ne, List.flatMap_eq_nil_iff]
    constructor
    · rintro ⟨c, j, h1, h2⟩ h
      have := h (c, j) h1
      rw [List.map_eq_nil_iff] at this
      exact (can_acc m j).1 h2 this
    · intro h
      apply Classical.byContradiction
      intro hn
      apply h
      rintro ⟨c, j⟩ hm
      rw [List.map_eq_nil_iff]
      apply Classical.byContradiction
      intro hne
      exact hn ⟨c, j, hm, (can_acc m j).2 hne⟩
/-- How many they are. -/
theorem foldl_min_sum {α : Type} (g : α → Nat) (f : α → Int) (M : Int) (h : ∀ x, f x = min (g x : Int) M) (hM : 0 ≤ M) : ∀ (l : List α) (a : Nat), l.foldl (fun s p => min (s + f p) M) (min (a : Int) M) = min ((a + (l.map g).sum : Nat) : Int) M
  | [], a => by simp
  | x :: l, a => by
    rw [List.foldl_cons, h x]
    have e : min (min (a : Int) M + min (g x : Int) M) M = min ((a + g x : Nat) : Int) M := by omega
    rw [e, foldl_min_sum g f M h hM l (a + g x)]
    simp [Nat.add_assoc]
theorem cnt_acc (T : Tab) : ∀ (m i : Nat), cntT T m i = min ((accL T m i).length : Int) most1
  | 0, i => by simp [cntT, accL]; unfold most1; omega
  | m + 1, i => by
    show sumC (cntT T m) (stp T i) = _
    unfold sumC
    have := foldl_min_sum (fun p : Nat × Nat => (accL T m p.2).length) (fun p : Nat × Nat => cntT T m p.2) most1 (fun p => cnt_acc T m p.2) (by unfold most1; omega) (stp T i) 0
    rw [show min ((0 : Nat) : Int) most1 = 0 by unfold most1; omega] at this
    rw [this, acc_succ, List.length_flatMap]
    simp
end Go.Proofs.Ytnamafakjkcmjaa

namespace Go.Proofs.Ytnamafakjkcmjaa
open Go
set_option linter.unusedVariables false
set_option linter.unusedSimpArgs false

theorem ltr_lt {c d : Nat} (h : c < d) (hd : d < 3) : ltr c < ltr d := by
  rw [UInt8.lt_iff_toNat_lt, ltr_nat (by omega), ltr_nat hd]
  omega
theorem str_irrefl (s : Str) : ¬ s < s := List.lt_irrefl s
theorem str_trans {s t u : Str} (h : s < t) (k : t < u) : s < u := List.lt_trans h k
theorem steps_up (row : List Int) : (stepsL row).Pairwise fun p p' => p.1 < p'.1 := by
  unfold stepsL
  rw [List.pairwise_filterMap]
  rw [List.pairwise_iff_getElem]
  intro i j hi hj hij p hp p' hp'
  rw [List.getElem_zipIdx] at hp hp'
  split at hp
  · split at hp'
    · injection hp with hp
      injection hp' with hp'
      subst hp
      subst hp'
      simpa using hij
    · cases hp'
  · cases hp
theorem acc_sorted {T : Tab} {N q : Nat} (hT : TabOk T N q) (hq : q ≤ 3) : ∀ (m i : Nat), i < N → (accL T m i).Pairwise (· < ·)
  | 0, i, _ => by simp [accL]
  | m + 1, i, hi => by
    rw [acc_succ, List.pairwise_flatMap]
    refine ⟨fun p hp => ?_, ?_⟩
    · rw [List.pairwise_map]
      refine (acc_sorted hT hq m p.2 (hT.stp hi hp).2).imp ?_
      intro a b hab
      exact List.cons_lt_cons_iff.2 (.inr ⟨rfl, hab⟩)
    · refine List.Pairwise.imp_of_mem ?_ (steps_up (T.getD i []))
      intro p p' hp hp' hlt x hx y hy
      obtain ⟨a, _, rfl⟩ := List.mem_map.1 hx
      obtain ⟨b, _, rfl⟩ := List.mem_map.1 hy
      exact List.cons_lt_cons_iff.2 (.inl (ltr_lt hlt (by have := (hT.stp hi hp').1; omega)))
theorem acc_nodup {T : Tab} {N q : Nat} (hT : TabOk T N q) (hq : q ≤ 3) (m i : Nat) (hi : i < N) : (accL T m i).Nodup :=
  (acc_sorted hT hq m i hi).imp fun {a b} h (e : a = b) => by subst e; exact str_irrefl a h
/-- Two ascending lists of the same strings are the same. -/
theorem sorted_same : ∀ {l l' : List Str}, l.Pairwise (· < ·) → l'.Pairwise (· < ·) → (∀ x, x ∈ l ↔ x ∈ l') → l = l'
  | [], [], _, _, _ => rfl
  | [], b :: l', _, _, h => absurd ((h b).2 (List.mem_cons_self ..)) List.not_mem_nil
  | a :: l, [], _, _, h => absurd ((h a).1 (List.mem_cons_self ..)) List.not_mem_nil
  | a :: l, b :: l', h1, h2, h => by
    obtain ⟨g1, k1⟩ := List.pairwise_cons.1 h1
    obtain ⟨g2, k2⟩ := List.pairwise_cons.1 h2
    have e : a = b := by
      rcases List.mem_cons.1 ((h a).1 (List.mem_cons_self ..)) with e | e
      · exact e
      · rcases List.mem_cons.1 ((h b).2 (List.mem_cons_self ..)) with e' | e'
        · exact e'.symm
        · exact absurd (str_trans (g1 b e') (g2 a e)) (str_irrefl a)
    subst e
    congr 1
    refine sorted_same k1 k2 fun x => ?_
    constructor
    · intro hx
      rcases List.mem_cons.1 ((h x).1 (List.mem_cons_of_mem _ hx)) with e | e
      · subst e; exact absurd (g1 x hx) (str_irrefl x)
      · exact e
    · intro hx
      rcases List.mem_cons.1 ((h x).2 (List.mem_cons_of_mem _ hx)) with e | e
      · subst e; exact absurd (g2 x hx) (str_irrefl x)
      · exact e
theorem app_lt : ∀ {s t : Str} (u v : Str), s.length = t.length → s < t → s ++ u < t ++ v
  | [], [], u, v, _, h => absurd h (str_irrefl [])
  | [], b :: t, u, v, hl, _ => by simp at hl
  | a :: s, [], u, v, hl, _ => by simp at hl
  | a :: s, b :: t, u, v, hl, h => by
    rw [List.cons_append, List.cons_append]
    rcases List.cons_lt_cons_iff.1 h with h' | ⟨e, h'⟩
    · exact List.cons_lt_cons_iff.2 (.inl h')
    · exact List.cons_lt_cons_iff.2 (.inr ⟨e, app_lt u v (by simpa using hl) h'⟩)
theorem app_lt_right : ∀ (s : Str) {u v : Str}, u < v → s ++ u < s ++ v
  | [], u, v, h => h
  | a :: s, u, v, h => List.cons_lt_cons_iff.2 (.inr ⟨rfl, app_lt_right s h⟩)
theorem words_sorted {q : Nat} (hq : q ≤ 3) : ∀ n, (wordsL q n).Pairwise (· < ·)
  | 0 => by simp [wordsL]
  | n + 1 => by
    unfold wordsL
    rw [List.pairwise_flatMap]
    refine ⟨fun s _ => ?_, ?_⟩
    · rw [List.pairwise_map]
      refine List.Pairwise.imp_of_mem ?_ List.pairwise_lt_range
      intro a b ha hb hab
      refine app_lt_right s (List.cons_lt_cons_iff.2 (.inl (ltr_lt hab ?_)))
      have := List.mem_range.1 hb
      omega
    · refine List.Pairwise.imp_of_mem ?_ (words_sorted hq n)
      intro s t hs ht hst x hx y hy
      obtain ⟨c, _, rfl⟩ := List.mem_map.1 hx
      obtain ⟨d, _, rfl⟩ := List.mem_map.1 hy
      exact app_lt _ _ (((mem_words q n s).1 hs).1.trans ((mem_words q n t).1 ht).1.symm) hst
/-- The words that avoid a set are those that can come from the first state. -/
theorem acc_words {set : List Str} {q : Nat} (h0 : okL set [] = true) (hp : ∀ p ∈ set, p.length ≤ 5) (hq : q ≤ 3) (n : Nat) : accL (tabL set q) n 0 = (wordsL q n).filter (okL set) := by
  have hT := tab_ok (q := q) h0
  have hn : 0 < (stL set q).length := by rw [stL_fix h0]; simp
  refine sorted_same (acc_sorted hT hq n 0 hn) ((words_sorted hq n).filter _) fun x => ?_
  rw [mem_acc hT hq n 0 hn, List.mem_filter, mem_words]
  constructor
  · rintro ⟨h1, h2, j, h3⟩
    refine ⟨⟨h1, h2⟩, ?_⟩
    rw [run_ok h0 hp hq x h2] at h3
    split at h3
    · assumption
    · cases h3
  · rintro ⟨⟨h1, h2⟩, h3⟩
    exact ⟨h1, h2, _, by rw [run_ok h0 hp hq x h2, if_pos h3]⟩
theorem mem_acc0 {set : List Str} {q : Nat} (h0 : okL set [] = true) (hp : ∀ p ∈ set, p.length ≤ 5) (hq : q ≤ 3) (n : Nat) (s : Str) : s ∈ accL (tabL set q) n 0 ↔ s.length = n ∧ Lett q s ∧ okL set s = true := by
  rw [acc_words h0 hp hq, List.mem_filter, mem_words, and_assoc]

/-! ### Places -/
def accP (T : Tab) (m : Nat) (l : List (Nat × Nat)) : List Str := l.flatMap fun p => (accL T m p.2).map (ltr p.1 :: ·)
def sumA (T : Tab) (m : Nat) (l : List (Nat × Nat)) : Nat := (l.map fun p => (accL T m p.2).length).sum
theorem accP_len (T : Tab) (m : Nat) (l : List (Nat × Nat)) : (accP T m l).length = sumA T m l := by
  unfold accP sumA
  rw [List.length_flatMap]
  simp
theorem sumA_snoc (T : Tab) (m : Nat) (l : List (Nat × Nat)) (p : Nat × Nat) : sumA T m (l ++ [p]) = sumA T m l + (accL T m p.2).length := by
  unfold sumA; simp
theorem acc_split {T : Tab} {m i c j : Nat} {pre post : List (Nat × Nat)} (h : stp T i = pre ++ (c, j) :: post) : accL T (m + 1) i = accP T m pre ++ ((accL T m j).map (ltr c :: ·) ++ accP T m post) := by
  rw [acc_succ, h, List.flatMap_append, List.flatMap_cons]
  rfl
theorem acc_len (T : Tab) (m i : Nat) : (accL T (m + 1) i).length = sumA T m (stp T i) := accP_len T m (stp T i)
theorem sumA_le {T : Tab} {m i : Nat} {pre : List (Nat × Nat)} (h : pre <+: stp T i) : sumA T m pre ≤ (accL T (m + 1) i).length := by
  obtain ⟨t, ht⟩ := h
  rw [acc_len, ← ht]
  unfold sumA
  simp
theorem sumA_le' {T : Tab} {m i c j : Nat} {pre : List (Nat × Nat)} (h : pre ++ [(c, j)] <+: stp T i) : sumA T m pre + (accL T m j).length ≤ (accL T (m + 1) i).length := by
  have := sumA_le (m := m) h
  rwa [sumA_snoc] at this
theorem acc_kid {T : Tab} {m i c j : Nat} (h : (c, j) ∈ stp T i) : (accL T m j).length ≤ (accL T (m + 1) i).length := by
  obtain ⟨pre, post, e⟩ := List.append_of_mem h
  rw [acc_split e]
  simp
  omega
/-- The word at a place: its first letter and the place of the rest. -/
theorem acc_at {T : Tab} {m i k c j : Nat} {pre : List (Nat × Nat)} (h : pre ++ [(c, j)] <+: stp T i) (h1 : sumA T m pre ≤ k) (h2 : k - sumA T m pre < (accL T m j).length) :
    (accL T (m + 1) i)[k]? = (accL T m j)[k - sumA T m pre]?.map (ltr c :: ·) := by
  obtain ⟨post, e⟩ := h
  rw [List.append_assoc] at e
  rw [acc_split e.symm, List.getElem?_append_right (by rw [accP_len]; exact h1), accP_len, List.getElem?_append_left (by simpa using h2), List.getElem?_map]
/-- The place of a word: behind all words with a smaller first letter. -/
theorem acc_idx {T : Tab} {N q m i c j : Nat} (hT : TabOk T N q) (hq : q ≤ 3) (hi : i < N) {pre : List (Nat × Nat)} {s : Str} (h : pre ++ [(c, j)] <+: stp T i) (hs : s ∈ accL T m j) :
    (accL T (m + 1) i).idxOf (ltr c :: s) = sumA T m pre + (accL T m j).idxOf s := by
  obtain ⟨post, e⟩ := h
  rw [List.append_assoc] at e
  have hmem : (c, j) ∈ stp T i := by rw [← e]; simp
  have hno : ltr c :: s ∉ accP T m pre := by
    intro hin
    unfold accP at hin
    obtain ⟨p, hp, hx⟩ := List.mem_flatMap.1 hin
    obtain ⟨a, _, ha⟩ := List.mem_map.1 hx
    injection ha with ha _
    have hup := steps_up (T.getD i [])
    rw [show stepsL (T.getD i []) = stp T i from rfl, ← e, List.pairwise_append] at hup
    have h1 := hup.2.2 p hp (c, j) (by simp)
    have h2 := (hT.stp hi hmem).1
    have := ltr_inj (by simp at h1; omega) (by omega) ha
    simp at h1; omega
  rw [acc_split e.symm, List.idxOf_append, if_neg hno, List.idxOf_append, if_pos (List.mem_map.2 ⟨s, hs, rfl⟩), accP_len, Nat.add_comm]
  congr 1
  have : ∀ l : List Str, (l.map (ltr c :: ·)).idxOf (ltr c :: s) = l.idxOf s := by
    intro l
    induction l with
    | nil => rfl
    | cons a l ih =>
      rw [List.map_cons, List.idxOf_cons, List.idxOf_cons, ih]
      have : (ltr c :: a == ltr c :: s) = (a == s) := by simp
      rw [this]
  exact this _
/-- The first word. -/
theorem acc_head {T : Tab} : ∀ (m i : Nat), can T m i = true → (accL T m i).head? = some (wayL T m i)
  | 0, i, _ => rfl
  | m + 1, i, h => by
    obtain ⟨c, j, h1, h2, h3⟩ := firstG_some (can_succ.1 h)
    rw [wayL_succ h1]
    obtain ⟨pre, post, e, hno⟩ : ∃ pre post, stp T i = pre ++ (c, j) :: post ∧ ∀ p ∈ pre, can T m p.2 = false := by
      clear h h2
      revert h1
      generalize stp T i = l
      intro h1
      induction l with
      | nil => cases h1
      | cons p l ih =>
        obtain ⟨a, b⟩ := p
        unfold firstG at h1
        split at h1
        · injection h1 with h1
          injection h1 with e1 e2
          subst e1; subst e2
          exact ⟨[], l, rfl, fun p hp => absurd hp List.not_mem_nil⟩
        · rename_i hb
          obtain ⟨pre, post, e, hno⟩ := ih h1
          refine ⟨(a, b) :: pre, post, by rw [e]; rfl, fun p hp => ?_⟩
          rcases List.mem_cons.1 hp with rfl | hp
          · simpa using hb
          · exact hno p hp
    have hP : accP T m pre = [] := by
      unfold accP
      rw [List.flatMap_eq_nil_iff]
      intro p hp
      rw [List.map_eq_nil_iff]
      apply Classical.byContradiction
      intro hne
      have := hno p hp
      rw [(can_acc m p.2).2 hne] at this
      cases this
    rw [acc_split e, hP, List.nil_append, List.head?_append, List.head?_map, acc_head m j h3]
    rfl
end Go.Proofs.Ytnamafakjkcmjaa

namespace Go.Proofs.Ytnamafakjkcmjaa
open Go
set_option linter.unusedVariables false
set_option linter.unusedSimpArgs false

theorem stL_congr {a b : List Str} (h : okL a = okL b) (q : Nat) : stL a q = stL b q := by
  unfold stL lay
  rw [h]
theorem tabL_congr {a b : List Str} (h : okL a = okL b) (q : Nat) : tabL a q = tabL b q := by
  unfold tabL rowL toL
  rw [stL_congr h, h]
theorem ok_iff {set : List Str} {s : Str} : okL set s = true ↔ ∀ p ∈ set, ¬ p <:+: s := by
  unfold okL
  simp only [Bool.not_eq_true', List.any_eq_false]
  constructor
  · intro h p hp hi
    exact h p hp ((contains_iff s p).2 hi)
  · intro h p hp hc
    exact h p hp ((contains_iff s p).1 hc)
theorem ok_sub {a b : List Str} (h : ∀ p ∈ a, p ∈ b) {s : Str} (hs : okL b s = true) : okL a s = true :=
  ok_iff.2 fun p hp => ok_iff.1 hs p (h p hp)
/-- Is another pattern in this one? -/
def hasIn (set : List Str) (s : Str) : Bool := set.any fun p => p != s && Lib.contains s p
def tidyL (set : List Str) : List Str := set.filter fun s => !hasIn set s
theorem tidy_sub (set : List Str) : ∀ p ∈ tidyL set, p ∈ set := fun p hp => (List.mem_filter.1 hp).1
theorem tidy_low {set : List Str} : ∀ (n : Nat) (p : Str), p.length ≤ n → p ∈ set → ∃ p' ∈ tidyL set, p' <:+: p
  | n, p, hn, hp => by
    cases h : hasIn set p with
    | false => exact ⟨p, List.mem_filter.2 ⟨hp, by simp [h]⟩, List.infix_refl p⟩
    | true =>
      unfold hasIn at h
      rw [List.any_eq_true] at h
      obtain ⟨p', hp', hc⟩ := h
      simp only [Bool.and_eq_true, bne_iff_ne, ne_eq] at hc
      have hi := (contains_iff p p').1 hc.2
      have hl : p'.length < p.length := by
        rcases Nat.lt_or_eq_of_le hi.length_le with h | h
        · exact h
        · exact absurd (hi.eq_of_length h) hc.1
      match n with
      | 0 => omega
      | n + 1 =>
        obtain ⟨p2, h1, h2⟩ := tidy_low n p' (by omega) hp'
        exact ⟨p2, h1, h2.trans hi⟩
theorem tidy_ok (set : List Str) : okL (tidyL set) = okL set := by
  funext s
  cases h : okL set s with
  | true => exact ok_sub (tidy_sub set) h
  | false =>
    cases h2 : okL (tidyL set) s with
    | false => rfl
    | true =>
      exfalso
      rw [← Bool.not_eq_true, ok_iff] at h
      apply h
      intro p hp hi
      obtain ⟨p', h1, h3⟩ := tidy_low _ p (Nat.le_refl _) hp
      exact ok_iff.1 h2 p' h1 (h3.trans hi)
end Go.Proofs.Ytnamafakjkcmjaa

namespace Go.Proofs.Ytnamafakjkcmjaa
open Go
set_option linter.unusedVariables false
set_option linter.unusedSimpArgs false

/-- No number of words is too great. -/
def fewB (T : Tab) (n : Nat) : Bool := (List.range (n + 1)).all fun m => decide (cntT T m 0 < most1)
theorem few_at {T : Tab} {n m : Nat} (h : fewB T n = true) (hm : m ≤ n) : cntT T m 0 < most1 := by
  unfold fewB at h
  rw [List.all_eq_true] at h
  exact of_decide_eq_true (h m (List.mem_range.2 (by omega)))
theorem few_len {T : Tab} {n m : Nat} (h : fewB T n = true) (hm : m ≤ n) : ((accL T m 0).length : Int) < most1 ∧ cntT T m 0 = ((accL T m 0).length : Int) := by
  have h1 := few_at h hm
  have h2 := cnt_acc T m 0
  omega
theorem few_no {T : Tab} {n m : Nat} (hm : m ≤ n) (h : ¬ cntT T m 0 < most1) : fewB T n = false := by
  unfold fewB
  rw [List.all_eq_false]
  exact ⟨m, List.mem_range.2 (by omega), by simpa using h⟩
theorem few_all {T : Tab} {n : Nat} (h : ∀ m, m ≤ n → cntT T m 0 < most1) : fewB T n = true := by
  unfold fewB
  rw [List.all_eq_true]
  exact fun m hm => decide_eq_true (h m (by have := List.mem_range.1 hm; omega))
theorem cnt_exact {T : Tab} {m i : Nat} (h : ((accL T m i).length : Int) < most1) : cntT T m i = ((accL T m i).length : Int) := by
  have := cnt_acc T m i
  omega

structure ItemAt (T : Tab) (n K m i k : Nat) (out : Str) : Prop where
  len : out.length + m = n
  lt : k < (accL T m i).length
  few : ((accL T m i).length : Int) < most1
  word : (accL T n 0)[K]? = (accL T m i)[k]?.map (out ++ ·)
theorem ItemAt.start {T : Tab} {n K : Nat} (h : fewB T n = true) (hK : K < (accL T n 0).length) : ItemAt T n K n 0 K [] :=
  ⟨by simp, hK, (few_len h (Nat.le_refl n)).1, by rw [List.getElem?_eq_getElem hK]; rfl⟩
theorem ItemAt.step {T : Tab} {n K m i k c j : Nat} {out : Str} {pre : List (Nat × Nat)} (h : ItemAt T n K (m + 1) i k out) (hp : pre ++ [(c, j)] <+: stp T i) (h1 : sumA T m pre ≤ k) (h2 : k - sumA T m pre < (accL T m j).length) :
    ItemAt T n K m j (k - sumA T m pre) (out ++ [ltr c]) := by
  have hm : (c, j) ∈ stp T i := hp.subset (by simp)
  refine ⟨by have := h.len; simp; omega, h2, by have := acc_kid (m := m) hm; have := h.few; omega, ?_⟩
  rw [h.word, acc_at hp h1 h2]
  cases (accL T m j)[k - sumA T m pre]? with
  | none => rfl
  | some t => simp
theorem ItemAt.exact {T : Tab} {n K m i k c j : Nat} {out : Str} (h : ItemAt T n K (m + 1) i k out) (hm : (c, j) ∈ stp T i) : cntT T m j = ((accL T m j).length : Int) ∧ ((accL T m j).length : Int) < most1 := by
  have h1 := acc_kid (m := m) hm
  have h2 := h.few
  exact ⟨cnt_exact (by omega), by omega⟩
theorem ItemAt.not_all {T : Tab} {n K m i k : Nat} {out : Str} (h : ItemAt T n K (m + 1) i k out) (h1 : sumA T m (stp T i) ≤ k) : False := by
  have := h.lt
  rw [acc_len] at this
  omega
theorem ItemAt.done {T : Tab} {n K i k : Nat} {out : Str} (h : ItemAt T n K 0 i k out) : (accL T n 0)[K]? = some out := by
  rw [h.word]
  have := h.lt
  simp only [accL, List.length_singleton] at this
  obtain rfl : k = 0 := by omega
  simp [accL]

structure IndexAt (T : Tab) (n : Nat) (w : Str) (d i out : Nat) : Prop where
  le : d ≤ n
  st : ∃ N q, TabOk T N q ∧ q ≤ 3 ∧ i < N
  mem : w.drop d ∈ accL T (n - d) i
  idx : (accL T n 0).idxOf w = out + (accL T (n - d) i).idxOf (w.drop d)
  few : ((out + (accL T (n - d) i).length : Nat) : Int) < most1
theorem IndexAt.start {T : Tab} {N q n : Nat} {w : Str} (hT : TabOk T N q) (hq : q ≤ 3) (hN : 0 < N) (h : fewB T n = true) (hw : w ∈ accL T n 0) : IndexAt T n w 0 0 0 :=
  ⟨Nat.zero_le _, ⟨N, q, hT, hq, hN⟩, hw, by simp, by have := (few_len h (Nat.le_refl n)).1; simpa using this⟩
/-- The letter that comes next, and where it leads. -/
theorem IndexAt.next {T : Tab} {n d i out : Nat} {w : Str} (h : IndexAt T n w d i out) (hd : d < n) (hw : w.length = n) : ∃ c j, w[d]? = some (ltr c) ∧ (c, j) ∈ stp T i ∧ c < 3 ∧ w.drop (d + 1) ∈ accL T (n - (d + 1)) j := by
  obtain ⟨N, q, hT, hq, hi⟩ := h.st
  have h1 := h.mem
  rw [show n - d = (n - (d + 1)) + 1 by omega, acc_succ] at h1
  obtain ⟨⟨c, j⟩, h2, h3⟩ := List.mem_flatMap.1 h1
  obtain ⟨t, ht, e⟩ := List.mem_map.1 h3
  have hd' : d < w.length := by omega
  rw [List.drop_eq_getElem_cons hd'] at e
  injection e with e1 e2
  refine ⟨c, j, ?_, h2, (stp_letter hT hq hi h2).1, by rw [← e2]; exact ht⟩
  rw [List.getElem?_eq_getElem hd', ← e1]
theorem IndexAt.step {T : Tab} {n d i out c j : Nat} {w : Str} {pre : List (Nat × Nat)} (h : IndexAt T n w d i out) (hd : d < n) (hw : w[d]? = some (ltr c)) (hp : pre ++ [(c, j)] <+: stp T i) (hm : w.drop (d + 1) ∈ accL T (n - (d + 1)) j) :
    IndexAt T n w (d + 1) j (out + sumA T (n - (d + 1)) pre) := by
  obtain ⟨N, q, hT, hq, hi⟩ := h.st
  have hmem : (c, j) ∈ stp T i := hp.subset (by simp)
  obtain ⟨hd', e⟩ := List.getElem?_eq_some_iff.1 hw
  have h1 := h.idx
  have h2 := h.few
  rw [show n - d = (n - (d + 1)) + 1 by omega] at h1 h2
  rw [List.drop_eq_getElem_cons hd', e, acc_idx hT hq hi hp hm] at h1
  have h3 := sumA_le' (m := n - (d + 1)) hp
  exact ⟨by omega, ⟨N, q, hT, hq, (hT.stp hi hmem).2⟩, hm, by omega, by omega⟩
theorem IndexAt.bound {T : Tab} {n d i out : Nat} {w : Str} {pre : List (Nat × Nat)} (h : IndexAt T n w d i out) (hd : d < n) (hp : pre <+: stp T i) : ((out + sumA T (n - (d + 1)) pre : Nat) : Int) < most1 := by
  have h2 := h.few
  rw [show n - d = (n - (d + 1)) + 1 by omega] at h2
  have h3 := sumA_le (m := n - (d + 1)) hp
  omega
theorem IndexAt.exact {T : Tab} {n d i out c j : Nat} {w : Str} (h : IndexAt T n w d i out) (hd : d < n) (hm : (c, j) ∈ stp T i) : cntT T (n - (d + 1)) j = ((accL T (n - (d + 1)) j).length : Int) := by
  have h1 := acc_kid (m := n - (d + 1)) hm
  have h2 := h.few
  rw [show n - d = (n - (d + 1)) + 1 by omega] at h2
  exact cnt_exact (by omega)
theorem IndexAt.done {T : Tab} {n i out : Nat} {w : Str} (h : IndexAt T n w n i out) (hw : w.length = n) : (accL T n 0).idxOf w = out := by
  have := h.idx
  rw [Nat.sub_self, List.drop_of_length_le (by omega)] at this
  simpa [accL] using this
end Go.Proofs.Ytnamafakjkcmjaa
