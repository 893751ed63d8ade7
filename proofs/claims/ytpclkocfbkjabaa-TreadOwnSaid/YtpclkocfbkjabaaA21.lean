/-
  All words that can come, in ascending order: places, first ones.
-/
import Derived.Test.YtpclkocfbkjabaaA20
namespace Go.Proofs.Ytpclkocfbkjabaa
open Go
set_option linter.unusedVariables false
set_option linter.unusedSimpArgs false

theorem ltr_lt {c d : Nat} (h : c < d) (hd : d < 3) : ltr c < ltr d := by
  rw [UInt8.lt_iff_toNat_lt, ltr_nat (by omega), ltr_nat hd]
  omega
theorem str_irrefl (s : Str) : ¬ s < s := List.lt_irrefl s
theorem str_trans {s t u : Str} (h : s < t) (k : t < u) : s < u := List.lt_trans h k
theorem steps_up (row : List Int) : (stepsL row).Pairwise fun p p' => p.1 < p'.1 := by
  unfold stepsL
  rw [List.pairwise_filterMap]
  rw [List.pairwise_iff_getElem]
  intro i j hi hj hij p hp p' hp'
  rw [List.getElem_zipIdx] at hp hp'
  split at hp
  · split at hp'
    · injection hp with hp
      injection hp' with hp'
      subst hp
      subst hp'
      simpa using hij
    · cases hp'
  · cases hp
theorem acc_sorted {T : Tab} {N q : Nat} (hT : TabOk T N q) (hq : q ≤ 3) : ∀ (m i : Nat), i < N → (accL T m i).Pairwise (· < ·)
  | 0, i, _ => by simp [accL]
  | m + 1, i, hi => by
    rw [acc_succ, List.pairwise_flatMap]
    refine ⟨fun p hp => ?_, ?_⟩
    · rw [List.pairwise_map]
      refine (acc_sorted hT hq m p.2 (hT.stp hi hp).2).imp ?_
      intro a b hab
      exact List.cons_lt_cons_iff.2 (.inr ⟨rfl, hab⟩)
    · refine List.Pairwise.imp_of_mem ?_ (steps_up (T.getD i []))
      intro p p' hp hp' hlt x hx y hy
      obtain ⟨a, _, rfl⟩ := List.mem_map.1 hx
      obtain ⟨b, _, rfl⟩ := List.mem_map.1 hy
      exact List.cons_lt_cons_iff.2 (.inl (ltr_lt hlt (by have := (hT.stp hi hp').1; omega)))
theorem acc_nodup {T : Tab} {N q : Nat} (hT : TabOk T N q) (hq : q ≤ 3) (m i : Nat) (hi : i < N) : (accL T m i).Nodup :=
  (acc_sorted hT hq m i hi).imp fun {a b} h (e : a = b) => by subst e; exact str_irrefl a h
/-- Two ascending lists of the same strings are the same. -/
theorem sorted_same : ∀ {l l' : List Str}, l.Pairwise (· < ·) → l'.Pairwise (· < ·) → (∀ x, x ∈ l ↔ x ∈ l') → l = l'
  | [], [], _, _, _ => rfl
  | [], b :: l', _, _, h => absurd ((h b).2 (List.mem_cons_self ..)) List.not_mem_nil
  | a :: l, [], _, _, h => absurd ((h a).1 (List.mem_cons_self ..)) List.not_mem_nil
  | a :: l, b :: l', h1, h2, h => by
    obtain ⟨g1, k1⟩ := List.pairwise_cons.1 h1
    obtain ⟨g2, k2⟩ := List.pairwise_cons.1 h2
    have e : a = b := by
      rcases List.mem_cons.1 ((h a).1 (List.mem_cons_self ..)) with e | e
      · exact e
      · rcases List.mem_cons.1 ((h b).2 (List.mem_cons_self ..)) with e' | e'
        · exact e'.symm
        · exact absurd (str_trans (g1 b e') (g2 a e)) (str_irrefl a)
    subst e
    congr 1
    refine sorted_same k1 k2 fun x => ?_
    constructor
    · intro hx
      rcases List.mem_cons.1 ((h x).1 (List.mem_cons_of_mem _ hx)) with e | e
      · subst e; exact absurd (g1 x hx) (str_irrefl x)
      · exact e
    · intro hx
      rcases List.mem_cons.1 ((h x).2 (List.mem_cons_of_mem _ hx)) with e | e
      · subst e; exact absurd (g2 x hx) (str_irrefl x)
      · exact e
theorem app_lt : ∀ {s t : Str} (u v : Str), s.length = t.length → s < t → s ++ u < t ++ v
  | [], [], u, v, _, h => absurd h (str_irrefl [])
  | [], b :: t, u, v, hl, _ => by simp at hl
  | a :: s, [], u, v, hl, _ => by simp at hl
  | a :: s, b :: t, u, v, hl, h => by
    rw [List.cons_append, List.cons_append]
    rcases List.cons_lt_cons_iff.1 h with h' | ⟨e, h'⟩
    · exact List.cons_lt_cons_iff.2 (.inl h')
    · exact List.cons_lt_cons_iff.2 (.inr ⟨e, app_lt u v (by simpa using hl) h'⟩)
theorem app_lt_right : ∀ (s : Str) {u v : Str}, u < v → s ++ u < s ++ v
  | [], u, v, h => h
  | a :: s, u, v, h => List.cons_lt_cons_iff.2 (.inr ⟨rfl, app_lt_right s h⟩)
theorem words_sorted {q : Nat} (hq : q ≤ 3) : ∀ n, (wordsL q n).Pairwise (· < ·)
  | 0 => by simp [wordsL]
  | n + 1 => by
    unfold wordsL
    rw [List.pairwise_flatMap]
    refine ⟨fun s _ => ?_, ?_⟩
    · rw [List.pairwise_map]
      refine List.Pairwise.imp_of_mem ?_ List.pairwise_lt_range
      intro a b ha hb hab
      refine app_lt_right s (List.cons_lt_cons_iff.2 (.inl (ltr_lt hab ?_)))
      have := List.mem_range.1 hb
      omega
    · refine List.Pairwise.imp_of_mem ?_ (words_sorted hq n)
      intro s t hs ht hst x hx y hy
      obtain ⟨c, _, rfl⟩ := List.mem_map.1 hx
      obtain ⟨d, _, rfl⟩ := List.mem_map.1 hy
      exact app_lt _ _ (((mem_words q n s).1 hs).1.trans ((mem_words q n t).1 ht).1.symm) hst
/-- The words that avoid a set are those that can come from the first state. -/
theorem acc_words {set : List Str} {q : Nat} (h0 : okL set [] = true) (hp : ∀ p ∈ set, p.length ≤ 5) (hq : q ≤ 3) (n : Nat) : accL (tabL set q) n 0 = (wordsL q n).filter (okL set) := by
  have hT := tab_ok (q := q) h0
  have hn : 0 < (stL set q).length := by rw [stL_fix h0]; simp
  refine sorted_same (acc_sorted hT hq n 0 hn) ((words_sorted hq n).filter _) fun x => ?_
  rw [mem_acc hT hq n 0 hn, List.mem_filter, mem_words]
  constructor
  · rintro ⟨h1, h2, j, h3⟩
    refine ⟨⟨h1, h2⟩, ?_⟩
    rw [run_ok h0 hp hq x h2] at h3
    split at h3
    · assumption
    · cases h3
  · rintro ⟨⟨h1, h2⟩, h3⟩
    exact ⟨h1, h2, _, by rw [run_ok h0 hp hq x h2, if_pos h3]⟩
theorem mem_acc0 {set : List Str} {q : Nat} (h0 : okL set [] = true) (hp : ∀ p ∈ set, p.length ≤ 5) (hq : q ≤ 3) (n : Nat) (s : Str) : s ∈ accL (tabL set q) n 0 ↔ s.length = n ∧ Lett q s ∧ okL set s = true := by
  rw [acc_words h0 hp hq, List.mem_filter, mem_words, and_assoc]

/-! ### Places -/
def accP (T : Tab) (m : Nat) (l : List (Nat × Nat)) : List Str := l.flatMap fun p => (accL T m p.2).map (ltr p.1 :: ·)
def sumA (T : Tab) (m : Nat) (l : List (Nat × Nat)) : Nat := (l.map fun p => (accL T m p.2).length).sum
theorem accP_len (T : Tab) (m : Nat) (l : List (Nat × Nat)) : (accP T m l).length = sumA T m l := by
  unfold accP sumA
  rw [List.length_flatMap]
  simp
theorem sumA_snoc (T : Tab) (m : Nat) (l : List (Nat × Nat)) (p : Nat × Nat) : sumA T m (l ++ [p]) = sumA T m l + (accL T m p.2).length := by
  unfold sumA; simp
theorem acc_split {T : Tab} {m i c j : Nat} {pre post : List (Nat × Nat)} (h : stp T i = pre ++ (c, j) :: post) : accL T (m + 1) i = accP T m pre ++ ((accL T m j).map (ltr c :: ·) ++ accP T m post) := by
  rw [acc_succ, h, List.flatMap_append, List.flatMap_cons]
  rfl
theorem acc_len (T : Tab) (m i : Nat) : (accL T (m + 1) i).length = sumA T m (stp T i) := accP_len T m (stp T i)
theorem sumA_le {T : Tab} {m i : Nat} {pre : List (Nat × Nat)} (h : pre <+: stp T i) : sumA T m pre ≤ (accL T (m + 1) i).length := by
  obtain ⟨t, ht⟩ := h
  rw [acc_len, ← ht]
  unfold sumA
  simp
theorem sumA_le' {T : Tab} {m i c j : Nat} {pre : List (Nat × Nat)} (h : pre ++ [(c, j)] <+: stp T i) : sumA T m pre + (accL T m j).length ≤ (accL T (m + 1) i).length := by
  have := sumA_le (m := m) h
  rwa [sumA_snoc] at this
theorem acc_kid {T : Tab} {m i c j : Nat} (h : (c, j) ∈ stp T i) : (accL T m j).length ≤ (accL T (m + 1) i).length := by
  obtain ⟨pre, post, e⟩ := List.append_of_mem h
  rw [acc_split e]
  simp
  omega
/-- The word at a place: its first letter and the place of the rest. -/
theorem acc_at {T : Tab} {m i k c j : Nat} {pre : List (Nat × Nat)} (h : pre ++ [(c, j)] <+: stp T i) (h1 : sumA T m pre ≤ k) (h2 : k - sumA T m pre < (accL T m j).length) :
    (accL T (m + 1) i)[k]? = (accL T m j)[k - sumA T m pre]?.map (ltr c :: ·) := by
  obtain ⟨post, e⟩ := h
  rw [List.append_assoc] at e
  rw [acc_split e.symm, List.getElem?_append_right (by rw [accP_len]; exact h1), accP_len, List.getElem?_append_left (by simpa using h2), List.getElem?_map]
/-- The place of a word: behind all words with a smaller first letter. -/
theorem acc_idx {T : Tab} {N q m i c j : Nat} (hT : TabOk T N q) (hq : q ≤ 3) (hi : i < N) {pre : List (Nat × Nat)} {s : Str} (h : pre ++ [(c, j)] <+: stp T i) (hs : s ∈ accL T m j) :
    (accL T (m + 1) i).idxOf (ltr c :: s) = sumA T m pre + (accL T m j).idxOf s := by
  obtain ⟨post, e⟩ := h
  rw [List.append_assoc] at e
  have hmem : (c, j) ∈ stp T i := by rw [← e]; simp
  have hno : ltr c :: s ∉ accP T m pre := by
    intro hin
    unfold accP at hin
    obtain ⟨p, hp, hx⟩ := List.mem_flatMap.1 hin
    obtain ⟨a, _, ha⟩ := List.mem_map.1 hx
    injection ha with ha _
    have hup := steps_up (T.getD i [])
    rw [show stepsL (T.getD i []) = stp T i from rfl, ← e, List.pairwise_append] at hup
    have h1 := hup.2.2 p hp (c, j) (by simp)
    have h2 := (hT.stp hi hmem).1
    have := ltr_inj (by simp at h1; omega) (by omega) ha
    simp at h1; omega
  rw [acc_split e.symm, List.idxOf_append, if_neg hno, List.idxOf_append, if_pos (List.mem_map.2 ⟨s, hs, rfl⟩), accP_len, Nat.add_comm]
  congr 1
  have : ∀ l : List Str, (l.map (ltr c :: ·)).idxOf (ltr c :: s) = l.idxOf s := by
    intro l
    induction l with
    | nil => rfl
    | cons a l ih =>
      rw [List.map_cons, List.idxOf_cons, List.idxOf_cons, ih]
      have : (ltr c :: a == ltr c :: s) = (a == s) := by simp
      rw [this]
  exact this _
/-- The first word. -/
theorem acc_head {T : Tab} : ∀ (m i : Nat), can T m i = true → (accL T m i).head? = some (wayL T m i)
  | 0, i, _ => rfl
  | m + 1, i, h => by
    obtain ⟨c, j, h1, h2, h3⟩ := firstG_some (can_succ.1 h)
    rw [wayL_succ h1]
    obtain ⟨pre, post, e, hno⟩ : ∃ pre post, stp T i = pre ++ (c, j) :: post ∧ ∀ p ∈ pre, can T m p.2 = false := by
      clear h h2
      revert h1
      generalize stp T i = l
      intro h1
      induction l with
      | nil => cases h1
      | cons p l ih =>
        obtain ⟨a, b⟩ := p
        unfold firstG at h1
        split at h1
        · injection h1 with h1
          injection h1 with e1 e2
          subst e1; subst e2
          exact ⟨[], l, rfl, fun p hp => absurd hp List.not_mem_nil⟩
        · rename_i hb
          obtain ⟨pre, post, e, hno⟩ := ih h1
          refine ⟨(a, b) :: pre, post, by rw [e]; rfl, fun p hp => ?_⟩
          rcases List.mem_cons.1 hp with rfl | hp
          · simpa using hb
          · exact hno p hp
    have hP : accP T m pre = [] := by
      unfold accP
      rw [List.flatMap_eq_nil_iff]
      intro p hp
      rw [List.map_eq_nil_iff]
      apply Classical.byContradiction
      intro hne
      have := hno p hp
      rw [(can_acc m p.2).2 hne] at this
      cases this
    rw [acc_split e, hP, List.nil_append, List.head?_append, List.head?_map, acc_head m j h3]
    rfl
end Go.Proofs.Ytpclkocfbkjabaa
