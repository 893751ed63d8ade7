/-
  The reference's search: a list in order, and those whose children were not looked at. No walk stands in this text.
-/
import Derived.Test.YtpflmlnkflpbnaaDoorW60
namespace Go.Proofs.YtpflmlnkflpbnaaDoor
open Go.RowKit Go.Sort Cam
set_option linter.unusedVariables false
set_option linter.unusedSimpArgs false

/-- By the greatest number, then the middle one, then the smallest one. -/
def Bef (a b : T3') : Prop := a.2.2 < b.2.2 ∨ (a.2.2 = b.2.2 ∧ (a.2.1 < b.2.1 ∨ (a.2.1 = b.2.1 ∧ a.1 < b.1)))
instance (a b : T3') : Decidable (Bef a b) := by unfold Bef; exact inferInstance
theorem bef_asymm {a b : T3'} (h : Bef a b) (k : Bef b a) : False := by unfold Bef at *; omega
theorem bef_trans {a b c : T3'} (h : Bef a b) (k : Bef b c) : Bef a c := by unfold Bef at *; omega
theorem bef_total {a b : T3'} (h : ¬ Bef a b) (k : a ≠ b) : Bef b a := by
  obtain ⟨x, y, z⟩ := a
  obtain ⟨p, q, r⟩ := b
  have : ¬ (x = p ∧ y = q ∧ z = r) := by
    rintro ⟨rfl, rfl, rfl⟩; exact k rfl
  unfold Bef at *
  simp only at *
  omega
/-- Two lists in order with the same members. -/
theorem order_one : ∀ (l m : List T3'), l.Pairwise Bef → m.Pairwise Bef → (∀ u, u ∈ l ↔ u ∈ m) → l = m
  | [], [], _, _, _ => rfl
  | [], b :: m, _, _, h => by have := (h b).2 (List.mem_cons_self ..); cases this
  | a :: l, [], _, _, h => by have := (h a).1 (List.mem_cons_self ..); cases this
  | a :: l, b :: m, hl, hm, h => by
    rw [List.pairwise_cons] at hl hm
    have hab : a = b := by
      rcases List.mem_cons.1 ((h a).1 (List.mem_cons_self ..)) with e | e
      · exact e
      · rcases List.mem_cons.1 ((h b).2 (List.mem_cons_self ..)) with f | f
        · exact f.symm
        · exact (bef_asymm (hl.1 b f) (hm.1 a e)).elim
    subst hab
    congr 1
    refine order_one l m hl.2 hm.2 fun u => ⟨fun hu => ?_, fun hu => ?_⟩
    · rcases List.mem_cons.1 ((h u).1 (List.mem_cons_of_mem _ hu)) with e | e
      · subst e; exact (bef_asymm (hl.1 u hu) (hl.1 u hu)).elim
      · exact e
    · rcases List.mem_cons.1 ((h u).2 (List.mem_cons_of_mem _ hu)) with e | e
      · subst e; exact (bef_asymm (hm.1 u hu) (hm.1 u hu)).elim
      · exact e
theorem upTo_bef (most : Int) : (upTo most).Pairwise Bef := (upTo_sorted most).imp fun h => .inl h

/-- Put into a list in order, unless it is there. -/
def insT : List T3' → T3' → List T3'
  | [], x => [x]
  | a :: l, x => if Bef a x then a :: insT l x else if a = x then a :: l else x :: a :: l
theorem mem_insT {u : T3'} : ∀ (l : List T3') (x : T3'), u ∈ insT l x ↔ u ∈ l ∨ u = x
  | [], x => by simp [insT]
  | a :: l, x => by
    unfold insT
    split
    · rw [List.mem_cons, mem_insT l x, List.mem_cons, or_assoc]
    · split
      · rename_i e; subst e
        rw [List.mem_cons]
        exact ⟨.inl, fun h => h.elim id fun e => .inl e⟩
      · rw [List.mem_cons, or_comm]
theorem insT_bef : ∀ (l : List T3') (x : T3'), l.Pairwise Bef → (insT l x).Pairwise Bef
  | [], x, _ => List.pairwise_singleton _ _
  | a :: l, x, h => by
    have h' := h
    rw [List.pairwise_cons] at h
    unfold insT
    split
    · rename_i hb
      rw [List.pairwise_cons]
      refine ⟨fun u hu => ?_, insT_bef l x h.2⟩
      rcases (mem_insT l x).1 hu with hu | rfl
      · exact h.1 u hu
      · exact hb
    · split
      · exact h'
      · rename_i hb he
        rw [List.pairwise_cons]
        refine ⟨fun u hu => ?_, h'⟩
        have hx := bef_total hb he
        rcases List.mem_cons.1 hu with rfl | hu
        · exact hx
        · exact bef_trans hx (h.1 u hu)
/-- How 'insert' finds the place. -/
def place : List T3' → T3' → Nat
  | [], _ => 0
  | a :: l, x => if Bef a x then place l x + 1 else 0
theorem place_yes {a x : T3'} (l : List T3') (h : Bef a x) : place (a :: l) x = place l x + 1 := by rw [place, if_pos h]
theorem place_no {a x : T3'} (l : List T3') (h : ¬ Bef a x) : place (a :: l) x = 0 := by rw [place, if_neg h]
theorem place_le : ∀ (l : List T3') (x : T3'), place l x ≤ l.length
  | [], _ => Nat.le_refl _
  | a :: l, x => by
    unfold place; split
    · have := place_le l x; simp only [List.length_cons]; omega
    · exact Nat.zero_le _
theorem place_before : ∀ (l : List T3') (x : T3') (k : Nat) (hk : k < l.length), k < place l x → Bef l[k] x
  | [], x, k, hk, h => by simp [place] at h
  | a :: l, x, k, hk, h => by
    unfold place at h
    split at h
    · rename_i hb
      cases k with
      | zero => exact hb
      | succ k => exact place_before l x k (by simpa using hk) (by omega)
    · omega
theorem place_at : ∀ (l : List T3') (x : T3') (hk : place l x < l.length), ¬ Bef l[place l x] x
  | [], x, hk => by simp [place] at hk
  | a :: l, x, hk => by
    by_cases hb : Bef a x
    · have e : place (a :: l) x = place l x + 1 := place_yes l hb
      simp only [e, List.length_cons] at hk
      simp only [e, List.getElem_cons_succ]
      exact place_at l x (by omega)
    · have e : place (a :: l) x = 0 := place_no l hb
      simp only [e, List.getElem_cons_zero]
      exact hb
/-- The place, found otherwise. -/
theorem place_eq (l : List T3') (x : T3') (k : Nat) (hk : k ≤ l.length) (h1 : ∀ j (hj : j < l.length), j < k → Bef l[j] x) (h2 : ∀ h : k < l.length, ¬ Bef l[k] x) : k = place l x := by
  rcases Nat.lt_trichotomy k (place l x) with h | h | h
  · have := place_le l x
    exact (h2 (by omega) (place_before l x k (by omega) h)).elim
  · exact h
  · exact (place_at l x (by omega) (h1 _ (by omega) h)).elim
theorem insT_same : ∀ (l : List T3') (x : T3') (hk : place l x < l.length), l[place l x] = x → insT l x = l
  | [], x, hk, _ => by simp [place] at hk
  | a :: l, x, hk, h => by
    by_cases hb : Bef a x
    · have e : place (a :: l) x = place l x + 1 := place_yes l hb
      simp only [e, List.length_cons] at hk
      simp only [e, List.getElem_cons_succ] at h
      unfold insT
      rw [if_pos hb, insT_same l x (by omega) h]
    · have e : place (a :: l) x = 0 := place_no l hb
      simp only [e, List.getElem_cons_zero] at h
      unfold insT
      rw [if_neg hb, if_pos h]
theorem insT_new : ∀ (l : List T3') (x : T3'), (∀ h : place l x < l.length, l[place l x] ≠ x) → insT l x = l.take (place l x) ++ x :: l.drop (place l x)
  | [], x, _ => rfl
  | a :: l, x, h => by
    by_cases hb : Bef a x
    · have e : place (a :: l) x = place l x + 1 := place_yes l hb
      rw [e, List.take_succ_cons, List.drop_succ_cons]
      unfold insT
      rw [if_pos hb, insT_new l x ?_]
      · rfl
      · intro hk
        have := h (by rw [e, List.length_cons]; omega)
        simpa only [e, List.getElem_cons_succ] using this
    · have e : place (a :: l) x = 0 := place_no l hb
      rw [e]
      unfold insT
      rw [if_neg hb, if_neg ?_]
      · rfl
      · have := h (by rw [e]; simp)
        simpa only [e, List.getElem_cons_zero] using this

/-! The search. -/
def stepK (most : Int) (s : List T3' × List T3') (u : T3') : List T3' × List T3' := if u.2.2 ≤ most then (insT s.1 u, s.2 ++ [u]) else s
structure Bfs (most : Int) (out op : List T3') : Prop where
  sorted : out.Pairwise Bef
  sub : ∀ u ∈ out, u ∈ TT ∧ u.2.2 ≤ most
  opsub : ∀ u ∈ op, u ∈ out
  root : (1, 1, 1) ∈ out
  closed : ∀ t ∈ out, t ∈ op ∨ ∀ u ∈ kidsT t, u.2.2 ≤ most → u ∈ out
def cnt (t : T3') : Nat := (dfs 1000000000 30 t).length
def cnts (l : List T3') : Nat := (l.map cnt).sum
theorem cnt_kids' : (TT.all fun t => cnt t == 1 + cnts (kidsT t)) = true := by decide +kernel
theorem cnt_kids {t : T3'} (h : t ∈ TT) : cnt t = 1 + cnts (kidsT t) := by
  have := List.all_eq_true.1 cnt_kids' t h
  simpa using this
theorem cnts_append (l m : List T3') : cnts (l ++ m) = cnts l + cnts m := by simp [cnts]
theorem foldK (most : Int) : ∀ (l out op : List T3'), out.Pairwise Bef →
    (l.foldl (stepK most) (out, op)).1.Pairwise Bef ∧ (∀ u, u ∈ (l.foldl (stepK most) (out, op)).1 ↔ u ∈ out ∨ (u ∈ l ∧ u.2.2 ≤ most)) ∧
    (∀ u, u ∈ (l.foldl (stepK most) (out, op)).2 ↔ u ∈ op ∨ (u ∈ l ∧ u.2.2 ≤ most)) ∧ cnts (l.foldl (stepK most) (out, op)).2 ≤ cnts op + cnts l
  | [], out, op, h => ⟨h, by simp, by simp, Nat.le_refl _⟩
  | c :: l, out, op, h => by
    rw [List.foldl_cons]
    have e : cnts (c :: l) = cnt c + cnts l := by simp [cnts]
    by_cases hc : c.2.2 ≤ most
    · have hs : stepK most (out, op) c = (insT out c, op ++ [c]) := by unfold stepK; rw [if_pos hc]
      rw [hs]
      obtain ⟨h1, h2, h3, h4⟩ := foldK most l (insT out c) (op ++ [c]) (insT_bef out c h)
      refine ⟨h1, fun u => ?_, fun u => ?_, ?_⟩
      · rw [h2, mem_insT, List.mem_cons]
        constructor
        · rintro ((h | rfl) | ⟨h, k⟩)
          · exact .inl h
          · exact .inr ⟨.inl rfl, hc⟩
          · exact .inr ⟨.inr h, k⟩
        · rintro (h | ⟨rfl | h, k⟩)
          · exact .inl (.inl h)
          · exact .inl (.inr rfl)
          · exact .inr ⟨h, k⟩
      · rw [h3, List.mem_append, List.mem_singleton, List.mem_cons]
        constructor
        · rintro ((h | rfl) | ⟨h, k⟩)
          · exact .inl h
          · exact .inr ⟨.inl rfl, hc⟩
          · exact .inr ⟨.inr h, k⟩
        · rintro (h | ⟨rfl | h, k⟩)
          · exact .inl (.inl h)
          · exact .inl (.inr rfl)
          · exact .inr ⟨h, k⟩
      · rw [cnts_append, show cnts [c] = cnt c by simp [cnts]] at h4
        omega
    · have hs : stepK most (out, op) c = (out, op) := by unfold stepK; rw [if_neg hc]
      rw [hs]
      obtain ⟨h1, h2, h3, h4⟩ := foldK most l out op h
      refine ⟨h1, fun u => ?_, fun u => ?_, by omega⟩
      · rw [h2, List.mem_cons]
        constructor
        · rintro (h | ⟨h, k⟩)
          · exact .inl h
          · exact .inr ⟨.inr h, k⟩
        · rintro (h | ⟨rfl | h, k⟩)
          · exact .inl h
          · exact (hc k).elim
          · exact .inr ⟨h, k⟩
      · rw [h3, List.mem_cons]
        constructor
        · rintro (h | ⟨h, k⟩)
          · exact .inl h
          · exact .inr ⟨.inr h, k⟩
        · rintro (h | ⟨rfl | h, k⟩)
          · exact .inl h
          · exact (hc k).elim
          · exact .inr ⟨h, k⟩
theorem Bfs.start {most : Int} (h : 1 ≤ most) : Bfs most [(1, 1, 1)] [(1, 1, 1)] := by
  refine ⟨List.pairwise_singleton _ _, fun u hu => ?_, fun u hu => hu, List.mem_singleton.2 rfl, fun t ht => .inl ht⟩
  rw [List.mem_singleton] at hu; subst hu
  exact ⟨mem_TT.2 ⟨tri111, by decide⟩, h⟩
theorem Bfs.step {most : Int} {out op : List T3'} {t : T3'} (h : Bfs most out (t :: op)) :
    Bfs most ((kidsT t).foldl (stepK most) (out, op)).1 ((kidsT t).foldl (stepK most) (out, op)).2 ∧ cnts ((kidsT t).foldl (stepK most) (out, op)).2 < cnts (t :: op) := by
  obtain ⟨h1, h2, h3, h4⟩ := foldK most (kidsT t) out op h.sorted
  have ht := h.sub t (h.opsub t (List.mem_cons_self ..))
  refine ⟨⟨h1, fun u hu => ?_, fun u hu => ?_, (h2 _).2 (.inl h.root), fun x hx => ?_⟩, ?_⟩
  · rcases (h2 u).1 hu with hu | ⟨hu, k⟩
    · exact h.sub u hu
    · exact ⟨TT_kids ht.1 hu, k⟩
  · rcases (h3 u).1 hu with hu | hu
    · exact (h2 u).2 (.inl (h.opsub u (List.mem_cons_of_mem _ hu)))
    · exact (h2 u).2 (.inr hu)
  · rcases (h2 x).1 hx with hx | hx
    · rcases h.closed x hx with k | k
      · rcases List.mem_cons.1 k with rfl | k
        · exact .inr fun u hu k => (h2 u).2 (.inr ⟨hu, k⟩)
        · exact .inl ((h3 x).2 (.inl k))
      · exact .inr fun u hu e => (h2 u).2 (.inl (k u hu e))
    · exact .inl ((h3 x).2 (.inr hx))
  · have e : cnts (t :: op) = cnt t + cnts op := by simp [cnts]
    have := cnt_kids ht.1
    omega
theorem Bfs.all {most : Int} {out : List T3'} (h : Bfs most out []) (hm : most ≤ 1000000000) : ∀ (n : Nat) {x y z : Int}, z.toNat ≤ n → Tri x y z → z ≤ most → (x, y, z) ∈ out
  | 0, x, y, z, hn, k, h4 => by have := k.1; have := k.2.1; have := k.2.2.1; omega
  | n + 1, x, y, z, hn, k, h4 => by
    by_cases h2 : 2 ≤ z
    · have hp := (k.parent h2).1
      have hy : y < z := k.lt_of_two h2
      have hi := Bfs.all h hm n (by omega) hp (by omega)
      rcases h.closed _ hi with e | e
      · cases e
      · exact e _ (tri_kid k h2 (by omega)) h4
    · have h1 := k.1; have h3 := k.2.1; have h5 := k.2.2.1
      obtain rfl : z = 1 := by omega
      obtain rfl : y = 1 := by omega
      obtain rfl : x = 1 := by omega
      exact h.root
theorem Bfs.last {most : Int} {out : List T3'} (h : Bfs most out []) (hm : most ≤ 1000000000) : out = upTo most := by
  refine order_one _ _ h.sorted (upTo_bef most) fun u => ?_
  rw [mem_upTo]
  refine ⟨fun hu => h.sub u hu, fun ⟨hu, k⟩ => ?_⟩
  exact Bfs.all h hm _ (Nat.le_refl _) (TT_tri hu).1 k
end Go.Proofs.YtpflmlnkflpbnaaDoor
