/-
  Sets of patterns as ascending lists; what Tidy leaves.
-/
import Derived.Test.YtpclkocfbkjabaaA22
import Derived.Test.YtpclkocfbkjabaaT53
namespace Go.Proofs.Ytpclkocfbkjabaa
open Go
set_option linter.unusedVariables false
set_option linter.unusedSimpArgs false

theorem less_iff (a b : ByteArray) : Op.bytesLess a.toList b.toList = true ↔ sb a < sb b := by
  rw [bytesLess_eq, decide_eq_true_iff, Lib.toList_data, Lib.toList_data]
  rfl
theorem setB_iff {q : Nat} {ss : List ByteArray} : setB q ss = true ↔ (1 ≤ q ∧ q ≤ 3) ∧ ss.length ≤ 12 ∧ (∀ s ∈ ss, 1 ≤ s.size ∧ s.size ≤ 5 ∧ lettB q (sb s) = true) ∧ ss.Pairwise fun a b => sb a < sb b := by
  constructor
  · intro h
    obtain ⟨h1, h2, h3⟩ := setB_parts h
    have hat : ∀ j (hj : j < ss.length), (1 ≤ ss[j].size ∧ ss[j].size ≤ 5) ∧ lettB q (sb ss[j]) = true ∧ (j = 0 ∨ sb (ss.getD (j - 1) ByteArray.empty) < sb ss[j]) := fun j hj => by
      have := h3 j hj
      unfold goodB at this
      simp only [Bool.and_eq_true, Bool.or_eq_true, decide_eq_true_iff, less_iff] at this
      rw [show ss.getD j ByteArray.empty = ss[j] by rw [List.getD_eq_getElem?_getD, List.getElem?_eq_getElem hj]; rfl] at this
      exact ⟨this.1, this.2.1, this.2.2⟩
    refine ⟨by omega, h2, fun s hs => ?_, ?_⟩
    · obtain ⟨j, hj, rfl⟩ := List.mem_iff_getElem.1 hs
      obtain ⟨⟨a, b⟩, c, _⟩ := hat j hj
      exact ⟨a, b, c⟩
    · rw [List.pairwise_iff_getElem]
      intro i j hi hj hij
      obtain ⟨d, rfl⟩ : ∃ d, j = i + 1 + d := ⟨j - (i + 1), by omega⟩
      induction d with
      | zero =>
        rcases (hat (i + 1) hj).2.2 with h | h
        · omega
        · rw [show i + 1 - 1 = i by omega, List.getD_eq_getElem?_getD, List.getElem?_eq_getElem hi] at h
          exact h
      | succ d ih =>
        refine str_trans (ih (by omega) (by omega)) ?_
        rcases (hat (i + 1 + (d + 1)) hj).2.2 with h | h
        · omega
        · rw [show i + 1 + (d + 1) - 1 = i + 1 + d by omega, List.getD_eq_getElem?_getD, List.getElem?_eq_getElem (show i + 1 + d < ss.length by omega)] at h
          exact h
  · rintro ⟨h1, h2, h3, h4⟩
    refine setB_yes (by omega) (by omega) h2 fun j hj => ?_
    unfold goodB
    have e : ss.getD j ByteArray.empty = ss[j] := by rw [List.getD_eq_getElem?_getD, List.getElem?_eq_getElem hj]; rfl
    obtain ⟨a, b, c⟩ := h3 ss[j] (List.getElem_mem hj)
    simp only [Bool.and_eq_true, Bool.or_eq_true, decide_eq_true_iff, less_iff]
    rw [e]
    refine ⟨⟨a, b⟩, c, ?_⟩
    rcases Nat.eq_zero_or_pos j with h | h
    · exact .inl h
    · right
      rw [List.getD_eq_getElem?_getD, List.getElem?_eq_getElem (show j - 1 < ss.length by omega)]
      exact List.pairwise_iff_getElem.1 h4 (j - 1) j (by omega) hj (by omega)
theorem setB_nodup {q : Nat} {ss : List ByteArray} (h : setB q ss = true) : ss.Nodup :=
  (setB_iff.1 h).2.2.2.imp fun {a b} hab e => by subst e; exact str_irrefl _ hab
theorem setB_sub {q : Nat} {ss tt : List ByteArray} (h : setB q ss = true) (hs : tt.Sublist ss) : setB q tt = true := by
  obtain ⟨h1, h2, h3, h4⟩ := setB_iff.1 h
  exact setB_iff.2 ⟨h1, Nat.le_trans hs.length_le h2, fun s hm => h3 s (hs.subset hm), h4.sublist hs⟩
theorem pats_five {q : Nat} {ss : List ByteArray} (h : setB q ss = true) : ∀ p ∈ pats ss, p.length ≤ 5 := by
  intro p hp
  obtain ⟨s, hs, rfl⟩ := List.mem_map.1 hp
  rw [sb_size]
  exact ((setB_iff.1 h).2.2.1 s hs).2.1
theorem drop_sublist (ss : List ByteArray) (i : Nat) : (dropB ss i).Sublist ss := by
  unfold dropB
  have h := List.take_append_drop i ss
  conv => rhs; rw [← h]
  refine List.Sublist.append (List.Sublist.refl _) ?_
  rw [show ss.drop (i + 1) = (ss.drop i).drop 1 by rw [List.drop_drop]]
  exact List.drop_sublist _ _
/-- Picked by place, or by value. -/
theorem sel_filter (f : ByteArray → Bool) (g : Nat → Bool) (ss : List ByteArray) : ∀ k, k ≤ ss.length → (∀ i, i < k → g i = f (ss.getD i ByteArray.empty)) → selTo g ss k = (ss.take k).filter f
  | 0, _, _ => by simp [selTo]
  | k + 1, hk, h => by
    rw [sel_succ, sel_filter f g ss k (by omega) (fun i hi => h i (by omega)), List.take_succ_eq_append_getElem (by omega), List.filter_append, h k (by omega),
      show ss.getD k ByteArray.empty = ss[k] by rw [List.getD_eq_getElem?_getD, List.getElem?_eq_getElem (by omega)]; rfl]
    cases hf : f ss[k] <;> simp [hf]
theorem mem_drop_iff {ss : List ByteArray} {i : Nat} {s : ByteArray} (hn : ss.Nodup) (hi : i < ss.length) : s ∈ dropB ss i ↔ s ∈ ss ∧ s ≠ ss[i] := by
  unfold dropB
  rw [List.mem_append]
  constructor
  · rintro (h | h)
    · obtain ⟨j, hj, rfl⟩ := List.mem_iff_getElem.1 h
      rw [List.length_take] at hj
      rw [List.getElem_take]
      refine ⟨List.getElem_mem _, fun e => ?_⟩
      have := List.pairwise_iff_getElem.1 hn j i (by omega) hi (by omega)
      exact this e
    · obtain ⟨j, hj, rfl⟩ := List.mem_iff_getElem.1 h
      rw [List.length_drop] at hj
      rw [List.getElem_drop]
      refine ⟨List.getElem_mem _, fun e => ?_⟩
      have := List.pairwise_iff_getElem.1 hn i (i + 1 + j) hi (by omega) (by omega)
      exact this e.symm
  · rintro ⟨h, hne⟩
    obtain ⟨j, hj, rfl⟩ := List.mem_iff_getElem.1 h
    rcases Nat.lt_trichotomy j i with h1 | h1 | h1
    · left
      rw [List.mem_take_iff_getElem]
      exact ⟨j, by omega, rfl⟩
    · subst h1; exact absurd rfl hne
    · right
      rw [List.mem_iff_getElem]
      refine ⟨j - (i + 1), by rw [List.length_drop]; omega, ?_⟩
      rw [List.getElem_drop]
      congr 1
      omega
theorem rt_in {ss : List ByteArray} {i : Nat} (hn : ss.Nodup) (hi : i < ss.length) : rtB ss i = !inB ss (ss.getD i ByteArray.empty) := by
  have e : ss.getD i ByteArray.empty = ss[i] := by rw [List.getD_eq_getElem?_getD, List.getElem?_eq_getElem hi]; rfl
  unfold rtB
  rw [e]
  cases h : inB ss ss[i] with
  | true =>
    unfold inB at h
    rw [List.any_eq_true] at h
    obtain ⟨p, hp, hc⟩ := h
    unfold oth at hc
    simp only [Bool.and_eq_true, Bool.not_eq_true', decide_eq_false_iff_not] at hc
    cases h2 : okL (pats (dropB ss i)) (sb ss[i]) with
    | false => rfl
    | true =>
      exact absurd ((contains_iff _ _).1 hc.2) (ok_iff.1 h2 (sb p) (List.mem_map.2 ⟨p, (mem_drop_iff hn hi).2 ⟨hp, hc.1⟩, rfl⟩))
  | false =>
    show okL _ _ = true
    refine ok_iff.2 fun p hp hinf => ?_
    obtain ⟨s, hs, rfl⟩ := List.mem_map.1 hp
    obtain ⟨h1, h2⟩ := (mem_drop_iff hn hi).1 hs
    unfold inB at h
    rw [List.any_eq_false] at h
    apply h s h1
    unfold oth
    simp only [Bool.and_eq_true, Bool.not_eq_true', decide_eq_false_iff_not]
    exact ⟨h2, (contains_iff _ _).2 hinf⟩
theorem tid_sel {q : Nat} {ss : List ByteArray} (h : setB q ss = true) : selTo (rtB ss) ss ss.length = tidB ss := by
  rw [sel_filter (fun s => !inB ss s) (rtB ss) ss ss.length (Nat.le_refl _) (fun i hi => rt_in (setB_nodup h) hi), List.take_length]
  rfl
theorem tid_pats (ss : List ByteArray) : pats (tidB ss) = tidyL (pats ss) := by
  unfold pats tidB tidyL
  rw [List.filter_map]
  congr 1
  apply List.filter_congr
  intro s _
  simp only [Function.comp_apply]
  congr 1
  unfold inB hasIn
  rw [List.any_map]
  congr 1
  funext p
  simp only [Function.comp_apply, oth]
  congr 1
  by_cases e : p = s
  · subst e; simp
  · have e2 : ¬ sb p = sb s := fun h => e (sb_inj h)
    rw [decide_eq_false e]
    simp [e2]
theorem tid_sub (ss : List ByteArray) : (tidB ss).Sublist ss := List.filter_sublist
end Go.Proofs.Ytpclkocfbkjabaa
