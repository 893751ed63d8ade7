/-
  A shortest circle has no more states than there are words of four letters; a loop twice; the longest word.
-/
import Derived.Test.YtnamafakjkcmjaaMK
import Derived.Test.YtnamafakjkcmjaaA28
namespace Go.Proofs.Ytnamafakjkcmjaa
open Go
set_option linter.unusedVariables false
set_option linter.unusedSimpArgs false

/-- The word that a state is. -/
def stA (set : List Str) (q i : Nat) : Str := (stL set q).getD i []
theorem step_len {set : List Str} {q i c j : Nat} (hi : i < (stL set q).length) (h : (c, j) ∈ stp (tabL set q) i) :
    j < (stL set q).length ∧ j = (stL set q).idxOf (stA set q j) ∧ stA set q j ∈ stL set q ∧ List.length (stA set q j) = min 4 (List.length (stA set q i) + 1) := by
  have e : (tabL set q).getD i [] = rowL set q (stA set q i) := by
    unfold tabL stA
    rw [List.getD_eq_getElem?_getD, List.getElem?_map, List.getElem?_eq_getElem hi, List.getD_eq_getElem?_getD, List.getElem?_eq_getElem hi]
    rfl
  have hm : stA set q i ∈ stL set q := by
    unfold stA
    rw [List.getD_eq_getElem?_getD, List.getElem?_eq_getElem hi]
    exact List.getElem_mem hi
  unfold stp at h
  rw [e, mem_steps] at h
  unfold rowL at h
  rw [List.getElem?_map] at h
  rcases hc : (List.range q)[c]? with _ | c'
  · rw [hc] at h; cases h
  · rw [hc] at h
    obtain ⟨hcl, hce⟩ := List.getElem?_eq_some_iff.1 hc
    have hcq : c < q := by simpa using hcl
    have hcc : c' = c := by rw [← hce]; simp
    subst hcc
    simp only [Option.map_some, Option.some.injEq] at h
    unfold toL at h
    split at h
    · rename_i hok
      have hl := last4_mem hm hcq hok
      have hlt := List.idxOf_lt_length_of_mem hl
      have hj : (stL set q).idxOf (last4 (stA set q i ++ [ltr c'])) = j := by omega
      have hs : stA set q j = last4 (stA set q i ++ [ltr c']) := by
        unfold stA
        rw [← hj, List.getD_eq_getElem?_getD, List.getElem?_eq_getElem hlt]
        show (stL set q)[(stL set q).idxOf (last4 (stA set q i ++ [ltr c']))] = _
        exact List.getElem_idxOf hlt
      refine ⟨by omega, by rw [hs]; exact hj.symm, by rw [hs]; exact hl, ?_⟩
      rw [hs]
      unfold last4
      rw [List.length_drop, List.length_append, List.length_singleton]
      have := (mem_stL.1 hm).1
      omega
    · omega
theorem path_len {set : List Str} {q : Nat} : ∀ {m i j : Nat}, i < (stL set q).length → PathN (tabL set q) m i j → List.length (stA set q j) = min 4 (List.length (stA set q i) + m) ∨ m = 0
  | 0, _, _, _, _ => .inr rfl
  | m + 1, i, j, hi, ⟨c, k, h1, h2⟩ => by
    obtain ⟨hk, _, _, h3⟩ := step_len hi h1
    left
    rcases path_len hk h2 with h | h
    · omega
    · subst h
      obtain rfl : k = j := h2
      omega
theorem path_seq {T : Tab} : ∀ {m i j : Nat}, PathN T m i j → ∃ s : Nat → Nat, s 0 = i ∧ s m = j ∧ ∀ k, k < m → ∃ c, (c, s (k + 1)) ∈ stp T (s k)
  | 0, i, j, h => ⟨fun _ => i, rfl, h, fun k hk => absurd hk (Nat.not_lt_zero _)⟩
  | m + 1, i, j, ⟨c, k, h1, h2⟩ => by
    obtain ⟨s, e1, e2, e3⟩ := path_seq h2
    refine ⟨fun n => if n = 0 then i else s (n - 1), by simp, by simpa using e2, fun n hn => ?_⟩
    rcases Nat.eq_zero_or_pos n with rfl | h0
    · refine ⟨c, ?_⟩
      simp only [Nat.zero_add, if_true, Nat.sub_self]
      simpa [e1] using h1
    · obtain ⟨c', hc'⟩ := e3 (n - 1) (by omega)
      refine ⟨c', ?_⟩
      simp only [show ¬ n + 1 = 0 by omega, show ¬ n = 0 by omega, if_false, Nat.add_sub_cancel]
      rw [show n - 1 + 1 = n by omega] at hc'
      exact hc'
theorem loop_short {set : List Str} {q n : Nat} (hq : q ≤ 3) (h0 : okL set [] = true) (hn : 1 ≤ n) (hno : ∀ m, 1 ≤ m → m < n → ∀ i, i < (stL set q).length → rc (tabL set q) i m i = false)
    (hex : ∃ i, i < (stL set q).length ∧ rc (tabL set q) i n i = true) : n ≤ q ^ 4 := by
  obtain ⟨i, hi, hr⟩ := hex
  have hp := rc_path.1 hr
  have hT := tab_ok (q := q) h0
  obtain ⟨s, e1, e2, e3⟩ := path_seq hp
  have hlt : ∀ k, k ≤ n → s k < (stL set q).length := by
    intro k
    induction k with
    | zero => intro _; rw [e1]; exact hi
    | succ k ih =>
      intro hk
      obtain ⟨c, hc⟩ := e3 k (by omega)
      exact (step_len (ih (by omega)) hc).1
  have hrep : ∀ k, PathN (tabL set q) (k * n) i i := by
    intro k
    induction k with
    | zero => rw [Nat.zero_mul]; rfl
    | succ k ih => rw [Nat.succ_mul]; exact ih.append hp
  have h4 : ∀ k, k ≤ n → List.length (stA set q (s k)) = 4 := fun k hk => by
    have h1 := path_of e3 k 0 (by omega)
    rw [Nat.zero_add, e1] at h1
    have h2 := (hrep 4).append h1
    rcases path_len hi h2 with h | h <;> omega
  have hidx : ∀ k, k < n → s k = (stL set q).idxOf (stA set q (s k)) ∧ stA set q (s k) ∈ stL set q := fun k hk => by
    rcases Nat.eq_zero_or_pos k with rfl | hk0
    · obtain ⟨c, hc⟩ := e3 (n - 1) (by omega)
      rw [show n - 1 + 1 = n by omega, e2] at hc
      have := step_len (hlt (n - 1) (by omega)) hc
      rw [e1]
      exact ⟨this.2.1, this.2.2.1⟩
    · obtain ⟨c, hc⟩ := e3 (k - 1) (by omega)
      rw [show k - 1 + 1 = k by omega] at hc
      have := step_len (hlt (k - 1) (by omega)) hc
      exact ⟨this.2.1, this.2.2.1⟩
  have hne : ∀ a b, a < b → b < n → stA set q (s a) ≠ stA set q (s b) := fun a b hab hb e => by
    have hs : s a = s b := by rw [(hidx a (by omega)).1, (hidx b hb).1, e]
    have h1 := path_of e3 (b - a) a (by omega)
    rw [show a + (b - a) = b by omega, ← hs] at h1
    have := hno (b - a) (by omega) (by omega) (s a) (hlt a (by omega))
    rw [rc_path.2 h1] at this
    cases this
  have hnd : ((List.range n).map fun k => stA set q (s k)).Nodup := by
    rw [List.Nodup, List.pairwise_map]
    refine List.Pairwise.imp_of_mem ?_ List.pairwise_lt_range
    intro a b ha hb hab
    exact hne a b hab (List.mem_range.1 hb)
  have := nodup_len (l' := wordsL q 4) hnd fun x hx => by
    obtain ⟨k, hk, rfl⟩ := List.mem_map.1 hx
    have hk := List.mem_range.1 hk
    exact (mem_words q 4 _).2 ⟨h4 k (by omega), (mem_stL.1 (hidx k hk).2).2.1⟩
  rw [List.length_map, List.length_range, words_len] at this
  exact this
theorem repN_twice {w : Str} (hw : 0 < w.length) (m : Nat) : repN (w ++ w) m = repN w m := by
  apply List.ext_getElem?
  intro i
  by_cases hi : i < m
  · rw [repN_at hi, repN_at hi, List.length_append]
    congr 1
    have h1 : i % (w.length + w.length) < w.length + w.length := Nat.mod_lt _ (by omega)
    have h2 : i % (w.length + w.length) % w.length = i % w.length := Nat.mod_mod_of_dvd _ ⟨2, by omega⟩
    rw [List.getD_eq_getElem?_getD, List.getD_eq_getElem?_getD]
    rcases Nat.lt_or_ge (i % (w.length + w.length)) w.length with h | h
    · rw [Nat.mod_eq_of_lt h] at h2
      rw [List.getElem?_append_left h, h2]
    · rw [Nat.mod_eq_sub_mod h, Nat.mod_eq_of_lt (by omega)] at h2
      rw [List.getElem?_append_right h, h2]
  · rw [repN_none (by omega), repN_none (by omega)]
theorem way_in {set : List Str} {q m : Nat} (h0 : okL set [] = true) (hp : ∀ p ∈ set, p.length ≤ 5) (hq : q ≤ 3) (h : can (tabL set q) m 0 = true) :
    (wayL (tabL set q) m 0).length = m ∧ Lett q (wayL (tabL set q) m 0) ∧ okL set (wayL (tabL set q) m 0) = true :=
  (mem_acc0 h0 hp hq m _).1 (List.mem_of_head? (acc_head m 0 h))
end Go.Proofs.Ytnamafakjkcmjaa
