/-
  What is needed: the loop of the others.
-/
import Derived.Test.YtpclkocfbkjabaaA25
import Derived.Test.YtpclkocfbkjabaaA24
namespace Go.Proofs.Ytpclkocfbkjabaa
open Go
set_option linter.unusedVariables false
set_option linter.unusedSimpArgs false

theorem getD_at {ss : List ByteArray} {k : Nat} (hk : k < ss.length) : ss.getD k ByteArray.empty = ss[k] := by
  rw [List.getD_eq_getElem?_getD, List.getElem?_eq_getElem hk]; rfl
theorem nd_any {q : Nat} {ss : List ByteArray} {k : Nat} (hn : ss.Nodup) (hk : k < ss.length) : (ndTo q ss ss.length).any (fun x => decide (x = ss.getD k ByteArray.empty)) = ndB q ss k := by
  rw [Bool.eq_iff_iff, List.any_eq_true]
  unfold ndTo
  constructor
  · rintro ⟨x, hx, he⟩
    obtain ⟨i, hi, rfl⟩ := List.mem_map.1 hx
    obtain ⟨h1, h2⟩ := List.mem_filter.1 hi
    have h1 := List.mem_range.1 h1
    have he := of_decide_eq_true he
    rw [getD_at h1, getD_at hk] at he
    have : i = k := by
      rcases Nat.lt_trichotomy i k with h | h | h
      · exact absurd he (List.pairwise_iff_getElem.1 hn i k h1 hk h)
      · exact h
      · exact absurd he.symm (List.pairwise_iff_getElem.1 hn k i hk h1 h)
    rw [← this]; exact h2
  · intro h
    exact ⟨ss.getD k ByteArray.empty, List.mem_map.2 ⟨k, List.mem_filter.2 ⟨List.mem_range.2 hk, h⟩, rfl⟩, decide_eq_true rfl⟩
theorem ends_not {T : Tab} (h : can T 1000 0 = true) : endsB T = false := by unfold endsB; rw [h]; rfl
/-- The empty set is not unavoidable. -/
theorem ends_nil {q : Nat} (hq : 1 ≤ q ∧ q ≤ 3) : endsB (tabL (pats []) q) = false := by
  apply ends_not
  refine rep_endless (w := [ltr 0]) rfl (fun p hp => absurd hp List.not_mem_nil) hq.2 (by simp) (fun b hb => ⟨0, by omega, List.mem_singleton.1 hb⟩) (fun m => rfl) 1000
theorem mem_drop_or {ss : List ByteArray} {k : Nat} (hk : k < ss.length) {s : ByteArray} (h : s ∈ ss) : s ∈ dropB ss k ∨ s = ss[k] := by
  obtain ⟨j, hj, rfl⟩ := List.mem_iff_getElem.1 h
  unfold dropB
  rcases Nat.lt_trichotomy j k with h1 | h1 | h1
  · left
    refine List.mem_append_left _ (List.mem_take_iff_getElem.2 ⟨j, by omega, rfl⟩)
  · subst h1; exact .inr rfl
  · left
    refine List.mem_append_right _ ?_
    rw [List.mem_iff_getElem]
    refine ⟨j - (k + 1), by rw [List.length_drop]; omega, ?_⟩
    rw [List.getElem_drop]
    congr 1
    omega
theorem needed_loop {q n k : Nat} {ss : List ByteArray} (hset : setB q ss = true) (hk : k < ss.length) (he : endsB (tabL (pats ss) q) = true) (hn : 1 ≤ n)
    (hex : ∃ i, i < (stL (pats (dropB ss k)) q).length ∧ rc (tabL (pats (dropB ss k)) q) i n i = true) :
    (bestN (tabL (pats (dropB ss k)) q) n (stL (pats (dropB ss k)) q).length).length = n ∧
    loopB (pats (dropB ss k)) (bestN (tabL (pats (dropB ss k)) q) n (stL (pats (dropB ss k)) q).length) = true ∧ loopB (pats [ss[k]]) (bestN (tabL (pats (dropB ss k)) q) n (stL (pats (dropB ss k)) q).length) = false := by
  have hq := (setB_iff.1 hset).1
  have h0 := ok_nil (pats_some hset)
  have hp := pats_five hset
  have hpd : ∀ p ∈ pats (dropB ss k), p.length ≤ 5 := pats_five (setB_sub hset (drop_sublist ss k))
  obtain ⟨g1, g2, g3⟩ := best_loop (drop_ok h0) hpd hq.2 hn hex
  refine ⟨g1, ?_, ?_⟩
  · rw [loop_any (by omega) hpd (loop_six (by omega))]
    exact g3 _
  · obtain ⟨s, hs⟩ : ∃ s, s = bestN (tabL (pats (dropB ss k)) q) n (stL (pats (dropB ss k)) q).length := ⟨_, rfl⟩
    rw [← hs] at g1 g2 g3 ⊢
    cases h : loopB (pats [ss[k]]) s with
    | false => rfl
    | true =>
      exfalso
      have hp1 : ∀ p ∈ pats [ss[k]], p.length ≤ 5 := fun p hm => hp p (by
        obtain ⟨x, hx, rfl⟩ := List.mem_map.1 hm
        rw [List.mem_singleton.1 hx]
        exact List.mem_map.2 ⟨_, List.getElem_mem hk, rfl⟩)
      rw [loop_any (by omega) hp1 (loop_six (by omega))] at h
      have hall : ∀ m, okL (pats ss) (repN s m) = true := fun m => ok_iff.2 fun p hm => by
        obtain ⟨x, hx, rfl⟩ := List.mem_map.1 hm
        rcases mem_drop_or hk hx with h1 | h1
        · exact ok_iff.1 (g3 m) _ (List.mem_map.2 ⟨x, h1, rfl⟩)
        · exact ok_iff.1 (ok_rep (by omega) hp1 (loop_six (by omega)) h m) _ (List.mem_map.2 ⟨x, List.mem_singleton.2 h1, rfl⟩)
      rw [ends_not (rep_endless h0 hp hq.2 (by omega) g2 hall 1000)] at he
      cases he
end Go.Proofs.Ytpclkocfbkjabaa
