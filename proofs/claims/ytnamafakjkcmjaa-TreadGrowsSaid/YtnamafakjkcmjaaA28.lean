/-
  Growth's number is one; tidying twice; what is needed is tidy.
-/
import Derived.Test.YtnamafakjkcmjaaMK
import Derived.Test.YtnamafakjkcmjaaT15
import Derived.Test.YtnamafakjkcmjaaMH
namespace Go.Proofs.Ytnamafakjkcmjaa
open Go
set_option linter.unusedVariables false
set_option linter.unusedSimpArgs false

theorem inN_same {T : Tab} {N q : Nat} {M M' : Nat → Nat → Bool} (hT : TabOk T N q) (h : ∀ a b, a < N → b < N → M a b = M' a b) {i : Nat} (hi : i < N) : inN T M i = inN T M' i := by
  unfold inN
  rw [List.filter_congr fun p hp => h p.2 i (hT.stp hi hp).2 hi]
/-- What Growth answers. -/
def GrowIs (T : Tab) (N : Nat) (g : Int) : Prop := ∃ M, LeadOk T N M ∧ (((∃ i, i < N ∧ 1 < inN T M i) ∧ g = -2) ∨ ((∀ i, i < N → inN T M i ≤ 1) ∧ g = chC M (fun i => inN T M i == 1) N 0 - 1))
theorem lead_same {T : Tab} {N : Nat} {M M' : Nat → Nat → Bool} (h : LeadOk T N M) (h' : LeadOk T N M') : ∀ a b, a < N → b < N → M a b = M' a b := fun a b ha hb => by
  rw [Bool.eq_iff_iff]
  exact (h a b ha hb).trans (h' a b ha hb).symm
theorem ch_same {T : Tab} {N q : Nat} {M M' : Nat → Nat → Bool} {R R' : Nat → Bool} (h : LeadOk T N M) (h' : LeadOk T N M') (hR : ∀ i, i < N → R i = R' i) {i : Nat} (hi : i < N) : chC M R N i = chC M' R' N i := by
  have hm := lead_same h h'
  refine ch_unique (V := chC M' R' N) (fun a b c ha hb hc h1 h2 => h.trans ha hb hc h1 h2) (fun i hi => ?_) N i hi (rk_le _ _ _)
  rw [ch_eq (fun a b c ha hb hc h1 h2 => h'.trans ha hb hc h1 h2) hi, hR i hi, foldC_pred (p' := fun j => M i j && !M j i) fun k hk => by rw [hm i k hi hk, hm k i hk hi]]
theorem grow_same {T : Tab} {N q : Nat} (hT : TabOk T N q) (hN : 0 < N) {g g' : Int} (h : GrowIs T N g) (h' : GrowIs T N g') : g = g' := by
  obtain ⟨M, hM, h⟩ := h
  obtain ⟨M', hM', h'⟩ := h'
  have hs : ∀ i, i < N → inN T M i = inN T M' i := fun i hi => inN_same hT (lead_same hM hM') hi
  rcases h with ⟨⟨i, hi, h1⟩, rfl⟩ | ⟨h1, rfl⟩ <;> rcases h' with ⟨⟨j, hj, h2⟩, rfl⟩ | ⟨h2, rfl⟩
  · rfl
  · have := h2 i hi; have := hs i hi; omega
  · have := h1 j hj; have := hs j hj; omega
  · rw [ch_same (q := q) (R' := fun i => inN T M' i == 1) hM hM' (fun i hi => by rw [hs i hi]) hN]
theorem few36 {L : List ByteArray} {q : Nat} (hs : setB q L = true) : ∀ k, k ≤ 36 → fewB (tabL (pats L) q) k = true := by
  obtain ⟨_, _, _, _, h, _⟩ := prod_law (n := 0) (m := 1) hs (by omega) (by omega)
  exact h
theorem tid_idem (ss : List ByteArray) : tidB (tidB ss) = tidB ss := by
  unfold tidB
  rw [List.filter_eq_self]
  intro a ha
  have h1 := (List.mem_filter.1 ha).2
  cases h : inB (ss.filter fun s => !inB ss s) a with
  | false => rfl
  | true =>
    unfold inB at h
    rw [List.any_eq_true] at h
    obtain ⟨p, hp, hc⟩ := h
    have : inB ss a = true := by
      unfold inB
      rw [List.any_eq_true]
      exact ⟨p, (List.mem_filter.1 hp).1, hc⟩
    rw [this] at h1
    cases h1
theorem tid_okL (ss : List ByteArray) : okL (pats (tidB ss)) = okL (pats ss) := by rw [tid_pats, tidy_ok]
theorem nd_in_tid {q : Nat} {ss : List ByteArray} (hset : setB q ss = true) (he : endsB (tabL (pats ss) q) = true) {k : Nat} (hk : k < ss.length) (h : ndB q ss k = true) : ss[k] ∈ tidB ss := by
  refine List.mem_filter.2 ⟨List.getElem_mem hk, ?_⟩
  cases hi : inB ss ss[k] with
  | false => rfl
  | true =>
    exfalso
    unfold inB at hi
    rw [List.any_eq_true] at hi
    obtain ⟨p, hp, hc⟩ := hi
    unfold oth at hc
    simp only [Bool.and_eq_true, Bool.not_eq_true', decide_eq_false_iff_not] at hc
    have hpd := (mem_drop_iff (setB_nodup hset) hk).2 ⟨hp, hc.1⟩
    have e : okL (pats (dropB ss k)) = okL (pats ss) := by
      funext s
      cases h2 : okL (pats ss) s with
      | true => exact ok_sub (fun x hx => by
          obtain ⟨y, hy, rfl⟩ := List.mem_map.1 hx
          exact List.mem_map.2 ⟨y, (drop_sublist ss k).subset hy, rfl⟩) h2
      | false =>
        cases h3 : okL (pats (dropB ss k)) s with
        | false => rfl
        | true =>
          have h4 : okL (pats ss) s = true := ok_iff.2 fun x hx hinf => by
            obtain ⟨y, hy, rfl⟩ := List.mem_map.1 hx
            rcases mem_drop_or hk hy with h5 | rfl
            · exact ok_iff.1 h3 _ (List.mem_map.2 ⟨y, h5, rfl⟩) hinf
            · exact ok_iff.1 h3 _ (List.mem_map.2 ⟨p, hpd, rfl⟩) (((contains_iff _ _).1 hc.2).trans hinf)
          rw [h4] at h2; cases h2
    unfold ndB at h
    rw [tabL_congr e, he] at h
    cases h
theorem nd_tid {q : Nat} {ss : List ByteArray} (hset : setB q ss = true) (he : endsB (tabL (pats ss) q) = true) : ∀ x ∈ ndTo q ss ss.length, x ∈ tidB ss := fun x hx => by
  unfold ndTo at hx
  obtain ⟨i, hi, rfl⟩ := List.mem_map.1 hx
  obtain ⟨h1, h2⟩ := List.mem_filter.1 hi
  have h1 := List.mem_range.1 h1
  rw [getD_at h1]
  exact nd_in_tid hset he h1 h2
end Go.Proofs.Ytnamafakjkcmjaa
