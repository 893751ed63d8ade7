/-
  With more patterns nothing grows faster. No function of the program stands in this text.
-/
import Derived.Test.YtnamafakjkcmjaaA31
import Derived.Test.YtnamafakjkcmjaaA29
namespace Go.Proofs.Ytnamafakjkcmjaa
open Go
set_option linter.unusedVariables false
set_option linter.unusedSimpArgs false

theorem stA_mem {set : List Str} {q i : Nat} (hi : i < (stL set q).length) : stA set q i ∈ stL set q := by
  unfold stA
  rw [List.getD_eq_getElem?_getD, List.getElem?_eq_getElem hi]
  exact List.getElem_mem hi
theorem step_word {set : List Str} {q i c j : Nat} (hi : i < (stL set q).length) (h : (c, j) ∈ stp (tabL set q) i) :
    c < q ∧ okL set (stA set q i ++ [ltr c]) = true ∧ stA set q j = last4 (stA set q i ++ [ltr c]) := by
  have e : (tabL set q).getD i [] = rowL set q (stA set q i) := by
    unfold tabL stA
    rw [List.getD_eq_getElem?_getD, List.getElem?_map, List.getElem?_eq_getElem hi, List.getD_eq_getElem?_getD, List.getElem?_eq_getElem hi]
    rfl
  have hm : stA set q i ∈ stL set q := stA_mem hi
  unfold stp at h
  rw [e, mem_steps] at h
  unfold rowL at h
  rw [List.getElem?_map] at h
  rcases hc : (List.range q)[c]? with _ | c'
  · rw [hc] at h; cases h
  · rw [hc] at h
    obtain ⟨hcl, hce⟩ := List.getElem?_eq_some_iff.1 hc
    have hcq : c < q := by simpa using hcl
    have hcc : c' = c := by rw [← hce]; simp
    subst hcc
    simp only [Option.map_some, Option.some.injEq] at h
    unfold toL at h
    split at h
    · rename_i hok
      have hl := last4_mem hm hcq hok
      have hlt := List.idxOf_lt_length_of_mem hl
      have hj : (stL set q).idxOf (last4 (stA set q i ++ [ltr c'])) = j := by omega
      refine ⟨hcq, hok, ?_⟩
      unfold stA
      rw [← hj, List.getD_eq_getElem?_getD, List.getElem?_eq_getElem hlt]
      show (stL set q)[(stL set q).idxOf (last4 (stA set q i ++ [ltr c']))] = _
      exact List.getElem_idxOf hlt
    · omega
section
variable {A B : List Str} {q : Nat}
/-- Where a state of the greater set lies among those of the smaller one. -/
def phi (A B : List Str) (q i : Nat) : Nat := (stL A q).idxOf (stA B q i)
theorem phi_mem (hAB : ∀ p ∈ A, p ∈ B) {i : Nat} (hi : i < (stL B q).length) : stA B q i ∈ stL A q := by
  obtain ⟨h1, h2, h3⟩ := mem_stL.1 (stA_mem hi)
  exact mem_stL.2 ⟨h1, h2, ok_sub hAB h3⟩
theorem phi_lt (hAB : ∀ p ∈ A, p ∈ B) {i : Nat} (hi : i < (stL B q).length) : phi A B q i < (stL A q).length := List.idxOf_lt_length_of_mem (phi_mem hAB hi)
theorem phi_at (hAB : ∀ p ∈ A, p ∈ B) {i : Nat} (hi : i < (stL B q).length) : (stL A q)[phi A B q i]'(phi_lt hAB hi) = stA B q i := List.getElem_idxOf (phi_lt hAB hi)
theorem phi_inj (hAB : ∀ p ∈ A, p ∈ B) (hq : q ≤ 3) {i j : Nat} (hi : i < (stL B q).length) (hj : j < (stL B q).length) (h : phi A B q i = phi A B q j) : i = j := by
  have h1 := phi_at hAB hi
  have h2 := phi_at hAB hj
  simp only [h] at h1
  rw [h2] at h1
  unfold stA at h1
  rw [List.getD_eq_getElem?_getD, List.getD_eq_getElem?_getD, List.getElem?_eq_getElem hi, List.getElem?_eq_getElem hj] at h1
  simp only [Option.getD_some] at h1
  have e1 := (stL_nodup B hq).idxOf_getElem i hi
  have e2 := (stL_nodup B hq).idxOf_getElem j hj
  rw [← e1, ← e2, h1]
theorem phi_zero (hA : okL A [] = true) (hB : okL B [] = true) : phi A B q 0 = 0 := by
  unfold phi stA
  rw [stL_fix hB]
  simp only [List.getD_cons_zero]
  rw [stL_fix hA]
  simp
theorem phi_step (hAB : ∀ p ∈ A, p ∈ B) {i c j : Nat} (hi : i < (stL B q).length) (h : (c, j) ∈ stp (tabL B q) i) : (c, phi A B q j) ∈ stp (tabL A q) (phi A B q i) := by
  obtain ⟨h1, h2, h3⟩ := step_word hi h
  unfold stp
  rw [mem_steps]
  unfold phi
  rw [tab_at (phi_mem hAB hi)]
  unfold rowL
  rw [List.getElem?_map, List.getElem?_range h1]
  simp only [Option.map_some, Option.some.injEq]
  unfold toL
  rw [if_pos (ok_sub hAB h2), h3]
theorem phi_path (hAB : ∀ p ∈ A, p ∈ B) (h0 : okL B [] = true) : ∀ {m i j : Nat}, i < (stL B q).length → PathN (tabL B q) m i j → PathN (tabL A q) m (phi A B q i) (phi A B q j)
  | 0, i, j, _, h => by
    obtain rfl : i = j := h
    exact rfl
  | m + 1, i, j, hi, ⟨c, k, h1, h2⟩ => ⟨c, phi A B q k, phi_step hAB hi h1, phi_path hAB h0 ((tab_ok (q := q) h0).stp hi h1).2 h2⟩
theorem two_same {α : Type} {l : List α} (h : l.length ≤ 1) {a b : α} (ha : a ∈ l) (hb : b ∈ l) : a = b := by
  rcases l with _ | ⟨x, _ | ⟨y, l⟩⟩
  · cases ha
  · rw [List.mem_singleton.1 ha, List.mem_singleton.1 hb]
  · simp at h
variable {M M' : Nat → Nat → Bool}
theorem phi_lead (hAB : ∀ p ∈ A, p ∈ B) (h0 : okL B [] = true) (hM : LeadOk (tabL A q) (stL A q).length M) (hM' : LeadOk (tabL B q) (stL B q).length M') {i j : Nat} (hi : i < (stL B q).length) (hj : j < (stL B q).length) (h : M' i j = true) :
    M (phi A B q i) (phi A B q j) = true := by
  obtain ⟨m, hm⟩ := (hM' i j hi hj).1 h
  exact (hM _ _ (phi_lt hAB hi) (phi_lt hAB hj)).2 ⟨m, phi_path hAB h0 hi hm⟩
theorem phi_inN (hAB : ∀ p ∈ A, p ∈ B) (h0 : okL B [] = true) (hM : LeadOk (tabL A q) (stL A q).length M) (hM' : LeadOk (tabL B q) (stL B q).length M') {i : Nat} (hi : i < (stL B q).length) :
    inN (tabL B q) M' i ≤ inN (tabL A q) M (phi A B q i) := by
  unfold inN
  have hT := tab_ok (q := q) h0
  have hnd : (((stp (tabL B q) i).filter fun p => M' p.2 i).map fun p => (p.1, phi A B q p.2)).Nodup := by
    rw [List.Nodup, List.pairwise_map]
    refine (List.Pairwise.filter _ (steps_up ((tabL B q).getD i []))).imp ?_
    intro a b hab e
    have := congrArg Prod.fst e
    simp at this
    omega
  have := nodup_len' (l' := (stp (tabL A q) (phi A B q i)).filter fun p => M p.2 (phi A B q i)) hnd fun x hx => by
    obtain ⟨⟨c, j⟩, hp, rfl⟩ := List.mem_map.1 hx
    obtain ⟨h1, h2⟩ := List.mem_filter.1 hp
    have hj := (hT.stp hi h1).2
    exact List.mem_filter.2 ⟨phi_step hAB hi h1, phi_lead hAB h0 hM hM' hj hi h2⟩
  rwa [List.length_map] at this
/-- From a state on a circle of the greater set: what lies on the same circle of the smaller set lies on that of the greater one. -/
theorem phi_back (hAB : ∀ p ∈ A, p ∈ B) (hA0 : okL A [] = true) (h0 : okL B [] = true) (hM : LeadOk (tabL A q) (stL A q).length M) (hM' : LeadOk (tabL B q) (stL B q).length M') (h1 : ∀ i, i < (stL A q).length → inN (tabL A q) M i ≤ 1) :
    ∀ (m i x : Nat), i < (stL B q).length → x < (stL A q).length → M' i i = true → PathN (tabL A q) m (phi A B q i) x → M x (phi A B q i) = true → ∃ j, j < (stL B q).length ∧ phi A B q j = x ∧ M' j i = true
  | 0, i, x, hi, hx, hii, hp, _ => by
    have e : phi A B q i = x := hp
    exact ⟨i, hi, e, hii⟩
  | m + 1, i, x, hi, hx, hii, ⟨c, y, hs, hp⟩, hxi => by
    have hTA := tab_ok (q := q) hA0
    have hTB := tab_ok (q := q) h0
    have hfi := phi_lt (q := q) hAB hi
    have hy := (hTA.stp hfi hs).2
    have hyi : M y (phi A B q i) = true := by
      obtain ⟨n, hn⟩ := (hM _ _ hx hfi).1 hxi
      exact (hM _ _ hy hfi).2 ⟨m + n, by rw [Nat.add_assoc]; exact hp.append hn⟩
    obtain ⟨n, c', i2, hs2, hn⟩ := (hM' i i hi hi).1 hii
    have hi2 := (hTB.stp hi hs2).2
    have hb : M' i2 i = true := by
      exact (hM' _ _ hi2 hi).2 ⟨n + n, by rw [Nat.add_assoc]; exact hn.append ⟨c', i2, hs2, hn⟩⟩
    have hf : M' i i2 = true := (hM' _ _ hi hi2).2 ⟨0, c', i2, hs2, rfl⟩
    have e : (c, y) = (c', phi A B q i2) := by
      refine two_same (h1 _ hfi) ?_ ?_
      · exact List.mem_filter.2 ⟨hs, hyi⟩
      · exact List.mem_filter.2 ⟨phi_step hAB hi hs2, phi_lead hAB h0 hM hM' hi2 hi hb⟩
    injection e with _ e
    rw [e] at hp
    obtain ⟨j, g1, g2, g3⟩ := phi_back hAB hA0 h0 hM hM' h1 m i2 x hi2 hx (hM'.trans hi2 hi hi2 hb hf) hp (hM.trans hx hfi (phi_lt hAB hi2) hxi (phi_lead hAB h0 hM hM' hi hi2 hf))
    exact ⟨j, g1, g2, hM'.trans g1 hi2 hi g3 hb⟩
theorem ch_ring {N : Nat} {R : Nat → Bool} (hM : Trans M N) {a b : Nat} (ha : a < N) (hb : b < N) (h1 : M a b = true) (h2 : M b a = true) (hR : R a = R b) : chC M R N a = chC M R N b := by
  rw [ch_eq hM ha, ch_eq hM hb, hR]
  congr 1
  refine foldC_pred fun j hj => ?_
  rw [Bool.eq_iff_iff]
  simp only [Bool.and_eq_true, Bool.not_eq_true']
  have t : ∀ {x y z}, x < N → y < N → z < N → M x y = true → M y z = true → M x z = true := fun hx hy hz => hM _ _ _ hx hy hz
  constructor
  · rintro ⟨g1, g2⟩
    refine ⟨t hb ha hj h2 g1, ?_⟩
    cases h : M j b with
    | false => rfl
    | true => rw [t hj hb ha h h2] at g2; cases g2
  · rintro ⟨g1, g2⟩
    refine ⟨t ha hb hj h1 g1, ?_⟩
    cases h : M j a with
    | false => rfl
    | true => rw [t hj ha hb h h1] at g2; cases g2
theorem phi_ch (hAB : ∀ p ∈ A, p ∈ B) (hA0 : okL A [] = true) (h0 : okL B [] = true) (hq : q ≤ 3) (hM : LeadOk (tabL A q) (stL A q).length M) (hM' : LeadOk (tabL B q) (stL B q).length M') (h1 : ∀ i, i < (stL A q).length → inN (tabL A q) M i ≤ 1) :
    ∀ (f i : Nat), i < (stL B q).length → rkC M' (stL B q).length i ≤ f → chC M' (fun i => inN (tabL B q) M' i == 1) (stL B q).length i ≤ chC M (fun i => inN (tabL A q) M i == 1) (stL A q).length (phi A B q i)
  | 0, i, hi, h => absurd (rk_pos (M := M') hi) (by omega)
  | f + 1, i, hi, h => by
    have hTA := tab_ok (q := q) hA0
    have hTB := tab_ok (q := q) h0
    have tA : Trans M (stL A q).length := fun a b c ha hb hc g1 g2 => hM.trans ha hb hc g1 g2
    have tB : Trans M' (stL B q).length := fun a b c ha hb hc g1 g2 => hM'.trans ha hb hc g1 g2
    have hfi := phi_lt (q := q) hAB hi
    have hin := phi_inN hAB h0 hM hM' hi
    have hone := h1 _ hfi
    have hR : (inN (tabL B q) M' i == 1) = true → (inN (tabL A q) M (phi A B q i) == 1) = true := fun h => by
      simp at h ⊢; omega
    have hself : (if (inN (tabL B q) M' i == 1) = true then (1 : Int) else 0) ≤ chC M (fun i => inN (tabL A q) M i == 1) (stL A q).length (phi A B q i) := by
      rw [ch_eq tA hfi]
      have := foldC_nonneg (chC M (fun i => inN (tabL A q) M i == 1) (stL A q).length) (fun j => M (phi A B q i) j && !M j (phi A B q i)) (stL A q).length
      by_cases h : (inN (tabL B q) M' i == 1) = true
      · rw [if_pos h, if_pos (hR h)]; omega
      · rw [if_neg h]; split <;> omega
    rw [ch_eq tB hi]
    have key := foldC_le (g := chC M' (fun i => inN (tabL B q) M' i == 1) (stL B q).length) (p := fun j => M' i j && !M' j i) (B := chC M (fun i => inN (tabL A q) M i == 1) (stL A q).length (phi A B q i) - (if (inN (tabL B q) M' i == 1) = true then (1 : Int) else 0)) (by omega) (j := (stL B q).length) fun k hk hp => by
      simp only [Bool.and_eq_true, Bool.not_eq_true'] at hp
      obtain ⟨g1, g2⟩ := hp
      have hfk := phi_lt (q := q) hAB hk
      have hlt := rk_lt tB hi hk g1 g2
      have ih := phi_ch hAB hA0 h0 hq hM hM' h1 f k hk (by omega)
      have hl := phi_lead hAB h0 hM hM' hi hk g1
      cases hb : M (phi A B q k) (phi A B q i) with
      | false =>
        have := chC_ge (R := fun i => inN (tabL A q) M i == 1) tA hfi hfk hl hb
        by_cases h : (inN (tabL B q) M' i == 1) = true
        · rw [if_pos (hR h)] at this; rw [if_pos h]; omega
        · rw [if_neg h]
          have h3 : (0 : Int) ≤ if (inN (tabL A q) M (phi A B q i) == 1) = true then 1 else 0 := by split <;> omega
          omega
      | true =>
        have hii : M (phi A B q i) (phi A B q i) = true := hM.trans hfi hfk hfi hl hb
        have hkk : M (phi A B q k) (phi A B q k) = true := hM.trans hfk hfi hfk hb hl
        have hRR : ∀ x, x < (stL A q).length → M x x = true → (inN (tabL A q) M x == 1) = true := fun x hx hxx => by
          have h3 := (in_circle hTA hM hx).2 ((hM x x hx hx).1 hxx)
          have h4 := h1 x hx
          simp; omega
        have heq := ch_ring (R := fun i => inN (tabL A q) M i == 1) tA hfi hfk hl hb (by rw [hRR _ hfi hii, hRR _ hfk hkk])
        by_cases h : (inN (tabL B q) M' i == 1) = true
        · exfalso
          obtain ⟨n, hn⟩ := (in_circle hTB hM' hi).1 (by simp at h; omega)
          have hi' : M' i i = true := (hM' i i hi hi).2 ⟨n, hn⟩
          obtain ⟨m, hm⟩ := (hM _ _ hfi hfk).1 hl
          obtain ⟨j, j1, j2, j3⟩ := phi_back hAB hA0 h0 hM hM' h1 (m + 1) i _ hi hfk hi' hm hb
          rw [phi_inj hAB hq j1 hk j2] at j3
          rw [j3] at g2; cases g2
        · rw [if_neg h]; omega
    have hx : (if (fun i => inN (tabL B q) M' i == 1) i = true then (1 : Int) else 0) = if (inN (tabL B q) M' i == 1) = true then (1 : Int) else 0 := rfl
    rw [hx]
    omega
/-- Growth does not become greater. -/
theorem grow_mono {x y : Int} (hAB : ∀ p ∈ A, p ∈ B) (hA0 : okL A [] = true) (h0 : okL B [] = true) (hq : q ≤ 3) (hx : GrowIs (tabL A q) (stL A q).length x) (hy : GrowIs (tabL B q) (stL B q).length y) (hne : x ≠ -2) : y ≠ -2 ∧ y ≤ x := by
  obtain ⟨M, hM, hx⟩ := hx
  obtain ⟨M', hM', hy⟩ := hy
  have hN0 : 0 < (stL B q).length := by rw [stL_fix h0]; simp
  have tB : Trans M' (stL B q).length := fun a b c ha hb hc g1 g2 => hM'.trans ha hb hc g1 g2
  rcases hx with ⟨_, e⟩ | ⟨h1, rfl⟩
  · exact absurd e hne
  · rcases hy with ⟨⟨i, hi, h2⟩, _⟩ | ⟨h2, rfl⟩
    · have g1 := phi_inN hAB h0 hM hM' hi
      have g2 := h1 _ (phi_lt hAB hi)
      omega
    · have g1 := phi_ch hAB hA0 h0 hq hM hM' h1 _ 0 hN0 (Nat.le_refl _)
      rw [phi_zero hA0 h0] at g1
      have g2 := (ch_small (M := M') (R := fun i => inN (tabL B q) M' i == 1) tB hN0).1
      omega
end
/-- Nor do the numbers of words. -/
theorem acc_mono {A B : List Str} {q : Nat} (hAB : ∀ p ∈ A, p ∈ B) (hA0 : okL A [] = true) (h0 : okL B [] = true) (hA5 : ∀ p ∈ A, p.length ≤ 5) (hB5 : ∀ p ∈ B, p.length ≤ 5) (hq : q ≤ 3) (n : Nat) : (accL (tabL B q) n 0).length ≤ (accL (tabL A q) n 0).length := by
  have hN0 : 0 < (stL B q).length := by rw [stL_fix h0]; simp
  refine nodup_len (acc_nodup (tab_ok (q := q) h0) hq n 0 hN0) fun s hs => ?_
  obtain ⟨h1, h2, h3⟩ := (mem_acc0 h0 hB5 hq n s).1 hs
  exact (mem_acc0 hA0 hA5 hq n s).2 ⟨h1, h2, ok_sub hAB h3⟩
end Go.Proofs.Ytnamafakjkcmjaa
