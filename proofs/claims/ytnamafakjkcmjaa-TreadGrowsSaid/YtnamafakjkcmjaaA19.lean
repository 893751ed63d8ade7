/-
  How the number of words grows, by the circles one after the other. No function of the program stands in this text.
-/
import Derived.Test.YtnamafakjkcmjaaMB
namespace Go.Proofs.Ytnamafakjkcmjaa
open Go
set_option linter.unusedVariables false

theorem foldC_le {g : Nat → Int} {p : Nat → Bool} {B : Int} (hB : 0 ≤ B) : ∀ {j : Nat}, (∀ k, k < j → p k = true → g k ≤ B) → foldC g p j ≤ B
  | 0, _ => hB
  | j + 1, h => by
    unfold foldC
    have ih := foldC_le (p := p) hB (j := j) fun k hk hp => h k (by omega) hp
    by_cases e : p j = true
    · rw [if_pos e]; have := h j (by omega) e; omega
    · rw [if_neg e]; exact ih
theorem foldC_ge {g : Nat → Int} {p : Nat → Bool} : ∀ {j k : Nat}, k < j → p k = true → g k ≤ foldC g p j
  | 0, k, h, _ => absurd h (Nat.not_lt_zero k)
  | j + 1, k, h, hp => by
    unfold foldC
    rcases Nat.lt_or_eq_of_le (Nat.le_of_lt_succ h) with h' | rfl
    · have ih := foldC_ge (g := g) h' hp
      split <;> omega
    · rw [if_pos hp]; omega
theorem foldC_nonneg (g : Nat → Int) (p : Nat → Bool) : ∀ j, 0 ≤ foldC g p j
  | 0 => Int.le_refl _
  | j + 1 => by
    have ih := foldC_nonneg g p j
    unfold foldC
    split <;> omega

section
variable {M : Nat → Nat → Bool} {R : Nat → Bool} {N : Nat}
def Trans (M : Nat → Nat → Bool) (N : Nat) : Prop := ∀ a b c, a < N → b < N → c < N → M a b = true → M b c = true → M a c = true
/-- What the circles' numbers are while they grow. -/
structure CsOk (M : Nat → Nat → Bool) (R : Nat → Bool) (N : Nat) (cs : Nat → Int) : Prop where
  zero : ∀ i, i < N → M i i = false → cs i = 0
  one : ∀ i, i < N → M i i = true → 1 ≤ cs i ∧ cs i ≤ chC M R N i
theorem chC_ge (hM : Trans M N) {i j : Nat} (hi : i < N) (hj : j < N) (h1 : M i j = true) (h2 : M j i = false) : chC M R N j + (if R i then 1 else 0) ≤ chC M R N i := by
  rw [ch_eq hM hi]
  have := foldC_ge (g := chC M R N) (p := fun j => M i j && !M j i) hj (by simp [h1, h2])
  omega
theorem CsOk.start (hM : Trans M N) (hR : ∀ i, i < N → R i = M i i) : CsOk M R N (fun i => if M i i then 1 else 0) := by
  refine ⟨fun i _ h => by simp [h], fun i hi h => ?_⟩
  simp only [h, if_true]
  refine ⟨Int.le_refl _, ?_⟩
  rw [ch_eq hM hi, hR i hi, h]
  have := foldC_nonneg (chC M R N) (fun j => M i j && !M j i) N
  simp; omega
def updC (cs : Nat → Int) (i : Nat) (u : Int) : Nat → Int := fun k => if k = i then u else cs k
theorem CsOk.step (hM : Trans M N) (hR : ∀ i, i < N → R i = M i i) {cs : Nat → Int} (h : CsOk M R N cs) {i j : Nat} (hi : i < N) (hj : j < N) (h1 : M i i = true) (h2 : M j j = true) (h3 : M i j = true) (h4 : M j i = false) :
    cs j + 1 ≤ chC M R N i ∧ (cs i ≤ cs j → CsOk M R N (updC cs i (cs j + 1))) := by
  have e := chC_ge (R := R) hM hi hj h3 h4
  rw [hR i hi, h1] at e
  simp only [if_true] at e
  have hj1 := h.one j hj h2
  refine ⟨by omega, fun hle => ⟨fun k hk hz => ?_, fun k hk hz => ?_⟩⟩
  · unfold updC
    rw [if_neg (by rintro rfl; rw [h1] at hz; cases hz)]
    exact h.zero k hk hz
  · unfold updC
    by_cases e' : k = i
    · subst e'; rw [if_pos rfl]; omega
    · rw [if_neg e']; exact h.one k hk hz
/-- Nothing grows any more. -/
def Calm (M : Nat → Nat → Bool) (N : Nat) (cs : Nat → Int) : Prop := ∀ i j, i < N → j < N → M i i = true → M j j = true → M i j = true → M j i = false → cs j < cs i
theorem calm_low (hM : Trans M N) (hR : ∀ i, i < N → R i = M i i) {cs : Nat → Int} (h : CsOk M R N cs) (hc : Calm M N cs) : ∀ (f k : Nat), k < N → rkC M N k ≤ f →
    (M k k = true → chC M R N k ≤ cs k) ∧ (∀ i, i < N → M i i = true → M i k = true → M k i = false → chC M R N k ≤ cs i - 1)
  | 0, k, hk, hr => absurd (rk_pos (M := M) hk) (by omega)
  | f + 1, k, hk, hr => by
    have low : ∀ l, l < N → M k l = true → M l k = false → (M l l = true → chC M R N l ≤ cs l) ∧ (∀ i, i < N → M i i = true → M i l = true → M l i = false → chC M R N l ≤ cs i - 1) := fun l hl h1 h2 =>
      calm_low hM hR h hc f l hl (by have := rk_lt hM hk hl h1 h2; omega)
    have first : M k k = true → chC M R N k ≤ cs k := fun hkk => by
      have h1 := (h.one k hk hkk).1
      rw [ch_eq hM hk, hR k hk, hkk]
      have := foldC_le (g := chC M R N) (p := fun j => M k j && !M j k) (B := cs k - 1) (by omega) (j := N) fun l hl hp => by
        simp only [Bool.and_eq_true, Bool.not_eq_true'] at hp
        exact (low l hl hp.1 hp.2).2 k hk hkk hp.1 hp.2
      simp; omega
    refine ⟨first, fun i hi hii hik hki => ?_⟩
    have hci := (h.one i hi hii).1
    cases hkk : M k k with
    | true =>
      have := first hkk
      have := hc i k hi hk hii hkk hik hki
      omega
    | false =>
      rw [ch_eq hM hk, hR k hk, hkk]
      have := foldC_le (g := chC M R N) (p := fun j => M k j && !M j k) (B := cs i - 1) (by omega) (j := N) fun l hl hp => by
        simp only [Bool.and_eq_true, Bool.not_eq_true'] at hp
        refine (low l hl hp.1 hp.2).2 i hi hii (hM i k l hi hk hl hik hp.1) ?_
        cases hli : M l i with
        | false => rfl
        | true => rw [hM k l i hk hl hi hp.1 hli] at hki; cases hki
      simp; omega
theorem calm_best (hM : Trans M N) (hR : ∀ i, i < N → R i = M i i) {cs : Nat → Int} (h : CsOk M R N cs) (hc : Calm M N cs) (h0 : 0 < N) (hfrom : ∀ j, j < N → j ≠ 0 → M 0 j = true) (hto : ∀ j, j < N → M j 0 = false) :
    foldC cs (fun _ => true) N = chC M R N 0 := by
  have up : ∀ (f k : Nat), k < N → rkC M N k ≤ f → chC M R N k ≤ foldC cs (fun _ => true) N := by
    intro f
    induction f with
    | zero => intro k hk hr; exact absurd (rk_pos (M := M) hk) (by omega)
    | succ f ih =>
      intro k hk hr
      cases hkk : M k k with
      | true =>
        have h1 := (calm_low hM hR h hc (f + 1) k hk hr).1 hkk
        have h2 := foldC_ge (g := cs) (p := fun _ => true) hk rfl
        omega
      | false =>
        rw [ch_eq hM hk, hR k hk, hkk]
        have := foldC_le (g := chC M R N) (p := fun j => M k j && !M j k) (B := foldC cs (fun _ => true) N) (foldC_nonneg _ _ _) (j := N) fun l hl hp => by
          simp only [Bool.and_eq_true, Bool.not_eq_true'] at hp
          exact ih l hl (by have := rk_lt hM hk hl hp.1 hp.2; omega)
        simpa using this
  refine Int.le_antisymm ?_ (up _ 0 h0 (Nat.le_refl _))
  have hpos : 0 ≤ chC M R N 0 := by
    rw [ch_eq hM h0]
    have := foldC_nonneg (chC M R N) (fun j => M 0 j && !M j 0) N
    split <;> omega
  refine foldC_le hpos fun k hk _ => ?_
  cases hkk : M k k with
  | false => rw [h.zero k hk hkk]; exact hpos
  | true =>
    have hk0 : k ≠ 0 := by rintro rfl; rw [hto 0 h0] at hkk; cases hkk
    have h1 := (h.one k hk hkk).2
    have h2 := chC_ge (R := R) hM h0 hk (hfrom k hk hk0) (hto k hk)
    split at h2 <;> omega
/-- How far the numbers may still grow. -/
def gapC (C cs : Nat → Int) : Nat → Nat
  | 0 => 0
  | k + 1 => gapC C cs k + (C k - cs k).toNat
theorem gap_same {C cs cs' : Nat → Int} : ∀ {n : Nat}, (∀ k, k < n → cs k = cs' k) → gapC C cs n = gapC C cs' n
  | 0, _ => rfl
  | n + 1, h => by
    unfold gapC
    rw [gap_same fun k hk => h k (by omega), h n (by omega)]
theorem gap_upd {C cs : Nat → Int} {i : Nat} {u : Int} (h1 : cs i < u) (h2 : u ≤ C i) : ∀ {n : Nat}, i < n → gapC C (updC cs i u) n < gapC C cs n
  | 0, h => absurd h (Nat.not_lt_zero _)
  | n + 1, h => by
    unfold gapC
    rcases Nat.lt_or_eq_of_le (Nat.le_of_lt_succ h) with h' | rfl
    · have := gap_upd h1 h2 h'
      have e : updC cs i u n = cs n := if_neg (by omega)
      rw [e]; omega
    · have e : updC cs i u i = u := if_pos rfl
      rw [e, gap_same (cs := updC cs i u) (cs' := cs) fun k hk => if_neg (by omega)]
      omega
end

/-! ### Every state can be reached from the first; none leads back to it -/
theorem tab_at {set : List Str} {q : Nat} {s : Str} (hs : s ∈ stL set q) : (tabL set q).getD ((stL set q).idxOf s) [] = rowL set q s := by
  have h := List.idxOf_lt_length_of_mem hs
  unfold tabL
  rw [List.getD_eq_getElem?_getD, List.getElem?_map, List.getElem?_eq_getElem h]
  rw [List.getElem_idxOf h]
  rfl
theorem reach_all {set : List Str} {q : Nat} (hq : q ≤ 3) (h0 : okL set [] = true) : ∀ (n : Nat) (s : Str), s.length = n → s ∈ stL set q → PathN (tabL set q) n 0 ((stL set q).idxOf s) := by
  intro n
  induction n with
  | zero =>
    intro s hl hs
    have : s = [] := List.eq_nil_of_length_eq_zero hl
    subst this
    rw [show (stL set q).idxOf [] = 0 by rw [stL_fix h0]; simp]
    exact rfl
  | succ n ih =>
    intro s hl hs
    obtain ⟨t, b, rfl⟩ : ∃ t b, s = t ++ [b] := by
      rcases List.eq_nil_or_concat s with rfl | ⟨t, b, rfl⟩
      · simp at hl
      · exact ⟨t, b, by rw [List.concat_eq_append]⟩
    obtain ⟨h1, h2, h3⟩ := mem_stL.1 hs
    obtain ⟨c, hc, rfl⟩ := h2 b (by simp)
    have ht : t ∈ stL set q := mem_stL.2 ⟨by simp at h1; omega, fun x hx => h2 x (by simp [hx]), ok_infix ⟨[], [ltr c], by simp⟩ h3⟩
    have hp := ih t (by simpa using hl) ht
    refine hp.snoc (c := c) ?_
    unfold stp
    rw [mem_steps, tab_at ht]
    unfold rowL
    rw [List.getElem?_map, List.getElem?_range hc]
    show some (toL set q t c) = _
    unfold toL
    rw [if_pos h3, last4_short h1]
theorem no_back {set : List Str} {q i c : Nat} (h0 : okL set [] = true) (hi : i < (stL set q).length) : (c, 0) ∉ stp (tabL set q) i := by
  intro h
  unfold stp at h
  rw [mem_steps] at h
  have hs : (stL set q)[i] ∈ stL set q := List.getElem_mem hi
  unfold tabL at h
  rw [List.getD_eq_getElem?_getD, List.getElem?_map, List.getElem?_eq_getElem hi] at h
  simp only [Option.map_some, Option.getD_some] at h
  unfold rowL at h
  rw [List.getElem?_map] at h
  by_cases hc : c < q
  · rw [List.getElem?_range hc] at h
    simp only [Option.map_some, Option.some.injEq] at h
    unfold toL at h
    split at h
    · rename_i hok
      have hm := last4_mem hs hc hok
      have h' : (stL set q).idxOf (last4 ((stL set q)[i] ++ [ltr c])) = 0 := by omega
      have e := List.getElem_idxOf (List.idxOf_lt_length_of_mem hm)
      simp only [h'] at e
      have e0 : (stL set q)[0]'(by have := List.idxOf_lt_length_of_mem hm; omega) = [] := (List.getElem_of_eq (stL_fix h0) _).trans rfl
      rw [e0] at e
      have : (last4 ((stL set q)[i] ++ [ltr c])).length = 0 := by rw [← e]; rfl
      unfold last4 at this
      simp at this
      omega
    · omega
  · rw [List.getElem?_eq_none (by simp; omega)] at h
    simp at h
theorem path_last {T : Tab} : ∀ {m i j : Nat}, PathN T (m + 1) i j → ∃ k c, PathN T m i k ∧ (c, j) ∈ stp T k := by
  intro m
  induction m with
  | zero =>
    rintro i j ⟨c, k, h1, h2⟩
    exact ⟨i, c, rfl, by rw [show j = k from Eq.symm h2]; exact h1⟩
  | succ m ih =>
    rintro i j ⟨c, k, h1, h2⟩
    obtain ⟨l, d, h3, h4⟩ := ih h2
    exact ⟨l, d, ⟨c, k, h1, h3⟩, h4⟩
theorem path_in {T : Tab} {N q : Nat} (hT : TabOk T N q) : ∀ {m i j : Nat}, i < N → PathN T m i j → j < N := by
  intro m
  induction m with
  | zero => intro i j hi h; rw [show i = j from h] at hi; exact hi
  | succ m ih =>
    rintro i j hi ⟨c, k, h1, h2⟩
    exact ih (hT.stp hi h1).2 h2
theorem lead_from {set : List Str} {q N : Nat} (hq : q ≤ 3) (h0 : okL set [] = true) (hN : N = (stL set q).length) {M : Nat → Nat → Bool} (hM : LeadOk (tabL set q) N M) :
    (∀ j, j < N → j ≠ 0 → M 0 j = true) ∧ (∀ j, j < N → M j 0 = false) := by
  have hT := tab_ok (q := q) h0
  have hpos : 0 < N := by rw [hN, stL_fix h0]; simp
  constructor
  · intro j hj hj0
    have hj' : j < (stL set q).length := by omega
    have hs := List.getElem_mem hj'
    have hp := reach_all hq h0 _ _ rfl hs
    have hidx : (stL set q).idxOf (stL set q)[j] = j := (stL_nodup set hq).idxOf_getElem j hj'
    rw [hidx] at hp
    refine (hM 0 j hpos hj).2 ?_
    cases hl : (stL set q)[j].length with
    | zero => rw [hl] at hp; exact absurd (Eq.symm (show 0 = j from hp)) hj0
    | succ m => rw [hl] at hp; exact ⟨m, hp⟩
  · intro j hj
    cases h : M j 0 with
    | false => rfl
    | true =>
      obtain ⟨m, hp⟩ := (hM j 0 hj hpos).1 h
      obtain ⟨k, c, h1, h2⟩ := path_last hp
      have hk : k < N := path_in (hN ▸ hT) hj h1
      exact absurd h2 (no_back h0 (hN ▸ hk))
end Go.Proofs.Ytnamafakjkcmjaa
