/-
  Reading words: the state behind a word; all words that can come from a state, in order.
-/
import Derived.Test.YtpclkocfbkjabaaMB
namespace Go.Proofs.Ytpclkocfbkjabaa
open Go
set_option linter.unusedVariables false
set_option linter.unusedSimpArgs false

theorem ltr_nat {c : Nat} (hc : c < 3) : (ltr c).toNat = 97 + c := by
  unfold ltr
  rw [UInt8.toNat_ofNat_of_lt' (by simp [UInt8.size]; omega)]
theorem last4_of (a b : Str) (h : a = [] ∨ 4 ≤ b.length) : last4 (a ++ b) = last4 b := by
  rcases h with rfl | h
  · rfl
  · unfold last4
    rw [List.length_append, List.drop_append, List.drop_eq_nil_of_le (by omega), List.nil_append]
    congr 1
    omega
theorem last4_app (s t : Str) : last4 (last4 s ++ t) = last4 (s ++ t) := by
  have e : s ++ t = s.take (s.length - 4) ++ (last4 s ++ t) := by
    unfold last4
    rw [← List.append_assoc, List.take_append_drop]
  rw [e]
  refine (last4_of _ _ ?_).symm
  rcases Nat.lt_or_ge 4 s.length with h | h
  · right
    unfold last4
    simp
    omega
  · left
    rw [show s.length - 4 = 0 by omega]
    rfl
theorem suffix_snoc {s t : Str} {b : UInt8} (h : s <:+ t) : s ++ [b] <:+ t ++ [b] := by
  obtain ⟨u, rfl⟩ := h
  exact ⟨u, by simp⟩
theorem ok_step {set : List Str} {s : Str} {b : UInt8} (hp : ∀ p ∈ set, p.length ≤ 5) (hs : okL set s = true) : okL set (last4 s ++ [b]) = okL set (s ++ [b]) := by
  cases h : okL set (s ++ [b]) with
  | true =>
    refine ok_infix ?_ h
    unfold last4
    exact (suffix_snoc (List.drop_suffix _ _)).isInfix
  | false =>
    cases h2 : okL set (last4 s ++ [b]) with
    | false => rfl
    | true =>
      exfalso
      unfold okL at hs h h2
      simp only [Bool.not_eq_true', List.any_eq_false, Bool.not_eq_false', List.any_eq_true] at hs h h2
      obtain ⟨p, hm, hc⟩ := h
      rcases List.infix_concat_iff.1 ((contains_iff _ _).1 hc) with h3 | h3
      · refine h2 p hm ((contains_iff _ _).2 (List.IsSuffix.isInfix ?_))
        have hsuf : last4 s ++ [b] <:+ s ++ [b] := suffix_snoc (List.drop_suffix _ _)
        rcases Nat.lt_or_ge 4 s.length with h4 | h4
        · refine List.suffix_of_suffix_length_le h3 hsuf ?_
          have := hp p hm
          unfold last4
          simp
          omega
        · rw [last4_short h4]; exact h3
      · exact hs p hm ((contains_iff _ _).2 h3)

/-- Where a letter leads. -/
def toT (T : Tab) (i : Nat) (b : UInt8) : Int := (T.getD i []).getD (b.toNat - 97) (-1)
/-- Reading a word from a state on. -/
def runT (T : Tab) : Nat → Str → Option Nat
  | i, [] => some i
  | i, b :: s => if 0 ≤ toT T i b then runT T (toT T i b).toNat s else none
theorem run_nil (T : Tab) (i : Nat) : runT T i [] = some i := rfl
theorem run_cons (T : Tab) (i : Nat) (b : UInt8) (s : Str) : runT T i (b :: s) = if 0 ≤ toT T i b then runT T (toT T i b).toNat s else none := rfl
theorem run_append (T : Tab) : ∀ (s : Str) (i : Nat) (t : Str), runT T i (s ++ t) = (runT T i s).bind fun j => runT T j t
  | [], i, t => rfl
  | b :: s, i, t => by
    rw [List.cons_append, run_cons, run_cons]
    split
    · exact run_append T s _ t
    · rfl
theorem run_one (T : Tab) (i : Nat) (b : UInt8) : runT T i [b] = if 0 ≤ toT T i b then some (toT T i b).toNat else none := rfl
theorem to_step {T : Tab} {i c j : Nat} (hc : c < 3) : toT T i (ltr c) = (j : Int) → (c, j) ∈ stp T i := by
  intro h
  unfold toT at h
  rw [ltr_nat hc, Nat.add_sub_cancel_left] at h
  refine mem_steps.2 ?_
  rw [List.getD_eq_getElem?_getD] at h
  cases e : (T.getD i [])[c]? with
  | none => rw [e] at h; simp at h
  | some x => rw [e] at h; simp at h; exact congrArg some h
theorem step_to {T : Tab} {i c j : Nat} (hc : c < 3) (h : (c, j) ∈ stp T i) : toT T i (ltr c) = (j : Int) := by
  unfold toT
  rw [ltr_nat hc, Nat.add_sub_cancel_left, List.getD_eq_getElem?_getD, mem_steps.1 h]
  rfl
theorem to_state {set : List Str} {q c : Nat} {s : Str} (hq : q ≤ 3) (hc : c < q) (hs : s ∈ stL set q) : toT (tabL set q) ((stL set q).idxOf s) (ltr c) = toL set q s c := by
  have hi := List.idxOf_lt_length_of_mem hs
  unfold toT tabL
  rw [ltr_nat (by omega), Nat.add_sub_cancel_left, List.getD_eq_getElem?_getD, List.getD_eq_getElem?_getD, List.getElem?_map, List.getElem?_eq_getElem hi, List.getElem_idxOf hi]
  simp only [Option.map_some, Option.getD_some]
  unfold rowL
  rw [List.getElem?_map, List.getElem?_range hc]
  rfl
theorem lett_app {q : Nat} {s t : Str} : Lett q (s ++ t) ↔ Lett q s ∧ Lett q t := by
  unfold Lett
  constructor
  · intro h
    exact ⟨fun b hb => h b (List.mem_append_left _ hb), fun b hb => h b (List.mem_append_right _ hb)⟩
  · rintro ⟨h1, h2⟩ b hb
    rcases List.mem_append.1 hb with h | h
    · exact h1 b h
    · exact h2 b h
theorem lett_last4 {q : Nat} {s : Str} (h : Lett q s) : Lett q (last4 s) := fun b hb => h b (List.mem_of_mem_drop hb)
theorem last4_in {set : List Str} {q : Nat} {s : Str} (hl : Lett q s) (h : okL set s = true) : last4 s ∈ stL set q := by
  refine mem_stL.2 ⟨?_, lett_last4 hl, ok_infix (List.drop_suffix _ _).isInfix h⟩
  unfold last4; simp; omega
/-- The state behind a word is that of its last letters. -/
theorem run_ok {set : List Str} {q : Nat} (h0 : okL set [] = true) (hp : ∀ p ∈ set, p.length ≤ 5) (hq : q ≤ 3) (s : Str) (hs : Lett q s) :
    runT (tabL set q) 0 s = if okL set s = true then some ((stL set q).idxOf (last4 s)) else none := by
  revert hs
  refine snoc_ind (P := fun s => Lett q s → runT (tabL set q) 0 s = if okL set s = true then some ((stL set q).idxOf (last4 s)) else none) ?_ ?_ s
  · intro _
    rw [h0, if_pos rfl, run_nil]
    congr 1
    rw [show last4 [] = [] from rfl, stL_fix h0]
    simp
  · intro s b ih hs
    obtain ⟨h1, h2⟩ := lett_app.1 hs
    obtain ⟨c, hc, rfl⟩ := h2 b (by simp)
    rw [run_append, ih h1]
    cases hok : okL set s with
    | false =>
      have : okL set (s ++ [ltr c]) = false := by
        cases h : okL set (s ++ [ltr c]) with
        | false => rfl
        | true => rw [ok_infix (List.prefix_append s [ltr c]).isInfix h] at hok; cases hok
      rw [this]
      rfl
    | true =>
      rw [if_pos rfl, Option.bind_some, run_one, to_state hq hc (last4_in h1 hok)]
      unfold toL
      rw [ok_step hp hok, last4_app]
      split
      · rename_i h
        rw [if_pos (by omega), Int.toNat_natCast]
      · rfl
/-- From any state on. -/
theorem run_from {set : List Str} {q : Nat} (h0 : okL set [] = true) (hp : ∀ p ∈ set, p.length ≤ 5) (hq : q ≤ 3) {t : Str} (ht : t ∈ stL set q) (s : Str) (hs : Lett q s) :
    runT (tabL set q) ((stL set q).idxOf t) s = if okL set (t ++ s) = true then some ((stL set q).idxOf (last4 (t ++ s))) else none := by
  obtain ⟨h1, h2, h3⟩ := mem_stL.1 ht
  have e1 := run_ok h0 hp hq (t ++ s) (lett_app.2 ⟨h2, hs⟩)
  rw [run_append, run_ok h0 hp hq t h2, h3, if_pos rfl, Option.bind_some, last4_short h1] at e1
  exact e1
theorem run_lt {T : Tab} {N q : Nat} (hT : TabOk T N q) : ∀ (s : Str) (i j : Nat), i < N → runT T i s = some j → j < N
  | [], i, j, hi, h => by injection h with h; omega
  | b :: s, i, j, hi, h => by
    rw [run_cons] at h
    split at h
    · rename_i h1
      refine run_lt hT s _ j ?_ h
      have h2 := (hT.at hi).2
      unfold toT at h1 ⊢
      rw [List.getD_eq_getElem?_getD] at h1 ⊢
      cases e : (T.getD i [])[b.toNat - 97]? with
      | none => rw [e] at h1; simp at h1
      | some x =>
        rw [e] at h1
        simp at h1 ⊢
        have := h2 x (List.mem_of_getElem? e)
        omega
    · cases h

/-! ### All words that can come -/
def accL (T : Tab) : Nat → Nat → List Str
  | 0, _ => [[]]
  | m + 1, i => (stp T i).flatMap fun p => (accL T m p.2).map (ltr p.1 :: ·)
theorem acc_succ (T : Tab) (m i : Nat) : accL T (m + 1) i = (stp T i).flatMap fun p => (accL T m p.2).map (ltr p.1 :: ·) := rfl
theorem stp_letter {T : Tab} {N q i c j : Nat} (hT : TabOk T N q) (hq : q ≤ 3) (hi : i < N) (h : (c, j) ∈ stp T i) : c < 3 ∧ j < N := by
  have := hT.stp hi h
  exact ⟨by omega, this.2⟩
theorem mem_acc {T : Tab} {N q : Nat} (hT : TabOk T N q) (hq : q ≤ 3) : ∀ (m i : Nat), i < N → ∀ s, s ∈ accL T m i ↔ s.length = m ∧ Lett q s ∧ ∃ j, runT T i s = some j
  | 0, i, hi, s => by
    simp only [accL, List.mem_singleton, List.length_eq_zero_iff]
    exact ⟨fun h => by subst h; exact ⟨rfl, ⟨fun b hb => absurd hb List.not_mem_nil, i, rfl⟩⟩, fun h => h.1⟩
  | m + 1, i, hi, s => by
    rw [acc_succ, List.mem_flatMap]
    constructor
    · rintro ⟨⟨c, j⟩, h1, h2⟩
      obtain ⟨t, ht, rfl⟩ := List.mem_map.1 h2
      obtain ⟨hc, hj⟩ := stp_letter hT hq hi h1
      obtain ⟨g1, g2, k, g3⟩ := (mem_acc hT hq m j hj t).1 ht
      refine ⟨by simp [g1], fun b hb => ?_, k, ?_⟩
      · rcases List.mem_cons.1 hb with h | h
        · exact ⟨c, (hT.stp hi h1).1, h⟩
        · exact g2 b h
      · rw [run_cons, step_to hc h1, if_pos (by omega), Int.toNat_natCast]
        exact g3
    · rintro ⟨h1, h2, k, h3⟩
      cases s with
      | nil => simp at h1
      | cons b t =>
        obtain ⟨c, hc, rfl⟩ := h2 b (List.mem_cons_self ..)
        rw [run_cons] at h3
        split at h3
        · rename_i h4
          obtain ⟨j, hj⟩ : ∃ j : Nat, toT T i (ltr c) = j := ⟨(toT T i (ltr c)).toNat, by omega⟩
          have hm := to_step (by omega) hj
          rw [hj, Int.toNat_natCast] at h3
          refine ⟨(c, j), hm, List.mem_map.2 ⟨t, (mem_acc hT hq m j (hT.stp hi hm).2 t).2 ⟨by simpa using h1, fun b hb => h2 b (List.mem_cons_of_mem _ hb), k, h3⟩, rfl⟩⟩
        · cases h3
theorem can_acc {T : Tab} : ∀ (m i : Nat), can T m i = true ↔ accL T m i ≠ []
  | 0, i => by simp [can, accL]
  | m + 1, i => by
    rw [can_succ, acc_succ, Ne, List.flatMap_eq_nil_iff]
    constructor
    · rintro ⟨c, j, h1, h2⟩ h
      have := h (c, j) h1
      rw [List.map_eq_nil_iff] at this
      exact (can_acc m j).1 h2 this
    · intro h
      apply Classical.byContradiction
      intro hn
      apply h
      rintro ⟨c, j⟩ hm
      rw [List.map_eq_nil_iff]
      apply Classical.byContradiction
      intro hne
      exact hn ⟨c, j, hm, (can_acc m j).2 hne⟩
/-- How many they are. -/
theorem foldl_min_sum {α : Type} (g : α → Nat) (f : α → Int) (M : Int) (h : ∀ x, f x = min (g x : Int) M) (hM : 0 ≤ M) : ∀ (l : List α) (a : Nat), l.foldl (fun s p => min (s + f p) M) (min (a : Int) M) = min ((a + (l.map g).sum : Nat) : Int) M
  | [], a => by simp
  | x :: l, a => by
    rw [List.foldl_cons, h x]
    have e : min (min (a : Int) M + min (g x : Int) M) M = min ((a + g x : Nat) : Int) M := by omega
    rw [e, foldl_min_sum g f M h hM l (a + g x)]
    simp [Nat.add_assoc]
theorem cnt_acc (T : Tab) : ∀ (m i : Nat), cntT T m i = min ((accL T m i).length : Int) most1
  | 0, i => by simp [cntT, accL]; unfold most1; omega
  | m + 1, i => by
    show sumC (cntT T m) (stp T i) = _
    unfold sumC
    have := foldl_min_sum (fun p : Nat × Nat => (accL T m p.2).length) (fun p : Nat × Nat => cntT T m p.2) most1 (fun p => cnt_acc T m p.2) (by unfold most1; omega) (stp T i) 0
    rw [show min ((0 : Nat) : Int) most1 = 0 by unfold most1; omega] at this
    rw [this, acc_succ, List.length_flatMap]
    simp
end Go.Proofs.Ytpclkocfbkjabaa
