/-
  Several texts in one: XA24, XA25, XA26, XA27.
-/
import Derived.Test.YtnamafakjkcmjaaME
import Derived.Test.YtnamafakjkcmjaaMH
import Derived.Test.YtnamafakjkcmjaaA18
namespace Go.Proofs.Ytnamafakjkcmjaa
open Go
set_option linter.unusedVariables false
set_option linter.unusedSimpArgs false

theorem less_iff (a b : ByteArray) : Op.bytesLess a.toList b.toList = true ↔ sb a < sb b := by
  rw [bytesLess_eq, decide_eq_true_iff, Lib.toList_data, Lib.toList_data]
  rfl
theorem setB_iff {q : Nat} {ss : List ByteArray} : setB q ss = true ↔ (1 ≤ q ∧ q ≤ 3) ∧ ss.length ≤ 12 ∧ (∀ s ∈ ss, 1 ≤ s.size ∧ s.size ≤ 5 ∧ lettB q (sb s) = true) ∧ ss.Pairwise fun a b => sb a < sb b := by
  constructor
  · intro h
    obtain ⟨h1, h2, h3⟩ := setB_parts h
    have hat : ∀ j (hj : j < ss.length), (1 ≤ ss[j].size ∧ ss[j].size ≤ 5) ∧ lettB q (sb ss[j]) = true ∧ (j = 0 ∨ sb (ss.getD (j - 1) ByteArray.empty) < sb ss[j]) := fun j hj => by
      have := h3 j hj
      unfold goodB at this
      simp only [Bool.and_eq_true, Bool.or_eq_true, decide_eq_true_iff, less_iff] at this
      rw [show ss.getD j ByteArray.empty = ss[j] by rw [List.getD_eq_getElem?_getD, List.getElem?_eq_getElem hj]; rfl] at this
      exact ⟨this.1, this.2.1, this.2.2⟩
    refine ⟨by omega, h2, fun s hs => ?_, ?_⟩
    · obtain ⟨j, hj, rfl⟩ := List.mem_iff_getElem.1 hs
      obtain ⟨⟨a, b⟩, c, _⟩ := hat j hj
      exact ⟨a, b, c⟩
    · rw [List.pairwise_iff_getElem]
      intro i j hi hj hij
      obtain ⟨d, rfl⟩ : ∃ d, j = i + 1 + d := ⟨j - (i + 1), by omega⟩
      induction d with
      | zero =>
        rcases (hat (i + 1) hj).2.2 with h | h
        · omega
        · rw [show i + 1 - 1 = i by omega, List.getD_eq_getElem?_getD, List.getElem?_eq_getElem hi] at h
          exact h
      | succ d ih =>
        refine str_trans (ih (by omega) (by omega)) ?_
        rcases (hat (i + 1 + (d + 1)) hj).2.2 with h | h
        · omega
        · rw [show i + 1 + (d + 1) - 1 = i + 1 + d by omega, List.getD_eq_getElem?_getD, List.getElem?_eq_getElem (show i + 1 + d < ss.length by omega)] at h
          exact h
  · rintro ⟨h1, h2, h3, h4⟩
    refine setB_yes (by omega) (by omega) h2 fun j hj => ?_
    unfold goodB
    have e : ss.getD j ByteArray.empty = ss[j] := by rw [List.getD_eq_getElem?_getD, List.getElem?_eq_getElem hj]; rfl
    obtain ⟨a, b, c⟩ := h3 ss[j] (List.getElem_mem hj)
    simp only [Bool.and_eq_true, Bool.or_eq_true, decide_eq_true_iff, less_iff]
    rw [e]
    refine ⟨⟨a, b⟩, c, ?_⟩
    rcases Nat.eq_zero_or_pos j with h | h
    · exact .inl h
    · right
      rw [List.getD_eq_getElem?_getD, List.getElem?_eq_getElem (show j - 1 < ss.length by omega)]
      exact List.pairwise_iff_getElem.1 h4 (j - 1) j (by omega) hj (by omega)
theorem setB_nodup {q : Nat} {ss : List ByteArray} (h : setB q ss = true) : ss.Nodup :=
  (setB_iff.1 h).2.2.2.imp fun {a b} hab e => by subst e; exact str_irrefl _ hab
theorem setB_sub {q : Nat} {ss tt : List ByteArray} (h : setB q ss = true) (hs : tt.Sublist ss) : setB q tt = true := by
  obtain ⟨h1, h2, h3, h4⟩ := setB_iff.1 h
  exact setB_iff.2 ⟨h1, Nat.le_trans hs.length_le h2, fun s hm => h3 s (hs.subset hm), h4.sublist hs⟩
theorem pats_five {q : Nat} {ss : List ByteArray} (h : setB q ss = true) : ∀ p ∈ pats ss, p.length ≤ 5 := by
  intro p hp
  obtain ⟨s, hs, rfl⟩ := List.mem_map.1 hp
  rw [sb_size]
  exact ((setB_iff.1 h).2.2.1 s hs).2.1
theorem drop_sublist (ss : List ByteArray) (i : Nat) : (dropB ss i).Sublist ss := by
  unfold dropB
  have h := List.take_append_drop i ss
  conv => rhs; rw [← h]
  refine List.Sublist.append (List.Sublist.refl _) ?_
  rw [show ss.drop (i + 1) = (ss.drop i).drop 1 by rw [List.drop_drop]]
  exact List.drop_sublist _ _
/-- Picked by place, or by value. -/
theorem sel_filter (f : ByteArray → Bool) (g : Nat → Bool) (ss : List ByteArray) : ∀ k, k ≤ ss.length → (∀ i, i < k → g i = f (ss.getD i ByteArray.empty)) → selTo g ss k = (ss.take k).filter f
  | 0, _, _ => by simp [selTo]
  | k + 1, hk, h => by
    rw [sel_succ, sel_filter f g ss k (by omega) (fun i hi => h i (by omega)), List.take_succ_eq_append_getElem (by omega), List.filter_append, h k (by omega),
      show ss.getD k ByteArray.empty = ss[k] by rw [List.getD_eq_getElem?_getD, List.getElem?_eq_getElem (by omega)]; rfl]
    cases hf : f ss[k] <;> simp [hf]
theorem mem_drop_iff {ss : List ByteArray} {i : Nat} {s : ByteArray} (hn : ss.Nodup) (hi : i < ss.length) : s ∈ dropB ss i ↔ s ∈ ss ∧ s ≠ ss[i] := by
  unfold dropB
  rw [List.mem_append]
  constructor
  · rintro (h | h)
    · obtain ⟨j, hj, rfl⟩ := List.mem_iff_getElem.1 h
      rw [List.length_take] at hj
      rw [List.getElem_take]
      refine ⟨List.getElem_mem _, fun e => ?_⟩
      have := List.pairwise_iff_getElem.1 hn j i (by omega) hi (by omega)
      exact this e
    · obtain ⟨j, hj, rfl⟩ := List.mem_iff_getElem.1 h
      rw [List.length_drop] at hj
      rw [List.getElem_drop]
      refine ⟨List.getElem_mem _, fun e => ?_⟩
      have := List.pairwise_iff_getElem.1 hn i (i + 1 + j) hi (by omega) (by omega)
      exact this e.symm
  · rintro ⟨h, hne⟩
    obtain ⟨j, hj, rfl⟩ := List.mem_iff_getElem.1 h
    rcases Nat.lt_trichotomy j i with h1 | h1 | h1
    · left
      rw [List.mem_take_iff_getElem]
      exact ⟨j, by omega, rfl⟩
    · subst h1; exact absurd rfl hne
    · right
      rw [List.mem_iff_getElem]
      refine ⟨j - (i + 1), by rw [List.length_drop]; omega, ?_⟩
      rw [List.getElem_drop]
      congr 1
      omega
theorem rt_in {ss : List ByteArray} {i : Nat} (hn : ss.Nodup) (hi : i < ss.length) : rtB ss i = !inB ss (ss.getD i ByteArray.empty) := by
  have e : ss.getD i ByteArray.empty = ss[i] := by rw [List.getD_eq_getElem?_getD, List.getElem?_eq_getElem hi]; rfl
  unfold rtB
  rw [e]
  cases h : inB ss ss[i] with
  | true =>
    unfold inB at h
    rw [List.any_eq_true] at h
    obtain ⟨p, hp, hc⟩ := h
    unfold oth at hc
    simp only [Bool.and_eq_true, Bool.not_eq_true', decide_eq_false_iff_not] at hc
    cases h2 : okL (pats (dropB ss i)) (sb ss[i]) with
    | false => rfl
    | true =>
      exact absurd ((contains_iff _ _).1 hc.2) (ok_iff.1 h2 (sb p) (List.mem_map.2 ⟨p, (mem_drop_iff hn hi).2 ⟨hp, hc.1⟩, rfl⟩))
  | false =>
    show okL _ _ = true
    refine ok_iff.2 fun p hp hinf => ?_
    obtain ⟨s, hs, rfl⟩ := List.mem_map.1 hp
    obtain ⟨h1, h2⟩ := (mem_drop_iff hn hi).1 hs
    unfold inB at h
    rw [List.any_eq_false] at h
    apply h s h1
    unfold oth
    simp only [Bool.and_eq_true, Bool.not_eq_true', decide_eq_false_iff_not]
    exact ⟨h2, (contains_iff _ _).2 hinf⟩
theorem tid_sel {q : Nat} {ss : List ByteArray} (h : setB q ss = true) : selTo (rtB ss) ss ss.length = tidB ss := by
  rw [sel_filter (fun s => !inB ss s) (rtB ss) ss ss.length (Nat.le_refl _) (fun i hi => rt_in (setB_nodup h) hi), List.take_length]
  rfl
theorem tid_pats (ss : List ByteArray) : pats (tidB ss) = tidyL (pats ss) := by
  unfold pats tidB tidyL
  rw [List.filter_map]
  congr 1
  apply List.filter_congr
  intro s _
  simp only [Function.comp_apply]
  congr 1
  unfold inB hasIn
  rw [List.any_map]
  congr 1
  funext p
  simp only [Function.comp_apply, oth]
  congr 1
  by_cases e : p = s
  · subst e; simp
  · have e2 : ¬ sb p = sb s := fun h => e (sb_inj h)
    rw [decide_eq_false e]
    simp [e2]
theorem tid_sub (ss : List ByteArray) : (tidB ss).Sublist ss := List.filter_sublist
end Go.Proofs.Ytnamafakjkcmjaa

namespace Go.Proofs.Ytnamafakjkcmjaa
open Go
set_option linter.unusedVariables false
set_option linter.unusedSimpArgs false

/-- The first n letters of a word repeated for ever. -/
def repN (w : Str) (n : Nat) : Str := (List.range n).map fun i => w.getD (i % w.length) 0
theorem repN_len (w : Str) (n : Nat) : (repN w n).length = n := by simp [repN]
theorem repN_at {w : Str} {n i : Nat} (h : i < n) : (repN w n)[i]? = some (w.getD (i % w.length) 0) := by
  unfold repN
  rw [List.getElem?_map, List.getElem?_range h]
  rfl
theorem repN_none {w : Str} {n i : Nat} (h : n ≤ i) : (repN w n)[i]? = none := List.getElem?_eq_none (by rw [repN_len]; exact h)
theorem repN_add {w : Str} (hw : 0 < w.length) (j : Nat) : repN w (j * w.length) ++ w = repN w ((j + 1) * w.length) := by
  apply List.ext_getElem?
  intro i
  have e : (j + 1) * w.length = j * w.length + w.length := Nat.succ_mul _ _
  rcases Nat.lt_or_ge i (j * w.length) with h | h
  · rw [List.getElem?_append_left (by rw [repN_len]; exact h), repN_at h, repN_at (by rw [e]; omega)]
  · rw [List.getElem?_append_right (by rw [repN_len]; exact h), repN_len]
    rcases Nat.lt_or_ge i ((j + 1) * w.length) with h2 | h2
    · rw [repN_at h2]
      have e3 : i % w.length = i - j * w.length := by
        have h3 : i = (i - j * w.length) + w.length * j := by rw [Nat.mul_comm w.length j]; omega
        conv => lhs; rw [h3]
        have h5 : i - j * w.length < w.length := by rw [e] at h2; omega
        rw [Nat.add_mul_mod_self_left, Nat.mod_eq_of_lt h5]
      have h5 : i - j * w.length < w.length := by rw [e] at h2; omega
      rw [e3, List.getD_eq_getElem?_getD, List.getElem?_eq_getElem h5]
      rfl
    · have h5 : w.length ≤ i - j * w.length := by rw [e] at h2; omega
      rw [repN_none h2, List.getElem?_eq_none h5]
theorem repN_one (w : Str) : repN w w.length = w := by
  apply List.ext_getElem?
  intro i
  rcases Nat.lt_or_ge i w.length with h | h
  · rw [repN_at h, Nat.mod_eq_of_lt h, List.getD_eq_getElem?_getD, List.getElem?_eq_getElem h]
    rfl
  · rw [repN_none h, List.getElem?_eq_none h]
theorem repN_prefix {w : Str} {n m : Nat} (h : n ≤ m) : repN w n <+: repN w m := by
  unfold repN
  have e : List.range m = List.range n ++ (List.range (m - n)).map (n + ·) := by
    rw [← List.range_add, Nat.add_sub_cancel' h]
  rw [e, List.map_append]
  exact ⟨_, rfl⟩
theorem rep_infix {w p : Str} {n n' : Nat} (hw : 0 < w.length) (hp : p.length ≤ 5) (hn : w.length + 5 ≤ n') (h : p <:+: repN w n) : p <:+: repN w n' := by
  obtain ⟨a, b, e⟩ := h
  have hl := congrArg List.length e
  simp only [List.length_append, repN_len] at hl
  have hm := Nat.mod_lt a.length hw
  refine ⟨(repN w n').take (a.length % w.length), (repN w n').drop (a.length % w.length + p.length), ?_⟩
  have hpe : p = ((repN w n').drop (a.length % w.length)).take p.length := by
    apply List.ext_getElem?
    intro i
    rcases Nat.lt_or_ge i p.length with h | h
    · rw [List.getElem?_take_of_lt h, List.getElem?_drop, repN_at (by omega)]
      have h2 : (repN w n)[a.length + i]? = p[i]? := by
        rw [← e, List.append_assoc, List.getElem?_append_right (by omega), Nat.add_sub_cancel_left, List.getElem?_append_left h]
      rw [← h2, repN_at (by omega)]
      congr 2
      rw [Nat.mod_add_mod]
    · rw [List.getElem?_eq_none h, List.getElem?_eq_none (by simp; omega)]
  obtain ⟨P, hP⟩ : ∃ P, P = p.length := ⟨_, rfl⟩
  rw [← hP] at hpe ⊢
  rw [hpe, List.append_assoc, ← List.drop_drop, List.take_append_drop, List.take_append_drop]
theorem ok_rep {set : List Str} {w : Str} {n' : Nat} (hw : 0 < w.length) (hp : ∀ p ∈ set, p.length ≤ 5) (hn : w.length + 5 ≤ n') (h : okL set (repN w n') = true) (n : Nat) : okL set (repN w n) = true :=
  ok_iff.2 fun p hm hi => ok_iff.1 h p hm (rep_infix hw (hp p hm) hn hi)
/-- Is a word a loop? -/
def loopB (set : List Str) (w : Str) : Bool := !w.isEmpty && okL set (repN w (6 * w.length))
theorem loop_six {w : Str} (hw : 0 < w.length) : w.length + 5 ≤ 6 * w.length := by omega
theorem loop_any {set : List Str} {w : Str} {n' : Nat} (hw : 0 < w.length) (hp : ∀ p ∈ set, p.length ≤ 5) (hn : w.length + 5 ≤ n') : loopB set w = okL set (repN w n') := by
  unfold loopB
  have e : w.isEmpty = false := by cases w with | nil => simp at hw | cons a l => rfl
  rw [e, Bool.not_false, Bool.true_and]
  cases h : okL set (repN w n') with
  | true => exact ok_rep hw hp hn h _
  | false =>
    cases h2 : okL set (repN w (6 * w.length)) with
    | false => rfl
    | true => rw [ok_rep hw hp (loop_six hw) h2 n'] at h; cases h

/-! ### Closed ways -/
theorem run_way {T : Tab} {N q f : Nat} (hT : TabOk T N q) (hq : q ≤ 3) : ∀ (m i : Nat), i < N → rc T f m i = true → runT T i (wayG (rc T f) T m i) = some f ∧ Lett q (wayG (rc T f) T m i)
  | 0, i, _, h => by
    have : i = f := by simpa [rc] using h
    subst this
    exact ⟨rfl, fun b hb => absurd hb List.not_mem_nil⟩
  | m + 1, i, hi, h => by
    obtain ⟨⟨c, j⟩, h1, h2⟩ := List.any_eq_true.1 (show ((stp T i).any fun p => rc T f m p.2) = true from h)
    obtain ⟨c, j, h3, h4, h5⟩ := firstG_some (p := rc T f m) ⟨c, j, h1, h2⟩
    obtain ⟨hc, hj⟩ := hT.stp hi h4
    rw [wayG_succ h3]
    obtain ⟨g1, g2⟩ := run_way hT hq m j hj h5
    refine ⟨?_, fun b hb => ?_⟩
    · rw [run_cons, step_to (by omega) h4, if_pos (by omega), Int.toNat_natCast]
      exact g1
    · rcases List.mem_cons.1 hb with hb | hb
      · exact ⟨c, hc, hb⟩
      · exact g2 b hb
theorem run_rep {T : Tab} {f : Nat} {s : Str} (hs : 0 < s.length) (h : runT T f s = some f) : ∀ m, runT T f (repN s (m * s.length)) = some f
  | 0 => by rw [Nat.zero_mul]; rfl
  | m + 1 => by
    rw [← repN_add hs, run_append, run_rep hs h m]
    exact h
theorem bestN_is {T : Tab} {n : Nat} : ∀ {N : Nat}, bestN T n N = [] ∨ ∃ i, i < N ∧ rc T i n i = true ∧ bestN T n N = wayG (rc T i) T n i
  | 0 => .inl rfl
  | N + 1 => by
    show (if rc T N n N = true ∧ _ then _ else _) = [] ∨ ∃ i, _ ∧ _ ∧ (if rc T N n N = true ∧ _ then _ else _) = _
    split
    · rename_i h
      exact .inr ⟨N, by omega, h.1, rfl⟩
    · rcases bestN_is (T := T) (n := n) (N := N) with h | ⟨i, h1, h2, h3⟩
      · exact .inl h
      · exact .inr ⟨i, by omega, h2, h3⟩
/-- The shortest loop is a loop: all its repetitions avoid the set. -/
theorem best_loop {set : List Str} {q n : Nat} (h0 : okL set [] = true) (hp : ∀ p ∈ set, p.length ≤ 5) (hq : q ≤ 3) (hn : 1 ≤ n) (hex : ∃ i, i < (stL set q).length ∧ rc (tabL set q) i n i = true) :
    (bestN (tabL set q) n (stL set q).length).length = n ∧ Lett q (bestN (tabL set q) n (stL set q).length) ∧ ∀ m, okL set (repN (bestN (tabL set q) n (stL set q).length) m) = true := by
  have hT := tab_ok (q := q) h0
  obtain ⟨i0, hi0, hr0⟩ := hex
  have hne := bestN_some (T := tabL set q) hn hi0 hr0
  rcases bestN_is (T := tabL set q) (n := n) (N := (stL set q).length) with h | ⟨i, h1, h2, h3⟩
  · exact absurd h hne
  · have hlen := rc_len h2
    obtain ⟨g1, g2⟩ := run_way hT hq n i h1 h2
    rw [h3]
    refine ⟨hlen, g2, ?_⟩
    obtain ⟨s, hs⟩ : ∃ s, s = wayG (rc (tabL set q) i) (tabL set q) n i := ⟨_, rfl⟩
    rw [← hs] at hlen g1 g2 ⊢
    have hs0 : 0 < s.length := by omega
    have hid : (stL set q).idxOf (stL set q)[i] = i := (stL_nodup set hq).idxOf_getElem i h1
    have hmem : (stL set q)[i] ∈ stL set q := List.getElem_mem h1
    intro m
    have hrep := run_rep hs0 g1 (m + 1)
    have hlr : Lett q (repN s ((m + 1) * s.length)) := fun b hb => by
      unfold repN at hb
      obtain ⟨j, _, rfl⟩ := List.mem_map.1 hb
      have hj : j % s.length < s.length := Nat.mod_lt _ hs0
      rw [List.getD_eq_getElem?_getD, List.getElem?_eq_getElem hj]
      exact g2 _ (List.getElem_mem hj)
    have hrf := run_from h0 hp hq hmem _ hlr
    rw [hid, hrep] at hrf
    split at hrf
    · rename_i hok
      have h4 : okL set (repN s ((m + 1) * s.length)) = true := ok_infix (List.suffix_append _ _).isInfix hok
      have hmle : m ≤ (m + 1) * s.length := Nat.le_trans (Nat.le_succ m) (Nat.le_mul_of_pos_right _ hs0)
      exact ok_infix (repN_prefix hmle).isInfix h4
    · cases hrf
/-- A word all of whose repetitions avoid a set: words never end. -/
theorem rep_endless {set : List Str} {q : Nat} {w : Str} (h0 : okL set [] = true) (hp : ∀ p ∈ set, p.length ≤ 5) (hq : q ≤ 3) (hw : 0 < w.length) (hl : Lett q w) (h : ∀ m, okL set (repN w m) = true) (m : Nat) : can (tabL set q) m 0 = true := by
  refine (can_acc m 0).2 fun e => ?_
  have hmem : repN w m ∈ accL (tabL set q) m 0 := (mem_acc0 h0 hp hq m _).2 ⟨repN_len w m, fun b hb => by
    unfold repN at hb
    obtain ⟨j, _, rfl⟩ := List.mem_map.1 hb
    have hj : j % w.length < w.length := Nat.mod_lt _ hw
    rw [List.getD_eq_getElem?_getD, List.getElem?_eq_getElem hj]
    exact hl _ (List.getElem_mem hj), h m⟩
  rw [e] at hmem
  cases hmem
end Go.Proofs.Ytnamafakjkcmjaa

namespace Go.Proofs.Ytnamafakjkcmjaa
open Go
set_option linter.unusedVariables false
set_option linter.unusedSimpArgs false

theorem getD_at {ss : List ByteArray} {k : Nat} (hk : k < ss.length) : ss.getD k ByteArray.empty = ss[k] := by
  rw [List.getD_eq_getElem?_getD, List.getElem?_eq_getElem hk]; rfl
theorem nd_any {q : Nat} {ss : List ByteArray} {k : Nat} (hn : ss.Nodup) (hk : k < ss.length) : (ndTo q ss ss.length).any (fun x => decide (x = ss.getD k ByteArray.empty)) = ndB q ss k := by
  rw [Bool.eq_iff_iff, List.any_eq_true]
  unfold ndTo
  constructor
  · rintro ⟨x, hx, he⟩
    obtain ⟨i, hi, rfl⟩ := List.mem_map.1 hx
    obtain ⟨h1, h2⟩ := List.mem_filter.1 hi
    have h1 := List.mem_range.1 h1
    have he := of_decide_eq_true he
    rw [getD_at h1, getD_at hk] at he
    have : i = k := by
      rcases Nat.lt_trichotomy i k with h | h | h
      · exact absurd he (List.pairwise_iff_getElem.1 hn i k h1 hk h)
      · exact h
      · exact absurd he.symm (List.pairwise_iff_getElem.1 hn k i hk h1 h)
    rw [← this]; exact h2
  · intro h
    exact ⟨ss.getD k ByteArray.empty, List.mem_map.2 ⟨k, List.mem_filter.2 ⟨List.mem_range.2 hk, h⟩, rfl⟩, decide_eq_true rfl⟩
theorem ends_not {T : Tab} (h : can T 1000 0 = true) : endsB T = false := by unfold endsB; rw [h]; rfl
/-- The empty set is not unavoidable. -/
theorem ends_nil {q : Nat} (hq : 1 ≤ q ∧ q ≤ 3) : endsB (tabL (pats []) q) = false := by
  apply ends_not
  refine rep_endless (w := [ltr 0]) rfl (fun p hp => absurd hp List.not_mem_nil) hq.2 (by simp) (fun b hb => ⟨0, by omega, List.mem_singleton.1 hb⟩) (fun m => rfl) 1000
theorem mem_drop_or {ss : List ByteArray} {k : Nat} (hk : k < ss.length) {s : ByteArray} (h : s ∈ ss) : s ∈ dropB ss k ∨ s = ss[k] := by
  obtain ⟨j, hj, rfl⟩ := List.mem_iff_getElem.1 h
  unfold dropB
  rcases Nat.lt_trichotomy j k with h1 | h1 | h1
  · left
    refine List.mem_append_left _ (List.mem_take_iff_getElem.2 ⟨j, by omega, rfl⟩)
  · subst h1; exact .inr rfl
  · left
    refine List.mem_append_right _ ?_
    rw [List.mem_iff_getElem]
    refine ⟨j - (k + 1), by rw [List.length_drop]; omega, ?_⟩
    rw [List.getElem_drop]
    congr 1
    omega
theorem needed_loop {q n k : Nat} {ss : List ByteArray} (hset : setB q ss = true) (hk : k < ss.length) (he : endsB (tabL (pats ss) q) = true) (hn : 1 ≤ n)
    (hex : ∃ i, i < (stL (pats (dropB ss k)) q).length ∧ rc (tabL (pats (dropB ss k)) q) i n i = true) :
    (bestN (tabL (pats (dropB ss k)) q) n (stL (pats (dropB ss k)) q).length).length = n ∧
    loopB (pats (dropB ss k)) (bestN (tabL (pats (dropB ss k)) q) n (stL (pats (dropB ss k)) q).length) = true ∧ loopB (pats [ss[k]]) (bestN (tabL (pats (dropB ss k)) q) n (stL (pats (dropB ss k)) q).length) = false := by
  have hq := (setB_iff.1 hset).1
  have h0 := ok_nil (pats_some hset)
  have hp := pats_five hset
  have hpd : ∀ p ∈ pats (dropB ss k), p.length ≤ 5 := pats_five (setB_sub hset (drop_sublist ss k))
  obtain ⟨g1, g2, g3⟩ := best_loop (drop_ok h0) hpd hq.2 hn hex
  refine ⟨g1, ?_, ?_⟩
  · rw [loop_any (by omega) hpd (loop_six (by omega))]
    exact g3 _
  · obtain ⟨s, hs⟩ : ∃ s, s = bestN (tabL (pats (dropB ss k)) q) n (stL (pats (dropB ss k)) q).length := ⟨_, rfl⟩
    rw [← hs] at g1 g2 g3 ⊢
    cases h : loopB (pats [ss[k]]) s with
    | false => rfl
    | true =>
      exfalso
      have hp1 : ∀ p ∈ pats [ss[k]], p.length ≤ 5 := fun p hm => hp p (by
        obtain ⟨x, hx, rfl⟩ := List.mem_map.1 hm
        rw [List.mem_singleton.1 hx]
        exact List.mem_map.2 ⟨_, List.getElem_mem hk, rfl⟩)
      rw [loop_any (by omega) hp1 (loop_six (by omega))] at h
      have hall : ∀ m, okL (pats ss) (repN s m) = true := fun m => ok_iff.2 fun p hm => by
        obtain ⟨x, hx, rfl⟩ := List.mem_map.1 hm
        rcases mem_drop_or hk hx with h1 | h1
        · exact ok_iff.1 (g3 m) _ (List.mem_map.2 ⟨x, h1, rfl⟩)
        · exact ok_iff.1 (ok_rep (by omega) hp1 (loop_six (by omega)) h m) _ (List.mem_map.2 ⟨x, List.mem_singleton.2 h1, rfl⟩)
      rw [ends_not (rep_endless h0 hp hq.2 (by omega) g2 hall 1000)] at he
      cases he
end Go.Proofs.Ytnamafakjkcmjaa

namespace Go.Proofs.Ytnamafakjkcmjaa
open Go
set_option linter.unusedVariables false
set_option linter.unusedSimpArgs false

theorem nodup_len : ∀ {l l' : List Str}, l.Nodup → (∀ x ∈ l, x ∈ l') → l.length ≤ l'.length
  | [], _, _, _ => Nat.zero_le _
  | a :: l, l', hn, hs => by
    have ha := hs a List.mem_cons_self
    rw [List.nodup_cons] at hn
    have h := nodup_len (l := l) (l' := l'.erase a) hn.2 fun x hx => by
      have hne : x ≠ a := fun e => hn.1 (by rw [← e]; exact hx)
      rw [List.mem_erase_of_ne hne]
      exact hs x (List.mem_cons_of_mem _ hx)
    rw [List.length_erase_of_mem ha] at h
    have := List.length_pos_of_mem ha
    simp only [List.length_cons]
    omega
theorem ok_left {set : List Str} {s t : Str} (h : okL set (s ++ t) = true) : okL set s = true :=
  ok_iff.2 fun p hp hi => ok_iff.1 h p hp (hi.trans (List.prefix_append s t).isInfix)
theorem ok_right {set : List Str} {s t : Str} (h : okL set (s ++ t) = true) : okL set t = true :=
  ok_iff.2 fun p hp hi => ok_iff.1 h p hp (hi.trans (List.suffix_append s t).isInfix)
theorem flat_const {α β : Type} (f : α → List β) (k : Nat) : ∀ l : List α, (∀ x ∈ l, (f x).length = k) → (l.flatMap f).length = l.length * k
  | [], _ => by simp
  | a :: l, h => by
    rw [List.flatMap_cons, List.length_append, h a List.mem_cons_self, flat_const f k l fun x hx => h x (List.mem_cons_of_mem _ hx), List.length_cons, Nat.succ_mul]
    omega
theorem acc_prod {set : List Str} {q : Nat} (h0 : okL set [] = true) (hp : ∀ p ∈ set, p.length ≤ 5) (hq : q ≤ 3) (n m : Nat) :
    (accL (tabL set q) (n + m) 0).length ≤ (accL (tabL set q) n 0).length * (accL (tabL set q) m 0).length := by
  have hM := fun k s => mem_acc0 h0 hp hq k s
  have hN : (accL (tabL set q) (n + m) 0).Nodup := by
    rw [acc_words h0 hp hq]
    refine List.Pairwise.filter _ ?_
    refine List.Pairwise.imp ?_ (words_sorted hq (n + m))
    intro a b h e
    rw [e] at h
    exact str_irrefl b h
  refine Nat.le_trans (nodup_len (l' := (accL (tabL set q) n 0).flatMap fun a => (accL (tabL set q) m 0).map (a ++ ·)) hN fun x hx => ?_) (Nat.le_of_eq (flat_const _ _ _ fun x _ => by rw [List.length_map]))
  obtain ⟨h1, h2, h3⟩ := (hM _ _).1 hx
  have e : x.take n ++ x.drop n = x := List.take_append_drop n x
  rw [← e] at h2 h3
  refine List.mem_flatMap.2 ⟨x.take n, (hM _ _).2 ⟨by rw [List.length_take]; omega, (lett_app.1 h2).1, ok_left h3⟩, List.mem_map.2 ⟨x.drop n, (hM _ _).2 ⟨by rw [List.length_drop]; omega, (lett_app.1 h2).2, ok_right h3⟩, e⟩⟩
theorem acc_bound {set : List Str} {q : Nat} (h0 : okL set [] = true) (hp : ∀ p ∈ set, p.length ≤ 5) (hq : q ≤ 3) (n : Nat) : (accL (tabL set q) n 0).length ≤ q ^ n := by
  rw [acc_words h0 hp hq, ← words_len q n]
  exact List.length_filter_le _ _
theorem pow3 {q n k : Nat} (hq : q ≤ 3) (hn : n ≤ k) : q ^ n ≤ 3 ^ k :=
  Nat.le_trans (Nat.pow_le_pow_left hq n) (Nat.pow_le_pow_right (by omega) hn)
/-- The numbers of the law TreadProduct. -/
theorem prod_law {L : List ByteArray} {q n m : Nat} (hs : setB q L = true) (hn : n ≤ 18) (hm : 1 ≤ m ∧ m ≤ 18) :
    ∃ a b c d : Nat, (∀ k, k ≤ 36 → fewB (tabL (pats L) q) k = true) ∧ cntT (tabL (pats L) q) n 0 = (a : Int) ∧ cntT (tabL (pats L) q) m 0 = (b : Int) ∧ cntT (tabL (pats L) q) (n + m) 0 = (c : Int) ∧ cntT (tabL (pats L) q) (n + m - 1) 0 = (d : Int) ∧
      c ≤ a * b ∧ c ≤ q * d ∧ a ≤ 387420489 ∧ b ≤ 387420489 ∧ d ≤ 150094635296999121 := by
  have hq : q ≤ 3 := by have := (setB_parts hs).1; omega
  have h0 := ok_nil (pats_some hs)
  have hp := pats_five hs
  have hb : ∀ k, k ≤ 36 → ((accL (tabL (pats L) q) k 0).length : Int) < most1 := fun k hk => by
    have h1 := acc_bound h0 hp hq k
    have h2 := pow3 hq hk
    have h3 : (3 : Nat) ^ 36 = 150094635296999121 := by decide +kernel
    unfold most1
    omega
  have hf : ∀ k, k ≤ 36 → fewB (tabL (pats L) q) k = true := fun k hk => few_all fun j hj => by
    rw [cnt_exact (hb j (by omega))]
    exact hb j (by omega)
  refine ⟨_, _, _, _, hf, cnt_exact (hb n (by omega)), cnt_exact (hb m (by omega)), cnt_exact (hb (n + m) (by omega)), cnt_exact (hb (n + m - 1) (by omega)), acc_prod h0 hp hq n m, ?_, ?_, ?_, ?_⟩
  · have h1 := acc_prod h0 hp hq (n + m - 1) 1
    have h2 := acc_bound h0 hp hq 1
    rw [show n + m - 1 + 1 = n + m by omega] at h1
    rw [Nat.pow_one] at h2
    exact Nat.le_trans h1 (by rw [Nat.mul_comm]; exact Nat.mul_le_mul_right _ h2)
  · exact Nat.le_trans (acc_bound h0 hp hq n) (Nat.le_trans (pow3 hq hn) (by decide))
  · exact Nat.le_trans (acc_bound h0 hp hq m) (Nat.le_trans (pow3 hq hm.2) (by decide))
  · exact Nat.le_trans (acc_bound h0 hp hq _) (Nat.le_trans (pow3 hq (k := 36) (by omega)) (by decide +kernel))
end Go.Proofs.Ytnamafakjkcmjaa
