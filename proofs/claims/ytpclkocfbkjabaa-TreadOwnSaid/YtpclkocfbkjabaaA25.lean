/-
  Repetitions of a word; closed ways and the repetitions of their words.
-/
import Derived.Test.YtpclkocfbkjabaaA22
import Derived.Test.YtpclkocfbkjabaaA18
namespace Go.Proofs.Ytpclkocfbkjabaa
open Go
set_option linter.unusedVariables false
set_option linter.unusedSimpArgs false

/-- The first n letters of a word repeated for ever. -/
def repN (w : Str) (n : Nat) : Str := (List.range n).map fun i => w.getD (i % w.length) 0
theorem repN_len (w : Str) (n : Nat) : (repN w n).length = n := by simp [repN]
theorem repN_at {w : Str} {n i : Nat} (h : i < n) : (repN w n)[i]? = some (w.getD (i % w.length) 0) := by
  unfold repN
  rw [List.getElem?_map, List.getElem?_range h]
  rfl
theorem repN_none {w : Str} {n i : Nat} (h : n ≤ i) : (repN w n)[i]? = none := List.getElem?_eq_none (by rw [repN_len]; exact h)
theorem repN_add {w : Str} (hw : 0 < w.length) (j : Nat) : repN w (j * w.length) ++ w = repN w ((j + 1) * w.length) := by
  apply List.ext_getElem?
  intro i
  have e : (j + 1) * w.length = j * w.length + w.length := Nat.succ_mul _ _
  rcases Nat.lt_or_ge i (j * w.length) with h | h
  · rw [List.getElem?_append_left (by rw [repN_len]; exact h), repN_at h, repN_at (by rw [e]; omega)]
  · rw [List.getElem?_append_right (by rw [repN_len]; exact h), repN_len]
    rcases Nat.lt_or_ge i ((j + 1) * w.length) with h2 | h2
    · rw [repN_at h2]
      have e3 : i % w.length = i - j * w.length := by
        have h3 : i = (i - j * w.length) + w.length * j := by rw [Nat.mul_comm w.length j]; omega
        conv => lhs; rw [h3]
        have h5 : i - j * w.length < w.length := by rw [e] at h2; omega
        rw [Nat.add_mul_mod_self_left, Nat.mod_eq_of_lt h5]
      have h5 : i - j * w.length < w.length := by rw [e] at h2; omega
      rw [e3, List.getD_eq_getElem?_getD, List.getElem?_eq_getElem h5]
      rfl
    · have h5 : w.length ≤ i - j * w.length := by rw [e] at h2; omega
      rw [repN_none h2, List.getElem?_eq_none h5]
theorem repN_one (w : Str) : repN w w.length = w := by
  apply List.ext_getElem?
  intro i
  rcases Nat.lt_or_ge i w.length with h | h
  · rw [repN_at h, Nat.mod_eq_of_lt h, List.getD_eq_getElem?_getD, List.getElem?_eq_getElem h]
    rfl
  · rw [repN_none h, List.getElem?_eq_none h]
theorem repN_prefix {w : Str} {n m : Nat} (h : n ≤ m) : repN w n <+: repN w m := by
  unfold repN
  have e : List.range m = List.range n ++ (List.range (m - n)).map (n + ·) := by
    rw [← List.range_add, Nat.add_sub_cancel' h]
  rw [e, List.map_append]
  exact ⟨_, rfl⟩
theorem rep_infix {w p : Str} {n n' : Nat} (hw : 0 < w.length) (hp : p.length ≤ 5) (hn : w.length + 5 ≤ n') (h : p <:+: repN w n) : p <:+: repN w n' := by
  obtain ⟨a, b, e⟩ := h
  have hl := congrArg List.length e
  simp only [List.length_append, repN_len] at hl
  have hm := Nat.mod_lt a.length hw
  refine ⟨(repN w n').take (a.length % w.length), (repN w n').drop (a.length % w.length + p.length), ?_⟩
  have hpe : p = ((repN w n').drop (a.length % w.length)).take p.length := by
    apply List.ext_getElem?
    intro i
    rcases Nat.lt_or_ge i p.length with h | h
    · rw [List.getElem?_take_of_lt h, List.getElem?_drop, repN_at (by omega)]
      have h2 : (repN w n)[a.length + i]? = p[i]? := by
        rw [← e, List.append_assoc, List.getElem?_append_right (by omega), Nat.add_sub_cancel_left, List.getElem?_append_left h]
      rw [← h2, repN_at (by omega)]
      congr 2
      rw [Nat.mod_add_mod]
    · rw [List.getElem?_eq_none h, List.getElem?_eq_none (by simp; omega)]
  obtain ⟨P, hP⟩ : ∃ P, P = p.length := ⟨_, rfl⟩
  rw [← hP] at hpe ⊢
  rw [hpe, List.append_assoc, ← List.drop_drop, List.take_append_drop, List.take_append_drop]
theorem ok_rep {set : List Str} {w : Str} {n' : Nat} (hw : 0 < w.length) (hp : ∀ p ∈ set, p.length ≤ 5) (hn : w.length + 5 ≤ n') (h : okL set (repN w n') = true) (n : Nat) : okL set (repN w n) = true :=
  ok_iff.2 fun p hm hi => ok_iff.1 h p hm (rep_infix hw (hp p hm) hn hi)
/-- Is a word a loop? -/
def loopB (set : List Str) (w : Str) : Bool := !w.isEmpty && okL set (repN w (6 * w.length))
theorem loop_six {w : Str} (hw : 0 < w.length) : w.length + 5 ≤ 6 * w.length := by omega
theorem loop_any {set : List Str} {w : Str} {n' : Nat} (hw : 0 < w.length) (hp : ∀ p ∈ set, p.length ≤ 5) (hn : w.length + 5 ≤ n') : loopB set w = okL set (repN w n') := by
  unfold loopB
  have e : w.isEmpty = false := by cases w with | nil => simp at hw | cons a l => rfl
  rw [e, Bool.not_false, Bool.true_and]
  cases h : okL set (repN w n') with
  | true => exact ok_rep hw hp hn h _
  | false =>
    cases h2 : okL set (repN w (6 * w.length)) with
    | false => rfl
    | true => rw [ok_rep hw hp (loop_six hw) h2 n'] at h; cases h

/-! ### Closed ways -/
theorem run_way {T : Tab} {N q f : Nat} (hT : TabOk T N q) (hq : q ≤ 3) : ∀ (m i : Nat), i < N → rc T f m i = true → runT T i (wayG (rc T f) T m i) = some f ∧ Lett q (wayG (rc T f) T m i)
  | 0, i, _, h => by
    have : i = f := by simpa [rc] using h
    subst this
    exact ⟨rfl, fun b hb => absurd hb List.not_mem_nil⟩
  | m + 1, i, hi, h => by
    obtain ⟨⟨c, j⟩, h1, h2⟩ := List.any_eq_true.1 (show ((stp T i).any fun p => rc T f m p.2) = true from h)
    obtain ⟨c, j, h3, h4, h5⟩ := firstG_some (p := rc T f m) ⟨c, j, h1, h2⟩
    obtain ⟨hc, hj⟩ := hT.stp hi h4
    rw [wayG_succ h3]
    obtain ⟨g1, g2⟩ := run_way hT hq m j hj h5
    refine ⟨?_, fun b hb => ?_⟩
    · rw [run_cons, step_to (by omega) h4, if_pos (by omega), Int.toNat_natCast]
      exact g1
    · rcases List.mem_cons.1 hb with hb | hb
      · exact ⟨c, hc, hb⟩
      · exact g2 b hb
theorem run_rep {T : Tab} {f : Nat} {s : Str} (hs : 0 < s.length) (h : runT T f s = some f) : ∀ m, runT T f (repN s (m * s.length)) = some f
  | 0 => by rw [Nat.zero_mul]; rfl
  | m + 1 => by
    rw [← repN_add hs, run_append, run_rep hs h m]
    exact h
theorem bestN_is {T : Tab} {n : Nat} : ∀ {N : Nat}, bestN T n N = [] ∨ ∃ i, i < N ∧ rc T i n i = true ∧ bestN T n N = wayG (rc T i) T n i
  | 0 => .inl rfl
  | N + 1 => by
    show (if rc T N n N = true ∧ _ then _ else _) = [] ∨ ∃ i, _ ∧ _ ∧ (if rc T N n N = true ∧ _ then _ else _) = _
    split
    · rename_i h
      exact .inr ⟨N, by omega, h.1, rfl⟩
    · rcases bestN_is (T := T) (n := n) (N := N) with h | ⟨i, h1, h2, h3⟩
      · exact .inl h
      · exact .inr ⟨i, by omega, h2, h3⟩
/-- The shortest loop is a loop: all its repetitions avoid the set. -/
theorem best_loop {set : List Str} {q n : Nat} (h0 : okL set [] = true) (hp : ∀ p ∈ set, p.length ≤ 5) (hq : q ≤ 3) (hn : 1 ≤ n) (hex : ∃ i, i < (stL set q).length ∧ rc (tabL set q) i n i = true) :
    (bestN (tabL set q) n (stL set q).length).length = n ∧ Lett q (bestN (tabL set q) n (stL set q).length) ∧ ∀ m, okL set (repN (bestN (tabL set q) n (stL set q).length) m) = true := by
  have hT := tab_ok (q := q) h0
  obtain ⟨i0, hi0, hr0⟩ := hex
  have hne := bestN_some (T := tabL set q) hn hi0 hr0
  rcases bestN_is (T := tabL set q) (n := n) (N := (stL set q).length) with h | ⟨i, h1, h2, h3⟩
  · exact absurd h hne
  · have hlen := rc_len h2
    obtain ⟨g1, g2⟩ := run_way hT hq n i h1 h2
    rw [h3]
    refine ⟨hlen, g2, ?_⟩
    obtain ⟨s, hs⟩ : ∃ s, s = wayG (rc (tabL set q) i) (tabL set q) n i := ⟨_, rfl⟩
    rw [← hs] at hlen g1 g2 ⊢
    have hs0 : 0 < s.length := by omega
    have hid : (stL set q).idxOf (stL set q)[i] = i := (stL_nodup set hq).idxOf_getElem i h1
    have hmem : (stL set q)[i] ∈ stL set q := List.getElem_mem h1
    intro m
    have hrep := run_rep hs0 g1 (m + 1)
    have hlr : Lett q (repN s ((m + 1) * s.length)) := fun b hb => by
      unfold repN at hb
      obtain ⟨j, _, rfl⟩ := List.mem_map.1 hb
      have hj : j % s.length < s.length := Nat.mod_lt _ hs0
      rw [List.getD_eq_getElem?_getD, List.getElem?_eq_getElem hj]
      exact g2 _ (List.getElem_mem hj)
    have hrf := run_from h0 hp hq hmem _ hlr
    rw [hid, hrep] at hrf
    split at hrf
    · rename_i hok
      have h4 : okL set (repN s ((m + 1) * s.length)) = true := ok_infix (List.suffix_append _ _).isInfix hok
      have hmle : m ≤ (m + 1) * s.length := Nat.le_trans (Nat.le_succ m) (Nat.le_mul_of_pos_right _ hs0)
      exact ok_infix (repN_prefix hmle).isInfix h4
    · cases hrf
/-- A word all of whose repetitions avoid a set: words never end. -/
theorem rep_endless {set : List Str} {q : Nat} {w : Str} (h0 : okL set [] = true) (hp : ∀ p ∈ set, p.length ≤ 5) (hq : q ≤ 3) (hw : 0 < w.length) (hl : Lett q w) (h : ∀ m, okL set (repN w m) = true) (m : Nat) : can (tabL set q) m 0 = true := by
  refine (can_acc m 0).2 fun e => ?_
  have hmem : repN w m ∈ accL (tabL set q) m 0 := (mem_acc0 h0 hp hq m _).2 ⟨repN_len w m, fun b hb => by
    unfold repN at hb
    obtain ⟨j, _, rfl⟩ := List.mem_map.1 hb
    have hj : j % w.length < w.length := Nat.mod_lt _ hw
    rw [List.getD_eq_getElem?_getD, List.getElem?_eq_getElem hj]
    exact hl _ (List.getElem_mem hj), h m⟩
  rw [e] at hmem
  cases hmem
end Go.Proofs.Ytpclkocfbkjabaa
