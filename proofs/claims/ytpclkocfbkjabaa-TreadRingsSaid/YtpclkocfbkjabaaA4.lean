/-
  A way as long as there are states never ends. No program stands in this text.
-/
import Derived.Test.YtpclkocfbkjabaaA3
namespace Go.Proofs.Ytpclkocfbkjabaa
open Go
set_option linter.unusedVariables false

def cntC (T : Tab) (n m : Nat) : Nat := (List.range n).countP (can T m)
theorem cntC_less (T : Tab) (n m : Nat) : cntC T n (m + 1) ≤ cntC T n m :=
  List.countP_mono_left fun i _ h => can_less h
theorem countP_same {α : Type} {p q : α → Bool} : ∀ {l : List α}, (∀ x ∈ l, p x = true → q x = true) → l.countP p = l.countP q → ∀ x ∈ l, q x = true → p x = true
  | [], _, _, x, hx, _ => by cases hx
  | a :: l, h, e, x, hx, hq => by
    have hl : ∀ x ∈ l, p x = true → q x = true := fun x hx => h x (List.mem_cons_of_mem _ hx)
    have hle := List.countP_mono_left (p := p) (q := q) (l := l) hl
    rw [List.countP_cons, List.countP_cons] at e
    have ha := h a (List.mem_cons_self ..)
    cases hpa : p a with
    | true =>
      rw [hpa, ha hpa] at e
      simp only [if_true] at e
      rcases List.mem_cons.1 hx with rfl | hx
      · exact hpa
      · exact countP_same hl (by omega) x hx hq
    | false =>
      cases hqa : q a with
      | true => rw [hpa, hqa] at e; simp at e; omega
      | false =>
        rw [hpa, hqa] at e
        simp only [Bool.false_eq_true, if_false] at e
        rcases List.mem_cons.1 hx with rfl | hx
        · rw [hqa] at hq; cases hq
        · exact countP_same hl (by omega) x hx hq
def Stable (T : Tab) (n m : Nat) : Prop := ∀ i, i < n → can T m i = true → can T (m + 1) i = true
theorem stable_or {T : Tab} {n : Nat} : ∀ m, (∃ j, j ≤ m ∧ Stable T n j) ∨ cntC T n m + m ≤ n
  | 0 => .inr (by unfold cntC; have := List.countP_le_length (p := can T 0) (l := List.range n); simpa using this)
  | m + 1 => by
    rcases stable_or (T := T) (n := n) m with ⟨j, hj, hs⟩ | h
    · exact .inl ⟨j, by omega, hs⟩
    · have hl := cntC_less T n m
      rcases Nat.lt_or_eq_of_le hl with h1 | h1
      · exact .inr (by omega)
      · refine .inl ⟨m, by omega, fun i hi hc => ?_⟩
        exact countP_same (p := can T (m + 1)) (q := can T m) (fun x _ hx => can_less hx) h1 i (List.mem_range.2 hi) hc
theorem stable_up {T : Tab} {n q m : Nat} (hT : TabOk T n q) (h : Stable T n m) : Stable T n (m + 1) := by
  intro i hi hc
  obtain ⟨c, j, h1, h2⟩ := can_succ.1 hc
  exact can_succ.2 ⟨c, j, h1, h j (hT.stp hi h1).2 h2⟩
theorem stable_all {T : Tab} {n q m : Nat} (hT : TabOk T n q) (h : Stable T n m) : ∀ k, Stable T n (m + k)
  | 0 => h
  | k + 1 => stable_up hT (stable_all hT h k)
theorem stable_ever {T : Tab} {n q m i : Nat} (hT : TabOk T n q) (h : Stable T n m) (hi : i < n) (hc : can T m i = true) : ∀ k, can T (m + k) i = true
  | 0 => hc
  | k + 1 => stable_all hT h k i hi (stable_ever hT h hi hc k)
theorem can_ever {T : Tab} {n q i : Nat} (hT : TabOk T n q) (hi : i < n) (hc : can T n i = true) : ∀ k, can T k i = true := by
  intro k
  rcases stable_or (T := T) (n := n) n with ⟨j, hj, hs⟩ | h
  · exact can_le (show k ≤ j + k by omega) (stable_ever hT hs hi (can_le hj hc) k)
  · exfalso
    have h0 : cntC T n n = 0 := by omega
    unfold cntC at h0
    rw [List.countP_eq_zero] at h0
    exact h0 i (List.mem_range.2 hi) hc
theorem Lng.few {T : Tab} {n q i : Nat} {v : Int} (hT : TabOk T n q) (hi : i < n) (h : Lng T i v) : v < n := by
  rcases h with ⟨rfl, _⟩ | ⟨m, rfl, h1, h2⟩
  · omega
  · rcases Nat.lt_or_ge m n with h3 | h3
    · omega
    · have := can_ever hT hi (can_le h3 h1) (m + 1)
      rw [this] at h2; cases h2
theorem tab_ok {set : List Str} {q : Nat} (h0 : okL set [] = true) : TabOk (tabL set q) (stL set q).length q := by
  unfold tabL
  refine ⟨by simp, fun r hr => ?_, fun r hr x hx => ?_⟩
  · obtain ⟨s, _, rfl⟩ := List.mem_map.1 hr
    unfold rowL; simp
  · obtain ⟨s, hs, rfl⟩ := List.mem_map.1 hr
    obtain ⟨c, hc, rfl⟩ := List.mem_map.1 hx
    exact toL_range hs (List.mem_range.1 hc)
/-- What is known, as the program's map has it. -/
def mapN (K : Nat → Option Int) : Int → Option Int := fun x => if 0 ≤ x then K x.toNat else none
theorem mapN_at (K : Nat → Option Int) (i : Nat) : mapN K (i : Int) = K i := by unfold mapN; rw [if_pos (by omega)]; rfl
theorem mapN_set (K : Nat → Option Int) (i : Nat) (v : Int) (x : Int) : (if x = (i : Int) then some v else mapN K x) = mapN (setK K i v) x := by
  unfold mapN setK
  by_cases h : x = (i : Int)
  · subst h; rw [if_pos rfl, if_pos (by omega), if_pos (by omega)]
  · rw [if_neg h]
    by_cases h0 : 0 ≤ x
    · rw [if_pos h0, if_pos h0, if_neg (by omega)]
    · rw [if_neg h0, if_neg h0]
end Go.Proofs.Ytpclkocfbkjabaa
