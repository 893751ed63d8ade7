/-
  How many words can follow, capped. No function of the program stands in this text.
-/
import Derived.Test.YtpclkocfbkjabaaA13
namespace Go.Proofs.Ytpclkocfbkjabaa
open Go
set_option linter.unusedVariables false

def most1 : Int := 1152921504606846977
def sumC (g : Nat → Int) (l : List (Nat × Nat)) : Int := l.foldl (fun s p => min (s + g p.2) most1) 0
def cntT (T : Tab) : Nat → Nat → Int
  | 0, _ => 1
  | m + 1, i => sumC (cntT T m) (stp T i)
theorem sumC_snoc (g : Nat → Int) (l : List (Nat × Nat)) (p : Nat × Nat) : sumC g (l ++ [p]) = min (sumC g l + g p.2) most1 := by
  unfold sumC
  rw [List.foldl_append]
  rfl
theorem snoc_ind {α : Type} {P : List α → Prop} (h0 : P []) (h1 : ∀ l x, P l → P (l ++ [x])) (l : List α) : P l := by
  have : ∀ n, ∀ l : List α, l.length = n → P l := by
    intro n
    induction n with
    | zero => intro l h; rw [List.eq_nil_of_length_eq_zero h]; exact h0
    | succ n ih =>
      intro l h
      rcases List.eq_nil_or_concat l with rfl | ⟨t, b, rfl⟩
      · simp at h
      · rw [List.concat_eq_append] at *
        exact h1 _ _ (ih _ (by simpa using h))
  exact this _ l rfl
theorem sumC_bound {g : Nat → Int} (hg : ∀ j, 0 ≤ g j) (l : List (Nat × Nat)) : 0 ≤ sumC g l ∧ sumC g l ≤ most1 := by
  refine snoc_ind (P := fun l => 0 ≤ sumC g l ∧ sumC g l ≤ most1) ⟨Int.le_refl _, (by decide : (0 : Int) ≤ most1)⟩ (fun l x h => ?_) l
  rw [sumC_snoc]
  have := hg x.2
  have : (0 : Int) ≤ most1 := by decide
  omega
theorem cnt_bound (T : Tab) : ∀ m i, 0 ≤ cntT T m i ∧ cntT T m i ≤ most1
  | 0, _ => ⟨(by decide : (0 : Int) ≤ 1), (by decide : (1 : Int) ≤ most1)⟩
  | m + 1, i => sumC_bound (fun j => (cnt_bound T m j).1) _
theorem sumC_pos {g : Nat → Int} (hg : ∀ j, 0 ≤ g j) (l : List (Nat × Nat)) : 0 < sumC g l ↔ ∃ p ∈ l, 0 < g p.2 := by
  refine snoc_ind (P := fun l => 0 < sumC g l ↔ ∃ p ∈ l, 0 < g p.2) ⟨fun h => absurd h (by show ¬ (0 : Int) < 0; omega), fun ⟨p, h, _⟩ => by cases h⟩ (fun l x h => ?_) l
  rw [sumC_snoc]
  have h0 := (sumC_bound hg l).1
  have h1 := hg x.2
  have h2 : (0 : Int) < most1 := by decide
  constructor
  · intro hp
    by_cases hl : 0 < sumC g l
    · obtain ⟨p, hp, hq⟩ := h.1 hl
      exact ⟨p, List.mem_append_left _ hp, hq⟩
    · exact ⟨x, by simp, by omega⟩
  · rintro ⟨p, hp, hq⟩
    rcases List.mem_append.1 hp with hp | hp
    · have := h.2 ⟨p, hp, hq⟩; omega
    · rw [List.mem_singleton.1 hp] at hq; omega
theorem cnt_pos (T : Tab) : ∀ m i, 0 < cntT T m i ↔ can T m i = true
  | 0, _ => ⟨fun _ => rfl, fun _ => by show (0 : Int) < 1; decide⟩
  | m + 1, i => by
    rw [show cntT T (m + 1) i = sumC (cntT T m) (stp T i) from rfl, sumC_pos (fun j => (cnt_bound T m j).1), can_succ]
    constructor
    · rintro ⟨⟨c, j⟩, h1, h2⟩
      exact ⟨c, j, h1, (cnt_pos T m j).1 h2⟩
    · rintro ⟨c, j, h1, h2⟩
      exact ⟨(c, j), h1, (cnt_pos T m j).2 h2⟩
theorem cnt_zero {T : Tab} {m i : Nat} : cntT T m i = 0 ↔ can T m i = false := by
  have := cnt_pos T m i
  have := (cnt_bound T m i).1
  cases h : can T m i with
  | true => simp [h] at *; omega
  | false => simp [h] at *; omega
def cntRow (T : Tab) (N m : Nat) : List Int := (List.range N).map (cntT T m)
def cntRows (T : Tab) (N n : Nat) : Tab := (List.range n).map (cntRow T N)
theorem cntRow_len (T : Tab) (N m : Nat) : (cntRow T N m).length = N := by simp [cntRow]
theorem cntRows_len (T : Tab) (N n : Nat) : (cntRows T N n).length = n := by simp [cntRows]
theorem cntRow_at {T : Tab} {N m i : Nat} (h : i < N) : (cntRow T N m).getD i 0 = cntT T m i := by
  unfold cntRow
  rw [List.getD_eq_getElem?_getD, List.getElem?_map, List.getElem?_range h]
  rfl
theorem cntRows_at {T : Tab} {N n m : Nat} (h : m < n) : (cntRows T N n).getD m [] = cntRow T N m := by
  unfold cntRows
  rw [List.getD_eq_getElem?_getD, List.getElem?_map, List.getElem?_range h]
  rfl
theorem cntRows_succ (T : Tab) (N n : Nat) : cntRows T N (n + 1) = cntRows T N n ++ [cntRow T N n] := by
  unfold cntRows
  rw [List.range_succ, List.map_append]
  rfl
theorem cntRow_snoc (T : Tab) (m i : Nat) : cntRow T (i + 1) m = cntRow T i m ++ [cntT T m i] := by
  unfold cntRow
  rw [List.range_succ, List.map_append]
  rfl
/-- The sum over the first letters. -/
def sumTo (T : Tab) (m i c : Nat) : Int := sumC (cntT T m) (stepsL ((T.getD i []).take c))
theorem steps_snoc {row : List Int} {k : Nat} (hk : k < row.length) : stepsL (row.take (k + 1)) = stepsL (row.take k) ++ (if 0 ≤ row.getD k 0 then [(k, (row.getD k 0).toNat)] else []) := by
  have e : row.getD k 0 = row[k] := by rw [List.getD_eq_getElem?_getD, List.getElem?_eq_getElem hk]; rfl
  rw [e]
  unfold stepsL
  rw [List.take_succ_eq_append_getElem hk, List.zipIdx_append, List.filterMap_append]
  congr 1
  simp only [List.length_take, Nat.min_eq_left (Nat.le_of_lt hk), List.zipIdx_singleton, List.filterMap_cons, List.filterMap_nil]
  by_cases h : 0 ≤ row[k]
  · rw [if_pos h, if_pos h]; simp
  · rw [if_neg h, if_neg h]
theorem sumTo_no {T : Tab} {m i c : Nat} (hc : c < (T.getD i []).length) (h : (T.getD i []).getD c 0 < 0) : sumTo T m i (c + 1) = sumTo T m i c := by
  unfold sumTo
  rw [steps_snoc hc, if_neg (by omega), List.append_nil]
theorem sumTo_yes {T : Tab} {m i c j : Nat} (hc : c < (T.getD i []).length) (h : (T.getD i []).getD c 0 = (j : Int)) : sumTo T m i (c + 1) = min (sumTo T m i c + cntT T m j) most1 := by
  unfold sumTo
  rw [steps_snoc hc, h, if_pos (by omega), sumC_snoc]
  rfl
theorem sumTo_all {T : Tab} {m i c : Nat} (hc : (T.getD i []).length ≤ c) : sumTo T m i c = cntT T (m + 1) i := by
  unfold sumTo
  rw [List.take_of_length_le hc]
  rfl
theorem sumTo_zero (T : Tab) (m i : Nat) : sumTo T m i 0 = 0 := rfl
theorem sumTo_bound (T : Tab) (m i c : Nat) : 0 ≤ sumTo T m i c ∧ sumTo T m i c ≤ most1 := sumC_bound (fun j => (cnt_bound T m j).1) _
end Go.Proofs.Ytpclkocfbkjabaa
