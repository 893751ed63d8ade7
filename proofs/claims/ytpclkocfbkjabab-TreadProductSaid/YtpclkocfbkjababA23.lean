/-
  The word at a place, and the place of a word, found letter by letter.
-/
import Derived.Test.YtpclkocfbkjababA21
namespace Go.Proofs.Ytpclkocfbkjabab
open Go
set_option linter.unusedVariables false
set_option linter.unusedSimpArgs false

/-- No number of words is too great. -/
def fewB (T : Tab) (n : Nat) : Bool := (List.range (n + 1)).all fun m => decide (cntT T m 0 < most1)
theorem few_at {T : Tab} {n m : Nat} (h : fewB T n = true) (hm : m ≤ n) : cntT T m 0 < most1 := by
  unfold fewB at h
  rw [List.all_eq_true] at h
  exact of_decide_eq_true (h m (List.mem_range.2 (by omega)))
theorem few_len {T : Tab} {n m : Nat} (h : fewB T n = true) (hm : m ≤ n) : ((accL T m 0).length : Int) < most1 ∧ cntT T m 0 = ((accL T m 0).length : Int) := by
  have h1 := few_at h hm
  have h2 := cnt_acc T m 0
  omega
theorem few_no {T : Tab} {n m : Nat} (hm : m ≤ n) (h : ¬ cntT T m 0 < most1) : fewB T n = false := by
  unfold fewB
  rw [List.all_eq_false]
  exact ⟨m, List.mem_range.2 (by omega), by simpa using h⟩
theorem few_all {T : Tab} {n : Nat} (h : ∀ m, m ≤ n → cntT T m 0 < most1) : fewB T n = true := by
  unfold fewB
  rw [List.all_eq_true]
  exact fun m hm => decide_eq_true (h m (by have := List.mem_range.1 hm; omega))
theorem cnt_exact {T : Tab} {m i : Nat} (h : ((accL T m i).length : Int) < most1) : cntT T m i = ((accL T m i).length : Int) := by
  have := cnt_acc T m i
  omega

structure ItemAt (T : Tab) (n K m i k : Nat) (out : Str) : Prop where
  len : out.length + m = n
  lt : k < (accL T m i).length
  few : ((accL T m i).length : Int) < most1
  word : (accL T n 0)[K]? = (accL T m i)[k]?.map (out ++ ·)
theorem ItemAt.start {T : Tab} {n K : Nat} (h : fewB T n = true) (hK : K < (accL T n 0).length) : ItemAt T n K n 0 K [] :=
  ⟨by simp, hK, (few_len h (Nat.le_refl n)).1, by rw [List.getElem?_eq_getElem hK]; rfl⟩
theorem ItemAt.step {T : Tab} {n K m i k c j : Nat} {out : Str} {pre : List (Nat × Nat)} (h : ItemAt T n K (m + 1) i k out) (hp : pre ++ [(c, j)] <+: stp T i) (h1 : sumA T m pre ≤ k) (h2 : k - sumA T m pre < (accL T m j).length) :
    ItemAt T n K m j (k - sumA T m pre) (out ++ [ltr c]) := by
  have hm : (c, j) ∈ stp T i := hp.subset (by simp)
  refine ⟨by have := h.len; simp; omega, h2, by have := acc_kid (m := m) hm; have := h.few; omega, ?_⟩
  rw [h.word, acc_at hp h1 h2]
  cases (accL T m j)[k - sumA T m pre]? with
  | none => rfl
  | some t => simp
theorem ItemAt.exact {T : Tab} {n K m i k c j : Nat} {out : Str} (h : ItemAt T n K (m + 1) i k out) (hm : (c, j) ∈ stp T i) : cntT T m j = ((accL T m j).length : Int) ∧ ((accL T m j).length : Int) < most1 := by
  have h1 := acc_kid (m := m) hm
  have h2 := h.few
  exact ⟨cnt_exact (by omega), by omega⟩
theorem ItemAt.not_all {T : Tab} {n K m i k : Nat} {out : Str} (h : ItemAt T n K (m + 1) i k out) (h1 : sumA T m (stp T i) ≤ k) : False := by
  have := h.lt
  rw [acc_len] at this
  omega
theorem ItemAt.done {T : Tab} {n K i k : Nat} {out : Str} (h : ItemAt T n K 0 i k out) : (accL T n 0)[K]? = some out := by
  rw [h.word]
  have := h.lt
  simp only [accL, List.length_singleton] at this
  obtain rfl : k = 0 := by omega
  simp [accL]

structure IndexAt (T : Tab) (n : Nat) (w : Str) (d i out : Nat) : Prop where
  le : d ≤ n
  st : ∃ N q, TabOk T N q ∧ q ≤ 3 ∧ i < N
  mem : w.drop d ∈ accL T (n - d) i
  idx : (accL T n 0).idxOf w = out + (accL T (n - d) i).idxOf (w.drop d)
  few : ((out + (accL T (n - d) i).length : Nat) : Int) < most1
theorem IndexAt.start {T : Tab} {N q n : Nat} {w : Str} (hT : TabOk T N q) (hq : q ≤ 3) (hN : 0 < N) (h : fewB T n = true) (hw : w ∈ accL T n 0) : IndexAt T n w 0 0 0 :=
  ⟨Nat.zero_le _, ⟨N, q, hT, hq, hN⟩, hw, by simp, by have := (few_len h (Nat.le_refl n)).1; simpa using this⟩
/-- The letter that comes next, and where it leads. -/
theorem IndexAt.next {T : Tab} {n d i out : Nat} {w : Str} (h : IndexAt T n w d i out) (hd : d < n) (hw : w.length = n) : ∃ c j, w[d]? = some (ltr c) ∧ (c, j) ∈ stp T i ∧ c < 3 ∧ w.drop (d + 1) ∈ accL T (n - (d + 1)) j := by
  obtain ⟨N, q, hT, hq, hi⟩ := h.st
  have h1 := h.mem
  rw [show n - d = (n - (d + 1)) + 1 by omega, acc_succ] at h1
  obtain ⟨⟨c, j⟩, h2, h3⟩ := List.mem_flatMap.1 h1
  obtain ⟨t, ht, e⟩ := List.mem_map.1 h3
  have hd' : d < w.length := by omega
  rw [List.drop_eq_getElem_cons hd'] at e
  injection e with e1 e2
  refine ⟨c, j, ?_, h2, (stp_letter hT hq hi h2).1, by rw [← e2]; exact ht⟩
  rw [List.getElem?_eq_getElem hd', ← e1]
theorem IndexAt.step {T : Tab} {n d i out c j : Nat} {w : Str} {pre : List (Nat × Nat)} (h : IndexAt T n w d i out) (hd : d < n) (hw : w[d]? = some (ltr c)) (hp : pre ++ [(c, j)] <+: stp T i) (hm : w.drop (d + 1) ∈ accL T (n - (d + 1)) j) :
    IndexAt T n w (d + 1) j (out + sumA T (n - (d + 1)) pre) := by
  obtain ⟨N, q, hT, hq, hi⟩ := h.st
  have hmem : (c, j) ∈ stp T i := hp.subset (by simp)
  obtain ⟨hd', e⟩ := List.getElem?_eq_some_iff.1 hw
  have h1 := h.idx
  have h2 := h.few
  rw [show n - d = (n - (d + 1)) + 1 by omega] at h1 h2
  rw [List.drop_eq_getElem_cons hd', e, acc_idx hT hq hi hp hm] at h1
  have h3 := sumA_le' (m := n - (d + 1)) hp
  exact ⟨by omega, ⟨N, q, hT, hq, (hT.stp hi hmem).2⟩, hm, by omega, by omega⟩
theorem IndexAt.bound {T : Tab} {n d i out : Nat} {w : Str} {pre : List (Nat × Nat)} (h : IndexAt T n w d i out) (hd : d < n) (hp : pre <+: stp T i) : ((out + sumA T (n - (d + 1)) pre : Nat) : Int) < most1 := by
  have h2 := h.few
  rw [show n - d = (n - (d + 1)) + 1 by omega] at h2
  have h3 := sumA_le (m := n - (d + 1)) hp
  omega
theorem IndexAt.exact {T : Tab} {n d i out c j : Nat} {w : Str} (h : IndexAt T n w d i out) (hd : d < n) (hm : (c, j) ∈ stp T i) : cntT T (n - (d + 1)) j = ((accL T (n - (d + 1)) j).length : Int) := by
  have h1 := acc_kid (m := n - (d + 1)) hm
  have h2 := h.few
  rw [show n - d = (n - (d + 1)) + 1 by omega] at h2
  exact cnt_exact (by omega)
theorem IndexAt.done {T : Tab} {n i out : Nat} {w : Str} (h : IndexAt T n w n i out) (hw : w.length = n) : (accL T n 0).idxOf w = out := by
  have := h.idx
  rw [Nat.sub_self, List.drop_of_length_le (by omega)] at this
  simpa [accL] using this
end Go.Proofs.Ytpclkocfbkjabab
