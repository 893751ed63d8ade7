/-
  Only the first letters: what the library's search over runes says of it. No program stands in this text.
-/
import Derived.Test.YtpclkocfbkjabaaA2
import Derived.Shelf.GgClosure.StringsIndexFunc
import Derived.WalkKit
namespace Go.Proofs.Ytpclkocfbkjabaa
open Go
set_option linter.unusedVariables false

def bs (l : Str) : ByteArray := ⟨l.toArray⟩
def sb (s : ByteArray) : Str := s.data.toList
theorem sb_bs (l : Str) : sb (bs l) = l := rfl
theorem bs_sb (s : ByteArray) : bs (sb s) = s := rfl
theorem sb_size (s : ByteArray) : (sb s).length = s.size := rfl
theorem sb_inj {s t : ByteArray} (h : sb s = sb t) : s = t := by rw [← bs_sb s, h, bs_sb]
theorem sb_append (s t : ByteArray) : sb (s ++ t) = sb s ++ sb t := by
  unfold sb
  simp
theorem sb_get (s : ByteArray) (i : Nat) (h : i < s.size) : s.get! i = (sb s)[i]'(by rw [sb_size]; exact h) := by
  have h2 : i < s.data.size := h
  have e : s.get! i = s.data[i]! := rfl
  rw [e, getElem!_pos s.data i h2]
  rfl
/-- Is a byte one of the first q letters? -/
def letB (q : Nat) (b : UInt8) : Bool := decide (97 ≤ b.toNat) && decide (b.toNat < 97 + q)
def lettB (q : Nat) (s : Str) : Bool := s.all (letB q)
theorem letB_iff {q : Nat} (hq : q ≤ 3) (b : UInt8) : letB q b = true ↔ ∃ c, c < q ∧ b = ltr c := by
  unfold letB
  rw [Bool.and_eq_true, decide_eq_true_iff, decide_eq_true_iff]
  constructor
  · rintro ⟨h1, h2⟩
    refine ⟨b.toNat - 97, by omega, ?_⟩
    apply UInt8.toNat_inj.1
    unfold ltr
    rw [UInt8.toNat_ofNat_of_lt' (by simp [UInt8.size]; omega)]
    omega
  · rintro ⟨c, hc, rfl⟩
    unfold ltr
    rw [UInt8.toNat_ofNat_of_lt' (by simp [UInt8.size]; omega)]
    omega
theorem lettB_iff {q : Nat} (hq : q ≤ 3) (s : Str) : lettB q s = true ↔ Lett q s := by
  unfold lettB Lett
  rw [List.all_eq_true]
  exact ⟨fun h b hb => (letB_iff hq b).1 (h b hb), fun h b hb => (letB_iff hq b).2 (h b hb)⟩
/-- What is asked of each rune. -/
def badR (q : Nat) (x : Nat) : Bool := decide (x < 97) || decide (97 + q ≤ x)
theorem badR_ascii (q : Nat) (b : UInt8) : badR q b.toNat = !letB q b := by
  unfold badR letB
  by_cases h1 : b.toNat < 97 <;> by_cases h2 : 97 + q ≤ b.toNat <;> simp [h1, h2] <;> omega
theorem decode_wide (s : ByteArray) (i : Nat) (h : 128 ≤ (s.get! i).toNat) : 128 ≤ (Utf8.decode s i).1 := by
  unfold Utf8.decode
  simp only [Nat.add_zero, Utf8.runeError]
  rw [if_neg (by omega)]
  split
  · split <;> simp_all
  · split
    · split <;> simp_all; omega
    · split
      · split <;> simp_all; omega
      · simp
theorem decode_low (s : ByteArray) (i : Nat) (h : (s.get! i).toNat < 128) : Utf8.decode s i = ((s.get! i).toNat, 1) := by
  unfold Utf8.decode
  simp only [Nat.add_zero]
  rw [if_pos h]
theorem idx_from {q : Nat} (hq : q ≤ 3) (s : ByteArray) : ∀ (f pos : Nat), s.size - pos ≤ f → (0 ≤ Lib.idxFuncFrom (badR q) true s f pos ↔ ∃ i, pos ≤ i ∧ i < s.size ∧ letB q (s.get! i) = false)
  | 0, pos, hf => by
    unfold Lib.idxFuncFrom
    constructor
    · intro h; omega
    · rintro ⟨i, h1, h2, _⟩; omega
  | f + 1, pos, hf => by
    unfold Lib.idxFuncFrom
    by_cases hp : pos < s.size
    · rw [if_pos hp]
      by_cases hb : (s.get! pos).toNat < 128
      · rw [decode_low s pos hb]
        simp only
        rw [badR_ascii]
        cases hl : letB q (s.get! pos) with
        | true =>
          simp only [Bool.not_true, Bool.false_eq_true, if_false]
          rw [idx_from hq s f (pos + 1) (by omega)]
          constructor
          · rintro ⟨i, h1, h2⟩; exact ⟨i, by omega, h2⟩
          · rintro ⟨i, h1, h2, h3⟩
            refine ⟨i, ?_, h2, h3⟩
            rcases Nat.lt_or_eq_of_le h1 with h4 | h4
            · exact h4
            · subst h4; rw [hl] at h3; cases h3
        | false =>
          simp only [Bool.not_false, if_true]
          exact ⟨fun _ => ⟨pos, Nat.le_refl _, hp, hl⟩, fun _ => by omega⟩
      · have hw := decode_wide s pos (by omega)
        have hbad : badR q (Utf8.decode s pos).1 = true := by
          unfold badR
          rw [Bool.or_eq_true, decide_eq_true_iff, decide_eq_true_iff]
          omega
        rw [hbad, if_pos rfl]
        refine ⟨fun _ => ⟨pos, Nat.le_refl _, hp, ?_⟩, fun _ => by omega⟩
        unfold letB
        rw [Bool.and_eq_false_iff, decide_eq_false_iff_not, decide_eq_false_iff_not]
        omega
    · rw [if_neg hp]
      constructor
      · intro h; omega
      · rintro ⟨i, h1, h2, _⟩; omega
theorem idx_letters {q : Nat} (hq : q ≤ 3) (s : ByteArray) : decide (0 ≤ Lib.idxFunc (badR q) true s) = !lettB q (sb s) := by
  have h := idx_from hq s s.size 0 (by omega)
  unfold Lib.idxFunc
  suffices hs : (¬ (0 ≤ Lib.idxFuncFrom (badR q) true s s.size 0)) ↔ lettB q (sb s) = true by
    cases hc : lettB q (sb s) with
    | true => rw [hc] at hs; simp [hs.2 rfl]
    | false => rw [hc] at hs; simp at hs; simp [hs]
  rw [h]
  unfold lettB
  rw [List.all_eq_true]
  constructor
  · intro hn b hb
    obtain ⟨i, hi, rfl⟩ := List.mem_iff_getElem.1 hb
    rw [sb_size] at hi
    cases hl : letB q (sb s)[i] with
    | true => rfl
    | false =>
      refine absurd ⟨i, Nat.zero_le _, hi, ?_⟩ hn
      rw [sb_get s i hi]; exact hl
  · rintro ha ⟨i, _, hi, hl⟩
    rw [sb_get s i hi] at hl
    rw [ha _ (List.getElem_mem _)] at hl
    cases hl
/-- A set of patterns: what is asked of the one at a place. -/
def goodB (q : Nat) (ss : List ByteArray) (j : Nat) : Bool :=
  (decide (1 ≤ (ss.getD j ByteArray.empty).size) && decide ((ss.getD j ByteArray.empty).size ≤ 5)) && (lettB q (sb (ss.getD j ByteArray.empty)) && (decide (j = 0) || Op.bytesLess (ss.getD (j - 1) ByteArray.empty).toList (ss.getD j ByteArray.empty).toList))
def setB (q : Int) (ss : List ByteArray) : Bool := (decide (1 ≤ q) && decide (q ≤ 3)) && (decide (ss.length ≤ 12) && (List.range ss.length).all (goodB q.toNat ss))
theorem setB_no {q : Int} {ss : List ByteArray} {j : Nat} (hj : j < ss.length) (h : goodB q.toNat ss j = false) : setB q ss = false := by
  unfold setB
  have : (List.range ss.length).all (goodB q.toNat ss) = false := by
    rw [List.all_eq_false]
    exact ⟨j, List.mem_range.2 hj, by simp [h]⟩
  rw [this]
  simp
theorem setB_yes {q : Int} {ss : List ByteArray} (h1 : 1 ≤ q) (h2 : q ≤ 3) (h3 : ss.length ≤ 12) (h : ∀ j, j < ss.length → goodB q.toNat ss j = true) : setB q ss = true := by
  unfold setB
  have : (List.range ss.length).all (goodB q.toNat ss) = true := by
    rw [List.all_eq_true]
    exact fun j hj => h j (List.mem_range.1 hj)
  rw [this]
  simp [h1, h2, h3]
theorem setB_parts {q : Int} {ss : List ByteArray} (h : setB q ss = true) : (1 ≤ q ∧ q ≤ 3) ∧ ss.length ≤ 12 ∧ ∀ j, j < ss.length → goodB q.toNat ss j = true := by
  unfold setB at h
  simp only [Bool.and_eq_true, decide_eq_true_iff, List.all_eq_true, List.mem_range] at h
  exact h
/-- The patterns as lists. -/
def pats (ss : List ByteArray) : List Str := ss.map sb
theorem pats_some {q : Int} {ss : List ByteArray} (h : setB q ss = true) : ∀ p ∈ pats ss, p ≠ [] := by
  intro p hp e
  obtain ⟨s, hs, rfl⟩ := List.mem_map.1 hp
  obtain ⟨j, hj, rfl⟩ := List.mem_iff_getElem.1 hs
  have := (setB_parts h).2.2 j hj
  unfold goodB at this
  simp only [Bool.and_eq_true, decide_eq_true_iff] at this
  have h1 := this.1.1
  rw [List.getD_eq_getElem?_getD, List.getElem?_eq_getElem hj] at h1
  simp only [Option.getD_some] at h1
  rw [← sb_size, e] at h1
  simp at h1
end Go.Proofs.Ytpclkocfbkjabaa
