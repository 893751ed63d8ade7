/-
  Rings of words, as a fold that can be carried out. No function of the program stands in this text.
-/
import Derived.Test.YtpclkocfbkjabaaT17
namespace Go.Proofs.Ytpclkocfbkjabaa
open Go
set_option linter.unusedVariables false

def turnL (s : Str) (i : Nat) : Str := s.drop i ++ s.take i
theorem turnL_zero (s : Str) : turnL s 0 = s := by simp [turnL]
theorem turnL_len (s : Str) (i : Nat) : (turnL s i).length = s.length := by simp [turnL]; omega
/-- The turns of a word that are not known yet: what is known behind it, and the ring. -/
def ringF (s : Str) : Nat → List Str × List Str → List Str × List Str
  | 0, kr => kr
  | i + 1, kr =>
    let kr' := ringF s i kr
    if turnL s i ∈ kr'.1 then kr' else (turnL s i :: kr'.1, kr'.2 ++ [turnL s i])
theorem ringF_old {s : Str} {i : Nat} {kr : List Str × List Str} (h : turnL s i ∈ (ringF s i kr).1) : ringF s (i + 1) kr = ringF s i kr := if_pos h
theorem ringF_new {s : Str} {i : Nat} {kr : List Str × List Str} (h : turnL s i ∉ (ringF s i kr).1) : ringF s (i + 1) kr = (turnL s i :: (ringF s i kr).1, (ringF s i kr).2 ++ [turnL s i]) := if_neg h
theorem ringF_len (s : Str) (L : List Str) : ∀ i, (ringF s i (L, [])).2.length ≤ i
  | 0 => Nat.le_refl _
  | i + 1 => by
    have := ringF_len s L i
    by_cases h : turnL s i ∈ (ringF s i (L, [])).1
    · rw [ringF_old h]; omega
    · rw [ringF_new h]; simp; omega
theorem ringF_pos {s : Str} {L : List Str} (h : s ∉ L) : ∀ i, 0 < (ringF s (i + 1) (L, [])).2.length
  | 0 => by
    have : turnL s 0 ∉ (ringF s 0 (L, [])).1 := by rw [turnL_zero]; exact h
    rw [ringF_new this]; simp
  | i + 1 => by
    have := ringF_pos h i
    by_cases h2 : turnL s (i + 1) ∈ (ringF s (i + 1) (L, [])).1
    · rw [ringF_old h2]; exact this
    · rw [ringF_new h2]; simp
/-- One word more. -/
def ringStep (n : Nat) (ko : List Str × List (List Str)) (s : Str) : List Str × List (List Str) :=
  if s ∈ ko.1 then ko else ((ringF s n (ko.1, [])).1, ko.2 ++ [sortS (ringF s n (ko.1, [])).2])
/-- The rings of a list of words. -/
def ringsF (n : Nat) (l : List Str) : List Str × List (List Str) := l.foldl (ringStep n) ([], [])
theorem ringsF_succ {n k : Nat} {l : List Str} (h : k < l.length) : ringsF n (l.take (k + 1)) = ringStep n (ringsF n (l.take k)) l[k] := by
  unfold ringsF
  rw [List.take_succ_eq_append_getElem h, List.foldl_append]
  rfl
theorem ringsF_len (n : Nat) (l : List Str) : ∀ k, k ≤ l.length → (ringsF n (l.take k)).2.length ≤ k
  | 0, _ => by simp [ringsF]
  | k + 1, h => by
    have := ringsF_len n l k (by omega)
    rw [ringsF_succ (by omega)]
    unfold ringStep
    split
    · omega
    · simp; omega
def ringsL (q n : Nat) : List (List Str) := (ringsF n (wordsL q n)).2
theorem rings_count : (ringsL 2 2).length = 3 := by decide +kernel
end Go.Proofs.Ytpclkocfbkjabaa
