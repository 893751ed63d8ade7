/-
  Sorting as it can be carried out; the choice of one word of each ring. No function of the program stands in this text.
-/
import Derived.Test.YtpclkocfbkjabaaA8
import Derived.Test.YtpclkocfbkjabaaA9
namespace Go.Proofs.Ytpclkocfbkjabaa
open Go
set_option linter.unusedVariables false

def insS (x : Str) : List Str → List Str
  | [] => [x]
  | y :: l => if x ≤ y then x :: y :: l else y :: insS x l
def isortS (L : List Str) : List Str := L.foldr insS []
theorem insS_perm (x : Str) : ∀ l, (insS x l).Perm (x :: l)
  | [] => .refl _
  | y :: l => by
    unfold insS
    split
    · exact .refl _
    · exact ((insS_perm x l).cons y).trans (.swap ..)
theorem isortS_perm : ∀ L, (isortS L).Perm L
  | [] => .refl _
  | x :: L => (insS_perm x _).trans ((isortS_perm L).cons x)
theorem insS_sorted (x : Str) : ∀ l : List Str, l.Pairwise (· ≤ ·) → (insS x l).Pairwise (· ≤ ·)
  | [], _ => by simp [insS]
  | y :: l, h => by
    obtain ⟨h1, h2⟩ := List.pairwise_cons.1 h
    unfold insS
    split
    · rename_i hxy
      refine List.pairwise_cons.2 ⟨fun z hz => ?_, h⟩
      rcases List.mem_cons.1 hz with rfl | hz
      · exact hxy
      · exact List.le_trans hxy (h1 z hz)
    · rename_i hxy
      refine List.pairwise_cons.2 ⟨fun z hz => ?_, insS_sorted x l h2⟩
      rcases List.mem_cons.1 ((insS_perm x l).mem_iff.1 hz) with rfl | hz
      · exact (List.le_total y z).resolve_right hxy
      · exact h1 z hz
theorem isortS_sorted : ∀ L : List Str, (isortS L).Pairwise (· ≤ ·)
  | [] => .nil
  | x :: L => insS_sorted x _ (isortS_sorted L)
theorem sortS_sorted (L : List Str) : (sortS L).Pairwise (· ≤ ·) := by
  have := List.pairwise_mergeSort (le := fun x y : Str => decide (x ≤ y)) (fun a b c h1 h2 => by simp only [decide_eq_true_eq] at *; exact List.le_trans h1 h2) (fun a b => by simp only [Bool.or_eq_true, decide_eq_true_eq]; exact List.le_total a b) L
  exact this.imp (by intro a b h; simpa using h)
theorem sortS_eq (L : List Str) : sortS L = isortS L :=
  (((List.mergeSort_perm L _).trans (isortS_perm L).symm).eq_of_pairwise (fun _ _ _ _ h1 h2 => List.le_antisymm h1 h2) (sortS_sorted L) (isortS_sorted L))

theorem sortS_perm (L : List Str) : (sortS L).Perm L := List.mergeSort_perm L _
def ofB (n : Nat) (s : Str) : Br := (s.take (n - 1), s.drop 1)
def addB (E : List Br) (b : Br) : List Br := if b ∈ E then E else b :: E
def delB (E : List Br) (b : Br) : List Br := E.filter fun x => x ≠ b
structure Cs where
  E : List Br
  out : List Str
  cnt : Nat
def tryL (n : Nat) (ch : Cs → Bool × Cs) : List Str → Cs → Bool × Cs
  | [], s => (false, s)
  | w :: l, s =>
    let E2 := delB s.E (ofB n w)
    if cycB E2 then tryL n ch l ⟨addB E2 (ofB n w), s.out, s.cnt + 1⟩
    else
      let r := ch ⟨E2, s.out ++ [w], s.cnt⟩
      if r.1 then r else tryL n ch l ⟨addB r.2.E (ofB n w), r.2.out.dropLast, r.2.cnt + 1⟩
def chooseL (n : Nat) : List (List Str) → Cs → Bool × Cs
  | [], s => (true, s)
  | ring :: rest, s =>
    let r := tryL n (chooseL n rest) ring ⟨ring.foldl (fun E w => addB E (ofB n w)) s.E, s.out, s.cnt + ring.length⟩
    if r.1 then r else (false, ⟨ring.foldl (fun E w => delB E (ofB n w)) r.2.E, r.2.out, r.2.cnt⟩)
def fewL (q n : Nat) : List Str := sortS (chooseL n (ringsL q n) ⟨[], [], 0⟩).2.out

def fewI (q n : Nat) : List Str := isortS (chooseL n (ringsL q n) ⟨[], [], 0⟩).2.out
theorem fewL_eq (q n : Nat) : fewL q n = fewI q n := sortS_eq _
/-- The rings with the sorting that can be carried out. -/
def ringStepI (n : Nat) (ko : List Str × List (List Str)) (s : Str) : List Str × List (List Str) :=
  if s ∈ ko.1 then ko else ((ringF s n (ko.1, [])).1, ko.2 ++ [isortS (ringF s n (ko.1, [])).2])
def ringsI (q n : Nat) : List (List Str) := ((wordsL q n).foldl (ringStepI n) ([], [])).2
theorem ringsI_eq (q n : Nat) : ringsL q n = ringsI q n := by
  unfold ringsL ringsI ringsF
  have : ringStep n = ringStepI n := by
    funext ko s
    unfold ringStep ringStepI
    rw [sortS_eq]
  rw [this]
theorem few_eq (q n : Nat) : fewL q n = isortS (chooseL n (ringsI q n) ⟨[], [], 0⟩).2.out := by
  rw [fewL_eq]
  unfold fewI
  rw [ringsI_eq]
theorem few_count : (fewL 2 2).length = 3 := by
  rw [few_eq]
  decide +kernel
/-! ### What the choice does to the words that were chosen -/
theorem tryL_out {n : Nat} {ch : Cs → Bool × Cs} (h : ∀ s, (ch s).1 = false → (ch s).2.out = s.out) : ∀ (l : List Str) (s : Cs), (tryL n ch l s).1 = false → (tryL n ch l s).2.out = s.out
  | [], s, _ => rfl
  | w :: l, s, hf => by
    unfold tryL at hf ⊢
    dsimp only at hf ⊢
    split at hf
    · rename_i hc
      rw [if_pos hc]
      exact tryL_out h l _ hf
    · rename_i hc
      rw [if_neg hc]
      split at hf
      · rename_i hr
        rw [hr] at hf; cases hf
      · rename_i hr
        rw [if_neg hr]
        rw [tryL_out h l _ hf]
        dsimp only
        rw [h _ (by simpa using hr)]
        simp
theorem chooseL_out (n : Nat) : ∀ (l : List (List Str)) (s : Cs), (chooseL n l s).1 = false → (chooseL n l s).2.out = s.out
  | [], s, h => by cases h
  | ring :: rest, s, h => by
    unfold chooseL at h ⊢
    dsimp only at h ⊢
    split at h
    · rename_i hr
      rw [hr] at h; cases h
    · rename_i hr
      rw [if_neg hr]
      dsimp only
      exact tryL_out (fun s => chooseL_out n rest s) ring _ (by simpa using hr)
/-- How many stores at most. -/
def cost : Nat → Nat
  | 0 => 0
  | k + 1 => 5 * (cost k + 2)
end Go.Proofs.Ytpclkocfbkjabaa
