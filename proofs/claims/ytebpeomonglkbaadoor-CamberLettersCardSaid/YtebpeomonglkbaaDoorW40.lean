/-
  The two words behind a path, by their letters, their matrices and their ends. No walk stands in this text.
-/
import Derived.Test.YtebpeomonglkbaaDoorW37
namespace Go.Proofs.YtebpeomonglkbaaDoor
open Go.RowKit Go.Sort Cam
set_option linter.unusedVariables false
set_option linter.unusedSimpArgs false

/-- Which of both is the newer one behind a letter. -/
def flipN (n : Bool) (c : UInt8) : Bool := if c = 76 then !n else n
/-- The two words behind a path, by any join. -/
def grG {α : Type} (j : α → α → α) : List UInt8 → Bool → α → α → α × α
  | [], _, u, v => (u, v)
  | c :: l, n, u, v => if flipN n c then grG j l (flipN n c) u (j u v) else grG j l (flipN n c) (j u v) v
/-- The same, with a stop. -/
def grT {α : Type} (j : α → α → α) (m : α → Nat) (most : Nat) : List UInt8 → Bool → α → α → α × α
  | [], _, u, v => (u, v)
  | c :: l, n, u, v => if most < m (j u v) then (u, v) else if flipN n c then grT j m most l (flipN n c) u (j u v) else grT j m most l (flipN n c) (j u v) v
/-- The same, by the reference's rule. -/
def grR {α : Type} (j : α → α → α) (m : α → Nat) : List UInt8 → α → α → α × α
  | [], u, v => (u, v)
  | c :: l, u, v => if (decide (m u ≤ m v) == decide (c = 76)) then grR j m l (j u v) v else grR j m l u (j u v)

section
variable {α β : Type} {j : α → α → α} {k : β → β → β} {m : α → Nat}
theorem grG_map (f : α → β) (hf : ∀ u v, f (j u v) = k (f u) (f v)) : ∀ (l : List UInt8) (n : Bool) (u v : α), grG k l n (f u) (f v) = (f (grG j l n u v).1, f (grG j l n u v).2)
  | [], n, u, v => rfl
  | c :: l, n, u, v => by
    simp only [grG]
    rw [← hf]
    split
    · exact grG_map f hf l _ _ _
    · exact grG_map f hf l _ _ _
theorem grG_more (hm : ∀ u v, m (j u v) = m u + m v) : ∀ (l : List UInt8) (n : Bool) (u v : α), m u ≤ m (grG j l n u v).1 ∧ m v ≤ m (grG j l n u v).2
  | [], n, u, v => ⟨Nat.le_refl _, Nat.le_refl _⟩
  | c :: l, n, u, v => by
    simp only [grG]
    have e := hm u v
    split
    · have := grG_more hm l (flipN n c) u (j u v); omega
    · have := grG_more hm l (flipN n c) (j u v) v; omega
theorem grT_few (hm : ∀ u v, m (j u v) = m u + m v) (most : Nat) : ∀ (l : List UInt8) (n : Bool) (u v : α), m (grG j l n u v).1 + m (grG j l n u v).2 ≤ most → grT j m most l n u v = grG j l n u v
  | [], n, u, v, h => rfl
  | c :: l, n, u, v, h => by
    simp only [grG, grT] at h ⊢
    have e := hm u v
    split at h
    · rename_i hn
      have g := grG_more hm l (flipN n c) u (j u v)
      rw [if_neg (by omega), if_pos hn, if_pos hn]
      exact grT_few hm most l _ _ _ h
    · rename_i hn
      have g := grG_more hm l (flipN n c) (j u v) v
      rw [if_neg (by omega), if_neg hn, if_neg hn]
      exact grT_few hm most l _ _ _ h
theorem grT_many (hm : ∀ u v, m (j u v) = m u + m v) (most : Nat) : ∀ (l : List UInt8) (n : Bool) (u v : α), most < m (grG j l n u v).1 + m (grG j l n u v).2 → most < m (grT j m most l n u v).1 + m (grT j m most l n u v).2
  | [], n, u, v, h => h
  | c :: l, n, u, v, h => by
    simp only [grG, grT] at h ⊢
    have e := hm u v
    by_cases hs : most < m (j u v)
    · rw [if_pos hs]; show most < m u + m v; omega
    · rw [if_neg hs]
      split at h
      · rename_i hn
        rw [if_pos hn]; exact grT_many hm most l _ _ _ h
      · rename_i hn
        rw [if_neg hn]; exact grT_many hm most l _ _ _ h
theorem grR_eq (hm : ∀ u v, m (j u v) = m u + m v) : ∀ (l : List UInt8) (u v : α), 1 ≤ m u → 1 ≤ m v → grR j m l u v = grG j l (decide (m u ≤ m v)) u v
  | [], u, v, hu, hv => rfl
  | c :: l, u, v, hu, hv => by
    simp only [grR, grG]
    have e := hm u v
    have r1 := grR_eq hm l u (j u v) hu (by omega)
    have r2 := grR_eq hm l (j u v) v (by omega) hv
    rw [show decide (m u ≤ m (j u v)) = true by simp; omega] at r1
    rw [show decide (m (j u v) ≤ m v) = false by simp; omega] at r2
    rw [r1, r2]
    by_cases hc : c = 76 <;> by_cases hh : m u ≤ m v <;> simp [flipN, hc, hh]
end

/-! Numbers of letters. -/
def addP (u v : Nat × Nat) : Nat × Nat := (u.1 + v.1, u.2 + v.2)
def sumP (u : Nat × Nat) : Nat := u.1 + u.2
theorem sum_add (u v : Nat × Nat) : sumP (addP u v) = sumP u + sumP v := by unfold sumP addP; simp only; omega
/-- The numbers of the letters of a path's word. -/
def cntP (l : List UInt8) : Nat × Nat := addP (grG addP l true (1, 0) (0, 1)).1 (grG addP l true (1, 0) (0, 1)).2
theorem grG_sum : ∀ (l : List UInt8) (n : Bool) (u v : Nat × Nat), sumP (grG addP l n u v).1 + sumP (grG addP l n u v).2 ≤ (sumP u + sumP v) * 2 ^ l.length
  | [], n, u, v => by simp [grG]
  | c :: l, n, u, v => by
    simp only [grG]
    have e := sum_add u v
    have hp : (sumP u + sumP v) * 2 ^ (c :: l).length = (2 * (sumP u + sumP v)) * 2 ^ l.length := by
      rw [List.length_cons, Nat.pow_succ]; grind
    rw [hp]
    split
    · refine Nat.le_trans (grG_sum l _ _ _) (Nat.mul_le_mul_right _ (by omega))
    · refine Nat.le_trans (grG_sum l _ _ _) (Nat.mul_le_mul_right _ (by omega))
/-- u and v have the determinant 1. -/
theorem grG_det : ∀ (l : List UInt8) (n : Bool) (u v : Nat × Nat), (u.1 : Int) * v.2 - u.2 * v.1 = 1 → ((grG addP l n u v).1.1 : Int) * (grG addP l n u v).2.2 - (grG addP l n u v).1.2 * (grG addP l n u v).2.1 = 1
  | [], n, u, v, h => h
  | c :: l, n, u, v, h => by
    simp only [grG]
    split
    · refine grG_det l _ _ _ ?_
      simp only [addP]
      grind
    · refine grG_det l _ _ _ ?_
      simp only [addP]
      grind
theorem gcd_of_comb {a b p q : Int} (h : a * p - b * q = 1) : Int.gcd a b = 1 := by
  have h1 : ((Int.gcd a b : Nat) : Int) ∣ 1 := by
    rw [← h]
    exact Int.dvd_sub (Int.dvd_mul_of_dvd_left (Int.gcd_dvd_left _ _)) (Int.dvd_mul_of_dvd_left (Int.gcd_dvd_right _ _))
  have := Int.le_of_dvd (by omega) h1
  have h2 : Int.gcd a b ≠ 0 := by
    intro e
    rw [e] at h1
    have := Int.zero_dvd.1 h1
    omega
  omega
theorem cnt_gcd (l : List UInt8) : Int.gcd (cntP l).2 (cntP l).1 = 1 := by
  have h := grG_det l true (1, 0) (0, 1) (by simp)
  unfold cntP
  generalize grG addP l true (1, 0) (0, 1) = w at h
  obtain ⟨⟨a, b⟩, ⟨c, d⟩⟩ := w
  simp only [addP] at h ⊢
  rw [Int.gcd_comm]
  refine gcd_of_comb (p := d) (q := c) ?_
  grind
theorem cnt_pos (l : List UInt8) : 1 ≤ (cntP l).1 ∧ 1 ≤ (cntP l).2 := by
  have h1 := grG_more (m := fun u : Nat × Nat => u.1) (j := addP) (fun u v => rfl) l true (1, 0) (0, 1)
  have h2 := grG_more (m := fun u : Nat × Nat => u.2) (j := addP) (fun u v => rfl) l true (1, 0) (0, 1)
  simp only [cntP, addP]
  omega

/-! The words themselves. -/
def catL (u v : List UInt8) : List UInt8 := u ++ v
def catB (u v : ByteArray) : ByteArray := u ++ v
theorem catB_size (u v : ByteArray) : (catB u v).size = u.size + v.size := by simp [catB]
def wordsL (l : List UInt8) : List UInt8 := (grG catL l true [97] [98]).1 ++ (grG catL l true [97] [98]).2
theorem growS_eq (most : Nat) : ∀ (l : List UInt8) (n : Bool) (u v : ByteArray), growS most l n u v = grT catB ByteArray.size most l n u v
  | [], n, u, v => rfl
  | c :: l, n, u, v => by
    simp only [growS, grT, flipN]
    have e1 : ∀ n' : Bool, (if n' = true then growS most l n' u (u ++ v) else growS most l n' (u ++ v) v) = if n' = true then grT catB ByteArray.size most l n' u (catB u v) else grT catB ByteArray.size most l n' (catB u v) v := by
      intro n'
      rw [growS_eq most l, growS_eq most l]; rfl
    rw [e1]
    rfl
def wordFull (l : List UInt8) : ByteArray := (grG catB l true (⟨#[97]⟩ : ByteArray) ⟨#[98]⟩).1 ++ (grG catB l true (⟨#[97]⟩ : ByteArray) ⟨#[98]⟩).2
def bL (b : ByteArray) : List UInt8 := b.data.toList
theorem bL_append (u v : ByteArray) : bL (catB u v) = catL (bL u) (bL v) := by unfold bL catB catL; rw [ByteArray.data_append, Array.toList_append]
theorem bL_size (b : ByteArray) : (bL b).length = b.size := Array.length_toList
theorem wordFull_list (l : List UInt8) : bL (wordFull l) = wordsL l := by
  have h := grG_map bL bL_append l true (⟨#[97]⟩ : ByteArray) ⟨#[98]⟩
  show bL (catB _ _) = catL _ _
  rw [bL_append]
  have e1 : bL (⟨#[97]⟩ : ByteArray) = [97] := rfl
  have e2 : bL (⟨#[98]⟩ : ByteArray) = [98] := rfl
  rw [e1, e2] at h
  rw [h]
def abP (w : List UInt8) : Nat × Nat := (w.count 97, w.count 98)
theorem abP_append (u v : List UInt8) : abP (catL u v) = addP (abP u) (abP v) := by simp [abP, addP, catL, List.count_append]
theorem word_counts (l : List UInt8) : abP (wordsL l) = cntP l := by
  have h := grG_map abP abP_append l true [97] [98]
  show abP (catL _ _) = addP _ _
  rw [abP_append]
  have e1 : abP [97] = (1, 0) := by decide
  have e2 : abP [98] = (0, 1) := by decide
  rw [e1, e2] at h
  rw [h]
theorem word_ab (l : List UInt8) : ∀ c ∈ wordsL l, c = 97 ∨ c = 98 := by
  have key : ∀ (l : List UInt8) (n : Bool) (u v : List UInt8), (∀ c ∈ u, c = 97 ∨ c = 98) → (∀ c ∈ v, c = 97 ∨ c = 98) → (∀ c ∈ (grG catL l n u v).1 ++ (grG catL l n u v).2, c = 97 ∨ c = 98) := by
    intro l
    induction l with
    | nil => intro n u v hu hv c hc; simp only [grG, List.mem_append] at hc; exact hc.elim (hu c) (hv c)
    | cons d l ih =>
      intro n u v hu hv
      have huv : ∀ c ∈ u ++ v, c = 97 ∨ c = 98 := fun c hc => (List.mem_append.1 hc).elim (hu c) (hv c)
      simp only [grG]
      split
      · exact ih _ _ _ hu huv
      · exact ih _ _ _ huv hv
  exact key l true [97] [98] (by simp) (by simp)
theorem word_size (l : List UInt8) : (wordsL l).length = sumP (cntP l) := by
  rw [← word_counts]
  have := (count_two 97 98 (by decide) (wordsL l)).2.2 (by rw [List.all_eq_true]; intro c hc; have := word_ab l c hc; simpa using this)
  unfold sumP abP
  exact this.symm
theorem wordFull_size (l : List UInt8) : (wordFull l).size = sumP (cntP l) := by
  rw [← bL_size, wordFull_list, word_size]
/-- What the program's word is: the whole one, or one that is too long. -/
theorem wordB_few {s : ByteArray} (h : sumP (cntP s.data.toList) ≤ 40) : wordB s = wordFull s.data.toList := by
  unfold wordB wordFull
  rw [growS_eq, grT_few catB_size]
  have := wordFull_size s.data.toList
  change (catB _ _).size = _ at this
  rw [catB_size] at this
  omega
theorem wordB_many {s : ByteArray} (h : 40 < sumP (cntP s.data.toList)) : 40 < (wordB s).size := by
  unfold wordB
  rw [growS_eq]
  show 40 < (catB _ _).size
  rw [catB_size]
  refine grT_many catB_size _ _ _ _ _ ?_
  have := wordFull_size s.data.toList
  change (catB _ _).size = _ at this
  rw [catB_size] at this
  omega
end Go.Proofs.YtebpeomonglkbaaDoor
