/-
  The rings as the reference gives them; the values of both. No function of the program stands in this text.
-/
import Derived.Test.YtpclkocfbkjabaaA12
import Derived.Test.YtpclkocfbkjabaaA4
import Derived.Test.YtpclkocfbkjabaaA3
namespace Go.Proofs.Ytpclkocfbkjabaa
open Go
set_option linter.unusedVariables false

def minTurn (s : Str) : Nat → Str
  | 0 => s
  | i + 1 => if Op.bytesLess (turnL s i) (minTurn s i) = true then turnL s i else minTurn s i
def turned (s : Str) : Str := minTurn s s.length
def ringOf (l : List Str) (r : Str) : List Str := l.filter fun w => turned w == r
def refR (l : List Str) : List (List Str) := (l.filter fun w => turned w == w).map (ringOf l)
theorem qn_cases {P : Nat → Nat → Prop} (h : ∀ q ∈ [1, 2, 3], ∀ n ∈ [1, 2, 3, 4, 5], P q n) (q n : Nat) (hq : 1 ≤ q ∧ q ≤ 3) (hn : 1 ≤ n ∧ n ≤ 5) : P q n := by
  refine h q ?_ n ?_
  · have : q = 1 ∨ q = 2 ∨ q = 3 := by omega
    rcases this with rfl | rfl | rfl <;> decide
  · have : n = 1 ∨ n = 2 ∨ n = 3 ∨ n = 4 ∨ n = 5 := by omega
    rcases this with rfl | rfl | rfl | rfl | rfl <;> decide
def fewT : Nat → Nat → List Str
  | 1, 1 => [[97]]
  | 1, 2 => [[97, 97]]
  | 1, 3 => [[97, 97, 97]]
  | 1, 4 => [[97, 97, 97, 97]]
  | 1, 5 => [[97, 97, 97, 97, 97]]
  | 2, 1 => [[97], [98]]
  | 2, 2 => [[97, 97], [97, 98], [98, 98]]
  | 2, 3 => [[97, 97, 97], [97, 97, 98], [98, 97, 98], [98, 98, 98]]
  | 2, 4 => [[97, 97, 97, 97], [97, 97, 97, 98], [97, 98, 97, 98], [98, 97, 97, 98], [98, 97, 98, 98], [98, 98, 98, 98]]
  | 2, 5 => [[97, 97, 97, 97, 97], [97, 97, 97, 97, 98], [97, 98, 97, 97, 98], [98, 97, 97, 97, 98], [98, 97, 98, 97, 98], [98, 98, 97, 97, 98], [98, 98, 97, 98, 98], [98, 98, 98, 98, 98]]
  | 3, 1 => [[97], [98], [99]]
  | 3, 2 => [[97, 97], [97, 98], [97, 99], [98, 98], [98, 99], [99, 99]]
  | 3, 3 => [[97, 97, 97], [97, 97, 98], [97, 97, 99], [97, 98, 99], [98, 97, 98], [98, 97, 99], [98, 98, 98], [98, 98, 99], [99, 97, 99], [99, 98, 99], [99, 99, 99]]
  | _, _ => []
def cntR : Nat → Nat → Nat
  | 1, _ => 1
  | 2, 1 => 2
  | 2, 2 => 3
  | 2, 3 => 4
  | 2, 4 => 6
  | 2, 5 => 8
  | 3, 1 => 3
  | 3, 2 => 6
  | 3, 3 => 11
  | 3, 4 => 24
  | 3, 5 => 51
  | _, _ => 0
set_option maxRecDepth 100000 in
theorem cntR_all : ∀ q ∈ [1, 2, 3], ∀ n ∈ [1, 2, 3, 4, 5], (ringsI q n).length = cntR q n := by decide +kernel
set_option maxRecDepth 100000 in
theorem fewI_all : ∀ q ∈ [1, 2, 3], ∀ n ∈ [1, 2, 3, 4, 5], cntR q n ≤ 12 → isortS (chooseL n (ringsI q n) ⟨[], [], 0⟩).2.out = fewT q n := by decide +kernel
set_option maxRecDepth 100000 in
theorem fewOk_all : ∀ q ∈ [1, 2, 3], ∀ n ∈ [1, 2, 3, 4, 5], cntR q n ≤ 12 → (decide ((fewT q n).length = cntR q n) && setB q ((fewT q n).map bs) && !can (tabL (fewT q n) q) 1000 0 && (fewT q n).all fun s => s.length == n) = true := by decide +kernel
set_option maxRecDepth 100000 in
theorem refR_all : ∀ q ∈ [1, 2, 3], ∀ n ∈ [1, 2, 3, 4, 5], refR (wordsL q n) = ringsI q n := by decide +kernel
end Go.Proofs.Ytpclkocfbkjabaa
