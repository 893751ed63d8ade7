/-
  Three numbers in a block, sorted by the library. No program stands in this text.
-/
import Derived.Test.YtpflmlnkflpbnaaDoorLib2
import Derived.Sort.OwnSortedInts
namespace Go.Proofs.YtpflmlnkflpbnaaDoor
open Go.RowKit Go.Sort

/-- The middle one of three. -/
def mid (a b c : Int) : Int := a + b + c - min a (min b c) - max a (max b c)

theorem sort3 (a b c : Int) : ([a, b, c].mergeSort fun x y => decide (x ≤ y)) = [min a (min b c), mid a b c, max a (max b c)] := by
  have h : ∀ l : List Int, l.Perm [a, b, c] → l.Pairwise (· ≤ ·) → ([a, b, c].mergeSort fun x y => decide (x ≤ y)) = l := by
    intro l hp hs
    refine List.Perm.eq_of_pairwise (le := fun x y => decide (x ≤ y) = true) (fun a b _ _ h1 h2 => ?_) ?_ ?_ ((List.mergeSort_perm _ _).trans hp.symm)
    · simp at h1 h2; omega
    · exact List.pairwise_mergeSort (le := fun x y => decide (x ≤ y)) (fun a b c h1 h2 => by simp at h1 h2 ⊢; omega) (fun a b => by simp; omega) _
    · exact hs.imp fun h => by simpa using h
  refine h _ ?_ ?_
  · have p1 : ∀ a b c : Int, [b, a, c].Perm [a, b, c] := fun a b c => List.Perm.swap a b [c]
    have p2 : ∀ a b c : Int, [a, c, b].Perm [a, b, c] := fun a b c => (List.Perm.swap b c []).cons a
    have e : ∀ p q r : Int, min a (min b c) = p → mid a b c = q → max a (max b c) = r → [p, q, r].Perm [a, b, c] → [min a (min b c), mid a b c, max a (max b c)].Perm [a, b, c] := by
      rintro p q r rfl rfl rfl h; exact h
    unfold mid at e ⊢
    rcases Int.le_total a b with h1 | h1 <;> rcases Int.le_total b c with h2 | h2 <;> rcases Int.le_total a c with h3 | h3
    · exact e a b c (by omega) (by omega) (by omega) (.refl _)
    · exact e a b c (by omega) (by omega) (by omega) (.refl _)
    · exact e a c b (by omega) (by omega) (by omega) (p2 _ _ _)
    · exact e c a b (by omega) (by omega) (by omega) ((p1 _ _ _).trans (p2 _ _ _))
    · exact e b a c (by omega) (by omega) (by omega) (p1 _ _ _)
    · exact e b c a (by omega) (by omega) (by omega) ((p2 _ _ _).trans (p1 _ _ _))
    · exact e c b a (by omega) (by omega) (by omega) (((p1 _ _ _).trans (p2 _ _ _)).trans (p1 _ _ _))
    · exact e c b a (by omega) (by omega) (by omega) (((p1 _ _ _).trans (p2 _ _ _)).trans (p1 _ _ _))
  · unfold mid
    simp
    omega

def nums3 (a b c : Int) : Array Value := #[.int .i64 a, .int .i64 b, .int .i64 c]

theorem Whole.holds3 {w : World} {g : Nat} {t : TypeId} {a b c : Int} (h : Whole w g t (nums3 a b c)) : Holds (Value.int .i64) w g 0 #[a, b, c] := by
  refine holds_of_blockI (ss := [a, b, c]) h ?_
  simp [nums3]

theorem Whole.sorted3 {w : World} {g : Nat} {t : TypeId} {a b c : Int} (h : Whole w g t (nums3 a b c)) (n : Nat) (os : Array Obj) :
    Whole (grow (putRow (Value.int .i64) (Sort.ahead w n) g 0 ([a, b, c].mergeSort fun x y => decide (x ≤ y)).toArray) os) g t (nums3 (min a (min b c)) (mid a b c) (max a (max b c))) := by
  rw [sort3]
  refine (heap_sortedI _ h).trans ?_
  have e : putCells (Value.int .i64) 0 [min a (min b c), mid a b c, max a (max b c)].toArray (nums3 a b c) = nums3 (min a (min b c)) (mid a b c) (max a (max b c)) := by
    generalize min a (min b c) = p
    generalize mid a b c = q
    generalize max a (max b c) = r
    rfl
  rw [e]

/-- The three sorted numbers where they lie: what a caller of slices.Sort goes on with. -/
theorem sorted3_below {a w : World} {g n : Nat} {os : Array Obj} {d : Array Int} (h : Below a.heap.size a w) (hg : a.heap.size ≤ g) : Below a.heap.size a (grow (putRow (Value.int .i64) (Sort.ahead w n) g 0 d) os) :=
  h.grown (grownBy_sortedI d) h.size fun k e => by cases e; exact hg
theorem Whole.beside {w : World} {g g' n : Nat} {t : TypeId} {cs : Array Value} {os : Array Obj} {d : Array Int} (h : Whole w g' t cs) (hne : g' ≠ g) : Whole (grow (putRow (Value.int .i64) (Sort.ahead w n) g 0 d) os) g' t cs :=
  ((grownBy_sortedI d).block g' h.lt (fun e => hne (by injection e))).trans h
end Go.Proofs.YtpflmlnkflpbnaaDoor
