/-
  What a round of the loop that collects leaves: all blocks of cells but the row's own and the box of its slice. No program stands in this text.
-/
import Derived.Test.YtpflmlnkflpbnaaDoorLib2
import Derived.RangeFuncNested
import Derived.RangeFuncBound
import Derived.RangeFuncCalls
import Derived.RangeFuncLeaves
import Derived.RangeFuncBox
import Derived.Maps.AppendAt
import Derived.Shelf.Abstract
import Derived.WalkKit
import Derived.OwnWalkIn
import Derived.TacticsInMore
import Derived.LoopNIn
import Derived.LoopIn
namespace Go.Proofs.YtpflmlnkflpbnaaDoor
open Go.RowKit Go.Shelf

/-- The block of the row to which the box Bs points. -/
def rowOf (Bs : Nat) (W : World) : Option Nat := (W.cell? ⟨Bs, 0, none⟩).bind Value.ownBlock
def RowOk (Bs : Nat) (W : World) : Prop := ∀ r, rowOf Bs W = some r → r < W.heap.size
/-- A block that the collecting loop does not touch. -/
def Safe (Bs : Nat) (W : World) (k : Nat) : Prop := (∃ cs t fl, W.heap[k]? = some (.cells cs t fl)) ∧ k ≠ Bs ∧ rowOf Bs W ≠ some k
def KpS (Bs : Nat) (W W' : World) : Prop := W.heap.size ≤ W'.heap.size ∧ (RowOk Bs W → RowOk Bs W') ∧ (∀ k, Safe Bs W k → W'.heap[k]? = W.heap[k]? ∧ Safe Bs W' k)
theorem Safe.lt {Bs : Nat} {W : World} {k : Nat} (h : Safe Bs W k) : k < W.heap.size := by
  obtain ⟨⟨cs, t, fl, h⟩, _⟩ := h
  exact (Array.getElem?_eq_some_iff.1 h).1
theorem KpS.trans {Bs : Nat} {A B C : World} (h : KpS Bs A B) (k : KpS Bs B C) : KpS Bs A C :=
  ⟨Nat.le_trans h.1 k.1, fun r => k.2.1 (h.2.1 r), fun i s => ⟨(k.2.2 i (h.2.2 i s).2).1.trans (h.2.2 i s).1, (k.2.2 i (h.2.2 i s).2).2⟩⟩
theorem KpS.refl (Bs : Nat) (A : World) : KpS Bs A A := ⟨Nat.le_refl _, id, fun _ s => ⟨rfl, s⟩⟩
theorem cell_of_heap {W W' : World} {k : Nat} (h : W'.heap[k]? = W.heap[k]?) (o : Nat) : W'.cell? ⟨k, o, none⟩ = W.cell? ⟨k, o, none⟩ := by simp [World.cell?, h]
theorem frozen_of_heap {W W' : World} {k : Nat} (h : W'.heap[k]? = W.heap[k]?) (o : Nat) : W'.frozen? ⟨k, o, none⟩ = W.frozen? ⟨k, o, none⟩ := by simp [World.frozen?, h]
/-- Turning a block of another kind. -/
theorem KpS.putObj {Bs : Nat} {W : World} {l : Nat} {o : Obj} (o' : Obj) (hl : W.heap[l]? = some o) (ho : o.isCells = false) (hne : l ≠ Bs) : KpS Bs W (W.putObj l o') := by
  have hr : rowOf Bs (W.putObj l o') = rowOf Bs W := by
    unfold rowOf
    rw [cell_of_heap (World.putObj_heap_other (Ne.symm hne))]
  have hs : (W.putObj l o').heap.size = W.heap.size := by simp
  refine ⟨by rw [hs]; exact Nat.le_refl _, fun h r e => by rw [hs]; rw [hr] at e; exact h r e, fun k s => ?_⟩
  have hk : k ≠ l := by
    rintro rfl
    obtain ⟨⟨cs, t, fl, h⟩, _⟩ := s
    rw [hl] at h
    cases h
    cases ho
  have hb : (W.putObj l o').heap[k]? = W.heap[k]? := World.putObj_heap_other hk
  refine ⟨hb, ?_, s.2.1, by rw [hr]; exact s.2.2⟩
  obtain ⟨cs, t, fl, h⟩ := s.1
  exact ⟨cs, t, fl, hb.trans h⟩
/-- What leaves all that lay. -/
theorem KpS.below {Bs : Nat} {W W' : World} (hb : Below W.heap.size W W') (hB : Bs < W.heap.size) : KpS Bs W W' := by
  have hr : rowOf Bs W' = rowOf Bs W := by
    unfold rowOf
    rw [cell_of_heap (hb.block Bs hB)]
  refine ⟨hb.size, fun h r e => Nat.lt_of_lt_of_le (h r (hr ▸ e)) hb.size, fun k s => ?_⟩
  have hk := hb.block k s.lt
  refine ⟨hk, ?_, s.2.1, by rw [hr]; exact s.2.2⟩
  obtain ⟨cs, t, fl, h⟩ := s.1
  exact ⟨cs, t, fl, hk.trans h⟩
theorem KpS.alloc (Bs : Nat) (W : World) (o : Obj) (hB : Bs < W.heap.size) : KpS Bs W (W.alloc o) := KpS.below ((Below.refl _ W).alloc (Nat.le_refl _) o) hB
/-- A store into a block of the visit's own. -/
theorem KpS.set {Bs : Nat} {W : World} {k : Nat} (i : Nat) (v : Value) (hk : k ≠ Bs) : W.heap.size ≤ (W.setCell ⟨k, i, none⟩ v).heap.size ∧ (RowOk Bs W → RowOk Bs (W.setCell ⟨k, i, none⟩ v)) ∧ rowOf Bs (W.setCell ⟨k, i, none⟩ v) = rowOf Bs W := by
  have hr : rowOf Bs (W.setCell ⟨k, i, none⟩ v) = rowOf Bs W := by
    unfold rowOf
    rw [cell_of_heap (Below.heap_setCell W ⟨k, i, none⟩ v Bs (Ne.symm hk))]
  have hs : (W.setCell ⟨k, i, none⟩ v).heap.size = W.heap.size := by simp
  exact ⟨by rw [hs]; exact Nat.le_refl _, fun h r e => by rw [hs]; rw [hr] at e; exact h r e, hr⟩
/-- A block that was just made. -/
theorem Safe.new {Bs : Nat} {W : World} (cs : Array Value) (t : TypeId) (hB : Bs < W.heap.size) (hr : RowOk Bs W) : Safe Bs (W.alloc (.cells cs t)) W.heap.size := by
  refine ⟨⟨cs, t, (0, 0), World.alloc_heap_new W _⟩, by omega, ?_⟩
  intro e
  have h : rowOf Bs (W.alloc (.cells cs t)) = rowOf Bs W := by
    unfold rowOf
    rw [cell_of_heap (Below.heap_alloc W _ Bs hB)]
  rw [h] at e
  have := hr _ e
  omega
/-- A block of a callee's own, behind the call. -/
theorem Safe.fresh {Bs : Nat} {W W' : World} {k : Nat} (hb : Below W.heap.size W W') (hB : Bs < W.heap.size) (hr : RowOk Bs W) (hk : W.heap.size ≤ k) (hc : ∃ cs t fl, W'.heap[k]? = some (.cells cs t fl)) : Safe Bs W' k := by
  refine ⟨hc, by omega, ?_⟩
  intro e
  have h : rowOf Bs W' = rowOf Bs W := by
    unfold rowOf
    rw [cell_of_heap (hb.block Bs hB)]
  rw [h] at e
  have := hr _ e
  omega
/-- A round of the collecting loop: a row grows, and its box is set. -/
theorem KpS.append {Bs : Nat} {W w1 : World} {t e : TypeId} {size : Nat} {n₀ : Nat} {v v' : Value} {k m : Nat} {xs ys : List Value} {tmp : Obj}
    (hv : Boxed W Bs t v) (hv1 : Boxed w1 Bs t v) (hrow : W.ownsRow n₀ e size v k xs) (hown' : w1.ownsRow n₀ e size v' m ys) (hgrow : (W.alloc tmp).grownBy w1 v.ownBlock)
    (hnew : ∀ r, v'.ownBlock = some r → v.ownBlock = some r ∨ W.heap.size ≤ r) : KpS Bs W (w1.setCell ⟨Bs, 0, none⟩ v') := by
  have hrW : rowOf Bs W = v.ownBlock := by unfold rowOf; rw [hv.cell]; rfl
  have hs0 : W.heap.size + 1 ≤ w1.heap.size := by have := hgrow.size; simpa using this
  have hs : (w1.setCell ⟨Bs, 0, none⟩ v').heap.size = w1.heap.size := by simp
  have hb : ∀ j, j < W.heap.size → j ≠ Bs → some j ≠ v.ownBlock → (w1.setCell ⟨Bs, 0, none⟩ v').heap[j]? = W.heap[j]? := by
    intro j hj h1 h2
    rw [Below.heap_setCell w1 ⟨Bs, 0, none⟩ v' j h1, hgrow.block j (by simp; omega) h2, Below.heap_alloc W tmp j hj]
  have hrow' : ∀ r, rowOf Bs (w1.setCell ⟨Bs, 0, none⟩ v') = some r → v'.ownBlock = some r := by
    intro r e
    unfold rowOf at e
    rw [(hv1.set v').cell] at e
    exact e
  refine ⟨by omega, fun _ r e => ?_, fun j s => ?_⟩
  · rw [hs]
    have := hrow' r e
    exact (hown'.lt r this).2
  · have hne : some j ≠ v.ownBlock := by rw [← hrW]; exact fun e => s.2.2 e.symm
    have h1 := hb j s.lt s.2.1 hne
    refine ⟨h1, ?_, s.2.1, ?_⟩
    · obtain ⟨cs, t, fl, h⟩ := s.1
      exact ⟨cs, t, fl, h1.trans h⟩
    · intro e
      rcases hnew j (hrow' j e) with h | h
      · exact hne h.symm
      · have := s.lt; omega
end Go.Proofs.YtpflmlnkflpbnaaDoor
