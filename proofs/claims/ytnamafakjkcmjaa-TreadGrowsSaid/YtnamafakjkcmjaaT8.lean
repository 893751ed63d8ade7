/-
  The marks that loops over iterators leave among the deferred calls; boxes and marks together.
-/
import Derived.Test.YtnamafakjkcmjaaT7
import Derived.Sort.LoopGhostIn
namespace Go.Proofs.Ytnamafakjkcmjaa
open Go.RowKit Go.Shelf
set_option linter.unusedVariables false
set_option linter.unusedSimpArgs false
attribute [local go_sem] Oper.semAt_some

def markD (D : Nat) : Deferred := { target := .collected D, args := #[] }
/-- The deferred calls are marks alone, of blocks from B on that hold no call. -/
def Marks (B : Nat) (ds : List Deferred) (w : World) : Prop := ∃ Ds : List Nat, ds = Ds.map markD ∧ Ds.Nodup ∧ ∀ D ∈ Ds, B ≤ D ∧ w.heap[D]? = some (.deferred (some []))
theorem Marks.nil (B : Nat) (w : World) : Marks B [] w := ⟨[], rfl, .nil, fun D h => absurd h List.not_mem_nil⟩
theorem Marks.lt {B : Nat} {Ds : List Nat} {w : World} (h : ∀ D ∈ Ds, B ≤ D ∧ w.heap[D]? = some (.deferred (some []))) {D : Nat} (hD : D ∈ Ds) : D < w.heap.size := (Array.getElem?_eq_some_iff.1 (h D hD).2).1
theorem Marks.kept {B : Nat} {ds : List Deferred} {w w' : World} {row : Option Nat} (h : Marks B ds w) (hg : w.grownBy w' row) (hr : ∀ r, row = some r → w.heap.size ≤ r ∨ w.heap[r]? ≠ some (.deferred (some []))) : Marks B ds w' := by
  obtain ⟨Ds, e, hn, hD⟩ := h
  refine ⟨Ds, e, hn, fun D hm => ⟨(hD D hm).1, (hg.block D (Marks.lt hD hm) ?_).trans (hD D hm).2⟩⟩
  intro e
  rcases hr D e.symm with h1 | h1
  · have := Marks.lt hD hm; omega
  · exact h1 (hD D hm).2
theorem Marks.below {B : Nat} {ds : List Deferred} {w w' : World} (h : Marks B ds w) (hb : Below w.heap.size w w') : Marks B ds w' :=
  h.kept (row := none) ⟨hb.os, hb.tape, hb.output, hb.size, fun k hk _ => hb.block k hk⟩ (fun r e => by cases e)
/-- One loop more has ended. -/
theorem Marks.push {B D : Nat} {ds : List Deferred} {w w' : World} (h : Marks B ds w) (h' : Marks B ds w') (hB : B ≤ w.heap.size) (hD : w.heap.size ≤ D) (hK : w'.heap[D]? = some (.deferred (some []))) : Marks B ({ target := .collected D, args := #[] } :: ds) w' := by
  obtain ⟨Ds, e, hn, hDs⟩ := h
  obtain ⟨Ds', e', hn', hDs'⟩ := h'
  have hinj : Ds.map markD = Ds'.map markD := e.symm.trans e'
  have hinj2 : Ds = Ds' := by
    refine (List.map_inj_right (f := markD) ?_).1 hinj
    intro a b hab
    unfold markD at hab
    simpa using hab
  subst hinj2
  refine ⟨D :: Ds, by rw [e]; rfl, List.nodup_cons.2 ⟨fun hm => ?_, hn⟩, fun X hX => ?_⟩
  · have := Marks.lt hDs hm; omega
  · rcases List.mem_cons.1 hX with rfl | hX
    · exact ⟨by omega, hK⟩
    · exact hDs' X hX
theorem leaves_marks {fn : Func} {tmps : Array Value} {R : Ending → World → Prop} {n B : Nat} {P : Program} : ∀ (ds : List Deferred) (w : World), Marks B ds w → B ≤ w.heap.size →
    (∀ w', Below B w w' → ∃ v, (results fn tmps).run P w' = .ok v w' ∧ R (.returned v) w') → LeavesInM Fence.wide n P fn tmps R ds .returning w := by
  rintro ds w ⟨Ds, rfl, hn, hD⟩ hB hR
  induction Ds generalizing w with
  | nil =>
    obtain ⟨v, h1, h2⟩ := hR w (Below.refl _ _)
    exact ⟨v, h1, h2⟩
  | cons D Ds ih =>
    obtain ⟨h1, h2⟩ := List.nodup_cons.1 hn
    have hDD := hD D (List.mem_cons_self ..)
    refine ⟨by simp, .inl ⟨_, _, rfl, run_takeDeferred hDD.2, ?_⟩⟩
    have hbD : Below B w (w.putObj D (.deferred none)) := (Below.refl B w).grown (grownBy_putObj' w D (.deferred none)) hB (fun k e => by cases e; exact hDD.1)
    refine ih _ h2 (fun X hX => ⟨(hD X (List.mem_cons_of_mem _ hX)).1, ?_⟩) (Nat.le_trans hB hbD.size) (fun w' hb => hR w' (hbD.trans hb))
    exact (World.putObj_heap_other (fun e => by subst e; exact h1 hX)).trans (hD X (List.mem_cons_of_mem _ hX)).2

/-- The marks, all below H. -/
def MarksTo (B H : Nat) (ds : List Deferred) (w : World) : Prop := ∃ Ds : List Nat, ds = Ds.map markD ∧ Ds.Nodup ∧ ∀ D ∈ Ds, B ≤ D ∧ D < H ∧ w.heap[D]? = some (.deferred (some []))
theorem MarksTo.marks {B H : Nat} {ds : List Deferred} {w : World} (h : MarksTo B H ds w) : Marks B ds w := by
  obtain ⟨Ds, h1, h2, h3⟩ := h
  exact ⟨Ds, h1, h2, fun D hD => ⟨(h3 D hD).1, (h3 D hD).2.2⟩⟩
theorem Marks.to {B H : Nat} {ds : List Deferred} {w : World} (h : Marks B ds w) (hH : w.heap.size ≤ H) : MarksTo B H ds w := by
  obtain ⟨Ds, h1, h2, h3⟩ := h
  exact ⟨Ds, h1, h2, fun D hD => ⟨(h3 D hD).1, Nat.lt_of_lt_of_le (Marks.lt h3 hD) hH, (h3 D hD).2⟩⟩
theorem MarksTo.kept {B H : Nat} {ds : List Deferred} {w w' : World} {row : Option Nat} (h : MarksTo B H ds w) (hg : w.grownBy w' row) (hr : ∀ r, row = some r → H ≤ r ∨ w.heap[r]? ≠ some (.deferred (some []))) : MarksTo B H ds w' := by
  obtain ⟨Ds, e, hn, hD⟩ := h
  refine ⟨Ds, e, hn, fun D hm => ⟨(hD D hm).1, (hD D hm).2.1, (hg.block D (Array.getElem?_eq_some_iff.1 (hD D hm).2.2).1 ?_).trans (hD D hm).2.2⟩⟩
  intro e
  rcases hr D e.symm with h1 | h1
  · have := (hD D hm).2.1; omega
  · exact h1 (hD D hm).2.2
theorem MarksTo.nil (B H : Nat) (w : World) : MarksTo B H [] w := ⟨[], rfl, .nil, fun D h => absurd h List.not_mem_nil⟩
/-- One loop more has ended. -/
theorem MarksTo.push {B H D : Nat} {ds : List Deferred} {w : World} (h : MarksTo B H ds w) (hB : B ≤ D) (hH : H ≤ D) (hK : w.heap[D]? = some (.deferred (some []))) : MarksTo B w.heap.size ({ target := .collected D, args := #[] } :: ds) w := by
  obtain ⟨Ds, e, hn, hDs⟩ := h
  have hl := (Array.getElem?_eq_some_iff.1 hK).1
  refine ⟨D :: Ds, by rw [e]; rfl, List.nodup_cons.2 ⟨fun hm => ?_, hn⟩, fun X hX => ?_⟩
  · have := (hDs D hm).2.1; omega
  · rcases List.mem_cons.1 hX with rfl | hX
    · exact ⟨hB, hl, hK⟩
    · exact ⟨(hDs X hX).1, (Array.getElem?_eq_some_iff.1 (hDs X hX).2.2).1, (hDs X hX).2.2⟩
/-- The boxes of a function with such loops, what lay below, and the marks. -/
structure Env (we : World) (bl : List (Nat × TypeId × Value)) (H : Nat) (ds : List Deferred) (W : World) : Prop where
  box : ∀ b ∈ bl, Boxed W b.1 b.2.1 b.2.2
  low : Below we.heap.size we W
  marks : MarksTo we.heap.size H ds W
  hH : H ≤ W.heap.size
theorem Env.kept {we : World} {bl : List (Nat × TypeId × Value)} {H : Nat} {ds : List Deferred} {W W' : World} {row : Option Nat} (h : Env we bl H ds W) (hg : W.grownBy W' row)
    (hr : ∀ r, row = some r → (∀ b ∈ bl, r ≠ b.1) ∧ we.heap.size ≤ r ∧ (H ≤ r ∨ W.heap[r]? ≠ some (.deferred (some [])))) : Env we bl H ds W' :=
  ⟨fun b hb => (h.box b hb).kept hg fun e => (hr _ e.symm).1 b hb rfl, h.low.grown hg h.low.size fun r e => (hr r e).2.1, h.marks.kept hg fun r e => (hr r e).2.2, Nat.le_trans h.hH hg.size⟩
theorem Env.below {we : World} {bl : List (Nat × TypeId × Value)} {H : Nat} {ds : List Deferred} {W W' : World} (h : Env we bl H ds W) (hb : Below W.heap.size W W') : Env we bl H ds W' :=
  h.kept (row := none) ⟨hb.os, hb.tape, hb.output, hb.size, fun k hk _ => hb.block k hk⟩ (fun r e => by cases e)
theorem Env.own {β : Type} {we : World} {bl : List (Nat × TypeId × Value)} {H B : Nat} {ds : List Deferred} (hB : we.heap.size ≤ B) (hH : H ≤ B) : OwnFrom B (fun (_ : β) W => Env we bl H ds W) := by
  rintro s A D row h hg hr
  refine h.kept hg fun r e => ⟨fun b hb => ?_, ?_, .inl ?_⟩
  · obtain ⟨_, o, ho, hc⟩ := hr r e
    exact boxed_ne (h.box b hb) ho hc
  · have := (hr r e).1; omega
  · have := (hr r e).1; omega
/-- A store into one of the boxes. -/
theorem Env.set {we : World} {bl bl' : List (Nat × TypeId × Value)} {H : Nat} {ds : List Deferred} {W : World} {b : Nat} {t : TypeId} {u : Value} (h : Env we bl H ds W) (hb : (b, t, u) ∈ bl) (v : Value) (hw : we.heap.size ≤ b)
    (hbl : ∀ x ∈ bl', x = (b, t, v) ∨ (x ∈ bl ∧ x.1 ≠ b)) : Env we bl' H ds (W.setCell ⟨b, 0, none⟩ v) := by
  have hx := h.box _ hb
  refine ⟨fun x hx' => ?_, h.low.grown (grown_set W b 0 v) h.low.size fun r e => by cases e; exact hw, h.marks.kept (grown_set W b 0 v) fun r e => .inr ?_, Nat.le_trans h.hH (grown_set W b 0 v).size⟩
  · rcases hbl x hx' with rfl | ⟨h1, h2⟩
    · exact hx.set v
    · exact (h.box x h1).kept (grown_set W b 0 v) fun e => h2 (by cases e; rfl)
  · cases e
    unfold Boxed at hx
    rw [hx]; simp
/-- A new box. -/
theorem Env.new {we : World} {bl : List (Nat × TypeId × Value)} {H : Nat} {ds : List Deferred} {W : World} (h : Env we bl H ds W) (t : TypeId) (v : Value) : Env we ((W.heap.size, t, v) :: bl) H ds (W.alloc (.cells #[v] t)) := by
  refine ⟨fun x hx => ?_, (h.below (bl_alloc (bl_refl W) _)).low, (h.below (bl_alloc (bl_refl W) _)).marks, (h.below (bl_alloc (bl_refl W) _)).hH⟩
  rcases List.mem_cons.1 hx with rfl | hx
  · exact Boxed.new W t v
  · exact (h.below (bl_alloc (bl_refl W) _)).box x hx
theorem Env.less {we : World} {bl bl' : List (Nat × TypeId × Value)} {H : Nat} {ds : List Deferred} {W : World} (h : Env we bl H ds W) (hb : ∀ x ∈ bl', x ∈ bl) : Env we bl' H ds W := ⟨fun x hx => h.box x (hb x hx), h.low, h.marks, h.hH⟩
theorem Env.high {we : World} {bl : List (Nat × TypeId × Value)} {H : Nat} {ds : List Deferred} {W : World} (h : Env we bl H ds W) : Env we bl W.heap.size ds W := ⟨h.box, h.low, h.marks.marks.to (Nat.le_refl _), Nat.le_refl _⟩
theorem Env.push {we : World} {bl : List (Nat × TypeId × Value)} {H D : Nat} {ds : List Deferred} {W : World} (h : Env we bl H ds W) (hw : we.heap.size ≤ D) (hH : H ≤ D) (hK : W.heap[D]? = some (.deferred (some []))) : Env we bl W.heap.size ({ target := .collected D, args := #[] } :: ds) W := ⟨h.box, h.low, h.marks.push hw hH hK, Nat.le_refl _⟩
end Go.Proofs.Ytnamafakjkcmjaa
