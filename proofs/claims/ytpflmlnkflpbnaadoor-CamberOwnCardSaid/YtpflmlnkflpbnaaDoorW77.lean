/-
  A map from triples to bools, as a set of triples; the square root.
-/
import Derived.Test.YtpflmlnkflpbnaaDoorW63
import Derived.Test.YtpflmlnkflpbnaaDoorW64
import Derived.Maps.OwnSet
import Derived.DeepKeys5
namespace Go.Proofs.YtpflmlnkflpbnaaDoor
open Go.RowKit Go.Sort Cam
open Go.Maps (Keyed)
set_option linter.unusedVariables false
set_option linter.unusedSimpArgs false

theorem keyed_tri : Keyed Tryd.prog 42 :=
  Keyed.of_law (deep_law_gate (by kernel_rfl) (by simp) (by simp) (by kernel_rfl) (by rw [Tryd.underlying42]))
theorem cellsT : Tryd.prog.cellsOf 42 = 3 := by kernel_rfl
theorem key_tri {x y z : Int} (hx : (Lit.int .i64 x).wf = true) (hy : (Lit.int .i64 y).wf = true) (hz : (Lit.int .i64 z).wf = true) : ∃ kl, keyOf Tryd.prog 42 (.agg #[.int .i64 x, .int .i64 y, .int .i64 z]) = some kl := by
  have h1 : Tryd.prog.keyType 42 = true := by kernel_rfl
  obtain ⟨m, hm⟩ : ∃ m, Tryd.prog.types.size = m + 1 := ⟨Tryd.prog.types.size - 1, by simp⟩
  unfold keyOf
  rw [hm, Tryd.underlying42]
  simp only [h1, Bool.true_and, Value.formed, Tryd.underlying42, cellsT]
  rw [if_pos (by rfl)]
  suffices h : ∃ ls, Tryd.prog.keyLits (m + 1 + 1) 42 (Value.agg #[.int .i64 x, .int .i64 y, .int .i64 z]).cells.toList = some ls by
    obtain ⟨ls, h⟩ := h
    exact ⟨_, by rw [h]; rfl⟩
  refine ⟨[.int .i64 x, .int .i64 y, .int .i64 z], ?_⟩
  unfold Program.keyLits
  rw [Tryd.underlying42]
  simp only [cellsT, cells3]
  unfold Program.keyLits
  simp [Tryd.underlying3, hx, hy, hz, List.range, List.range.loop, Value.cells]

set_option maxRecDepth 100000 in
theorem plain_bool_inv {H : Type} {v : Value} {c : Bool} {ps : List MemPlace} (h : plainElem (H := H) Tryd.prog 4 v = some (.lit (.bool c), ps)) : v = .bool c := by
  unfold plainElem at h
  rw [Tryd.underlying4] at h
  cases v with
  | bool x => simp only [Option.some.injEq, Prod.mk.injEq, DataW.lit.injEq, Lit.bool.injEq] at h; rw [h.1]
  | _ => cases h
/-- Block b is a map of at most n entries: the set L. -/
def MapSet (w : World) (b n : Nat) (L : List T3') : Prop :=
  ∃ D : DataW Unit, w.ownsMap Tryd.prog 42 (plainElem Tryd.prog 4) b n D ∧ ∀ (t : T3') (kl : Lit), keyOf Tryd.prog 42 (tripT t) = some kl → D.atKey kl (.lit (.bool false)) = .lit (.bool (decide (t ∈ L)))
theorem MapSet.made (w : World) : MapSet (w.alloc (.map #[] 0)) w.heap.size 0 [] :=
  ⟨.map [], World.ownsMap_made w _ _ _, fun t kl _ => by rw [WideAt.atKey_none _ (by simp)]; rfl⟩
theorem MapSet.lt {w : World} {b n : Nat} {L : List T3'} (h : MapSet w b n L) : b < w.heap.size := by
  obtain ⟨D, h, _⟩ := h; exact h.lt
theorem MapSet.kept {w w' : World} {b n : Nat} {L : List T3'} {row : Option Nat} (h : MapSet w b n L) (hg : w.grownBy w' row) (hne : some b ≠ row) : MapSet w' b n L := by
  obtain ⟨D, h, k⟩ := h; exact ⟨D, h.kept hg hne, k⟩
theorem zero_bool (w : World) : (zeroValue 4).run Tryd.prog w = .ok (.bool false) w := by kernel_rfl
def wfT (t : T3') : Prop := (Lit.int .i64 t.1).wf = true ∧ (Lit.int .i64 t.2.1).wf = true ∧ (Lit.int .i64 t.2.2).wf = true
set_option maxRecDepth 100000 in
theorem MapSet.look {w : World} {b n : Nat} {L : List T3'} (h : MapSet w b n L) {t : T3'} (ht : wfT t) : (Instr.lookup 38 (.map (some b)) (tripT t) false).run Tryd.prog w = .ok (.bool (decide (t ∈ L))) w := by
  obtain ⟨D, h, k⟩ := h
  obtain ⟨kl, hk⟩ := key_tri ht.1 ht.2.1 ht.2.2
  obtain ⟨v, ps, hr, hv⟩ := h.lookup keyed_tri Tryd.underlying38 (zero_bool w) (plainElem_bool Tryd.underlying4 false) hk
  rw [k t kl hk] at hv
  rw [show tripT t = .agg #[.int .i64 t.1, .int .i64 t.2.1, .int .i64 t.2.2] from rfl, hr, plain_bool_inv hv]
set_option maxRecDepth 100000 in
theorem MapSet.store {w : World} {b n : Nat} {L : List T3'} (h : MapSet w b n L) {t : T3'} (ht : wfT t) (hn : n < maxLen) : ∃ w', (Instr.mapUpdate 38 (.map (some b)) (tripT t) (.bool true)).run Tryd.prog w = .ok () w' ∧ MapSet w' b (n + 1) (t :: L) ∧ w.grownBy w' (some b) := by
  obtain ⟨D, h, k⟩ := h
  obtain ⟨kl, hk⟩ := key_tri ht.1 ht.2.1 ht.2.2
  obtain ⟨w', hr, ho, hg⟩ := h.update keyed_tri Tryd.underlying38 hn hk (plainElem_bool (H := Unit) (Tryd.underlying4) true)
  refine ⟨w', hr, ⟨_, ho, fun u ku hu => ?_⟩, hg⟩
  by_cases e : ku = kl
  · subst e
    have e2 := keyed_tri.inj hk hu
    have e3 : u = t := by
      obtain ⟨a, b, c⟩ := t
      obtain ⟨a', b', c'⟩ := u
      simp [tripT] at e2
      obtain ⟨rfl, rfl, rfl⟩ := e2
      rfl
    subst e3
    rw [Maps.atKey_put_same h.isMap (keyed_tri.key hk)]
    simp
  · rw [Maps.atKey_put_other e, k u ku hu]
    have e3 : u ≠ t := by
      rintro rfl
      exact e (Option.some.inj (hu.symm.trans hk))
    simp [e3]
end Go.Proofs.YtpflmlnkflpbnaaDoor
