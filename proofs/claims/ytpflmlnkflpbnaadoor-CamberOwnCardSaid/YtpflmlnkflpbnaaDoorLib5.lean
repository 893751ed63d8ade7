/-
  A map with two entries under number keys, made anew. No program stands in this text.
-/
import Derived.Test.YtpflmlnkflpbnaaDoorLib4
import Derived.Maps.Own
namespace Go.Proofs.YtpflmlnkflpbnaaDoor
open Go.RowKit Go.Sort Go.ChangeMaps

theorem set_new (w : World) (o o' : Obj) : setBlock (w.alloc o) w.heap.size o' = w.alloc o' := by
  have h : (w.heap.push o).setIfInBounds w.heap.size o' = w.heap.push o' := by
    apply Array.ext_getElem?
    intro i
    rw [Array.getElem?_setIfInBounds, Array.getElem?_push, Array.getElem?_push]
    by_cases hi : w.heap.size = i
    · subst hi; simp
    · simp [hi, Ne.symm hi]
  show ({ w with heap := (w.heap.push o).setIfInBounds w.heap.size o' } : World) = { w with heap := w.heap.push o' }
  rw [h]

section
variable {P : Program}
theorem upd_first {t k e : TypeId} (ht : P.underlying t = some (.map k e)) (hk : P.underlying k = some (.int .u8)) (w : World) (x : Int) (hx : (Lit.int .u8 x).wf = true) (v : Value) :
    (Instr.mapUpdate t (.map (some w.heap.size)) (.int .u8 x) v).run P (w.alloc (.map #[] 0)) = .ok () (w.alloc (.map #[⟨.int .u8 x, v, 0⟩] 1)) := by
  have K := Maps.int_keyed hk
  have hb : (w.alloc (.map #[] 0)).heap[w.heap.size]? = some (.map #[] 0) := heap_alloc_new w _
  have hc := K.check (w.alloc (.map #[] 0)) false (Maps.keyOf_int_mk hk hx)
  have hs := MapKept.run_setObj_map (P := P) (.map #[⟨.int .u8 x, v, 0⟩] 1) hb
  have e1 := set_new w (.map #[] 0) (.map #[⟨.int .u8 x, v, 0⟩] 1)
  unfold setBlock at e1
  rw [e1] at hs
  simp [Instr.mapUpdate, run_underlying ht, run_underlying hk, MapKept.run_getObj_map hb, hc, Instr.findKey, Instr.findNow, hs, Result.andThen]
theorem upd_second {t k e : TypeId} (ht : P.underlying t = some (.map k e)) (hk : P.underlying k = some (.int .u8)) (w : World) (x y : Int) (hy : (Lit.int .u8 y).wf = true) (hne : y ≠ x) (u v : Value) :
    (Instr.mapUpdate t (.map (some w.heap.size)) (.int .u8 y) v).run P (w.alloc (.map #[⟨.int .u8 x, u, 0⟩] 1)) = .ok () (w.alloc (.map #[⟨.int .u8 x, u, 0⟩, ⟨.int .u8 y, v, 1⟩] 2)) := by
  have K := Maps.int_keyed hk
  have hb : (w.alloc (.map #[⟨.int .u8 x, u, 0⟩] 1)).heap[w.heap.size]? = some (.map #[⟨.int .u8 x, u, 0⟩] 1) := heap_alloc_new w _
  have hc := K.check (w.alloc (.map #[⟨.int .u8 x, u, 0⟩] 1)) false (Maps.keyOf_int_mk hk hy)
  have hs := MapKept.run_setObj_map (P := P) (.map #[⟨.int .u8 x, u, 0⟩, ⟨.int .u8 y, v, 1⟩] 2) hb
  have e1 := set_new w (.map #[⟨.int .u8 x, u, 0⟩] 1) (.map #[⟨.int .u8 x, u, 0⟩, ⟨.int .u8 y, v, 1⟩] 2)
  unfold setBlock at e1
  rw [e1] at hs
  have hne' : (y == x) = false := by simp [hne]
  simp [Instr.mapUpdate, run_underlying ht, run_underlying hk, MapKept.run_getObj_map hb, hc, Instr.findKey, Instr.findNow, Instr.sameNow, hne', hs, Result.andThen]
theorem look_first {t k e : TypeId} (ht : P.underlying t = some (.map k e)) (hk : P.underlying k = some (.int .u8)) (w : World) (b : Nat) (x y : Int) (hx : (Lit.int .u8 x).wf = true) (u v : Value) (hb : w.heap[b]? = some (.map #[⟨.int .u8 x, u, 0⟩, ⟨.int .u8 y, v, 1⟩] 2)) :
    (Instr.lookup t (.map (some b)) (.int .u8 x) false).run P w = .ok u w := by
  have K := Maps.int_keyed hk
  have hc := K.check w false (Maps.keyOf_int_mk hk hx)
  simp [Instr.lookup, run_underlying ht, run_underlying hk, MapKept.run_getObj_map hb, hc, Instr.findKey, Instr.findNow, Instr.sameNow, Result.andThen]
theorem look_second {t k e : TypeId} (ht : P.underlying t = some (.map k e)) (hk : P.underlying k = some (.int .u8)) (w : World) (b : Nat) (x y : Int) (hy : (Lit.int .u8 y).wf = true) (hne : y ≠ x) (u v : Value) (hb : w.heap[b]? = some (.map #[⟨.int .u8 x, u, 0⟩, ⟨.int .u8 y, v, 1⟩] 2)) :
    (Instr.lookup t (.map (some b)) (.int .u8 y) false).run P w = .ok v w := by
  have K := Maps.int_keyed hk
  have hc := K.check w false (Maps.keyOf_int_mk hk hy)
  have hne' : (y == x) = false := by simp [hne]
  simp [Instr.lookup, run_underlying ht, run_underlying hk, MapKept.run_getObj_map hb, hc, Instr.findKey, Instr.findNow, Instr.sameNow, hne', Result.andThen]
end
end Go.Proofs.YtpflmlnkflpbnaaDoor
