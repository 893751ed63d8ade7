/-
  A map that the call makes, as a function: one text for every kind of key and element. No function of the program stands in this text.
-/
import Derived.Test.YtpclkocfbkjabaaT1
import Derived.Maps.OwnSet
import Derived.Maps.OwnOps
namespace Go.Proofs.Ytpclkocfbkjabaa
open Go.RowKit Go.Shelf
open Go.Maps (Keyed string_keyed int_keyed)
set_option linter.unusedVariables false
set_option linter.unusedSimpArgs false

structure MapKind (P : Program) (α β : Type) where
  mt : TypeId
  kt : TypeId
  et : TypeId
  ke : α → Value
  ve : β → Value
  R : Value → Option (DataW Unit × List MemPlace)
  dv : β → DataW Unit
  z : β
  okK : α → Prop
  okV : β → Prop
  keyed : Keyed P kt
  under : P.underlying mt = some (.map kt et)
  zero : ∀ w, (zeroValue et).run P w = .ok (ve z) w
  key : ∀ x, okK x → ∃ kl, keyOf P kt (ke x) = some kl
  inj : ∀ x y, ke x = ke y → x = y
  rd : ∀ y, okV y → R (ve y) = some (dv y, [])
  rd_inv : ∀ v y ps, okV y → R v = some (dv y, ps) → v = ve y
  okz : okV z
variable {P : Program} {α β : Type} {k : MapKind P α β} {w w' : World} {b n : Nat} {f : α → Option β}
/-- Block b is a map of at most n entries: the function f. -/
def MapF (k : MapKind P α β) (w : World) (b n : Nat) (f : α → Option β) : Prop :=
  ∃ D : DataW Unit, w.ownsMap P k.kt k.R b n D ∧ (∀ x y, f x = some y → k.okV y) ∧ ∀ x kl, k.okK x → keyOf P k.kt (k.ke x) = some kl → Maps.has D kl = (f x).isSome ∧ D.atKey kl (k.dv k.z) = k.dv ((f x).getD k.z)
theorem MapF.made (k : MapKind P α β) (w : World) : MapF k (w.alloc (.map #[] 0)) w.heap.size 0 fun _ => none :=
  ⟨.map [], World.ownsMap_made w _ _ _, (fun x y h => by simp at h), (fun x kl _ _ => ⟨rfl, by rw [WideAt.atKey_none _ (by simp)]; rfl⟩)⟩
theorem MapF.lt (h : MapF k w b n f) : b < w.heap.size := by
  obtain ⟨D, h, _⟩ := h; exact h.lt
theorem MapF.kept {row : Option Nat} (h : MapF k w b n f) (hg : w.grownBy w' row) (hne : some b ≠ row) : MapF k w' b n f := by
  obtain ⟨D, h, k1⟩ := h; exact ⟨D, h.kept hg hne, k1⟩
theorem MapF.below (h : MapF k w b n f) (hb : Below w.heap.size w w') : MapF k w' b n f :=
  h.kept (row := none) ⟨hb.os, hb.tape, hb.output, hb.size, fun k hk _ => hb.block k hk⟩ (by simp)
theorem MapF.block (h : MapF k w b n f) : ∃ es clock, w.heap[b]? = some (.map es clock) := by
  obtain ⟨D, ⟨es, clock, h, _⟩, _⟩ := h; exact ⟨es, clock, h⟩
theorem MapF.mono {n' : Nat} (h : MapF k w b n f) (hn : n ≤ n') : MapF k w b n' f := by
  obtain ⟨D, h, k1⟩ := h; exact ⟨D, h.mono hn, k1⟩
theorem MapF.okV (h : MapF k w b n f) (x : α) : k.okV ((f x).getD k.z) := by
  obtain ⟨D, _, h, _⟩ := h
  cases hx : f x with
  | none => exact k.okz
  | some y => exact h x y hx
theorem MapF.look (h : MapF k w b n f) {x : α} (hx : k.okK x) : (Instr.lookup k.mt (.map (some b)) (k.ke x) false).run P w = .ok (k.ve ((f x).getD k.z)) w := by
  have hv := h.okV x
  obtain ⟨D, h, _, k1⟩ := h
  obtain ⟨kl, hk⟩ := k.key x hx
  obtain ⟨v, ps, hr, hR⟩ := h.lookup k.keyed k.under (k.zero w) (k.rd k.z k.okz) hk
  rw [(k1 x kl hx hk).2] at hR
  rw [hr, k.rd_inv v _ ps hv hR]
theorem MapF.look_ok (h : MapF k w b n f) {x : α} (hx : k.okK x) : (Instr.lookup k.mt (.map (some b)) (k.ke x) true).run P w = .ok (.tuple #[k.ve ((f x).getD k.z), .bool (f x).isSome]) w := by
  have hv := h.okV x
  obtain ⟨D, h, _, k1⟩ := h
  obtain ⟨kl, hk⟩ := k.key x hx
  obtain ⟨v, ps, hr, hR⟩ := h.look_ok k.keyed k.under (k.zero w) (k.rd k.z k.okz) hk
  rw [(k1 x kl hx hk).2] at hR
  rw [hr, k.rd_inv v _ ps hv hR, (k1 x kl hx hk).1]
theorem MapF.store [DecidableEq α] (h : MapF k w b n f) {x : α} {y : β} (hx : k.okK x) (hy : k.okV y) (hn : n < maxLen) :
    ∃ w', (Instr.mapUpdate k.mt (.map (some b)) (k.ke x) (k.ve y)).run P w = .ok () w' ∧ MapF k w' b (n + 1) (fun u => if u = x then some y else f u) ∧ w.grownBy w' (some b) := by
  obtain ⟨D, h, hv, k1⟩ := h
  obtain ⟨kl, hk⟩ := k.key x hx
  obtain ⟨w', hr, ho, hg⟩ := h.update k.keyed k.under hn hk (k.rd y hy)
  refine ⟨w', hr, ⟨_, ho, fun u v hu => ?_, fun u ku hu hku => ?_⟩, hg⟩ <;> dsimp only at *
  · by_cases e : u = x
    · rw [if_pos e] at hu; injection hu with hu; rw [← hu]; exact hy
    · rw [if_neg e] at hu; exact hv u v hu
  · by_cases e : u = x
    · subst e
      have e2 : ku = kl := Option.some.inj (hku.symm.trans hk)
      subst e2
      rw [if_pos rfl]
      exact ⟨Maps.has_put_same h.isMap (k.keyed.key hk) _, Maps.atKey_put_same h.isMap (k.keyed.key hk) _ _⟩
    · have e2 : ku ≠ kl := by
        rintro rfl
        exact e (k.inj u x (k.keyed.inj hku hk))
      rw [if_neg e, Maps.has_put_other e2, Maps.atKey_put_other e2]
      exact k1 u ku hu hku
theorem MapF.drop [DecidableEq α] (h : MapF k w b n f) {x : α} (hx : k.okK x) (ty : TypeId) :
    ∃ w', (Builtin.delete_ #[k.mt, k.kt] ty #[.map (some b), k.ke x]).run P w = .ok (.tuple #[]) w' ∧ MapF k w' b n (fun u => if u = x then none else f u) ∧ w.grownBy w' (some b) := by
  obtain ⟨D, h, hv, k1⟩ := h
  obtain ⟨kl, hk⟩ := k.key x hx
  obtain ⟨w', hr, ho, hg⟩ := h.drop k.keyed k.under hk ty
  refine ⟨w', hr, ⟨_, ho, fun u v hu => ?_, fun u ku hu hku => ?_⟩, hg.grown⟩ <;> dsimp only at *
  · by_cases e : u = x
    · rw [if_pos e] at hu; cases hu
    · rw [if_neg e] at hu; exact hv u v hu
  · by_cases e : u = x
    · subst e
      have e2 : ku = kl := Option.some.inj (hku.symm.trans hk)
      subst e2
      rw [if_pos rfl]
      exact ⟨Maps.has_del_same, Maps.atKey_del_same _⟩
    · have e2 : ku ≠ kl := by
        rintro rfl
        exact e (k.inj u x (k.keyed.inj hku hk))
      rw [if_neg e, Maps.has_del_other e2, Maps.atKey_del_other e2]
      exact k1 u ku hu hku
theorem MapF.same {g : α → Option β} (h : MapF k w b n f) (e : ∀ x, f x = g x) : MapF k w b n g := by
  have : f = g := funext e
  rw [← this]; exact h

set_option maxRecDepth 100000 in
theorem plain_bool_inv {H : Type} {v : Value} {c : Bool} {ps : List MemPlace} (h : plainElem (H := H) Try.prog 4 v = some (.lit (.bool c), ps)) : v = .bool c := by
  unfold plainElem at h
  rw [Try.underlying4] at h
  cases v with
  | bool x => simp only [Option.some.injEq, Prod.mk.injEq, DataW.lit.injEq, Lit.bool.injEq] at h; rw [h.1]
  | _ => cases h
theorem plain_int_inv {H : Type} {v : Value} {c : Int} {ps : List MemPlace} (h : plainElem (H := H) Try.prog 3 v = some (.lit (.int .i64 c), ps)) : v = .int .i64 c := by
  obtain ⟨a, rfl, h2, _⟩ := plainElem_int_inv Try.underlying3 h
  simp only [Prod.mk.injEq, DataW.lit.injEq, Lit.int.injEq, true_and] at h2
  rw [h2.1]
noncomputable def kindSI : MapKind Try.prog ByteArray Int where
  mt := 102
  kt := 9
  et := 3
  ke := Value.string
  ve := Value.int .i64
  R := plainElem Try.prog 3
  dv := fun a => .lit (.int .i64 a)
  z := 0
  okK := fun s => s.size ≤ maxLen
  okV := fun a => (Lit.int .i64 a).wf = true
  keyed := string_keyed Try.underlying9
  under := Try.underlying102
  zero := fun w => by kernel_rfl
  key := fun s hs => ⟨_, WideMaps.keyOf_string_mk Try.underlying9 hs⟩
  inj := fun s t h => by injection h
  rd := fun a ha => plainElem_int Try.underlying3 ha
  rd_inv := fun v a ps _ h => plain_int_inv h
  okz := by decide
noncomputable def kindII : MapKind Try.prog Int Int where
  mt := 81
  kt := 3
  et := 3
  ke := Value.int .i64
  ve := Value.int .i64
  R := plainElem Try.prog 3
  dv := fun a => .lit (.int .i64 a)
  z := 0
  okK := fun a => (Lit.int .i64 a).wf = true
  okV := fun a => (Lit.int .i64 a).wf = true
  keyed := int_keyed Try.underlying3
  under := Try.underlying81
  zero := fun w => by kernel_rfl
  key := fun s hs => ⟨_, Maps.keyOf_int_mk Try.underlying3 hs⟩
  inj := fun s t h => by injection h
  rd := fun a ha => plainElem_int Try.underlying3 ha
  rd_inv := fun v a ps _ h => plain_int_inv h
  okz := by decide
noncomputable def kindIB : MapKind Try.prog Int Bool where
  mt := 80
  kt := 3
  et := 4
  ke := Value.int .i64
  ve := Value.bool
  R := plainElem Try.prog 4
  dv := fun a => .lit (.bool a)
  z := false
  okK := fun a => (Lit.int .i64 a).wf = true
  okV := fun _ => True
  keyed := int_keyed Try.underlying3
  under := Try.underlying80
  zero := fun w => by kernel_rfl
  key := fun s hs => ⟨_, Maps.keyOf_int_mk Try.underlying3 hs⟩
  inj := fun s t h => by injection h
  rd := fun a _ => plainElem_bool Try.underlying4 a
  rd_inv := fun v a ps _ h => plain_bool_inv h
  okz := trivial
noncomputable def kindSB : MapKind Try.prog ByteArray Bool where
  mt := 105
  kt := 9
  et := 4
  ke := Value.string
  ve := Value.bool
  R := plainElem Try.prog 4
  dv := fun a => .lit (.bool a)
  z := false
  okK := fun s => s.size ≤ maxLen
  okV := fun _ => True
  keyed := string_keyed Try.underlying9
  under := Try.underlying105
  zero := fun w => by kernel_rfl
  key := fun s hs => ⟨_, WideMaps.keyOf_string_mk Try.underlying9 hs⟩
  inj := fun s t h => by injection h
  rd := fun a _ => plainElem_bool Try.underlying4 a
  rd_inv := fun v a ps _ h => plain_bool_inv h
  okz := trivial
end Go.Proofs.Ytpclkocfbkjabaa
