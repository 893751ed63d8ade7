/-
  '==' and '!=' of three numbers. No program stands in this text.
-/
import Derived.Test.YtpflmlnkflpbnaaDoorLib3
import Derived.Laws.StructEq
import Derived.ChangeKeysEq
namespace Go.Proofs.YtpflmlnkflpbnaaDoor
open Go.RowKit Go.Sort

section
variable {P : Program} (w : World)
theorem eq_items3 (d : Nat) (e : TypeId) (he : P.underlying e = some (.int .i64)) (hc : P.cellsOf e = 1) (x y z a b c : Int) :
    (Op.eqItems (d + 1) e (P.cellsOf e) #[.int .i64 x, .int .i64 y, .int .i64 z] #[.int .i64 a, .int .i64 b, .int .i64 c] (List.range 3)).run P w = .ok (decide (x = a ∧ y = b ∧ z = c)) w := by
  have r : List.range 3 = [0, 1, 2] := rfl
  have h := run_equalIn_int (P := P) w d e .i64 .i64
  rw [r, hc]
  by_cases h1 : x = a <;> by_cases h2 : y = b <;> by_cases h3 : z = c <;> simp [Op.eqItems, part, isAgg, run_underlying he, h _ _ he, h1, h2, h3]
theorem eql3 (t e : TypeId) (i : TypeInfo) (ht : P.underlying t = some (.array 3 e)) (he : P.underlying e = some (.int .i64)) (hc : P.cellsOf e = 1) (hi : P.info? e = some i) (x y z a b c : Int) :
    (binOp .eql t (.agg #[.int .i64 x, .int .i64 y, .int .i64 z]) (.agg #[.int .i64 a, .int .i64 b, .int .i64 c])).run P w = .ok (.bool (decide (x = a ∧ y = b ∧ z = c))) w := by
  rw [run_eql_struct, show (10000 : Nat) = 9999 + 1 from rfl, run_equalIn_array w 9999 _ _ ht hi, eq_items3 w 9998 e he hc]
  rfl
theorem neq3 (t e : TypeId) (i : TypeInfo) (ht : P.underlying t = some (.array 3 e)) (he : P.underlying e = some (.int .i64)) (hc : P.cellsOf e = 1) (hi : P.info? e = some i) (x y z a b c : Int) :
    (binOp .neq t (.agg #[.int .i64 x, .int .i64 y, .int .i64 z]) (.agg #[.int .i64 a, .int .i64 b, .int .i64 c])).run P w = .ok (.bool (!decide (x = a ∧ y = b ∧ z = c))) w := by
  have h := run_equalIn_array w 9999 (P := P) #[.int .i64 x, .int .i64 y, .int .i64 z] #[.int .i64 a, .int .i64 b, .int .i64 c] ht hi
  rw [eq_items3 w 9998 e he hc] at h
  simp only [binOp]
  simp [Op.equal, Op.maxDepth, h]
end

theorem cells_new (w : World) (t : TypeId) (cs : List Value) : ∀ j u, cs[j]? = some u → (w.alloc (.cells cs.toArray t)).cell? ((⟨w.heap.size, 0, none⟩ : Addr).add j) = some u := by
  intro j u hj
  have h : (⟨w.heap.size, 0, none⟩ : Addr).add j = ⟨w.heap.size, j, none⟩ := by simp [Addr.add]; intro h; exact h.symm
  rw [h, (Whole.new w t cs.toArray).cell j]
  simpa using hj
theorem three_one (a b c : Int) : ∀ u ∈ [Value.int .i64 a, .int .i64 b, .int .i64 c], u.oneCell' = true := by
  intro u hu
  simp at hu
  rcases hu with rfl | rfl | rfl <;> rfl

theorem grown_none {W W' : World} (h : W.grownBy W' none) : Below W.heap.size W W' := ⟨h.os, h.tape, h.output, h.size, fun k hk => h.block k hk (by simp)⟩
theorem grown_nil {W W' : World} {n c : Nat} (h : W.grownBy W' (Value.ownBlock (.slice none n c))) : Below W.heap.size W W' := grown_none h
/-- What is owned stays owned over a callee that left all that lay. -/
theorem own_kept {W W' : World} {base : Nat} {e : TypeId} {size : Nat} {v : Value} {n : Nat} {xs : List Value} (h : W.ownsRow base e size v n xs) (hb : Below W.heap.size W W') : W'.ownsRow base e size v n xs :=
  h.kept (row := none) ⟨hb.os, hb.tape, hb.output, hb.size, fun k hk _ => hb.block k hk⟩ (by cases h : v.ownBlock with | none => exact .inl rfl | some k => exact .inr (by simp))
theorem own_form {w : World} {base : Nat} {e : TypeId} {size : Nat} {v : Value} {n : Nat} {xs : List Value} (h : w.ownsRow base e size v n xs) (hn : 0 < n) : ∃ g cap, v = .slice (some ⟨g, 0, none⟩) n cap ∧ base ≤ g ∧ g < w.heap.size := by
  rcases h.2 with ⟨_, h0⟩ | ⟨g, cap, cur, rfl, hb, hg, _⟩
  · omega
  · exact ⟨g, cap, rfl, hb, (Array.getElem?_eq_some_iff.1 hg).1⟩
/-- Behind an append onto a row of the call's own. -/
theorem bl_grown {a W W' : World} {base : Nat} {e : TypeId} {size : Nat} {v : Value} {n : Nat} {xs : List Value} (hb : Below a.heap.size a W) (h : W.ownsRow base e size v n xs) (hbase : a.heap.size ≤ base) (hg : W.grownBy W' v.ownBlock) : Below a.heap.size a W' :=
  hb.grown hg hb.size fun k e => Nat.le_trans hbase (h.lt k e).1
theorem own_forms {w : World} {base : Nat} {e : TypeId} {size : Nat} {v : Value} {n : Nat} {xs : List Value} (h : w.ownsRow base e size v n xs) : (v = .slice none 0 0 ∧ n = 0) ∨ ∃ g cap, v = .slice (some ⟨g, 0, none⟩) n cap := by
  rcases h.2 with h | ⟨g, cap, cur, rfl, _⟩
  · exact .inl h
  · exact .inr ⟨g, cap, rfl⟩
theorem cells_new2 (w : World) (o : Obj) (t : TypeId) (cs : List Value) : ∀ j u, cs[j]? = some u → ((w.alloc o).alloc (.cells cs.toArray t)).cell? ((⟨w.heap.size + 1, 0, none⟩ : Addr).add j) = some u := by
  have h := cells_new (w.alloc o) t cs
  rwa [World.size_alloc] at h
/-- A block of another element type stays over an append onto an owned row. -/
theorem Whole.grown_own {W W' : World} {g : Nat} {t e : TypeId} {cs : Array Value} {base size n : Nat} {v : Value} {xs : List Value} (h : Whole W g t cs) (ho : W.ownsRow base e size v n xs) (hne : e ≠ t) (hg : W.grownBy W' v.ownBlock) : Whole W' g t cs := by
  refine (hg.block g h.lt fun hq => ?_).trans h
  rcases ho.2 with ⟨rfl, _⟩ | ⟨g', cap, cur, rfl, _, hh, _⟩
  · simp [Value.ownBlock] at hq
  · have : g = g' := by simpa [Value.ownBlock] using hq
    subst this
    unfold Whole at h
    rw [hh] at h
    injection h with h
    injection h with _ ht
    exact hne ht
theorem one_one (v : Value) (h : v.oneCell' = true) : ∀ u ∈ [v], u.oneCell' = true := by
  intro u hu
  simp at hu
  subst hu
  exact h
theorem own_set {w : World} {base : Nat} {e t : TypeId} {size n : Nat} {v : Value} {xs : List Value} {g : Nat} {cs : Array Value} (ho : w.ownsRow base e size v n xs) (h : Whole w g t cs) (hne : e ≠ t) (i : Nat) (u : Value) : (w.setCell ⟨g, i, none⟩ u).ownsRow base e size v n xs := by
  refine ownsRow_setCell_other ho ?_ u
  intro hq
  rcases ho.2 with ⟨rfl, _⟩ | ⟨g', cap, cur, rfl, _, hh, _⟩
  · simp [Value.ownBlock] at hq
  · have : g' = g := by simpa [Value.ownBlock] using hq
    subst this
    unfold Whole at h
    rw [hh] at h
    injection h with h
    injection h with _ ht
    exact hne ht
end Go.Proofs.YtpflmlnkflpbnaaDoor
