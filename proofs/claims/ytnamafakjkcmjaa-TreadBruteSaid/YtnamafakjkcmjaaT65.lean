/-
  Item: what has to be kept while an older box is written.
-/
import Derived.Test.YtnamafakjkcmjaaT45
import Derived.Test.YtnamafakjkcmjaaMI
import Derived.Test.YtnamafakjkcmjaaMK
import Derived.Test.YtnamafakjkcmjaaA19
namespace Go.Proofs.Ytnamafakjkcmjaa
open Go.RowKit Go.Shelf
set_option linter.unusedVariables false
set_option linter.unusedSimpArgs false
attribute [local go_sem] Oper.semAt_some

/-- No row of the machine lies in this block. -/
def RowsNe (hdrs : List Value) (T : Tab) (bk : Nat) : Prop := ∀ i b c, i < T.length → hdrs[i]? = some (.slice (some ⟨b, 0, none⟩) (T.getD i []).length c) → b ≠ bk
theorem MachY.older {base top bk : Nat} {w w' : World} {g q : Nat} {S : List Str} {T : Tab} {gS cS gN cN : Nat} {hdrs : List Value} (h : MachY base top w g q S T gS cS gN cN hdrs) (hg : w.grownBy w' (some bk)) (hb : bk < base) (hne : RowsNe hdrs T bk) : MachY base top w' g q S T gS cS gN cN hdrs := by
  have h0 := h.g0
  have h4 : base ≤ gS := (h.sts.lt gS rfl).1
  have h5 : base ≤ gN := (h.nxt.lt gN rfl).1
  refine ⟨h.g0, h.g1, h.whole.grown hg (by simp; omega), h.sts.kept hg (.inr ?_), h.gS1, h.nxt.kept hg (.inr ?_), h.gN1, h.rows.1, fun i hi => ?_⟩
  · simp only [Value.ownBlock, Option.map_some, ne_eq, Option.some.injEq]; omega
  · simp only [Value.ownBlock, Option.map_some, ne_eq, Option.some.injEq]; omega
  · obtain ⟨b, c, cur, e1, e2, e3, e4⟩ := h.rows.2 i hi
    exact ⟨b, c, cur, e1, e2, (hg.block b (Array.getElem?_eq_some_iff.1 e3).1 (by simp; exact hne i b c hi e1)).trans e3, e4⟩
/-- A machine's row is no box of one number: it has more cells, or its one number would lead to the first state. -/
theorem rows_ne {base top bk K : Nat} {w : World} {g q : Nat} {set : List Str} {gS cS gN cN : Nat} {hdrs : List Value} (h : MachY base top w g q (stL set q) (tabL set q) gS cS gN cN hdrs) (hq : 1 ≤ q ∧ q ≤ 3) (h0 : okL set [] = true) (hb : Boxed w bk 3 (.int .i64 K)) (hK : q = 1 → K = 0) : RowsNe hdrs (tabL set q) bk := by
  intro i b c hi he e
  subst e
  obtain ⟨b', c', cur, e1, e2, e3, e4, e5, e6⟩ := h.rows.2 i hi
  rw [e1] at he
  simp only [Option.some.injEq, Value.slice.injEq, Addr.mk.injEq, and_true, true_and] at he
  obtain ⟨rfl, _⟩ := he
  unfold Boxed at hb
  rw [hb] at e3
  simp only [Option.some.injEq, Obj.cells.injEq, and_true] at e3
  have hT := tab_ok (q := q) h0
  have hi' : i < (stL set q).length := by rw [hT.len] at hi; exact hi
  have hl := (hT.at hi').1
  rw [hl] at e6
  rw [← e3] at e6
  by_cases h1 : q = 1
  · have h2 := e6 0 (by omega)
    have h3 : ((tabL set q).getD i []).getD 0 0 = 0 := by
      simp only [List.getElem?_toArray, List.getElem?_cons_zero, Option.some.injEq, Value.int.injEq, true_and] at h2
      rw [← h2, hK h1]; rfl
    refine no_back (c := 0) h0 hi' (mem_steps.2 ?_)
    rw [List.getD_eq_getElem?_getD] at h3
    rw [List.getElem?_eq_getElem (by rw [hl]; omega)] at h3 ⊢
    simp only [Option.getD_some] at h3
    rw [h3]; rfl
  · have h2 := e6 1 (by omega)
    simp at h2
theorem box_cell1 {w : World} {b : Nat} {t : TypeId} {u : Value} (h : Boxed w b t u) : w.cell? ⟨b, 1, none⟩ = none := by
  unfold Boxed at h
  rw [cell_of_row w b 1 _ _ (0, 0) h]
  rfl
/-- The grid of the numbers of words: blocks below top, none of them bk, where there are two states or more. -/
def GridY (top bk : Nat) (w : World) (g N n : Nat) (T : Tab) : Prop := top ≤ w.heap.size ∧ g < top ∧ g ≠ bk ∧ (∀ m, m ≤ n → ∃ b c, b < top ∧ (2 ≤ N → b ≠ bk) ∧ w.cell? ⟨g, m, none⟩ = some (.slice (some ⟨b, 0, none⟩) N c) ∧ ∀ j, j < N → w.cell? ⟨b, j, none⟩ = some (.int .i64 (cntT T m j)))
theorem GridY.grown {top bk : Nat} {w w' : World} {g N n : Nat} {T : Tab} {row : Option Nat} (h : GridY top bk w g N n T) (hg : w.grownBy w' row) (hr : ∀ r, row = some r → top ≤ r ∨ (2 ≤ N ∧ r = bk)) : GridY top bk w' g N n T := by
  obtain ⟨h1, h2, h3, h4⟩ := h
  refine ⟨Nat.le_trans h1 hg.size, h2, h3, fun m hm => ?_⟩
  obtain ⟨b, c, e1, e2, e3, e4⟩ := h4 m hm
  refine ⟨b, c, e1, e2, hg.cell e3 ?_, fun j hj => hg.cell (e4 j hj) ?_⟩
  · intro e
    rcases hr g e.symm with h5 | ⟨_, h5⟩
    · omega
    · exact h3 h5
  · intro e
    rcases hr b e.symm with h5 | ⟨h5, h6⟩
    · omega
    · exact e2 h5 h6
theorem GridY.kept {top bk : Nat} {w w' : World} {g N n : Nat} {T : Tab} (h : GridY top bk w g N n T) (hb : Below w.heap.size w w') : GridY top bk w' g N n T :=
  h.grown (row := none) ⟨hb.os, hb.tape, hb.output, hb.size, fun k hk _ => hb.block k hk⟩ (fun r e => by cases e)
theorem GridY.start {bk : Nat} {w : World} {g N n : Nat} {T : Tab} {u : Value} {t : TypeId} (hg : g < w.heap.size) (hb : Boxed w bk t u) (hu : ∀ b c, u ≠ .slice (some ⟨b, 0, none⟩) N c)
    (h : ∀ m, m ≤ n → ∃ b cc, b < w.heap.size ∧ ∀ W', Below w.heap.size w W' → W'.cell? ⟨g, m, none⟩ = some (.slice (some ⟨b, 0, none⟩) N cc) ∧ ∀ j, j < N → W'.cell? ⟨b, j, none⟩ = some (.int .i64 (cntT T m j))) : GridY w.heap.size bk w g N n T := by
  refine ⟨Nat.le_refl _, hg, ?_, fun m hm => ?_⟩
  · intro e
    obtain ⟨b, c, e1, e2⟩ := h 0 (Nat.zero_le _)
    obtain ⟨e3, _⟩ := e2 w (bl_refl w)
    rw [e, hb.cell] at e3
    injection e3 with e3
    exact hu _ _ e3
  · obtain ⟨b, c, e1, e2⟩ := h m hm
    obtain ⟨e3, e4⟩ := e2 w (bl_refl w)
    refine ⟨b, c, e1, fun h2 e => ?_, e3, e4⟩
    have h5 := e4 1 (by omega)
    rw [e, box_cell1 hb] at h5
    cases h5
theorem gridY_own {top bk : Nat} {A D : World} {g N n B : Nat} {T : Tab} {row : Option Nat} (h : GridY top bk A g N n T) (hB : top ≤ B) (hg : A.grownBy D row) (hr : ∀ r, row = some r → B ≤ r ∧ ∃ o, A.heap[r]? = some o ∧ o.isCells = false) : GridY top bk D g N n T :=
  h.grown hg fun r e => .inl (by have := (hr r e).1; omega)
set_option maxRecDepth 100000 in
set_option maxHeartbeats 4000000 in
theorem Item_no (q n K : Int) (v : Value) (ss : List ByteArray) (w : World) (hv : StrsAt w v ss) (hset : setB q ss = false ∨ n < 0 ∨ 60 < n) :
    Calls Try.prog 21 #[.int .i64 q, v, .int .i64 n, .int .i64 K] w fun e w' => e = .returned (.tuple #[.string ⟨#[]⟩, .int .i64 2]) ∧ Below w.heap.size w w' := by
  have IS := Lib.hid fun W h => isSet_any q v ss W h
  have WI := Lib.hid fun W => within_any n 0 60 W
  obtain ⟨W0, hW0⟩ : ∃ W0, W0 = w.alloc (.cells #[.int .i64 K] 3) := ⟨_, rfl⟩
  have hb0 : Below w.heap.size w W0 := by rw [hW0]; exact bl_alloc (bl_refl w) _
  have HV := Lib.hid (hv.kept hb0)
  have HB0 := Lib.hid hb0
  have HW0 := Lib.hid hW0
  clear hv hb0 hW0
  cases hs : setB q ss with
  | false =>
    rw [hs] at IS
    clear hset hs
    go_enter Try.func21, Try.ntmps21
    go_wp2_with fail
    rw [← HW0.out]
    refine (IS.out _ HV.out).mono ?_
    rintro e w1 ⟨rfl, r1⟩
    have HB1 := Lib.hid (bl_then HB0.out r1)
    clear r1
    go_wp2_with fail
    go_ret2
    exact ⟨rfl, HB1.out⟩
  | true =>
    have hn : (decide (0 ≤ n) && decide (n ≤ 60)) = false := by
      rcases hset with h | h
      · rw [hs] at h; cases h
      · simp; omega
    rw [hs] at IS
    rw [hn] at WI
    clear hset hs hn
    go_enter Try.func21, Try.ntmps21
    go_wp2_with fail
    rw [← HW0.out]
    refine (IS.out _ HV.out).mono ?_
    rintro e w1 ⟨rfl, r1⟩
    have HB1 := Lib.hid (bl_then HB0.out r1)
    clear r1
    go_wp2_with fail
    refine (WI.out _).mono ?_
    rintro e w2 ⟨rfl, rfl⟩
    go_wp2_with fail
    go_ret2
    exact ⟨rfl, HB1.out⟩
end Go.Proofs.Ytnamafakjkcmjaa
