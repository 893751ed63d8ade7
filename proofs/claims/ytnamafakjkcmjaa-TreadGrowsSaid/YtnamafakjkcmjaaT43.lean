/-
  The machine's steps, where the loop's body writes boxes that are older than the machine.
-/
import Derived.Test.YtnamafakjkcmjaaT15
namespace Go.Proofs.Ytnamafakjkcmjaa
open Go.RowKit Go.Shelf
set_option linter.unusedVariables false
set_option linter.unusedSimpArgs false
attribute [local go_sem] Oper.semAt_some

/-- A machine whose blocks lie from base on and below top. -/
structure MachY (base top : Nat) (w : World) (g q : Nat) (S : List Str) (T : Tab) (gS cS gN cN : Nat) (hdrs : List Value) : Prop where
  g0 : base ≤ g
  g1 : g < top
  whole : Whole w g 60 #[.int .i64 q, .slice (some ⟨gS, 0, none⟩) S.length cS, .slice (some ⟨gN, 0, none⟩) T.length cN]
  sts : w.ownsRow base 9 1 (.slice (some ⟨gS, 0, none⟩) S.length cS) S.length (encS S)
  gS1 : gS < top
  nxt : w.ownsRow base 74 1 (.slice (some ⟨gN, 0, none⟩) T.length cN) T.length hdrs
  gN1 : gN < top
  rows : RowsAt w top hdrs T
theorem MachX.y {base : Nat} {w : World} {g q : Nat} {S : List Str} {T : Tab} {gS cS gN cN : Nat} {hdrs : List Value} (h : MachX base w g q S T gS cS gN cN hdrs) : MachY base w.heap.size w g q S T gS cS gN cN hdrs :=
  ⟨h.1, h.2.1.lt, h.2.1, h.2.2.1, (h.2.2.1.lt _ rfl).2, h.2.2.2.1, (h.2.2.2.1.lt _ rfl).2, h.2.2.2.2⟩
theorem MachY.grown {base top : Nat} {w w' : World} {g q : Nat} {S : List Str} {T : Tab} {gS cS gN cN : Nat} {hdrs : List Value} {row : Option Nat} (h : MachY base top w g q S T gS cS gN cN hdrs) (hg : w.grownBy w' row)
    (hr : ∀ r, row = some r → top ≤ r ∨ (r < base ∧ ∀ cur, w.heap[r]? ≠ some (.cells cur 3 (0, 0))) ∨ ∀ cur t, w.heap[r]? ≠ some (.cells cur t (0, 0))) : MachY base top w' g q S T gS cS gN cN hdrs := by
  have hx : ∀ r, row = some r → r ≠ g ∧ r ≠ gS ∧ r ≠ gN ∧ (top ≤ r ∨ ∀ cur, w.heap[r]? ≠ some (.cells cur 3 (0, 0))) := fun r e => by
    have h0 := h.g0
    have h1 := h.g1
    have h2 := h.gS1
    have h3 := h.gN1
    have h4 : base ≤ gS := (h.sts.lt gS rfl).1
    have h5 : base ≤ gN := (h.nxt.lt gN rfl).1
    rcases hr r e with h6 | ⟨h6, h7⟩ | h6
    · exact ⟨by omega, by omega, by omega, .inl h6⟩
    · exact ⟨by omega, by omega, by omega, .inr h7⟩
    · refine ⟨fun e => ?_, fun e => ?_, fun e => ?_, .inr fun cur => h6 cur _⟩
      · subst e
        exact h6 _ _ h.whole
      · obtain ⟨cur, hcur⟩ := own_notcell h.sts
        subst e
        exact h6 _ _ hcur
      · obtain ⟨cur, hcur⟩ := own_notcell h.nxt
        subst e
        exact h6 _ _ hcur
  refine ⟨h.g0, h.g1, h.whole.grown hg ?_, h.sts.kept hg ?_, h.gS1, h.nxt.kept hg ?_, h.gN1, h.rows.grown hg fun r e => (hx r e).2.2.2⟩
  · intro e
    exact (hx g e.symm).1 rfl
  · cases row with
    | none => right; simp [Value.ownBlock]
    | some r => right; simp only [Value.ownBlock, Option.map_some]; intro e; injection e with e; exact (hx r rfl).2.1 e.symm
  · cases row with
    | none => right; simp [Value.ownBlock]
    | some r => right; simp only [Value.ownBlock, Option.map_some]; intro e; injection e with e; exact (hx r rfl).2.2.1 e.symm
theorem MachY.kept {base top : Nat} {w w' : World} {g q : Nat} {S : List Str} {T : Tab} {gS cS gN cN : Nat} {hdrs : List Value} (h : MachY base top w g q S T gS cS gN cN hdrs) (hb : Below w.heap.size w w') : MachY base top w' g q S T gS cS gN cN hdrs :=
  h.grown (row := none) ⟨hb.os, hb.tape, hb.output, hb.size, fun k hk _ => hb.block k hk⟩ (fun r e => by cases e)
theorem MachY.row {base top : Nat} {w : World} {g q : Nat} {S : List Str} {T : Tab} {gS cS gN cN : Nat} {hdrs : List Value} {i : Nat} (h : MachY base top w g q S T gS cS gN cN hdrs) (hi : i < T.length) : ∃ b c, hdrs[i]? = some (.slice (some ⟨b, 0, none⟩) (T.getD i []).length c) ∧ gN < w.heap.size ∧ b < w.heap.size ∧ g < w.heap.size ∧
    w.cell? ⟨g, 2, none⟩ = some (.slice (some ⟨gN, 0, none⟩) T.length cN) ∧ w.cell? ⟨gN, i, none⟩ = some (.slice (some ⟨b, 0, none⟩) (T.getD i []).length c) ∧
    ∀ j, j < (T.getD i []).length → w.cell? ⟨b, j, none⟩ = some (.int .i64 ((T.getD i []).getD j 0)) := by
  obtain ⟨b, c, cur, e1, e2, e3, e4, e5, e6⟩ := h.rows.2 i hi
  have hgN : gN < w.heap.size := (h.nxt.lt gN rfl).2
  refine ⟨b, c, e1, hgN, (Array.getElem?_eq_some_iff.1 e3).1, h.whole.lt, (h.whole.cell 2).trans rfl, (h.nxt.cellAt i (by omega)).trans e1, fun j hj => ?_⟩
  rw [cell_of_row w b j cur _ (0, 0) e3]
  exact e6 j hj
set_option maxRecDepth 100000 in
set_option maxHeartbeats 2000000 in
theorem steps1_x (m l base top gm q B1 B2 i : Nat) (S : List Str) (T : Tab) (gS cS gN cN : Nat) (hdrs : List Value) (hT : TabOk T S.length q) (hq : q ≤ 3) (hS : S.length ≤ 121) (hi : i < S.length) (J Jx : List (Nat × Nat) → World → Prop)
    (hJM : ∀ pre W, J pre W → MachY base top W gm q S T gS cS gN cN hdrs)
    (hJ : ∀ pre W W', J pre W → W.grownBy W' none → J pre W')
    (hY : ∀ pre x W, x ∈ stp T i → J pre W → pre.length < (stp T i).length → YieldAt Fence.wide (m - 1) Try.prog l (encP x) W fun e W' =>
      (e = .returned (.bool true) ∧ J (pre ++ [x]) W') ∨ (e = .returned (.bool false) ∧ Jx (pre ++ [x]) W'))
    (W : World) (hc1 : W.cell? ⟨B1, 0, none⟩ = some (.pointer (some ⟨gm, 0, none⟩))) (hc2 : W.cell? ⟨B2, 0, none⟩ = some (.int .i64 i)) (h0 : J [] W) :
    CallsIn Fence.wide m Try.prog 50 #[.func (.yield l) #[] #[], .pointer (some ⟨B1, 0, none⟩), .pointer (some ⟨B2, 0, none⟩)] W fun e W' => (∃ v, e = .returned v) ∧ ((∃ ys, ys = stp T i ∧ J ys W') ∨ (∃ pre, pre <+: stp T i ∧ Jx pre W')) := by
  have hdd : ∀ k : Nat, (Fence.wide.depth.isSome = true → 1 ≤ k) := fun k h => by cases h
  obtain ⟨b, c, hbh, hgN, hbl, hgl, m1, m2, m3⟩ := (hJM [] W h0).row (i := i) (by rw [hT.len]; exact hi)
  have hTl := hT.len
  have hrow := (hT.at hi).1
  have hto := (hT.at hi).2
  obtain ⟨row, hr⟩ : ∃ row, row = T.getD i [] := ⟨_, rfl⟩
  have hstp : stp T i = stepsL row := by rw [hr]; rfl
  have M3 : Hid (∀ pre W', J pre W' → b < W'.heap.size ∧ ∀ j, j < q → W'.cell? ⟨b, j, none⟩ = some (.int .i64 (row.getD j 0))) := Lib.hid fun pre W' hj => by
    obtain ⟨b', c', hbh', _, hbl', _, _, _, m3'⟩ := (hJM pre W' hj).row (i := i) (by rw [hT.len]; exact hi)
    rw [hbh] at hbh'
    simp only [Option.some.injEq, Value.slice.injEq, Addr.mk.injEq, and_true, true_and] at hbh'
    obtain ⟨rfl, _⟩ := hbh'
    exact ⟨hbl', fun j hj => by rw [hr]; exact m3' j (by rw [hrow]; exact hj)⟩
  rw [← hr] at m2 m3 hrow hto
  rw [hTl] at m1
  rw [hrow] at m2 m3
  rw [hstp] at hY ⊢
  have HY := Lib.hid hY
  have HT := Lib.hid hto
  have HR := Lib.hid hrow
  have HJ := Lib.hid hJ
  clear hT hr hstp m3 hY hto hrow hJ hTl hJM hbh
  refine callsIn_of_wp Try.func50 rfl trivial ?_ rfl
  simp only [Try.ntmps50, List.size_toArray, List.length_cons, List.length_nil, Nat.reduceAdd, Nat.reduceSub, Array.replicate_succ, Array.replicate_zero, List.push_toArray, List.append_toArray, List.nil_append, List.cons_append]
  gi_wp2
  gi_big_quiet_th (fail)
  have HJ1 := Lib.hid (HJ.out [] _ _ h0 (grown_drew W nq))
  clear h0 m1 m2 hc1 hc2
  generalize W.drewN nq = W1 at *
  gi_wp2
  gi_loopw [14] (fun v wr => ∃ k : Nat, k ≤ q ∧ v = .int .i64 k ∧ Hid (J (stepsL (row.take k)) wr)) (fun v _ => q - (intOf v).toNat)
  case atStart => exact ⟨0, Nat.zero_le _, rfl, HJ1⟩
  case round =>
    obtain ⟨k, hk, rfl, HK⟩ := hrel
    clear HJ1
    by_cases hlt : k < q
    · have hkr : k < row.length := by have := HR.out; omega
      obtain ⟨hbw, cx'⟩ := M3.out _ wr HK.out
      have cx := cx' k hlt
      clear cx'
      have st := steps_take hkr
      have ex : row.getD k 0 = row[k] := by rw [List.getD_eq_getElem?_getD, List.getElem?_eq_getElem hkr]; rfl
      have hx := HT.out row[k] (List.getElem_mem hkr)
      rw [ex] at cx
      obtain ⟨x, hrk⟩ : ∃ x, row[k] = x := ⟨_, rfl⟩
      rw [hrk] at cx st hx
      by_cases hx0 : 0 ≤ x
      · obtain ⟨j, rfl⟩ : ∃ j : Nat, x = j := ⟨x.toNat, by omega⟩
        rw [if_pos hx0, Int.toNat_natCast] at st
        have hpl : (stepsL (row.take k)).length < (stepsL row).length := by
          have := (steps_prefix row (k + 1)).length_le
          rw [st] at this
          simp at this
          omega
        have hmem : (k, j) ∈ stepsL row := mem_steps.2 (by rw [List.getElem?_eq_getElem hkr]; exact congrArg some hrk)
        have hy0 := HY.out (stepsL (row.take k)) (k, j) wr hmem HK.out hpl
        rw [← st] at hy0
        unfold encP at hy0
        obtain ⟨fn, tmps, assign, body, hy, hR⟩ := hy0
        dsimp only at hy
        have habc := abc_at hlt hq
        have HPX := Lib.hid (steps_prefix row (k + 1))
        clear st ex hx hpl hkr HK hmem hrk
        gi_wp2_with ((try refine ⟨hdd _, ?_⟩); refine hR.mono ?_; clear hR; rintro e W2 (⟨rfl, hJ2⟩ | ⟨rfl, hx2⟩))
        · have HJ2 : Hid (J (stepsL (row.take (k + 1))) W2) := hJ2
          clear hJ2
          go_roundw
          case rel => exact ⟨k + 1, by omega, by go_num, HJ2⟩
          case measure => simp [intOf]; omega
        · refine ⟨rfl, _, results_none rfl _ _ _, ⟨_, rfl⟩, .inr ⟨_, HPX.out, hx2⟩⟩
      · rw [if_neg hx0, List.append_nil] at st
        have hx1 : x = -1 := by omega
        subst hx1
        have HK2 : Hid (J (stepsL (row.take (k + 1))) wr) := by show J _ wr; rw [st]; exact HK.out
        clear st ex hx hkr HK hx0 hrk
        gi_wp2
        refine ⟨(fun f h => by cases h), ?_⟩
        gi_wp2
        go_roundw
        case rel => exact ⟨k + 1, by omega, by go_num, HK2⟩
        case measure => simp [intOf]; omega
    · have ek : k = q := by omega
      have HK2 : Hid (J (stepsL row) wr) := by
        show J _ wr
        have := HK.out
        rw [List.take_of_length_le (by have := HR.out; omega)] at this
        exact this
      clear ek HK
      gi_wp2
      go_end0
      exact ⟨⟨_, rfl⟩, .inl ⟨_, rfl, HK2.out⟩⟩
/-- What the body of the loop has to keep. -/
def KeepX (base top gm q : Nat) (S : List Str) (T : Tab) (gS cS gN cN : Nat) (hdrs : List Value) (A D : World) : Prop := MachY base top A gm q S T gS cS gN cN hdrs → MachY base top D gm q S T gS cS gN cN hdrs
theorem keepX_t {base top gm q : Nat} {S : List Str} {T : Tab} {gS cS gN cN : Nat} {hdrs : List Value} {A B C : World} (h : KeepX base top gm q S T gS cS gN cN hdrs A B) (k : KeepX base top gm q S T gS cS gN cN hdrs B C) : KeepX base top gm q S T gS cS gN cN hdrs A C := fun m => k (h m)
theorem keepX_b {base top gm q : Nat} {S : List Str} {T : Tab} {gS cS gN cN : Nat} {hdrs : List Value} (W : World) (l : Nat) (o o' : Obj) (h : W.heap[l]? = some o) (hc : o.isCells = false) : KeepX base top gm q S T gS cS gN cN hdrs W (W.putObj l o') := fun m =>
  m.grown (grownBy_putObj' W l o') fun r e => .inr (.inr fun cur t hx => by
    cases e
    rw [h] at hx
    injection hx with hx
    rw [hx] at hc
    cases hc)
theorem steps_stops_x (n base top gm q B1 B2 i : Nat) (S : List Str) (T : Tab) (gS cS gN cN : Nat) (hdrs : List Value) (w : World) (hM : MachY base top w gm q S T gS cS gN cN hdrs) (hT : TabOk T S.length q) (hq : q ≤ 3) (hS : S.length ≤ 121) (hi : i < S.length)
    (hB1 : B1 < w.heap.size) (hc1 : w.cell? ⟨B1, 0, none⟩ = some (.pointer (some ⟨gm, 0, none⟩))) (hB2 : B2 < w.heap.size) (hc2 : w.cell? ⟨B2, 0, none⟩ = some (.int .i64 i)) :
    SeqStopsK Fence.wide n Try.prog 50 #[.pointer (some ⟨B1, 0, none⟩), .pointer (some ⟨B2, 0, none⟩)] (fun x : StpOf T i => encP x.1) (KeepX base top gm q S T gS cS gN cN hdrs) (fun ys => ys.map (·.1) = stp T i) (fun pre => pre.map (·.1) <+: stp T i) (stp T i).length w := by
  intro l J Jx W hW hJ hJx hY h0
  refine (steps1_x n l base top gm q B1 B2 i S T gS cS gN cN hdrs hT hq hS hi (fun ps X => ∃ xs : List (StpOf T i), xs.map (·.1) = ps ∧ J xs X ∧ MachY base top X gm q S T gS cS gN cN hdrs) (fun ps X => ∃ xs : List (StpOf T i), xs.map (·.1) = ps ∧ Jx xs X)
    (fun pre X ⟨xs, _, _, h⟩ => h)
    (fun pre A B h hg => by obtain ⟨xs, h1, h2, h3⟩ := h; exact ⟨xs, h1, hJ xs A B none h2 hg (fun r e => by cases e), h3.grown hg (fun r e => by cases e)⟩) ?_ W
    ((hW.cell (p := ⟨B1, 0, none⟩) hB1).trans hc1) ((hW.cell (p := ⟨B2, 0, none⟩) hB2).trans hc2) ⟨[], rfl, h0, hM.kept hW⟩).mono ?_
  · rintro pre x X hx ⟨xs, rfl, hj, hm⟩ hl
    refine (hY xs ⟨x, hx⟩ X hj (by simpa using hl)).mono (R' := _) ?_
    rintro e X' (⟨rfl, h1, h2⟩ | ⟨rfl, h1⟩)
    · exact .inl ⟨rfl, xs ++ [⟨x, hx⟩], by simp, h1, h2 hm⟩
    · exact .inr ⟨rfl, ⟨xs ++ [⟨x, hx⟩], by simp, h1⟩⟩
  · rintro e X ⟨hv, ⟨ys, rfl, xs, h1, h2, h3⟩ | ⟨pre, hp, xs, h1, h2⟩⟩
    · exact ⟨hv, .inl ⟨xs, h1, h2⟩⟩
    · exact ⟨hv, .inr ⟨xs, by show _ <+: _; rw [h1]; exact hp, h2⟩⟩
end Go.Proofs.Ytnamafakjkcmjaa
