/-
  Several texts in one: XT40, XT41, XT42.
-/
import Derived.Test.YtnamafakjkcmjaaT22
import Derived.Laws.CopyOwn
import Derived.StillTail
import Derived.StillTailTactics
import Derived.Deep.RegionLaw
import Derived.Test.YtnamafakjkcmjaaME
namespace Go.Proofs.Ytnamafakjkcmjaa
open Go.RowKit Go.Shelf
set_option linter.unusedVariables false
set_option linter.unusedSimpArgs false

def rep1 (N k : Nat) : List Value := (List.range N).map fun j => if j < k then Value.int .i64 1 else Value.int .i64 0
theorem rep1_len (N k : Nat) : (rep1 N k).length = N := by simp [rep1]
theorem rep1_at {N k j : Nat} (h : j < N) : (rep1 N k)[j]? = some (if j < k then Value.int .i64 1 else Value.int .i64 0) := by
  unfold rep1
  rw [List.getElem?_map, List.getElem?_range h]
  rfl
theorem rep1_full (N : Nat) : rep1 N N = List.replicate N (.int .i64 1) := by
  apply List.ext_getElem?
  intro j
  by_cases h : j < N
  · rw [rep1_at h, if_pos h, List.getElem?_replicate, if_pos h]
  · rw [List.getElem?_eq_none (by rw [rep1_len]; omega), List.getElem?_eq_none (by simp; omega)]
theorem rep1_zero (N : Nat) : rep1 N 0 = List.replicate N (.int .i64 0) := by
  apply List.ext_getElem?
  intro j
  by_cases h : j < N
  · rw [rep1_at h, if_neg (by omega), List.getElem?_replicate, if_pos h]
  · rw [List.getElem?_eq_none (by rw [rep1_len]; omega), List.getElem?_eq_none (by simp; omega)]
theorem rep1_splice {N k m : Nat} (h : k + m ≤ N) : splice (rep1 N k) k (List.replicate m (.int .i64 1)) = rep1 N (k + m) := by
  apply List.ext_getElem?
  intro j
  unfold splice
  rw [List.length_replicate]
  rcases Nat.lt_or_ge j k with h1 | h1
  · rw [List.getElem?_append_left (by simp [rep1_len]; omega), List.getElem?_take_of_lt h1, rep1_at (by omega), rep1_at (by omega), if_pos h1, if_pos (by omega)]
  · rw [List.getElem?_append_right (by simp [rep1_len]; omega), List.length_take, rep1_len, Nat.min_eq_left (by omega)]
    rcases Nat.lt_or_ge j (k + m) with h2 | h2
    · rw [List.getElem?_append_left (by simp; omega), List.getElem?_replicate, if_pos (by omega), rep1_at (by omega), if_pos h2]
    · rw [List.getElem?_append_right (by simp; omega), List.length_replicate, List.getElem?_drop, show k + m + (j - k - m) = j by omega]
      rcases Nat.lt_or_ge j N with h3 | h3
      · rw [rep1_at h3, rep1_at h3, if_neg (by omega), if_neg (by omega)]
      · rw [List.getElem?_eq_none (by rw [rep1_len]; omega), List.getElem?_eq_none (by rw [rep1_len]; omega)]
theorem row_cell {W : World} {g N k : Nat} (h : W.heap[g]? = some (.cells (rep1 N k).toArray 3 (0, 0))) {j : Nat} (hj : j < k) (hk : k ≤ N) : W.cell? ⟨g, j, none⟩ = some (.int .i64 1) := by
  rw [cell_of_row W g j _ _ (0, 0) h, List.getElem?_toArray, rep1_at (by omega), if_pos hj]
theorem add_off (b i j : Nat) : (⟨b, i, none⟩ : Addr).add j = ⟨b, i + j, none⟩ := by unfold Addr.add; split <;> simp_all
theorem src_one {w W : World} {b : Nat} {x : Value} (hb : Below w.heap.size w W) (hc : w.cell? ⟨b, 0, none⟩ = some x) : ∀ (j : Nat) v, [x][j]? = some v → W.cell? ((⟨b, 0, none⟩ : Addr).add j) = some v := by
  intro j v hv
  cases j with
  | zero =>
    rw [add_off, hb.cell (p := ⟨b, 0, none⟩) (World.block_lt_of_cell? w _ hc)]
    simpa using hc.trans (by simpa using hv)
  | succ j => simp at hv
theorem src_row {W : World} {g N k : Nat} (h : W.heap[g]? = some (.cells (rep1 N k).toArray 3 (0, 0))) (hk : k ≤ N) (m : Nat) (hm : m ≤ k) : ∀ (j : Nat) v, (List.replicate m (Value.int .i64 1))[j]? = some v → W.cell? ((⟨g, 0, none⟩ : Addr).add j) = some v := by
  intro j v hv
  rw [List.getElem?_replicate] at hv
  split at hv
  · rename_i hj
    rw [add_off, Nat.zero_add, row_cell h (by omega) hk]
    exact hv
  · cases hv
structure SrcOk (b m : Nat) (W : World) : Prop where
  out : ∀ (j : Nat) v, (List.replicate m (Value.int .i64 1))[j]? = some v → W.cell? ((⟨b, 0, none⟩ : Addr).add j) = some v
theorem one_cells (m : Nat) : ∀ v ∈ List.replicate m (Value.int .i64 1), v.oneCell' = true := by
  intro v hv
  rw [(List.mem_replicate.1 hv).2]; rfl
structure MinOk (m k n : Nat) : Prop where
  out : (List.replicate m (Value.int .i64 1)).length = Nat.min k n
structure FitOk (N k off m : Nat) : Prop where
  out : off + (List.replicate m (Value.int .i64 1)).length ≤ (rep1 N k).length
set_option maxRecDepth 100000 in
set_option maxHeartbeats 4000000 in
theorem Repeat_any (N : Nat) (hN : 1 ≤ N ∧ N ≤ 121) (b : Nat) (w : World) (hc : w.cell? ⟨b, 0, none⟩ = some (.int .i64 1)) :
    Calls Try.prog 77 #[.slice (some ⟨b, 0, none⟩) 1 1, .int .i64 N] w fun e w' => ∃ g, e = .returned (.slice (some ⟨g, 0, none⟩) N N) ∧ w'.ownsRow w.heap.size 3 1 (.slice (some ⟨g, 0, none⟩) N N) N (List.replicate N (.int .i64 1)) ∧ Below w.heap.size w w' := by
  have hmix : Try.prog.follows .mixedOrders = true := by kernel_rfl
  have hmk : ∀ W : World, (Instr.makeSlice 74 (.int .i64 (N : Int)) (.int .i64 (N : Int))).run Try.prog W = .ok (.slice (some ⟨W.heap.size, 0, none⟩) N N) (W.alloc (.cells (madeCells #[.int .i64 0] N) 3)) :=
    fun W => run_make_row' (P := Try.prog) 74 3 (.int .i64 0) 8 (by kernel_rfl) infoI rfl .i64 .i64 N (by omega) (by omega) W
  have MU := Lib.hid fun W => Try.bits_Mul 1 N (by omega) (by omega) W
  rw [show 1 * N / 18446744073709551616 = 0 by omega, show 1 * N % 18446744073709551616 = N by omega] at MU
  have hn1 : ¬ (N : Int) < 0 := by omega
  have HC := Lib.hid hc
  have hmd : madeCells #[.int .i64 0] N = (rep1 N 0).toArray := by
    rw [rep1_zero, ← toList_madeCells_one]
  rw [hmd] at hmk
  clear hc hmd
  go_enter Try.func77, Try.ntmps77
  go_wp2_with fail
  refine (MU.out _).mono ?_
  rintro e w1 ⟨rfl, rfl⟩
  have hgN : (w1.alloc (.cells (rep1 N 0).toArray 3)).heap[w1.heap.size]? = some (.cells (rep1 N 0).toArray 3 (0, 0)) := Whole.new w1 _ _
  have hn2 : ¬ (9223372036854775807 : Int) < (N : Int) := by omega
  have G1 : MinOk 1 1 N := ⟨by show 1 = min 1 N; omega⟩
  have G2 : SrcOk b 1 (w1.alloc (.cells (rep1 N 0).toArray 3)) := ⟨src_one (bl_alloc (bl_refl w1) _) HC.out⟩
  have G3 : FitOk N 0 0 1 := ⟨by rw [rep1_len]; simp <;> omega⟩
  have g5 : (Try.prog.info? 3).map (·.size) = some 1 := by kernel_rfl
  have G5 := Lib.hid g5
  have G6 := Lib.hid (bl_alloc (bl_refl w1) (.cells (rep1 N 0).toArray 3))
  have G7 := Lib.hid (Nat.le_refl w1.heap.size)
  have GN := Lib.hid hgN
  clear hgN g5
  go_wp2_with (with_reducible refine wpList_copy_splice (o := ⟨some 33, _, _, _, _, _⟩) rfl (.tmp 31) (.tmp 32) 74 74 rfl 3 Try.underlying74 G5.out (some ⟨w1.heap.size, 0, none⟩) (some ⟨b, 0, none⟩) N N 1 1 rfl rfl w1.heap.size 0 (rep1 N 0) 3 GN.out (List.replicate 1 (.int .i64 1)) G1.out (fun _ => ⟨rfl, _, rfl, G2.out⟩) G3.out (one_cells 1) w1.heap.size w1 G6.out G7.out ?_; intro w2 hg2 hb2)
  have hs1 : splice (rep1 N 0) 0 (List.replicate 1 (Value.int .i64 1)) = rep1 N 1 := rep1_splice (k := 0) (m := 1) (by omega)
  rw [hs1] at hg2
  obtain ⟨g, hgd⟩ : ∃ g, g = w1.heap.size := ⟨_, rfl⟩
  rw [← hgd] at hg2 ⊢
  have HGD := Lib.hid hgd
  clear hgd hs1
  have HB2 := Lib.hid hb2
  clear hb2
  go_wp2_with fail
  go_loopw [8] (fun v wr => ∃ k : Nat, 1 ≤ k ∧ k ≤ N ∧ v = .int .i64 k ∧ Hid (wr.heap[g]? = some (.cells (rep1 N k).toArray 3 (0, 0))) ∧ Hid (Below w1.heap.size w1 wr)) (fun v _ => N - (intOf v).toNat)
  case atStart => exact ⟨1, by omega, by omega, rfl, hg2, HB2⟩
  case round =>
    obtain ⟨k, hk1, hk, rfl, HG, HB⟩ := hrel
    clear hg2 HB2
    by_cases hlt : k < N
    · have hlt' : (k : Int) < (N : Int) := by omega
      have hk0 : (0 : Int) ≤ (k : Int) := by omega
      have hkN : (k : Int) ≤ (N : Int) := by omega
      obtain ⟨m, hm⟩ : ∃ m, m = min k (N - k) := ⟨_, rfl⟩
      go_wp2_with fail
      have hm1 : 1 ≤ m ∧ k + m ≤ N ∧ m ≤ k := by omega
      have hNk : ¬ N = k := by omega
      have G1 : MinOk m k (N - k) := ⟨by rw [List.length_replicate, hm]⟩
      have G2 : SrcOk g m wr.drew := ⟨src_row (k := k) (show wr.drew.heap[g]? = _ from HG.out) hk m hm1.2.2⟩
      have G3 : FitOk N k k m := ⟨by rw [rep1_len, List.length_replicate]; omega⟩
      have G5 : Hid ((Try.prog.info? 3).map (·.size) = some 1) := Lib.hid (by kernel_rfl)
      have G6 := Lib.hid (bl_drewN HB.out 1)
      have G7 : Hid (w1.heap.size ≤ g) := Lib.hid (by rw [HGD.out]; exact Nat.le_refl _)
      have GN : Hid (wr.drew.heap[g]? = some (.cells (rep1 N k).toArray 3 (0, 0))) := HG
      have hs2 : splice (rep1 N k) k (List.replicate m (Value.int .i64 1)) = rep1 N (k + m) := rep1_splice hm1.2.1
      obtain ⟨D, hD⟩ : ∃ D, D = k + m := ⟨_, rfl⟩
      rw [← hD] at hs2
      have HS2 := Lib.hid hs2
      have hw1 : IntKind.i64.wrap ((k : Int) + (m : Int)) = (D : Int) := by rw [show (k : Int) + (m : Int) = (D : Int) by omega]; exact wrapI (by omega)
      have HM1 := Lib.hid hm1
      have HD := Lib.hid hD
      clear hm hs2 hm1 hD
      go_region_law (refine step_copy_splice rfl (.tmp 41) (.tmp 44) 74 74 rfl 3 Try.underlying74 G5.out (some ⟨g, k, none⟩) (some ⟨g, 0, none⟩) (N - k) (N - k) k N (by simp [Act.eval, Act.put, hNk]) (by simp [Act.eval, Act.put]) g k (rep1 N k) 3 GN.out (List.replicate m (.int .i64 1)) G1.out (fun _ => ⟨rfl, _, rfl, G2.out⟩) G3.out (one_cells m) w1.heap.size w1 G6.out G7.out ?_; intro w2 hg2 hb2)
      have HGn : Hid (w2.heap[g]? = some (.cells (rep1 N D).toArray 3 (0, 0))) := Lib.hid (by have := hg2.out; rw [HS2.out] at this; exact this)
      have HBn := Lib.hid hb2
      have hDk : 1 ≤ D ∧ D ≤ N ∧ k < D := by have := HM1.out; have := HD.out; omega
      clear hg2 hb2
      go_simp
      go_wp2_with fail
      go_roundw
      case rel => exact ⟨D, hDk.1, hDk.2.1, by first | rfl | go_num, HGn, HBn⟩
      case measure => simp [intOf]; omega
    · have ek : N = k := by omega
      have HF : Hid (wr.heap[g]? = some (.cells (List.replicate N (Value.int .i64 1)).toArray 3 (0, 0))) := Lib.hid (by rw [← rep1_full]; rw [← ek] at HG; exact HG.out)
      go_wp2_with fail
      go_ret
      exact ⟨g, rfl, ⟨by simp, .inr ⟨g, N, (List.replicate N (Value.int .i64 1)).toArray, rfl, by rw [HGD.out]; exact Nat.le_refl _, HF.out, Nat.le_refl _, by unfold maxLen; omega, by simp, by simp⟩⟩, HB.out⟩
end Go.Proofs.Ytnamafakjkcmjaa

namespace Go.Proofs.Ytnamafakjkcmjaa
open Go.RowKit Go.Shelf
set_option linter.unusedVariables false
set_option linter.unusedSimpArgs false
attribute [local go_sem] Oper.semAt_some

def cvRow (T : Tab) (N k : Nat) : List Value := (List.range N).map fun j => .int .i64 (cntT T k j)
def cvRows (T : Tab) (N k : Nat) : List (List Value) := (List.range k).map (cvRow T N)
theorem cvRows_succ (T : Tab) (N k : Nat) : cvRows T N (k + 1) = cvRows T N k ++ [cvRow T N k] := by
  unfold cvRows
  rw [List.range_succ, List.map_append]
  rfl
theorem cvRows_len (T : Tab) (N k : Nat) : (cvRows T N k).length = k := by simp [cvRows]
theorem cvRow_len (T : Tab) (N k : Nat) : (cvRow T N k).length = N := by simp [cvRow]
theorem cvRows_at (T : Tab) (N : Nat) {k i : Nat} (h : i < k) : (cvRows T N k).getD i [] = cvRow T N i := by
  unfold cvRows
  rw [List.getD_eq_getElem?_getD, List.getElem?_map, List.getElem?_range h]
  rfl
theorem cvRow_at (T : Tab) {N k j : Nat} (h : j < N) : (cvRow T N k)[j]? = some (.int .i64 (cntT T k j)) := by
  unfold cvRow
  rw [List.getElem?_map, List.getElem?_range h]
  rfl
theorem cvRow_zero (T : Tab) (N : Nat) : cvRow T N 0 = List.replicate N (.int .i64 1) := by
  unfold cvRow
  rw [show (fun j => Value.int .i64 (cntT T 0 j)) = fun _ => Value.int .i64 1 from rfl, List.map_const', List.length_range]
/-- A store into the row under way, where the boxes lie elsewhere. -/
theorem Bk.store2 {we : World} {e eR : TypeId} {bl : List (Nat × TypeId × Value)} {H : Nat} {ds : List Deferred} {vC : Value} {hdrs : List Value} {R : List (List Value)} {g N : Nat} {xs : List Value} {W : World} (h : Bk we e eR bl H ds vC hdrs R g N xs W) (hbl : ∀ b ∈ bl, b.1 ≠ g) (hne : eR ≠ e) (i : Nat) (u : Value) :
    Bk we e eR bl H ds vC hdrs R g N (xs.set i u) (W.setCell ⟨g, i, none⟩ u) := by
  obtain ⟨h1, h2⟩ := h.now.stored i u
  have hgl := (h.now.lt g rfl)
  refine ⟨h.env.kept h2 fun r x => ?_, h.out.kept h2 (own_ne h.out (own_typ h.now (Ne.symm hne))), h.rows.grown h2 fun r x => .inl (by cases x; exact Nat.le_refl _), h1⟩
  cases x
  refine ⟨fun b hb hx => hbl b hb hx.symm, hgl.1, .inr fun hx => ?_⟩
  rcases h.now.2 with ⟨h', _⟩ | ⟨g', cap', cur, h', _, hg, _⟩
  · simp at h'
  · simp only [Value.slice.injEq, Option.some.injEq, Addr.mk.injEq, and_true, true_and] at h'
    obtain ⟨rfl, rfl⟩ := h'
    rw [hg] at hx
    cases hx
/-- As leaves_marks, with something that the marks do not touch. -/
theorem leaves_marks2 {fn : Func} {tmps : Array Value} {R : Ending → World → Prop} {n B : Nat} {P : Program} (Φ : World → Prop) (hΦ : ∀ w D o', Φ w → w.heap[D]? = some (.deferred (some [])) → Φ (w.putObj D o')) : ∀ (ds : List Deferred) (w : World), Marks B ds w → B ≤ w.heap.size → Φ w →
    (∀ w', Φ w' → Below B w w' → ∃ v, (results fn tmps).run P w' = .ok v w' ∧ R (.returned v) w') → LeavesInM Fence.wide n P fn tmps R ds .returning w := by
  rintro ds w ⟨Ds, rfl, hn, hD⟩ hB hP hR
  induction Ds generalizing w with
  | nil =>
    obtain ⟨v, h1, h2⟩ := hR w hP (Below.refl _ _)
    exact ⟨v, h1, h2⟩
  | cons D Ds ih =>
    obtain ⟨h1, h2⟩ := List.nodup_cons.1 hn
    have hDD := hD D (List.mem_cons_self ..)
    refine ⟨by simp, .inl ⟨_, _, rfl, run_takeDeferred hDD.2, ?_⟩⟩
    have hbD : Below B w (w.putObj D (.deferred none)) := (Below.refl B w).grown (grownBy_putObj' w D (.deferred none)) hB (fun k e => by cases e; exact hDD.1)
    refine ih _ h2 (fun X hX => ⟨(hD X (List.mem_cons_of_mem _ hX)).1, ?_⟩) (Nat.le_trans hB hbD.size) (hΦ _ _ _ hP hDD.2) (fun w' hp hb => hR w' hp (hbD.trans hb))
    exact (World.putObj_heap_other (fun e => by subst e; exact h1 hX)).trans (hD X (List.mem_cons_of_mem _ hX)).2
set_option maxRecDepth 100000 in
set_option maxHeartbeats 4000000 in
theorem counts_any (gm q n N : Nat) (S : List Str) (T : Tab) (w : World) (hM : MachAt w gm q S T) (hT : TabOk T S.length q) (hq : q ≤ 3) (hS : S.length ≤ 121) (hN : N = S.length) (hN0 : 0 < N) (hn : n ≤ 200) :
    Calls Try.prog 60 #[.pointer (some ⟨gm, 0, none⟩), .int .i64 n] w fun e w' =>
      ∃ v hdrs, e = .returned v ∧ w'.ownsRow w.heap.size 74 1 v (n + 1) hdrs ∧ RowsV w' w'.heap.size 3 hdrs (cvRows T N (n + 1)) ∧ Below w.heap.size w w' := by
  have hmix : Try.prog.follows .mixedOrders = true := by kernel_rfl
  have hdd : ∀ k : Nat, (Fence.wide.depth.isSome = true → 1 ≤ k) := fun k h => by cases h
  have hmk : ∀ W : World, (Instr.makeSlice 74 (.int .i64 (N : Int)) (.int .i64 (N : Int))).run Try.prog W = .ok (.slice (some ⟨W.heap.size, 0, none⟩) N N) (W.alloc (.cells (madeCells #[.int .i64 0] N) 3)) :=
    fun W => run_make_row' (P := Try.prog) 74 3 (.int .i64 0) 8 (by kernel_rfl) infoI rfl .i64 .i64 N (by omega) (by omega) W
  obtain ⟨iR, hiR, hr0, hr1, hr2⟩ := info_parts infoR
  have ST := Lib.hid fun n gm i W => steps_in n gm i W
  have RP := Lib.hid fun n b W h => callsIn_up (n := n) (F := Fence.wide) rfl (Repeat_any N ⟨hN0, by omega⟩ b W h)
  obtain ⟨gS, cS, gN, cN, hdrs0, h1, h2, h3, h4⟩ := id hM
  have c1 := (h1.cell 1).trans rfl
  have l1 := h1.lt
  have HM := Lib.hid hM
  have HN := Lib.hid hN
  have hN2 : N ≤ 121 := by omega
  rw [← hN] at c1
  clear h1 h2 h3 h4 hM hN
  refine (callsIn_wide (n := 9)).1 ?_
  refine callsIn_of_wp_marks Try.func60 rfl trivial ?_ rfl
  simp only [Try.ntmps60, List.size_toArray, List.length_cons, List.length_nil, Nat.reduceAdd, Nat.reduceSub, Array.replicate_succ, Array.replicate_zero, List.push_toArray, List.append_toArray, List.nil_append, List.cons_append]
  gi_wp2_with fail
  refine ⟨trivial, ?_⟩
  refine (RP.out _ _ _ (cells_new _ _ _ 0 _ rfl)).mono ?_
  rintro e w1 ⟨g, rfl, o1, hbr⟩
  have hb1 : Below w.heap.size w w1 := bl_then (bl_alloc (bl_refl w) _) hbr
  have hwz := hb1.size
  obtain ⟨W2, hW2⟩ : ∃ W2, W2 = (w1.alloc (.cells #[.slice (some ⟨g, 0, none⟩) N N] 74)).alloc (.cells #[.slice (some ⟨w1.heap.size, 0, none⟩) 1 1] 58) := ⟨_, rfl⟩
  have o2 : W2.ownsRow w.heap.size 3 1 (.slice (some ⟨g, 0, none⟩) N N) N (cvRow T N 0) := by
    rw [hW2, cvRow_zero]
    exact ((own_low o1 (by simp)).alloc _).alloc _
  have hgl := (o1.lt _ rfl).2
  have r2 := (RowsV.nil W2 w.heap.size 3).snoc (by rw [hW2]; simp; omega) o2 (by omega)
  have o3 : W2.ownsRow w.heap.size 74 1 (.slice (some ⟨w1.heap.size, 0, none⟩) 1 1) 1 [.slice (some ⟨g, 0, none⟩) N N] := by
    have := (World.ownsRow_lit (base := w.heap.size) (e := 74) (size := 1) w1 #[.slice (some ⟨g, 0, none⟩) N N] 1 (by omega) (by unfold maxLen; omega) rfl).alloc (.cells #[.slice (some ⟨w1.heap.size, 0, none⟩) 1 1] 58)
    rw [hW2]; exact this
  have E2 : Env w [(w1.heap.size + 1, 58, .slice (some ⟨w1.heap.size, 0, none⟩) 1 1)] W2.heap.size [] W2 := by
    have E0 : Env w [] w.heap.size [] w := ⟨fun b hb => absurd hb List.not_mem_nil, bl_refl w, MarksTo.nil _ _ _, Nat.le_refl _⟩
    have := (((E0.below hb1).below (bl_alloc (bl_refl w1) (.cells #[.slice (some ⟨g, 0, none⟩) N N] 74))).new 58 (.slice (some ⟨w1.heap.size, 0, none⟩) 1 1)).high
    simp only [World.size_alloc] at this
    rw [hW2]; simp only [World.size_alloc]; exact this
  have O2 := Lib.hid (And.intro r2 (And.intro o3 E2))
  have HO1 := Lib.hid o1
  have c1' := (hb1.cell (p := ⟨gm, 1, none⟩) l1).trans c1
  clear o1 o2 r2 o3 E2 hbr
  gi_wp2_with fail
  rw [← hW2]
  clear hW2
  refine wpIn_loop_ghost (fun m a W => ∃ (k : Nat) (ds : List Deferred) (vC : Value) (hdrs : List Value), k ≤ n ∧ m = n - k ∧ Env w [(w1.heap.size + 1, 58, vC)] W.heap.size ds W ∧
    W.ownsRow w.heap.size 74 1 vC (k + 1) hdrs ∧ RowsV W W.heap.size 3 hdrs (cvRows T N (k + 1)) ∧ a = { tmps := #[.pointer (some ⟨gm, 0, none⟩), .int .i64 n, undef, undef, .slice none 0 0, .pointer (some ⟨w1.heap.size + 1, 0, none⟩), (a.tmps.getD 6 undef), (a.tmps.getD 7 undef), (a.tmps.getD 8 undef), undef, (a.tmps.getD 10 undef), (a.tmps.getD 11 undef), (a.tmps.getD 12 undef), (a.tmps.getD 13 undef), (a.tmps.getD 14 undef), (a.tmps.getD 15 undef), (a.tmps.getD 16 undef), (a.tmps.getD 17 undef), (a.tmps.getD 18 undef), .int .i64 n, .int .i64 k, (a.tmps.getD 21 undef), (a.tmps.getD 22 undef), (a.tmps.getD 23 undef), (a.tmps.getD 24 undef), (a.tmps.getD 25 undef), (a.tmps.getD 26 undef), (a.tmps.getD 27 undef), (a.tmps.getD 28 undef), (a.tmps.getD 29 undef), (a.tmps.getD 30 undef), (a.tmps.getD 31 undef), (a.tmps.getD 32 undef), (a.tmps.getD 33 undef), (a.tmps.getD 34 undef), (a.tmps.getD 35 undef), (a.tmps.getD 36 undef), (a.tmps.getD 37 undef), (a.tmps.getD 38 undef), (a.tmps.getD 39 undef), (a.tmps.getD 40 undef), (a.tmps.getD 41 undef), (a.tmps.getD 42 undef), (a.tmps.getD 43 undef), (a.tmps.getD 44 undef), (a.tmps.getD 45 undef), (a.tmps.getD 46 undef), (a.tmps.getD 47 undef), (a.tmps.getD 48 undef), (a.tmps.getD 49 undef), (a.tmps.getD 50 undef), (a.tmps.getD 51 undef), (a.tmps.getD 52 undef), (a.tmps.getD 53 undef), (a.tmps.getD 54 undef), (a.tmps.getD 55 undef), (a.tmps.getD 56 undef), (a.tmps.getD 57 undef), (a.tmps.getD 58 undef), (a.tmps.getD 59 undef), (a.tmps.getD 60 undef), undef], defers := ds }) n ?_ ?_
  · obtain ⟨r2, o3, E2⟩ := O2.out
    exact ⟨0, [], _, _, Nat.zero_le _, rfl, E2, o3, r2, rfl⟩
  · rintro m a W ⟨k, ds, vC, hdrs, hk, rfl, hE, ho, hr, ha⟩
    obtain ⟨u, hu⟩ : ∃ u : Nat → Value, u = fun n => a.tmps.getD n undef := ⟨_, rfl⟩
    have ha' : a = { tmps := #[.pointer (some ⟨gm, 0, none⟩), .int .i64 n, undef, undef, .slice none 0 0, .pointer (some ⟨w1.heap.size + 1, 0, none⟩), (u 6), (u 7), (u 8), undef, (u 10), (u 11), (u 12), (u 13), (u 14), (u 15), (u 16), (u 17), (u 18), .int .i64 n, .int .i64 k, (u 21), (u 22), (u 23), (u 24), (u 25), (u 26), (u 27), (u 28), (u 29), (u 30), (u 31), (u 32), (u 33), (u 34), (u 35), (u 36), (u 37), (u 38), (u 39), (u 40), (u 41), (u 42), (u 43), (u 44), (u 45), (u 46), (u 47), (u 48), (u 49), (u 50), (u 51), (u 52), (u 53), (u 54), (u 55), (u 56), (u 57), (u 58), (u 59), (u 60), undef], defers := ds } := by rw [hu]; exact ha
    clear hu ha
    subst ha'
    have e8 := (hE.box _ (List.mem_cons_self ..)).cell
    have f8 := (hE.box _ (List.mem_cons_self ..)).frozen
    have l8 := (hE.box _ (List.mem_cons_self ..)).lt
    by_cases hlt : k < n
    · obtain ⟨W3, hW3⟩ : ∃ W3, W3 = ((W.alloc (.cells #[.int .i64 k] 3)).alloc (.cells (madeCells #[.int .i64 0] N) 3)).alloc (.cells #[.slice (some ⟨W.heap.size + 1, 0, none⟩) N N] 74) := ⟨_, rfl⟩
      have c1W := (hE.low.cell (p := ⟨gm, 1, none⟩) l1).trans c1
      have HWs := Lib.hid hE.low.size
      have lmW := Nat.lt_of_lt_of_le l1 hE.low.size
      have HL8 := Lib.hid l8
      have o3 : W3.ownsRow w.heap.size 3 1 (.slice (some ⟨W.heap.size + 1, 0, none⟩) N N) N (upto (fun j => .int .i64 (cntT T (k + 1) j)) (.int .i64 0) N 0) := by
        have := (World.ownsRow_lit (base := w.heap.size) (e := 3) (size := 1) (W.alloc (.cells #[.int .i64 k] 3)) (madeCells #[.int .i64 0] N) N (by simp; have := hE.low.size; omega) (by unfold maxLen; omega) (by rw [← Array.length_toList, toList_madeCells_one]; simp)).alloc (.cells #[.slice (some ⟨W.heap.size + 1, 0, none⟩) N N] 74)
        simp only [World.size_alloc] at this
        rw [hW3, upto_zero, ← toList_madeCells_one]; exact this
      have hb3 : Below W.heap.size W W3 := by rw [hW3]; exact bl_alloc (bl_alloc (bl_alloc (bl_refl W) _) _) _
      have E3 := ((((hE.new 3 (.int .i64 k)).below (bl_alloc (bl_refl _) (.cells (madeCells #[.int .i64 0] N) 3))).new 74 (.slice (some ⟨W.heap.size + 1, 0, none⟩) N N))).high
      simp only [World.size_alloc] at E3
      rw [← hW3] at E3
      have hz3 : W3.heap.size = W.heap.size + 3 := by rw [hW3]; simp
      have B3 : Bk w 3 74 [(W.heap.size + 1 + 1, 74, .slice (some ⟨W.heap.size + 1, 0, none⟩) N N), (W.heap.size, 3, .int .i64 k), (w1.heap.size + 1, 58, vC)] W3.heap.size ds vC hdrs (cvRows T N (k + 1)) (W.heap.size + 1) N (upto (fun j => .int .i64 (cntT T (k + 1) j)) (.int .i64 0) N 0) W3 :=
        ⟨by rw [show W3.heap.size = W.heap.size + 1 + 1 + 1 by omega]; exact E3, by rw [cvRows_len]; exact own_kept ho hb3, (hr.kept hb3).mono (by omega), o3⟩
      have hgC := own_form ho (by omega)
      obtain ⟨gC, cC, rfl, hgC1, hgC2⟩ := hgC
      have B3 := Lib.hid B3
      clear hE ho hr o3 E3 hb3 hgC1 hgC2
      gi_wp2_with fail
      rw [← hW3]
      clear hW3
      refine wpIn_loop_ghost (fun m a W' => ∃ (i : Nat) (ds' : List Deferred), i ≤ N ∧ m = N - i ∧ Bk w 3 74 [(W.heap.size + 1 + 1, 74, .slice (some ⟨W.heap.size + 1, 0, none⟩) N N), (W.heap.size, 3, .int .i64 k), (w1.heap.size + 1, 58, .slice (some ⟨gC, 0, none⟩) (k + 1) cC)] W'.heap.size ds' (.slice (some ⟨gC, 0, none⟩) (k + 1) cC) hdrs (cvRows T N (k + 1)) (W.heap.size + 1) N (upto (fun j => .int .i64 (cntT T (k + 1) j)) (.int .i64 0) N i) W' ∧
        a = { tmps := #[.pointer (some ⟨gm, 0, none⟩), .int .i64 n, undef, undef, .slice none 0 0, .pointer (some ⟨w1.heap.size + 1, 0, none⟩), .pointer (some ⟨W.heap.size, 0, none⟩), .pointer (some ⟨W.heap.size + 1 + 1, 0, none⟩), (a.tmps.getD 8 undef), undef, (a.tmps.getD 10 undef), (a.tmps.getD 11 undef), (a.tmps.getD 12 undef), (a.tmps.getD 13 undef), (a.tmps.getD 14 undef), (a.tmps.getD 15 undef), (a.tmps.getD 16 undef), (a.tmps.getD 17 undef), (a.tmps.getD 18 undef), .int .i64 n, .int .i64 k, (a.tmps.getD 21 undef), (a.tmps.getD 22 undef), (a.tmps.getD 23 undef), (a.tmps.getD 24 undef), (a.tmps.getD 25 undef), (a.tmps.getD 26 undef), (a.tmps.getD 27 undef), (a.tmps.getD 28 undef), (a.tmps.getD 29 undef), .int .i64 N, .int .i64 i, (a.tmps.getD 32 undef), (a.tmps.getD 33 undef), (a.tmps.getD 34 undef), (a.tmps.getD 35 undef), (a.tmps.getD 36 undef), (a.tmps.getD 37 undef), (a.tmps.getD 38 undef), (a.tmps.getD 39 undef), (a.tmps.getD 40 undef), (a.tmps.getD 41 undef), (a.tmps.getD 42 undef), (a.tmps.getD 43 undef), (a.tmps.getD 44 undef), (a.tmps.getD 45 undef), (a.tmps.getD 46 undef), (a.tmps.getD 47 undef), (a.tmps.getD 48 undef), (a.tmps.getD 49 undef), (a.tmps.getD 50 undef), (a.tmps.getD 51 undef), (a.tmps.getD 52 undef), (a.tmps.getD 53 undef), (a.tmps.getD 54 undef), (a.tmps.getD 55 undef), (a.tmps.getD 56 undef), (a.tmps.getD 57 undef), (a.tmps.getD 58 undef), (a.tmps.getD 59 undef), (a.tmps.getD 60 undef), undef], defers := ds' }) N ?_ ?_
      · exact ⟨0, ds, Nat.zero_le _, rfl, B3.out, rfl⟩
      · clear u
        rintro m a W' ⟨i, ds', hi, rfl, hB, ha⟩
        obtain ⟨u, hu⟩ : ∃ u : Nat → Value, u = fun n => a.tmps.getD n undef := ⟨_, rfl⟩
        have ha' : a = { tmps := #[.pointer (some ⟨gm, 0, none⟩), .int .i64 n, undef, undef, .slice none 0 0, .pointer (some ⟨w1.heap.size + 1, 0, none⟩), .pointer (some ⟨W.heap.size, 0, none⟩), .pointer (some ⟨W.heap.size + 1 + 1, 0, none⟩), (u 8), undef, (u 10), (u 11), (u 12), (u 13), (u 14), (u 15), (u 16), (u 17), (u 18), .int .i64 n, .int .i64 k, (u 21), (u 22), (u 23), (u 24), (u 25), (u 26), (u 27), (u 28), (u 29), .int .i64 N, .int .i64 i, (u 32), (u 33), (u 34), (u 35), (u 36), (u 37), (u 38), (u 39), (u 40), (u 41), (u 42), (u 43), (u 44), (u 45), (u 46), (u 47), (u 48), (u 49), (u 50), (u 51), (u 52), (u 53), (u 54), (u 55), (u 56), (u 57), (u 58), (u 59), (u 60), undef], defers := ds' } := by rw [hu]; exact ha
        clear hu ha
        subst ha'
        by_cases hiN : i < N
        · obtain ⟨vC, hvC⟩ : ∃ vC, vC = Value.slice (some ⟨gC, 0, none⟩) (k + 1) cC := ⟨_, rfl⟩
          obtain ⟨Wi, hWi⟩ : ∃ Wi, Wi = W'.alloc (.cells #[.int .i64 i] 3) := ⟨_, rfl⟩
          have hbi : Below W'.heap.size W' Wi := by rw [hWi]; exact bl_alloc (bl_refl _) _
          have HZI : Hid (Wi.heap.size = W'.heap.size + 1) := Lib.hid (by rw [hWi]; simp)
          have Bi : Bk w 3 74 [(W'.heap.size, 3, .int .i64 i), (W.heap.size + 1 + 1, 74, .slice (some ⟨W.heap.size + 1, 0, none⟩) N N), (W.heap.size, 3, .int .i64 k), (w1.heap.size + 1, 58, .slice (some ⟨gC, 0, none⟩) (k + 1) cC)] W'.heap.size ds' (.slice (some ⟨gC, 0, none⟩) (k + 1) cC) hdrs (cvRows T N (k + 1)) (W.heap.size + 1) N (upto (fun j => .int .i64 (cntT T (k + 1) j)) (.int .i64 0) N i) Wi :=
            ⟨by rw [hWi]; exact hB.env.new _ _, own_kept hB.out hbi, hB.rows.kept hbi, own_kept hB.now hbi⟩
          have hi' : i < S.length := by have := HN.out; omega
          have Bi := Lib.hid Bi
          have HW := Lib.hid hB.env.low
          have lW' : W.heap.size + 1 < W'.heap.size := (hB.now.lt _ rfl).2
          clear hB B3 hvC hbi
          gi_wp2_with fail
          refine ⟨trivial, ?_⟩
          rw [← hWi]
          clear hWi
          refine (ST.out _ _ _ _).mono ?_
          rintro e w5 ⟨rfl, hw5⟩
          obtain ⟨bx1, bx2⟩ : Boxed w5 Wi.heap.size 56 (.pointer (some ⟨gm, 0, none⟩)) ∧ Boxed w5 (Wi.heap.size + 1) 3 (.int .i64 i) := by
            rw [hw5]
            refine ⟨(Boxed.new Wi _ _).alloc _, ?_⟩
            have := Boxed.new (Wi.alloc (.cells #[.pointer (some ⟨gm, 0, none⟩)] 56)) 3 (.int .i64 i)
            rwa [World.size_alloc] at this
          have HZ5 : Hid (w5.heap.size = Wi.heap.size + 2) := Lib.hid (by rw [hw5]; simp)
          have B5 : Bk w 3 74 [(W'.heap.size, 3, .int .i64 i), (W.heap.size + 1 + 1, 74, .slice (some ⟨W.heap.size + 1, 0, none⟩) N N), (W.heap.size, 3, .int .i64 k), (w1.heap.size + 1, 58, .slice (some ⟨gC, 0, none⟩) (k + 1) cC)] w5.heap.size ds' (.slice (some ⟨gC, 0, none⟩) (k + 1) cC) hdrs (cvRows T N (k + 1)) (W.heap.size + 1) N (upto (fun j => .int .i64 (cntT T (k + 1) j)) (.int .i64 0) N i) w5 := by
            have hb5 : Below Wi.heap.size Wi w5 := by rw [hw5]; exact bl_alloc (bl_alloc (bl_refl Wi) _) _
            exact ⟨(Bi.out.env.below hb5).high, own_kept Bi.out.out hb5, Bi.out.rows.kept hb5, own_kept Bi.out.now hb5⟩
          have B5s := Lib.hid B5.env.low.size
          have B5 := Lib.hid B5
          clear hw5 Bi
          gi_wp2_with fail
          refine wpIn_rangeFunc_ownG (w0 := w5) rfl (by omega) (gf := 50) (lb := #[.pointer (some ⟨Wi.heap.size, 0, none⟩), .pointer (some ⟨Wi.heap.size + 1, 0, none⟩)]) rfl trivial (enters_of Try.func50 (by kernel_rfl) rfl)
            (steps_stops 8 gm q Wi.heap.size (Wi.heap.size + 1) i _ _ w w5 HM.out hT hq hS hi' B5.out.env.low (by have := HZ5.out; omega) bx1.cell (by have := HZ5.out; omega) bx2.cell) belowK_t (belowK_b (by have := B5.out.env.low.size; omega)) (Below.refl _ _) (fun _ => rfl)
            (fun pre X => Bk w 3 74 [(W'.heap.size, 3, .int .i64 i), (W.heap.size + 1 + 1, 74, .slice (some ⟨W.heap.size + 1, 0, none⟩) N N), (W.heap.size, 3, .int .i64 k), (w1.heap.size + 1, 58, .slice (some ⟨gC, 0, none⟩) (k + 1) cC)] w5.heap.size ds' (.slice (some ⟨gC, 0, none⟩) (k + 1) cC) hdrs (cvRows T N (k + 1)) (W.heap.size + 1) N ((upto (fun j => .int .i64 (cntT T (k + 1) j)) (.int .i64 0) N i).set i (.int .i64 (sumC (cntT T k) (pre.map (·.1))))) X)
            (fun c pre X => False)
            ?o1 (fun c s A D row hs hg hr => hs.elim) (by show Bk _ _ _ _ _ _ _ _ _ _ _ _ _; rw [show sumC (cntT T k) (([] : List (StpOf T i)).map (·.1)) = 0 from rfl, upto_same _ _ hiN]; exact B5.out)
            (fun x => { tmps := #[.pointer (some ⟨gm, 0, none⟩), .int .i64 n, undef, undef, .slice none 0 0, .pointer (some ⟨w1.heap.size + 1, 0, none⟩), .pointer (some ⟨W.heap.size, 0, none⟩), .pointer (some ⟨W.heap.size + 1 + 1, 0, none⟩), .pointer (some ⟨W'.heap.size, 0, none⟩), undef, .int .i64 x.1.2, (u 11), (u 12), (u 13), (u 14), (u 15), (u 16), (u 17), (u 18), .int .i64 n, .int .i64 k, (u 21), (u 22), (u 23), (u 24), (u 25), (u 26), (u 27), (u 28), (u 29), .int .i64 N, .int .i64 i, .bool true, .int .i64 i, .pointer (some ⟨gm, 0, none⟩), .int .i64 i, .func (.func 50) #[] #[.pointer (some ⟨Wi.heap.size, 0, none⟩), .pointer (some ⟨Wi.heap.size + 1, 0, none⟩)], .string (bs [ltr x.1.1]), .int .i64 x.1.2, (u 39), (u 40), (u 41), (u 42), (u 43), (u 44), (u 45), (u 46), (u 47), (u 48), (u 49), (u 50), (u 51), (u 52), (u 53), (u 54), (u 55), (u 56), (u 57), (u 58), (u 59), (u 60), undef], defers := [] }) ?assign ?body ?done ?stop
          case o1 =>
            rintro s A D row hs hg hr
            exact Bk.own (β := Unit) B5.out.env.low.size (Nat.le_refl _) () A D row hs hg hr
          case assign =>
            intro l x X K hK
            dsimp only [encP]
            gi_wp2
            exact hK
          case stop =>
            rintro D c pre X _ _ h _
            exact h.elim
          case done =>
            rintro D xs X hD hxs hX hKD
            have hany : sumC (cntT T k) (xs.map (·.1)) = cntT T (k + 1) i := by rw [hxs]; rfl
            rw [hany, show (Value.int .i64 (cntT T (k + 1) i)) = (fun j => .int .i64 (cntT T (k + 1) j)) i from rfl, upto_set _ _ hiN] at hX
            have HX := Lib.hid hX
            have HKD := Lib.hid hKD
            clear hX hKD hxs B5 bx1 bx2
            gi_wp2_with fail
            exact ⟨N - (i + 1), by omega, i + 1, _, by omega, rfl, ⟨(HX.out.env.push (by have := B5s.out; omega) hD HKD.out).less (fun y hy => List.mem_cons_of_mem _ hy), HX.out.out, HX.out.rows, HX.out.now⟩, rfl⟩
          case body =>
            rintro l pre ⟨⟨c, j⟩, hmem⟩ X hX _
            dsimp only
            obtain ⟨hcq, hjn⟩ := hT.stp hi' hmem
            have e11 := (hX.env.box (W'.heap.size, 3, .int .i64 i) (by simp)).cell
            have e10 := (hX.env.box (W.heap.size + 1 + 1, 74, .slice (some ⟨W.heap.size + 1, 0, none⟩) N N) (by simp)).cell
            have e9 := (hX.env.box (W.heap.size, 3, .int .i64 k) (by simp)).cell
            have e8 := (hX.env.box (w1.heap.size + 1, 58, .slice (some ⟨gC, 0, none⟩) (k + 1) cC) (by simp)).cell
            have l11 := (hX.env.box (W'.heap.size, 3, .int .i64 i) (by simp)).lt
            have l10 := (hX.env.box (W.heap.size + 1 + 1, 74, .slice (some ⟨W.heap.size + 1, 0, none⟩) N N) (by simp)).lt
            have l9 := (hX.env.box (W.heap.size, 3, .int .i64 k) (by simp)).lt
            have l8 := (hX.env.box (w1.heap.size + 1, 58, .slice (some ⟨gC, 0, none⟩) (k + 1) cC) (by simp)).lt
            have hjN : j < N := by have := HN.out; omega
            have hgl := (hX.now.lt _ rfl).2
            have hgC := (hX.out.lt _ rfl).2
            dsimp only at l11 l10 l9 l8
            obtain ⟨bR, cR, q1, q2, q3, q4⟩ := hX.rows.at (i := k) (by rw [cvRows_len]; omega)
            rw [cvRows_at T N (by omega : k < k + 1), cvRow_len] at q1 q4
            have q5 := q4 j hjN
            rw [cvRow_at T hjN] at q5
            have q6 := (show X.ownsRow w.heap.size 74 1 (.slice (some ⟨gC, 0, none⟩) (k + 1) cC) (k + 1) hdrs by have h := hX.out; rwa [cvRows_len] at h).cellAt k (by omega)
            rw [q1] at q6
            have q7 := hX.now.cellAt i (by omega)
            rw [List.getElem?_set_self (by rw [upto_len]; exact hiN)] at q7
            have q8 := hX.now.frozenAt i
            obtain ⟨sv, hsv⟩ : ∃ sv, sv = sumC (cntT T k) (pre.map (·.1)) := ⟨_, rfl⟩
            obtain ⟨cv, hcv⟩ : ∃ cv, cv = cntT T k j := ⟨_, rfl⟩
            have hb1 : 0 ≤ sv ∧ sv ≤ most1 := by rw [hsv]; exact sumC_bound (fun j => (cnt_bound T k j).1) _
            have hb2 : 0 ≤ cv ∧ cv ≤ most1 := by rw [hcv]; exact cnt_bound T k j
            obtain ⟨Y, hY⟩ : ∃ Y, Y = sv + cv := ⟨_, rfl⟩
            obtain ⟨Z, hZ⟩ : ∃ Z, Z = min Y most1 := ⟨_, rfl⟩
            have hYb : 0 ≤ Y ∧ Y ≤ 4000000000000000000 := by unfold most1 at hb1 hb2; omega
            have hmin : min 1152921504606846977 Y = Z := by rw [hZ, Int.min_comm]; rfl
            have hYY : sv + cv = Y := hY.symm
            have hw3 : IntKind.i64.wrap Y = Y := wrapI (by omega)
            rw [← hcv] at q5
            rw [← hsv] at q7
            have hne : ∀ b ∈ [(W'.heap.size, 3, Value.int .i64 i), (W.heap.size + 1 + 1, 74, .slice (some ⟨W.heap.size + 1, 0, none⟩) N N), (W.heap.size, 3, .int .i64 k), (w1.heap.size + 1, 58, .slice (some ⟨gC, 0, none⟩) (k + 1) cC)], b.1 ≠ W.heap.size + 1 := by
              intro b hb
              simp only [List.mem_cons, List.not_mem_nil, or_false] at hb
              have := HL8.out
              rcases hb with rfl | rfl | rfl | rfl <;> dsimp only <;> omega
            have hS2 : ∀ nq, Bk w 3 74 [(W'.heap.size, 3, .int .i64 i), (W.heap.size + 1 + 1, 74, .slice (some ⟨W.heap.size + 1, 0, none⟩) N N), (W.heap.size, 3, .int .i64 k), (w1.heap.size + 1, 58, .slice (some ⟨gC, 0, none⟩) (k + 1) cC)] w5.heap.size ds' (.slice (some ⟨gC, 0, none⟩) (k + 1) cC) hdrs (cvRows T N (k + 1)) (W.heap.size + 1) N ((upto (fun j => .int .i64 (cntT T (k + 1) j)) (.int .i64 0) N i).set i (.int .i64 (sumC (cntT T k) ((pre ++ [(⟨(c, j), hmem⟩ : StpOf T i)]).map (·.1))))) ((X.drewN nq).setCell ⟨W.heap.size + 1, i, none⟩ (.int .i64 Z)) := by
              intro nq
              have := (hX.draw nq).store2 hne (by decide) i (.int .i64 Z)
              rw [List.set_set] at this
              rw [List.map_append, List.map_singleton, sumC_snoc, ← hsv, show cntT T k j = cv from hcv.symm, hYY, ← hZ]
              exact this
            have HS2 := Lib.hid hS2
            have HXw := Lib.hid hX.env.low.size
            clear hX hS2 hsv hcv hY hZ q1 q4 B5 bx1 bx2 q2 hne
            gi_wp2_with fail
            refine wpIn_region_tail_round 16 rfl hmix (by kernel_rfl) (by intro o ho c h; simp at ho; rcases ho with rfl | rfl | rfl | rfl | rfl | rfl | rfl | rfl | rfl | rfl | rfl | rfl | rfl | rfl | rfl | rfl | rfl <;> cases h) ?_
            simp only [List.take_succ_cons, List.take_zero, List.drop_succ_cons, List.drop_zero]
            repeat (gi_big_quiet_step (fail))
            refine wpQuietIn_nil ?_
            rintro _ ⟨nq, rfl⟩
            gi_wp2_with fail
            exact ⟨(keeps_drewN _ X nq).trans ((KeepsOthers.setCell (X.drewN nq) ⟨W.heap.size + 1, i, none⟩ _).from _), ((Below.refl w.heap.size X).grown (grown_drew X nq) HXw.out (fun r e => by cases e)).setCell (by show w.heap.size ≤ W.heap.size + 1; have := HWs.out; omega) _, HS2.out nq⟩
        · have ei : i = N := by omega
          subst ei
          have e10 := (hB.env.box (W.heap.size + 1 + 1, 74, .slice (some ⟨W.heap.size + 1, 0, none⟩) i i) (by simp)).cell
          have e8 := (hB.env.box (w1.heap.size + 1, 58, .slice (some ⟨gC, 0, none⟩) (k + 1) cC) (by simp)).cell
          have l10 := (hB.env.box (W.heap.size + 1 + 1, 74, .slice (some ⟨W.heap.size + 1, 0, none⟩) i i) (by simp)).lt
          have l8 := (hB.env.box (w1.heap.size + 1, 58, .slice (some ⟨gC, 0, none⟩) (k + 1) cC) (by simp)).lt
          dsimp only at l10 l8
          have hnow := hB.now
          rw [upto_full, show (List.range i).map (fun j => Value.int .i64 (cntT T (k + 1) j)) = cvRow T i (k + 1) from rfl] at hnow
          have hout := hB.out
          rw [cvRows_len] at hout
          have hbA := bl_alloc (bl_refl W') (.cells #[.slice (some ⟨W.heap.size + 1, 0, none⟩) i i] 74)
          have EA := (((hB.env.less (bl' := [(w1.heap.size + 1, 58, .slice (some ⟨gC, 0, none⟩) (k + 1) cC)]) (by intro y hy; simp at hy; subst hy; simp)).below hbA))
          have RA := hB.rows.kept hbA
          have NA := own_kept hnow hbA
          have OA := own_kept hout hbA
          have hlw := hB.env.low.size
          have gC1 := hout.lt _ rfl
          have HA := Lib.hid (And.intro EA (And.intro RA (And.intro NA OA)))
          have NB := hnow.lt _ rfl
          dsimp only at NB
          clear hB B3 EA RA NA hnow hout hbA
          gi_wp2_with (gi_at_builtin; refine wpListIn_append_own _ rfl (.tmp 56) (.tmp 58) _ rfl w.heap.size 74 iR _ 1 24 Try.underlying58 hiR hr0 hr1 hr2 rfl (by decide) (.slice (some ⟨gC, 0, none⟩) (k + 1) cC) (k + 1) hdrs rfl OA ⟨W'.heap.size, 0, none⟩ 1 1 [.slice (some ⟨W.heap.size + 1, 0, none⟩) i i] rfl rfl (cells_new _ _ _) (by intro u hu; rw [List.mem_singleton.1 hu]; rfl) (by unfold maxLen; omega) (by omega) (by simp; omega) ?_; intro v6 w6 hown6 hg6 _; obtain ⟨g6, cap6, rfl, hg61, hg62⟩ := own_form hown6 (by omega); have E6 := app_env HA.out.1 OA hg6 (by intro y hy; rw [List.mem_singleton.1 hy]; exact (by decide : (58 : TypeId) ≠ 74)) (Nat.le_refl _); have e68 := (E6.box _ (List.mem_cons_self ..)).cell; have l68 := (E6.box _ (List.mem_cons_self ..)).lt; have f68 := (E6.box _ (List.mem_cons_self ..)).frozen; dsimp only at e68 l68 f68; have E6 := Lib.hid E6; have R6 := Lib.hid (app_rows HA.out.2.1 HA.out.2.2.1 OA hg6 (by decide) (by simp; omega)); have hown6 := Lib.hid hown6; clear hg6)
          have b8 : Boxed w6 (w1.heap.size + 1) 58 _ := E6.out.box _ (List.mem_cons_self ..)
          refine ⟨n - (k + 1), by omega, k + 1, by omega, rfl, ds', _, E6.out.high.set (b := w1.heap.size + 1) (t := 58) (List.mem_cons_self ..) _ (by omega) (by intro x hx; exact .inl (List.mem_singleton.1 hx)), _,
            hown6.out.kept (grown_set w6 (w1.heap.size + 1) 0 _) (own_ne hown6.out (boxed_typ b8 (by decide))), ?_, by omega, rfl⟩
          rw [cvRows_succ]
          exact R6.out.grown (grown_set w6 (w1.heap.size + 1) 0 _) (fun r e => by cases e; exact .inr (boxed_typ b8 (by decide)))
    · obtain rfl : k = n := by omega
      have HE := Lib.hid hE
      have HO := Lib.hid ho
      have HR := Lib.hid hr
      clear hE ho hr O2
      gi_wp2_with fail
      refine leaves_marks2 (fun X => X.ownsRow w.heap.size 74 1 vC (k + 1) hdrs ∧ RowsV X W.heap.size 3 hdrs (cvRows T N (k + 1)) ∧ W.heap.size ≤ X.heap.size) (fun X D o' hX hD => ?_) ds _ HE.out.marks.marks HE.out.low.size ⟨HO.out, HR.out, Nat.le_refl _⟩ (fun w' hX hb => ⟨_, results_tmp rfl _ _ _, ⟨vC, rfl, hdrs, hX.1, hX.2.1.mono hX.2.2, HE.out.low.trans hb⟩⟩)
      have hne : ∀ cur t, X.heap[D]? ≠ some (.cells cur t (0, 0)) := fun cur t h => by rw [hD] at h; cases h
      exact ⟨hX.1.kept (grownBy_putObj' X D o') (own_ne hX.1 fun cur => hne cur _), hX.2.1.grown (grownBy_putObj' X D o') (fun r e => .inr fun cur => by cases e; exact hne cur _), Nat.le_trans hX.2.2 (grownBy_putObj' X D o').size⟩
end Go.Proofs.Ytnamafakjkcmjaa

namespace Go.Proofs.Ytnamafakjkcmjaa
open Go.RowKit Go.Shelf
set_option linter.unusedVariables false
set_option linter.unusedSimpArgs false

theorem cv_facts {w : World} {base n N : Nat} {v : Value} {hdrs : List Value} {T : Tab} (h1 : w.ownsRow base 74 1 v (n + 1) hdrs) (h2 : RowsV w w.heap.size 3 hdrs (cvRows T N (n + 1))) (hN : 0 < N) :
    ∃ g c, v = .slice (some ⟨g, 0, none⟩) (n + 1) c ∧ g < w.heap.size ∧ ∀ m, m ≤ n → ∃ b cc, b < w.heap.size ∧ hdrs[m]? = some (.slice (some ⟨b, 0, none⟩) N cc) ∧ ∀ W', Below w.heap.size w W' → W'.cell? ⟨g, m, none⟩ = some (.slice (some ⟨b, 0, none⟩) N cc) ∧ ∀ j, j < N → W'.cell? ⟨b, j, none⟩ = some (.int .i64 (cntT T m j)) := by
  obtain ⟨g, c, rfl, _, hg⟩ := own_form h1 (by omega)
  refine ⟨g, c, rfl, hg, fun m hm => ?_⟩
  obtain ⟨b, cc, e1, e2, e3, e4⟩ := h2.at (i := m) (by rw [cvRows_len]; omega)
  rw [cvRows_at T N (by omega), cvRow_len] at e1 e4
  refine ⟨b, cc, e3, e1, fun W' hb => ⟨(hb.cell (p := ⟨g, m, none⟩) hg).trans ((h1.cellAt m (by omega)).trans e1), fun j hj => ?_⟩⟩
  exact (hb.cell (p := ⟨b, j, none⟩) e3).trans ((e4 j hj).trans (cvRow_at T hj))
def enH (n : Nat) (hdrs : List Value) (p : { m : Nat // m ≤ n }) : Value := hdrs.getD p.1 undef
def tooMany (T : Tab) (n : Nat) (p : { m : Nat // m ≤ n }) : Bool := decide (most1 ≤ cntT T p.1 0)
def upN (n : Nat) : List { m : Nat // m ≤ n } := (List.range (n + 1)).map fun j => ⟨min j n, Nat.min_le_right _ _⟩
instance (n : Nat) : Inhabited { m : Nat // m ≤ n } := ⟨⟨0, Nat.zero_le _⟩⟩
theorem up_any (T : Tab) (n : Nat) : ((upN n).take (n + 1)).any (tooMany T n) = !fewB T n := by
  rw [List.take_of_length_le (by simp [upN])]
  unfold upN fewB
  rw [List.any_map, Bool.eq_iff_iff, List.any_eq_true]
  simp only [Bool.not_eq_true', List.all_eq_false, List.mem_range, Function.comp_apply, tooMany, decide_eq_true_eq]
  constructor
  · rintro ⟨j, h1, h2⟩
    refine ⟨j, h1, ?_⟩
    rw [Nat.min_eq_left (by omega)] at h2
    omega
  · rintro ⟨j, h1, h2⟩
    refine ⟨j, h1, ?_⟩
    rw [Nat.min_eq_left (by omega)]
    omega
theorem many_pred (n N : Nat) (T : Tab) (hdrs : List Value) (w : World) (hN : 0 < N) (hh : ∀ m, m ≤ n → ∃ b cc, b < w.heap.size ∧ hdrs[m]? = some (.slice (some ⟨b, 0, none⟩) N cc) ∧ ∀ W', Below w.heap.size w W' → W'.cell? ⟨b, 0, none⟩ = some (.int .i64 (cntT T m 0))) :
    PredAt Try.prog 62 #[] (enH n hdrs) (tooMany T n) w := by
  rintro W ⟨m, hm⟩ hb
  obtain ⟨b, cc, h1, h2, h3⟩ := hh m hm
  have h4 := h3 W hb
  have lb := Nat.lt_of_lt_of_le h1 hb.size
  unfold FnGives enH tooMany
  rw [List.getD_eq_getElem?_getD, h2]
  simp only [Option.getD_some]
  obtain ⟨x, hx⟩ : ∃ x, x = cntT T m 0 := ⟨_, rfl⟩
  rw [← hx] at h4 ⊢
  have hN' : (0 : Int) < (N : Int) := by omega
  clear h2 h3 hh hx
  go_enter Try.func62, Try.ntmps62
  go_wp2_with fail
  go_ret
  exact ⟨ret_bool (by unfold most1; simp; omega), 0, rfl⟩
set_option maxRecDepth 100000 in
set_option maxHeartbeats 4000000 in
theorem counted_any (gm q n N : Nat) (S : List Str) (T : Tab) (w : World) (hM : MachAt w gm q S T) (hT : TabOk T S.length q) (hq : q ≤ 3) (hS : S.length ≤ 121) (hN : N = S.length) (hN0 : 0 < N) (hn : n ≤ 200) :
    Calls Try.prog 40 #[.pointer (some ⟨gm, 0, none⟩), .int .i64 n] w fun e w' => Below w.heap.size w w' ∧
      ((fewB T n = false ∧ e = .returned (.tuple #[.slice none 0 0, .int .i64 5])) ∨
       (fewB T n = true ∧ ∃ g c, e = .returned (.tuple #[.slice (some ⟨g, 0, none⟩) (n + 1) c, .int .i64 0]) ∧ g < w'.heap.size ∧ ∀ m, m ≤ n → ∃ b cc, b < w'.heap.size ∧ ∀ W', Below w'.heap.size w' W' → W'.cell? ⟨g, m, none⟩ = some (.slice (some ⟨b, 0, none⟩) N cc) ∧ ∀ j, j < N → W'.cell? ⟨b, j, none⟩ = some (.int .i64 (cntT T m j)))) := by
  have CT := Lib.hid (counts_any gm q n N S T w hM hT hq hS hN hN0 hn)
  clear hM hT hS hN
  go_enter Try.func40, Try.ntmps40
  go_wp2_with fail
  refine CT.out.mono ?_
  rintro e w1 ⟨v, hdrs, rfl, h1, h2, hb⟩
  obtain ⟨g, c, rfl, hg, hrow⟩ := cv_facts h1 h2 hN0
  have hlen : hdrs.length = n + 1 := by have := h1.1; omega
  have hcell : ∀ j, j < n + 1 → w1.cell? ⟨g, j, none⟩ = hdrs[j]? := fun j hj => h1.cellAt j (by omega)
  have C := Lib.hid (AnyE.slices_ContainsFunc Try.laysCG (enH n hdrs) (tooMany T n) 62 #[] (enters_of Try.func62 (by kernel_rfl) rfl) g 0 (n + 1) c (upN n) w1
    (many_pred n N T hdrs w1 hN0 (fun m hm => by
      obtain ⟨b, cc, e1, e2, e3⟩ := hrow m hm
      exact ⟨b, cc, e1, e2, fun W' hb => (e3 W' hb).2 0 hN0⟩)) (by simp [upN]) (by omega) (fun j hj => by
        have hj' : j < n + 1 := by simpa [upN] using hj
        rw [Nat.zero_add, hcell j hj', getElem!_pos (upN n) j hj]
        have : ((upN n)[j]).1 = j := by simp [upN]; omega
        unfold enH
        rw [this, List.getD_eq_getElem?_getD, List.getElem?_eq_getElem (by omega)]
        rfl))
  rw [up_any] at C
  have HR := Lib.hid hrow
  have HB := Lib.hid hb
  clear h1 h2 hrow hcell hb CT
  cases hf : fewB T n with
  | false =>
    rw [hf] at C
    have HF := Lib.hid hf
    clear hf
    go_wp2_with fail
    refine C.out.mono ?_
    rintro e w2 ⟨rfl, nq, rfl⟩
    go_wp2_with fail
    go_ret2
    exact ⟨bl_drewN HB.out nq, .inl ⟨HF.out, rfl⟩⟩
  | true =>
    rw [hf] at C
    have HF := Lib.hid hf
    clear hf
    go_wp2_with fail
    refine C.out.mono ?_
    rintro e w2 ⟨rfl, nq, rfl⟩
    go_wp2_with fail
    go_ret2
    refine ⟨bl_drewN HB.out nq, .inr ⟨HF.out, g, c, rfl, hg, fun m hm => ?_⟩⟩
    obtain ⟨b, cc, e1, e2, e3⟩ := HR.out m hm
    exact ⟨b, cc, e1, fun W' hb' => e3 W' (bl_then (bl_drewN (bl_refl w1) nq) hb')⟩

set_option maxRecDepth 100000 in
set_option maxHeartbeats 4000000 in
theorem Count_no (q n : Int) (v : Value) (ss : List ByteArray) (w : World) (hv : StrsAt w v ss) (hset : setB q ss = false ∨ n < 0 ∨ 60 < n) :
    Calls Try.prog 25 #[.int .i64 q, v, .int .i64 n] w fun e w' => e = .returned (.tuple #[.int .i64 0, .int .i64 2]) ∧ Below w.heap.size w w' := by
  have IS := Lib.hid fun W h => isSet_any q v ss W h
  have WI := Lib.hid fun W => within_any n 0 60 W
  have HV := Lib.hid hv
  clear hv
  cases hs : setB q ss with
  | false =>
    rw [hs] at IS
    clear hset hs
    go_enter Try.func25, Try.ntmps25
    go_wp2_with fail
    refine (IS.out _ HV.out).mono ?_
    rintro e w1 ⟨rfl, r1⟩
    go_wp2_with fail
    go_ret2
    exact ⟨rfl, r1⟩
  | true =>
    have hn : (decide (0 ≤ n) && decide (n ≤ 60)) = false := by
      rcases hset with h | h
      · rw [hs] at h; cases h
      · simp; omega
    rw [hs] at IS
    rw [hn] at WI
    clear hset hs hn
    go_enter Try.func25, Try.ntmps25
    go_wp2_with fail
    refine (IS.out _ HV.out).mono ?_
    rintro e w1 ⟨rfl, r1⟩
    go_wp2_with fail
    refine (WI.out _).mono ?_
    rintro e w2 ⟨rfl, rfl⟩
    go_wp2_with fail
    go_ret2
    exact ⟨rfl, r1⟩
set_option maxRecDepth 100000 in
set_option maxHeartbeats 4000000 in
theorem Count_any (q n : Nat) (v : Value) (ss : List ByteArray) (w : World) (T : Tab) (hT : T = tabL (pats ss) q) (hv : StrsAt w v ss) (hset : setB q ss = true) (hn : n ≤ 60) (hG : HasG w) :
    Calls Try.prog 25 #[.int .i64 q, v, .int .i64 n] w fun e w' => ((fewB T n = false ∧ e = .returned (.tuple #[.int .i64 0, .int .i64 5])) ∨ (fewB T n = true ∧ e = .returned (.tuple #[.int .i64 (cntT T n 0), .int .i64 0]))) ∧ Below w.heap.size w w' := by
  have hq : 1 ≤ q ∧ q ≤ 3 := by have := (setB_parts hset).1; omega
  have h0 := ok_nil (pats_some hset)
  have IS := Lib.hid fun W h => isSet_any q v ss W h
  rw [hset] at IS
  have WI := Lib.hid fun W => within_any n 0 60 W
  rw [show (decide ((0 : Int) ≤ n) && decide ((n : Int) ≤ 60)) = true by simp; omega] at WI
  have NM := Lib.hid fun W h1 h2 => newMachine_any q hq v ss W h1 h0 h2
  have hTo := tab_ok (q := q) h0
  have hS := stL_few (pats ss) hq.2
  have hn0 : 0 < (stL (pats ss) q).length := by rw [stL_fix h0]; simp
  rw [← hT] at NM hTo
  obtain ⟨S, hSd⟩ : ∃ S, S = stL (pats ss) q := ⟨_, rfl⟩
  rw [← hSd] at NM hTo hS hn0
  obtain ⟨N, hN⟩ : ∃ N, N = S.length := ⟨_, rfl⟩
  have CN := Lib.hid fun gm W h => counted_any gm q n N S T W h hTo hq.2 hS hN (by omega) (by omega)
  have HV := Lib.hid hv
  have HG := Lib.hid hG
  rw [← hN] at hn0
  clear hv hG hset hTo hSd hN hT
  go_enter Try.func25, Try.ntmps25
  go_wp2_with fail
  refine (IS.out _ HV.out).mono ?_
  rintro e w1 ⟨rfl, r1⟩
  go_wp2_with fail
  refine (WI.out _).mono ?_
  rintro e w2 ⟨rfl, rfl⟩
  go_wp2_with fail
  refine (NM.out _ (HV.out.kept r1) (HG.out.kept r1)).mono ?_
  rintro e w2 ⟨gm, rfl, hM, r2⟩
  go_wp2_with fail
  refine (CN.out gm _ hM).mono ?_
  rintro e w3 ⟨r3, hr⟩
  have HB := Lib.hid (bl_then (bl_then r1 r2) r3)
  rcases hr with ⟨hf, rfl⟩ | ⟨hf, g, c, rfl, hg, hrow⟩
  · have HF := Lib.hid hf
    clear hf r1 r2 r3 hM
    go_wp2_with fail
    go_ret2
    exact ⟨.inl ⟨HF.out, rfl⟩, HB.out⟩
  · have HF := Lib.hid hf
    obtain ⟨b, cc, e1, e2⟩ := hrow n (Nat.le_refl n)
    obtain ⟨z1, z2⟩ := e2 w3 (bl_refl w3)
    have z3 := z2 0 hn0
    obtain ⟨x, hx⟩ : ∃ x, x = cntT T n 0 := ⟨_, rfl⟩
    have HX := Lib.hid hx
    rw [← hx] at z3
    clear hf r1 r2 r3 hM hrow e2 z2 hx
    have hnn : (n : Int) < ((n + 1 : Nat) : Int) := by omega
    have hn1 : (0 : Int) < (N : Int) := by omega
    go_wp2_with fail
    go_ret2
    exact ⟨.inr ⟨HF.out, by rw [← HX.out]; rfl⟩, HB.out⟩
end Go.Proofs.Ytnamafakjkcmjaa
