/-
  back: the first closed way of a length from a state.
-/
import Derived.Test.YtnamafakjkcmjaaT10
namespace Go.Proofs.Ytnamafakjkcmjaa
open Go.RowKit Go.Shelf
set_option linter.unusedVariables false
set_option linter.unusedSimpArgs false
attribute [local go_sem] Oper.semAt_some

/-- What stands while the tables are built: the boxes and marks, the rows so far, the row under way. -/
structure Bk (we : World) (e eR : TypeId) (bl : List (Nat × TypeId × Value)) (H : Nat) (ds : List Deferred) (vC : Value) (hdrs : List Value) (R : List (List Value)) (g N : Nat) (xs : List Value) (W : World) : Prop where
  env : Env we bl H ds W
  out : W.ownsRow we.heap.size eR 1 vC R.length hdrs
  rows : RowsV W g e hdrs R
  now : W.ownsRow we.heap.size e 1 (.slice (some ⟨g, 0, none⟩) N N) N xs
theorem Bk.own {β : Type} {we : World} {e eR : TypeId} {bl : List (Nat × TypeId × Value)} {H B : Nat} {ds : List Deferred} {vC : Value} {hdrs : List Value} {R : List (List Value)} {g N : Nat} {xs : List Value} (hB : we.heap.size ≤ B) (hH : H ≤ B) :
    OwnFrom B (fun (_ : β) W => Bk we e eR bl H ds vC hdrs R g N xs W) := by
  rintro s A D row ⟨h1, h2, h3, h4⟩ hg hr
  have hc : ∀ r, row = some r → ∀ t cur, A.heap[r]? ≠ some (.cells cur t (0, 0)) := fun r e t cur hx => by
    obtain ⟨_, o, ho, hc⟩ := hr r e
    rw [ho] at hx
    injection hx with hx
    rw [hx] at hc
    cases hc
  refine ⟨Env.own (β := Unit) hB hH () A D row h1 hg hr, h2.kept hg ?_, h3.grown hg fun r e => .inr (hc r e _), h4.kept hg ?_⟩
  · cases row with
    | none => cases h : vC.ownBlock <;> simp
    | some r => exact own_ne h2 (hc r rfl _)
  · cases row with
    | none => right; simp [Value.ownBlock]
    | some r => exact own_ne h4 (hc r rfl _)
theorem Bk.draw {we : World} {e eR : TypeId} {bl : List (Nat × TypeId × Value)} {H : Nat} {ds : List Deferred} {vC : Value} {hdrs : List Value} {R : List (List Value)} {g N : Nat} {xs : List Value} {W : World} (h : Bk we e eR bl H ds vC hdrs R g N xs W) (n : Nat) : Bk we e eR bl H ds vC hdrs R g N xs (W.drewN n) :=
  ⟨h.env.kept (grown_drew W n) (fun r e => by cases e), h.out.kept (grown_drew W n) (by cases h : vC.ownBlock <;> simp), h.rows.grown (grown_drew W n) (fun r e => by cases e), h.now.kept (grown_drew W n) (by right; simp [Value.ownBlock])⟩
/-- A store into the row under way. -/
theorem Bk.store {we : World} {e eR : TypeId} {bl : List (Nat × TypeId × Value)} {H : Nat} {ds : List Deferred} {vC : Value} {hdrs : List Value} {R : List (List Value)} {g N : Nat} {xs : List Value} {W : World} (h : Bk we e eR bl H ds vC hdrs R g N xs W) (hbl : ∀ b ∈ bl, b.2.1 ≠ e) (hne : eR ≠ e) (i : Nat) (u : Value) :
    Bk we e eR bl H ds vC hdrs R g N (xs.set i u) (W.setCell ⟨g, i, none⟩ u) := by
  obtain ⟨h1, h2⟩ := h.now.stored i u
  have hgl := (h.now.lt g rfl)
  refine ⟨h.env.kept h2 fun r x => ?_, h.out.kept h2 (own_ne h.out (own_typ h.now (Ne.symm hne))), h.rows.grown h2 fun r x => .inl (by cases x; exact Nat.le_refl _), h1⟩
  cases x
  refine ⟨fun b hb hx => ?_, hgl.1, .inr fun hx => ?_⟩
  · refine absurd (?_ : ∃ cur, W.heap[b.1]? = some (.cells cur e (0, 0))) (fun ⟨cur, hc⟩ => boxed_typ (h.env.box b hb) (hbl b hb) cur hc)
    · rcases h.now.2 with ⟨h', _⟩ | ⟨g', cap', cur, h', _, hg, _⟩
      · simp at h'
      · simp only [Value.slice.injEq, Option.some.injEq, Addr.mk.injEq, and_true, true_and] at h'
        obtain ⟨rfl, rfl⟩ := h'
        exact ⟨cur, by rw [← hx]; exact hg⟩
  · rcases h.now.2 with ⟨h', _⟩ | ⟨g', cap', cur, h', _, hg, _⟩
    · simp at h'
    · simp only [Value.slice.injEq, Option.some.injEq, Addr.mk.injEq, and_true, true_and] at h'
      obtain ⟨rfl, rfl⟩ := h'
      rw [hg] at hx
      cases hx

/-- A row that is filled from the left. -/
def upto (F : Nat → Value) (z : Value) (N i : Nat) : List Value := (List.range N).map fun j => if j < i then F j else z
theorem upto_len (F : Nat → Value) (z : Value) (N i : Nat) : (upto F z N i).length = N := by simp [upto]
theorem upto_at (F : Nat → Value) (z : Value) {N i j : Nat} (h : j < N) : (upto F z N i)[j]? = some (if j < i then F j else z) := by
  unfold upto
  rw [List.getElem?_map, List.getElem?_range h]
  rfl
theorem upto_zero (F : Nat → Value) (z : Value) (N : Nat) : upto F z N 0 = List.replicate N z := by
  apply List.ext_getElem?
  intro j
  by_cases h : j < N
  · rw [upto_at _ _ h, List.getElem?_replicate, if_pos h]; rfl
  · rw [List.getElem?_eq_none (by rw [upto_len]; omega), List.getElem?_eq_none (by simp; omega)]
theorem upto_full (F : Nat → Value) (z : Value) (N : Nat) : upto F z N N = (List.range N).map F := by
  unfold upto
  apply List.map_congr_left
  intro j hj
  rw [if_pos (List.mem_range.1 hj)]
theorem upto_set (F : Nat → Value) (z : Value) {N i : Nat} (h : i < N) : (upto F z N i).set i (F i) = upto F z N (i + 1) := by
  apply List.ext_getElem?
  intro j
  by_cases hj : j < N
  · rw [upto_at _ _ hj]
    by_cases e : i = j
    · subst e
      rw [List.getElem?_set_self (by rw [upto_len]; exact h), if_pos (by omega)]
    · rw [List.getElem?_set_ne e, upto_at _ _ hj]
      by_cases e2 : j < i
      · rw [if_pos e2, if_pos (by omega)]
      · rw [if_neg e2, if_neg (by omega)]
  · rw [List.getElem?_eq_none (by rw [List.length_set, upto_len]; omega), List.getElem?_eq_none (by rw [upto_len]; omega)]
theorem upto_same (F : Nat → Value) (z : Value) {N i : Nat} (h : i < N) : (upto F z N i).set i z = upto F z N i := by
  apply List.ext_getElem?
  intro j
  by_cases e : i = j
  · subst e
    rw [List.getElem?_set_self (by rw [upto_len]; exact h), upto_at _ _ h, if_neg (by omega)]
  · rw [List.getElem?_set_ne e]
/-- An append to the slice of rows leaves the boxes, the marks and the rows. -/
theorem app_env {we : World} {bl : List (Nat × TypeId × Value)} {H : Nat} {ds : List Deferred} {W W' : World} {base : Nat} {e : TypeId} {v : Value} {n : Nat} {xs : List Value} (h : Env we bl H ds W) (ho : W.ownsRow base e 1 v n xs) (hg : W.grownBy W' v.ownBlock) (hbl : ∀ b ∈ bl, b.2.1 ≠ e) (hw : we.heap.size ≤ base) : Env we bl H ds W' := by
  refine h.kept hg fun r hr => ⟨fun b hb hx => ?_, ?_, .inr fun hx => ?_⟩
  · rcases ho.2 with ⟨rfl, _⟩ | ⟨g', cap', cur, rfl, _, hg, _⟩
    · simp [Value.ownBlock] at hr
    · have : g' = r := by simpa [Value.ownBlock] using hr
      subst this
      exact boxed_typ (h.box b hb) (hbl b hb) cur (by rw [← hx]; exact hg)
  · exact Nat.le_trans hw (ho.lt r hr).1
  · rcases ho.2 with ⟨rfl, _⟩ | ⟨g', cap', cur, rfl, _, hg, _⟩
    · simp [Value.ownBlock] at hr
    · have : g' = r := by simpa [Value.ownBlock] using hr
      subst this
      rw [hg] at hx; cases hx
theorem app_rows {W W' : World} {B g N base base' : Nat} {e eR : TypeId} {hdrs : List Value} {R : List (List Value)} {v : Value} {n : Nat} {xs row : List Value} (h : RowsV W B e hdrs R) (hn : W.ownsRow base' e 1 (.slice (some ⟨g, 0, none⟩) N N) N row) (ho : W.ownsRow base eR 1 v n xs) (hg : W.grownBy W' v.ownBlock) (hne : eR ≠ e) (hB : B ≤ W.heap.size ∧ 0 < N) :
    RowsV W' W'.heap.size e (hdrs ++ [.slice (some ⟨g, 0, none⟩) N N]) (R ++ [row]) := by
  have hx : ∀ r, v.ownBlock = some r → ∀ cur, W.heap[r]? ≠ some (.cells cur e (0, 0)) := by
    intro r hr cur hc
    rcases ho.2 with ⟨rfl, _⟩ | ⟨g', cap', cur', rfl, _, hg', _⟩
    · simp [Value.ownBlock] at hr
    · have : g' = r := by simpa [Value.ownBlock] using hr
      subst this
      rw [hg'] at hc
      injection hc with hc
      injection hc with _ hc
      exact hne hc
  refine ((h.grown hg fun r hr => .inr (hx r hr)).snoc (Nat.le_trans hB.1 hg.size) (hn.kept hg ?_) hB.2)
  cases hv : v.ownBlock with
  | none => right; simp [Value.ownBlock]
  | some r => exact own_ne hn (hx r hv)
theorem any_sub {T : Tab} {i : Nat} {p : Nat → Bool} {xs : List (StpOf T i)} {L : List (Nat × Nat)} (h : xs.map (·.1) = L) : (xs.any fun x => p x.1.2) = L.any fun y => p y.2 := by
  subst h
  rw [List.any_map]
  rfl
set_option maxRecDepth 100000 in
set_option maxHeartbeats 4000000 in
theorem back_any (gm q f n N : Nat) (S : List Str) (T : Tab) (w : World) (hM : MachAt w gm q S T) (hT : TabOk T S.length q) (hq : q ≤ 3) (hS : S.length ≤ 121) (hN : N = S.length) (hf : f < N) (hn : n ≤ 200) :
    Calls Try.prog 48 #[.pointer (some ⟨gm, 0, none⟩), .int .i64 f, .int .i64 n] w fun e w' =>
      e = .returned (.tuple #[.string (bs (if rc T f n f then wayG (rc T f) T n f else [])), .bool (rc T f n f)]) ∧ Below w.heap.size w w' := by
  have hmix : Try.prog.follows .mixedOrders = true := by kernel_rfl
  have hdd : ∀ k : Nat, (Fence.wide.depth.isSome = true → 1 ≤ k) := fun k h => by cases h
  have hmk : ∀ W : World, (Instr.makeSlice 62 (.int .i64 (N : Int)) (.int .i64 (N : Int))).run Try.prog W = .ok (.slice (some ⟨W.heap.size, 0, none⟩) N N) (W.alloc (.cells (madeCells #[.bool false] N) 4)) :=
    fun W => run_make_row' (P := Try.prog) 62 4 (.bool false) 1 (by kernel_rfl) infoB rfl .i64 .i64 N (by omega) (by omega) W
  obtain ⟨iR, hiR, hr0, hr1, hr2⟩ := info_parts infoBs
  have ST := Lib.hid fun n gm i W => steps_in n gm i W
  obtain ⟨gS, cS, gN, cN, hdrs0, h1, h2, h3, h4⟩ := id hM
  have c1 := (h1.cell 1).trans rfl
  have l1 := h1.lt
  have HM := Lib.hid hM
  have HN := Lib.hid hN
  have hN2 : N ≤ 121 := by omega
  rw [← hN] at c1
  clear h1 h2 h3 h4 hM hN
  refine (callsIn_wide (n := 9)).1 ?_
  refine callsIn_of_wp_marks Try.func48 rfl trivial ?_ rfl
  simp only [Try.ntmps48, List.size_toArray, List.length_cons, List.length_nil, Nat.reduceAdd, Nat.reduceSub, Array.replicate_succ, Array.replicate_zero, List.push_toArray, List.append_toArray, List.nil_append, List.cons_append]
  obtain ⟨W1, hW1⟩ : ∃ W1, W1 = ((w.alloc (.cells (madeCells #[.bool false] N) 4)).alloc (.cells #[.slice (some ⟨w.heap.size, 0, none⟩) N N] 62)).alloc (.cells #[.slice (some ⟨w.heap.size + 1, 0, none⟩) 1 1] 61) := ⟨_, rfl⟩
  have o1 : W1.ownsRow w.heap.size 4 1 (.slice (some ⟨w.heap.size, 0, none⟩) N N) N (List.replicate N (.bool false)) := by
    rw [hW1, ← toList_madeCells_one]
    exact ((World.ownsRow_lit w (madeCells #[.bool false] N) N (Nat.le_refl _) (by unfold maxLen; omega) (by rw [← Array.length_toList, toList_madeCells_one]; simp)).alloc _).alloc _
  have s1 := o1.cellAt f (by omega)
  have s2 := o1.frozenAt f
  have s3 : f < (List.replicate N (Value.bool false)).length := by simpa using hf
  rw [List.getElem?_replicate, if_pos hf] at s1
  have O1 := Lib.hid o1
  rw [hW1] at s1 s2
  clear o1
  obtain ⟨W2, hW2⟩ : ∃ W2, W2 = ((w.alloc (.cells ((madeCells #[.bool false] N).setIfInBounds f (.bool true)) 4)).alloc (.cells #[.slice (some ⟨w.heap.size, 0, none⟩) N N] 62)).alloc (.cells #[.slice (some ⟨w.heap.size + 1, 0, none⟩) 1 1] 61) := ⟨_, rfl⟩
  have hl0 : ((madeCells #[.bool false] N).setIfInBounds f (.bool true)).toList = rcRow T f N 0 := by
    rw [Array.toList_setIfInBounds, toList_madeCells_one]
    apply List.ext_getElem?
    intro j
    unfold rcRow
    rw [List.getElem?_map]
    by_cases hj : j < N
    · rw [List.getElem?_range hj]
      by_cases hjf : f = j
      · subst hjf
        rw [List.getElem?_set_self (by simpa using hj)]
        simp [rc]
      · rw [List.getElem?_set_ne hjf, List.getElem?_replicate, if_pos hj]
        have : (j == f) = false := by simpa using fun e => hjf e.symm
        simp [rc, this]
    · rw [List.getElem?_eq_none (by simp; omega), List.getElem?_eq_none (by simp; omega)]
      rfl
  have o2 : W2.ownsRow w.heap.size 4 1 (.slice (some ⟨w.heap.size, 0, none⟩) N N) N (rcRow T f N 0) := by
    rw [hW2, ← hl0]
    exact ((World.ownsRow_lit w _ N (Nat.le_refl _) (by unfold maxLen; omega) (by rw [← Array.length_toList, hl0, rcRow_len]; omega)).alloc _).alloc _
  have r2 := (RowsV.nil W2 w.heap.size 4).snoc (by rw [hW2]; simp; omega) o2 (by omega)
  have o3 : W2.ownsRow w.heap.size 62 1 (.slice (some ⟨w.heap.size + 1, 0, none⟩) 1 1) 1 [.slice (some ⟨w.heap.size, 0, none⟩) N N] := by
    have := (World.ownsRow_lit (base := w.heap.size) (e := 62) (size := 1) (w.alloc (.cells ((madeCells #[.bool false] N).setIfInBounds f (.bool true)) 4)) #[.slice (some ⟨w.heap.size, 0, none⟩) N N] 1 (by simp) (by unfold maxLen; omega) rfl).alloc (.cells #[.slice (some ⟨w.heap.size + 1, 0, none⟩) 1 1] 61)
    simp only [World.size_alloc] at this
    rw [hW2]; exact this
  have E2 : Env w [(w.heap.size + 1 + 1, 61, .slice (some ⟨w.heap.size + 1, 0, none⟩) 1 1)] W2.heap.size [] W2 := by
    have E0 : Env w [] w.heap.size [] w := ⟨fun b hb => absurd hb List.not_mem_nil, bl_refl w, MarksTo.nil _ _ _, Nat.le_refl _⟩
    have := ((E0.below (bl_alloc (bl_alloc (bl_refl w) (.cells ((madeCells #[.bool false] N).setIfInBounds f (.bool true)) 4)) (.cells #[.slice (some ⟨w.heap.size, 0, none⟩) N N] 62))).new 61 (.slice (some ⟨w.heap.size + 1, 0, none⟩) 1 1)).high
    simp only [World.size_alloc] at this
    rw [hW2]; simp only [World.size_alloc]; exact this
  have O2 := Lib.hid (And.intro r2 (And.intro o3 E2))
  clear O1 hl0 o2 r2 o3 E2
  gi_wp2_with fail
  rw [← hW2]
  clear s1 s2 s3 hW2 hW1
  refine wpIn_loop_ghost (fun m a W => ∃ (k : Nat) (ds : List Deferred) (vC : Value) (hdrs : List Value), k ≤ n ∧ m = n - k ∧ Env w [(w.heap.size + 1 + 1, 61, vC)] W.heap.size ds W ∧
    W.ownsRow w.heap.size 62 1 vC (k + 1) hdrs ∧ RowsV W W.heap.size 4 hdrs (rcRows T f N (k + 1)) ∧ a = { tmps := #[.pointer (some ⟨gm, 0, none⟩), .int .i64 f, .int .i64 n, undef, undef, undef, .string ⟨#[]⟩, .bool false, .pointer (some ⟨w.heap.size + 1 + 1, 0, none⟩), (a.tmps.getD 9 undef), (a.tmps.getD 10 undef), (a.tmps.getD 11 undef), (a.tmps.getD 12 undef), (a.tmps.getD 13 undef), undef, undef, undef, undef, undef, (a.tmps.getD 19 undef), (a.tmps.getD 20 undef), (a.tmps.getD 21 undef), (a.tmps.getD 22 undef), (a.tmps.getD 23 undef), (a.tmps.getD 24 undef), (a.tmps.getD 25 undef), (a.tmps.getD 26 undef), (a.tmps.getD 27 undef), (a.tmps.getD 28 undef), (a.tmps.getD 29 undef), (a.tmps.getD 30 undef), .int .i64 n, .int .i64 k, (a.tmps.getD 33 undef), (a.tmps.getD 34 undef), (a.tmps.getD 35 undef), (a.tmps.getD 36 undef), (a.tmps.getD 37 undef), (a.tmps.getD 38 undef), (a.tmps.getD 39 undef), (a.tmps.getD 40 undef), (a.tmps.getD 41 undef), (a.tmps.getD 42 undef), (a.tmps.getD 43 undef), (a.tmps.getD 44 undef), (a.tmps.getD 45 undef), (a.tmps.getD 46 undef), (a.tmps.getD 47 undef), (a.tmps.getD 48 undef), (a.tmps.getD 49 undef), (a.tmps.getD 50 undef), (a.tmps.getD 51 undef), (a.tmps.getD 52 undef), (a.tmps.getD 53 undef), (a.tmps.getD 54 undef), (a.tmps.getD 55 undef), (a.tmps.getD 56 undef), (a.tmps.getD 57 undef), (a.tmps.getD 58 undef), (a.tmps.getD 59 undef), (a.tmps.getD 60 undef), (a.tmps.getD 61 undef), (a.tmps.getD 62 undef), (a.tmps.getD 63 undef), (a.tmps.getD 64 undef), (a.tmps.getD 65 undef), (a.tmps.getD 66 undef), (a.tmps.getD 67 undef), (a.tmps.getD 68 undef), (a.tmps.getD 69 undef), (a.tmps.getD 70 undef), (a.tmps.getD 71 undef), (a.tmps.getD 72 undef), undef, undef, undef, undef, undef, undef, undef, undef, undef, undef, undef, undef, undef, undef, undef, undef, undef, undef, undef, undef, undef, undef, undef, undef, undef, undef, undef, undef, undef, undef, undef, undef, undef], defers := ds }) n ?_ ?_
  · obtain ⟨r2, o3, E2⟩ := O2.out
    exact ⟨0, [], _, _, Nat.zero_le _, rfl, E2, o3, r2, rfl⟩
  · rintro m a W ⟨k, ds, vC, hdrs, hk, rfl, hE, ho, hr, ha⟩
    obtain ⟨u, hu⟩ : ∃ u : Nat → Value, u = fun n => a.tmps.getD n undef := ⟨_, rfl⟩
    have ha' : a = { tmps := #[.pointer (some ⟨gm, 0, none⟩), .int .i64 f, .int .i64 n, undef, undef, undef, .string ⟨#[]⟩, .bool false, .pointer (some ⟨w.heap.size + 1 + 1, 0, none⟩), (u 9), (u 10), (u 11), (u 12), (u 13), undef, undef, undef, undef, undef, (u 19), (u 20), (u 21), (u 22), (u 23), (u 24), (u 25), (u 26), (u 27), (u 28), (u 29), (u 30), .int .i64 n, .int .i64 k, (u 33), (u 34), (u 35), (u 36), (u 37), (u 38), (u 39), (u 40), (u 41), (u 42), (u 43), (u 44), (u 45), (u 46), (u 47), (u 48), (u 49), (u 50), (u 51), (u 52), (u 53), (u 54), (u 55), (u 56), (u 57), (u 58), (u 59), (u 60), (u 61), (u 62), (u 63), (u 64), (u 65), (u 66), (u 67), (u 68), (u 69), (u 70), (u 71), (u 72), undef, undef, undef, undef, undef, undef, undef, undef, undef, undef, undef, undef, undef, undef, undef, undef, undef, undef, undef, undef, undef, undef, undef, undef, undef, undef, undef, undef, undef, undef, undef, undef, undef], defers := ds } := by rw [hu]; exact ha
    clear hu ha
    subst ha'
    have e8 := (hE.box _ (List.mem_cons_self ..)).cell
    have f8 := (hE.box _ (List.mem_cons_self ..)).frozen
    have l8 := (hE.box _ (List.mem_cons_self ..)).lt
    by_cases hlt : k < n
    · obtain ⟨W3, hW3⟩ : ∃ W3, W3 = ((W.alloc (.cells #[.int .i64 k] 3)).alloc (.cells (madeCells #[.bool false] N) 4)).alloc (.cells #[.slice (some ⟨W.heap.size + 1, 0, none⟩) N N] 62) := ⟨_, rfl⟩
      have c1W := (hE.low.cell (p := ⟨gm, 1, none⟩) l1).trans c1
      have HWs := Lib.hid hE.low.size
      have lmW := Nat.lt_of_lt_of_le l1 hE.low.size
      have o3 : W3.ownsRow w.heap.size 4 1 (.slice (some ⟨W.heap.size + 1, 0, none⟩) N N) N (upto (fun j => .bool (rc T f (k + 1) j)) (.bool false) N 0) := by
        have := (World.ownsRow_lit (base := w.heap.size) (e := 4) (size := 1) (W.alloc (.cells #[.int .i64 k] 3)) (madeCells #[.bool false] N) N (by simp; have := hE.low.size; omega) (by unfold maxLen; omega) (by rw [← Array.length_toList, toList_madeCells_one]; simp)).alloc (.cells #[.slice (some ⟨W.heap.size + 1, 0, none⟩) N N] 62)
        simp only [World.size_alloc] at this
        rw [hW3, upto_zero, ← toList_madeCells_one]; exact this
      have hb3 : Below W.heap.size W W3 := by rw [hW3]; exact bl_alloc (bl_alloc (bl_alloc (bl_refl W) _) _) _
      have E3 := ((((hE.new 3 (.int .i64 k)).below (bl_alloc (bl_refl _) (.cells (madeCells #[.bool false] N) 4))).new 62 (.slice (some ⟨W.heap.size + 1, 0, none⟩) N N))).high
      simp only [World.size_alloc] at E3
      rw [← hW3] at E3
      have hz3 : W3.heap.size = W.heap.size + 3 := by rw [hW3]; simp
      have B3 : Bk w 4 62 [(W.heap.size + 1 + 1, 62, .slice (some ⟨W.heap.size + 1, 0, none⟩) N N), (W.heap.size, 3, .int .i64 k), (w.heap.size + 1 + 1, 61, vC)] W3.heap.size ds vC hdrs (rcRows T f N (k + 1)) (W.heap.size + 1) N (upto (fun j => .bool (rc T f (k + 1) j)) (.bool false) N 0) W3 :=
        ⟨by rw [show W3.heap.size = W.heap.size + 1 + 1 + 1 by omega]; exact E3, by rw [rcRows_len]; exact own_kept ho hb3, (hr.kept hb3).mono (by omega), o3⟩
      have hgC := own_form ho (by omega)
      obtain ⟨gC, cC, rfl, hgC1, hgC2⟩ := hgC
      have B3 := Lib.hid B3
      clear hE ho hr o3 E3 hb3 hgC1 hgC2
      gi_wp2_with fail
      rw [← hW3]
      clear hW3
      refine wpIn_loop_ghost (fun m a W' => ∃ (i : Nat) (ds' : List Deferred), i ≤ N ∧ m = N - i ∧ Bk w 4 62 [(W.heap.size + 1 + 1, 62, .slice (some ⟨W.heap.size + 1, 0, none⟩) N N), (W.heap.size, 3, .int .i64 k), (w.heap.size + 1 + 1, 61, .slice (some ⟨gC, 0, none⟩) (k + 1) cC)] W'.heap.size ds' (.slice (some ⟨gC, 0, none⟩) (k + 1) cC) hdrs (rcRows T f N (k + 1)) (W.heap.size + 1) N (upto (fun j => .bool (rc T f (k + 1) j)) (.bool false) N i) W' ∧
        a = { tmps := #[.pointer (some ⟨gm, 0, none⟩), .int .i64 f, .int .i64 n, undef, undef, undef, .string ⟨#[]⟩, .bool false, .pointer (some ⟨w.heap.size + 1 + 1, 0, none⟩), .pointer (some ⟨W.heap.size, 0, none⟩), .pointer (some ⟨W.heap.size + 1 + 1, 0, none⟩), (a.tmps.getD 11 undef), (a.tmps.getD 12 undef), (a.tmps.getD 13 undef), undef, undef, undef, undef, undef, (a.tmps.getD 19 undef), (a.tmps.getD 20 undef), (a.tmps.getD 21 undef), (a.tmps.getD 22 undef), (a.tmps.getD 23 undef), (a.tmps.getD 24 undef), (a.tmps.getD 25 undef), (a.tmps.getD 26 undef), (a.tmps.getD 27 undef), (a.tmps.getD 28 undef), (a.tmps.getD 29 undef), (a.tmps.getD 30 undef), .int .i64 n, .int .i64 k, (a.tmps.getD 33 undef), (a.tmps.getD 34 undef), (a.tmps.getD 35 undef), (a.tmps.getD 36 undef), (a.tmps.getD 37 undef), (a.tmps.getD 38 undef), (a.tmps.getD 39 undef), (a.tmps.getD 40 undef), (a.tmps.getD 41 undef), .int .i64 N, .int .i64 i, (a.tmps.getD 44 undef), (a.tmps.getD 45 undef), (a.tmps.getD 46 undef), (a.tmps.getD 47 undef), (a.tmps.getD 48 undef), (a.tmps.getD 49 undef), (a.tmps.getD 50 undef), (a.tmps.getD 51 undef), (a.tmps.getD 52 undef), (a.tmps.getD 53 undef), (a.tmps.getD 54 undef), (a.tmps.getD 55 undef), (a.tmps.getD 56 undef), (a.tmps.getD 57 undef), (a.tmps.getD 58 undef), (a.tmps.getD 59 undef), (a.tmps.getD 60 undef), (a.tmps.getD 61 undef), (a.tmps.getD 62 undef), (a.tmps.getD 63 undef), (a.tmps.getD 64 undef), (a.tmps.getD 65 undef), (a.tmps.getD 66 undef), (a.tmps.getD 67 undef), (a.tmps.getD 68 undef), (a.tmps.getD 69 undef), (a.tmps.getD 70 undef), (a.tmps.getD 71 undef), (a.tmps.getD 72 undef), undef, undef, undef, undef, undef, undef, undef, undef, undef, undef, undef, undef, undef, undef, undef, undef, undef, undef, undef, undef, undef, undef, undef, undef, undef, undef, undef, undef, undef, undef, undef, undef, undef], defers := ds' }) N ?_ ?_
      · exact ⟨0, ds, Nat.zero_le _, rfl, B3.out, rfl⟩
      · clear u
        rintro m a W' ⟨i, ds', hi, rfl, hB, ha⟩
        obtain ⟨u, hu⟩ : ∃ u : Nat → Value, u = fun n => a.tmps.getD n undef := ⟨_, rfl⟩
        have ha' : a = { tmps := #[.pointer (some ⟨gm, 0, none⟩), .int .i64 f, .int .i64 n, undef, undef, undef, .string ⟨#[]⟩, .bool false, .pointer (some ⟨w.heap.size + 1 + 1, 0, none⟩), .pointer (some ⟨W.heap.size, 0, none⟩), .pointer (some ⟨W.heap.size + 1 + 1, 0, none⟩), (u 11), (u 12), (u 13), undef, undef, undef, undef, undef, (u 19), (u 20), (u 21), (u 22), (u 23), (u 24), (u 25), (u 26), (u 27), (u 28), (u 29), (u 30), .int .i64 n, .int .i64 k, (u 33), (u 34), (u 35), (u 36), (u 37), (u 38), (u 39), (u 40), (u 41), .int .i64 N, .int .i64 i, (u 44), (u 45), (u 46), (u 47), (u 48), (u 49), (u 50), (u 51), (u 52), (u 53), (u 54), (u 55), (u 56), (u 57), (u 58), (u 59), (u 60), (u 61), (u 62), (u 63), (u 64), (u 65), (u 66), (u 67), (u 68), (u 69), (u 70), (u 71), (u 72), undef, undef, undef, undef, undef, undef, undef, undef, undef, undef, undef, undef, undef, undef, undef, undef, undef, undef, undef, undef, undef, undef, undef, undef, undef, undef, undef, undef, undef, undef, undef, undef, undef], defers := ds' } := by rw [hu]; exact ha
        clear hu ha
        subst ha'
        by_cases hiN : i < N
        · obtain ⟨vC, hvC⟩ : ∃ vC, vC = Value.slice (some ⟨gC, 0, none⟩) (k + 1) cC := ⟨_, rfl⟩
          obtain ⟨Wi, hWi⟩ : ∃ Wi, Wi = W'.alloc (.cells #[.int .i64 i] 3) := ⟨_, rfl⟩
          have hbi : Below W'.heap.size W' Wi := by rw [hWi]; exact bl_alloc (bl_refl _) _
          have HZI : Hid (Wi.heap.size = W'.heap.size + 1) := Lib.hid (by rw [hWi]; simp)
          have Bi : Bk w 4 62 [(W'.heap.size, 3, .int .i64 i), (W.heap.size + 1 + 1, 62, .slice (some ⟨W.heap.size + 1, 0, none⟩) N N), (W.heap.size, 3, .int .i64 k), (w.heap.size + 1 + 1, 61, .slice (some ⟨gC, 0, none⟩) (k + 1) cC)] W'.heap.size ds' (.slice (some ⟨gC, 0, none⟩) (k + 1) cC) hdrs (rcRows T f N (k + 1)) (W.heap.size + 1) N (upto (fun j => .bool (rc T f (k + 1) j)) (.bool false) N i) Wi :=
            ⟨by rw [hWi]; exact hB.env.new _ _, own_kept hB.out hbi, hB.rows.kept hbi, own_kept hB.now hbi⟩
          have hi' : i < S.length := by have := HN.out; omega
          have Bi := Lib.hid Bi
          have HW := Lib.hid hB.env.low
          have lW' : W.heap.size + 1 < W'.heap.size := (hB.now.lt _ rfl).2
          clear hB B3 hvC hbi
          gi_wp2_with fail
          refine ⟨trivial, ?_⟩
          rw [← hWi]
          clear hWi
          refine (ST.out _ _ _ _).mono ?_
          rintro e w5 ⟨rfl, hw5⟩
          obtain ⟨bx1, bx2⟩ : Boxed w5 Wi.heap.size 56 (.pointer (some ⟨gm, 0, none⟩)) ∧ Boxed w5 (Wi.heap.size + 1) 3 (.int .i64 i) := by
            rw [hw5]
            refine ⟨(Boxed.new Wi _ _).alloc _, ?_⟩
            have := Boxed.new (Wi.alloc (.cells #[.pointer (some ⟨gm, 0, none⟩)] 56)) 3 (.int .i64 i)
            rwa [World.size_alloc] at this
          have HZ5 : Hid (w5.heap.size = Wi.heap.size + 2) := Lib.hid (by rw [hw5]; simp)
          have B5 : Bk w 4 62 [(W'.heap.size, 3, .int .i64 i), (W.heap.size + 1 + 1, 62, .slice (some ⟨W.heap.size + 1, 0, none⟩) N N), (W.heap.size, 3, .int .i64 k), (w.heap.size + 1 + 1, 61, .slice (some ⟨gC, 0, none⟩) (k + 1) cC)] w5.heap.size ds' (.slice (some ⟨gC, 0, none⟩) (k + 1) cC) hdrs (rcRows T f N (k + 1)) (W.heap.size + 1) N (upto (fun j => .bool (rc T f (k + 1) j)) (.bool false) N i) w5 := by
            have hb5 : Below Wi.heap.size Wi w5 := by rw [hw5]; exact bl_alloc (bl_alloc (bl_refl Wi) _) _
            exact ⟨(Bi.out.env.below hb5).high, own_kept Bi.out.out hb5, Bi.out.rows.kept hb5, own_kept Bi.out.now hb5⟩
          have B5s := Lib.hid B5.env.low.size
          have B5 := Lib.hid B5
          clear hw5 Bi
          gi_wp2_with fail
          refine wpIn_rangeFunc_ownG (w0 := w5) rfl (by omega) (gf := 50) (lb := #[.pointer (some ⟨Wi.heap.size, 0, none⟩), .pointer (some ⟨Wi.heap.size + 1, 0, none⟩)]) rfl trivial (enters_of Try.func50 (by kernel_rfl) rfl)
            (steps_stops 8 gm q Wi.heap.size (Wi.heap.size + 1) i _ _ w w5 HM.out hT hq hS hi' B5.out.env.low (by have := HZ5.out; omega) bx1.cell (by have := HZ5.out; omega) bx2.cell) belowK_t (belowK_b (by have := B5.out.env.low.size; omega)) (Below.refl _ _) (fun _ => rfl)
            (fun pre X => Bk w 4 62 [(W'.heap.size, 3, .int .i64 i), (W.heap.size + 1 + 1, 62, .slice (some ⟨W.heap.size + 1, 0, none⟩) N N), (W.heap.size, 3, .int .i64 k), (w.heap.size + 1 + 1, 61, .slice (some ⟨gC, 0, none⟩) (k + 1) cC)] w5.heap.size ds' (.slice (some ⟨gC, 0, none⟩) (k + 1) cC) hdrs (rcRows T f N (k + 1)) (W.heap.size + 1) N ((upto (fun j => .bool (rc T f (k + 1) j)) (.bool false) N i).set i (.bool (pre.any fun x => rc T f k x.1.2))) X)
            (fun c pre X => False)
            ?o1 (fun c s A D row hs hg hr => hs.elim) (by show Bk _ _ _ _ _ _ _ _ _ _ _ _ _; rw [show (([] : List (StpOf T i)).any fun x => rc T f k x.1.2) = false from rfl, upto_same _ _ hiN]; exact B5.out)
            (fun x => { tmps := #[.pointer (some ⟨gm, 0, none⟩), .int .i64 f, .int .i64 n, undef, undef, undef, .string ⟨#[]⟩, .bool false, .pointer (some ⟨w.heap.size + 1 + 1, 0, none⟩), .pointer (some ⟨W.heap.size, 0, none⟩), .pointer (some ⟨W.heap.size + 1 + 1, 0, none⟩), .pointer (some ⟨W'.heap.size, 0, none⟩), (u 12), .int .i64 x.1.2, undef, undef, undef, undef, undef, (u 19), (u 20), (u 21), (u 22), (u 23), (u 24), (u 25), (u 26), (u 27), (u 28), (u 29), (u 30), .int .i64 n, .int .i64 k, (u 33), (u 34), (u 35), (u 36), (u 37), (u 38), (u 39), (u 40), (u 41), .int .i64 N, .int .i64 i, .bool true, .int .i64 i, .pointer (some ⟨gm, 0, none⟩), .int .i64 i, .func (.func 50) #[] #[.pointer (some ⟨Wi.heap.size, 0, none⟩), .pointer (some ⟨Wi.heap.size + 1, 0, none⟩)], .string (bs [ltr x.1.1]), .int .i64 x.1.2, (u 51), (u 52), (u 53), (u 54), (u 55), (u 56), (u 57), (u 58), (u 59), (u 60), (u 61), (u 62), (u 63), (u 64), (u 65), (u 66), (u 67), (u 68), (u 69), (u 70), (u 71), (u 72), undef, undef, undef, undef, undef, undef, undef, undef, undef, undef, undef, undef, undef, undef, undef, undef, undef, undef, undef, undef, undef, undef, undef, undef, undef, undef, undef, undef, undef, undef, undef, undef, undef], defers := [] }) ?assign ?body ?done ?stop
          case o1 =>
            rintro s A D row hs hg hr
            exact Bk.own (β := Unit) B5.out.env.low.size (Nat.le_refl _) () A D row hs hg hr
          case assign =>
            intro l x X K hK
            dsimp only [encP]
            gi_wp2
            exact hK
          case stop =>
            rintro D c pre X _ _ h _
            exact h.elim
          case done =>
            rintro D xs X hD hxs hX hKD
            have hany : (xs.any fun x => rc T f k x.1.2) = rc T f (k + 1) i := any_sub hxs
            rw [hany, show (Value.bool (rc T f (k + 1) i)) = (fun j => .bool (rc T f (k + 1) j)) i from rfl, upto_set _ _ hiN] at hX
            have HX := Lib.hid hX
            have HKD := Lib.hid hKD
            clear hX hKD hxs B5 bx1 bx2
            gi_wp2_with fail
            exact ⟨N - (i + 1), by omega, i + 1, _, by omega, rfl, ⟨(HX.out.env.push (by have := B5s.out; omega) hD HKD.out).less (fun y hy => List.mem_cons_of_mem _ hy), HX.out.out, HX.out.rows, HX.out.now⟩, rfl⟩
          case body =>
            rintro l pre ⟨⟨c, j⟩, hmem⟩ X hX _
            dsimp only
            obtain ⟨hcq, hjn⟩ := hT.stp hi' hmem
            have e11 := (hX.env.box (W'.heap.size, 3, .int .i64 i) (by simp)).cell
            have e10 := (hX.env.box (W.heap.size + 1 + 1, 62, .slice (some ⟨W.heap.size + 1, 0, none⟩) N N) (by simp)).cell
            have e9 := (hX.env.box (W.heap.size, 3, .int .i64 k) (by simp)).cell
            have e8 := (hX.env.box (w.heap.size + 1 + 1, 61, .slice (some ⟨gC, 0, none⟩) (k + 1) cC) (by simp)).cell
            have l11 := (hX.env.box (W'.heap.size, 3, .int .i64 i) (by simp)).lt
            have l10 := (hX.env.box (W.heap.size + 1 + 1, 62, .slice (some ⟨W.heap.size + 1, 0, none⟩) N N) (by simp)).lt
            have l9 := (hX.env.box (W.heap.size, 3, .int .i64 k) (by simp)).lt
            have l8 := (hX.env.box (w.heap.size + 1 + 1, 61, .slice (some ⟨gC, 0, none⟩) (k + 1) cC) (by simp)).lt
            have hjN : j < N := by have := HN.out; omega
            have hgl := (hX.now.lt _ rfl).2
            have hgC := (hX.out.lt _ rfl).2
            dsimp only at l11 l10 l9 l8
            obtain ⟨bR, cR, q1, q2, q3, q4⟩ := hX.rows.at (i := k) (by rw [rcRows_len]; omega)
            rw [rcRows_at T f N (by omega : k < k + 1), rcRow_len] at q1 q4
            have q5 := q4 j hjN
            rw [rcRow_at T f hjN] at q5
            have q6 := (show X.ownsRow w.heap.size 62 1 (.slice (some ⟨gC, 0, none⟩) (k + 1) cC) (k + 1) hdrs by have h := hX.out; rwa [rcRows_len] at h).cellAt k (by omega)
            rw [q1] at q6
            have q7 := hX.now.cellAt i (by omega)
            rw [List.getElem?_set_self (by rw [upto_len]; exact hiN)] at q7
            have q8 := hX.now.frozenAt i
            obtain ⟨b, hb⟩ : ∃ b, b = pre.any fun x => rc T f k x.1.2 := ⟨_, rfl⟩
            obtain ⟨r, hr⟩ : ∃ r, r = rc T f k j := ⟨_, rfl⟩
            rw [← hr] at q5
            have hS2 : ∀ u : Bool, u = (b || r) → ∀ nq, Bk w 4 62 [(W'.heap.size, 3, .int .i64 i), (W.heap.size + 1 + 1, 62, .slice (some ⟨W.heap.size + 1, 0, none⟩) N N), (W.heap.size, 3, .int .i64 k), (w.heap.size + 1 + 1, 61, .slice (some ⟨gC, 0, none⟩) (k + 1) cC)] w5.heap.size ds' (.slice (some ⟨gC, 0, none⟩) (k + 1) cC) hdrs (rcRows T f N (k + 1)) (W.heap.size + 1) N ((upto (fun j => .bool (rc T f (k + 1) j)) (.bool false) N i).set i (.bool ((pre ++ [(⟨(c, j), hmem⟩ : StpOf T i)]).any fun x => rc T f k x.1.2))) ((X.drewN nq).setCell ⟨W.heap.size + 1, i, none⟩ (.bool u)) := by
              intro u hu nq
              rw [hr] at hu
              have := (hX.draw nq).store (by intro b hb; simp at hb; rcases hb with rfl | rfl | rfl | rfl <;> (dsimp only; decide)) (by decide) i (.bool u)
              rw [List.set_set] at this
              rw [List.any_append, ← hb, show ([(⟨(c, j), hmem⟩ : StpOf T i)].any fun x => rc T f k x.1.2) = rc T f k j by simp, ← hu]
              exact this
            rw [← hb] at q7
            have HS2 := Lib.hid hS2
            have HXw := Lib.hid hX.env.low.size
            clear hX hS2 hb hr q1 q4 B5 bx1 bx2 q2
            cases b
            · gi_wp2_with fail
              refine wpIn_region_tail_round 16 rfl hmix (by kernel_rfl) (by intro o ho c h; simp at ho; rcases ho with rfl | rfl | rfl | rfl | rfl | rfl | rfl | rfl | rfl | rfl | rfl | rfl | rfl | rfl | rfl | rfl | rfl <;> cases h) ?_
              simp only [List.take_succ_cons, List.take_zero, List.drop_succ_cons, List.drop_zero]
              repeat (gi_big_quiet_step (fail))
              refine wpQuietIn_nil ?_
              rintro _ ⟨nq, rfl⟩
              gi_wp2_with fail
              exact ⟨(keeps_drewN _ X nq).trans ((KeepsOthers.setCell (X.drewN nq) ⟨W.heap.size + 1, i, none⟩ _).from _), ((Below.refl w.heap.size X).grown (grown_drew X nq) HXw.out (fun r e => by cases e)).setCell (by show w.heap.size ≤ W.heap.size + 1; have := HWs.out; omega) _, HS2.out _ (by simp) nq⟩
            · gi_wp2_with fail
              refine wpIn_region_tail_round 16 rfl hmix (by kernel_rfl) (by intro o ho c h; simp at ho; rcases ho with rfl | rfl | rfl | rfl | rfl | rfl | rfl | rfl | rfl | rfl | rfl | rfl | rfl | rfl | rfl | rfl | rfl <;> cases h) ?_
              simp only [List.take_succ_cons, List.take_zero, List.drop_succ_cons, List.drop_zero]
              repeat (gi_big_quiet_step (fail))
              refine wpQuietIn_nil ?_
              rintro _ ⟨nq, rfl⟩
              gi_wp2_with fail
              exact ⟨(keeps_drewN _ X nq).trans ((KeepsOthers.setCell (X.drewN nq) ⟨W.heap.size + 1, i, none⟩ _).from _), ((Below.refl w.heap.size X).grown (grown_drew X nq) HXw.out (fun r e => by cases e)).setCell (by show w.heap.size ≤ W.heap.size + 1; have := HWs.out; omega) _, HS2.out _ (by simp) nq⟩
        · have ei : i = N := by omega
          subst ei
          have e10 := (hB.env.box (W.heap.size + 1 + 1, 62, .slice (some ⟨W.heap.size + 1, 0, none⟩) i i) (by simp)).cell
          have e8 := (hB.env.box (w.heap.size + 1 + 1, 61, .slice (some ⟨gC, 0, none⟩) (k + 1) cC) (by simp)).cell
          have l10 := (hB.env.box (W.heap.size + 1 + 1, 62, .slice (some ⟨W.heap.size + 1, 0, none⟩) i i) (by simp)).lt
          have l8 := (hB.env.box (w.heap.size + 1 + 1, 61, .slice (some ⟨gC, 0, none⟩) (k + 1) cC) (by simp)).lt
          dsimp only at l10 l8
          have hnow := hB.now
          rw [upto_full, show (List.range i).map (fun j => Value.bool (rc T f (k + 1) j)) = rcRow T f i (k + 1) from rfl] at hnow
          have hout := hB.out
          rw [rcRows_len] at hout
          have hbA := bl_alloc (bl_refl W') (.cells #[.slice (some ⟨W.heap.size + 1, 0, none⟩) i i] 62)
          have EA := (((hB.env.less (bl' := [(w.heap.size + 1 + 1, 61, .slice (some ⟨gC, 0, none⟩) (k + 1) cC)]) (by intro y hy; simp at hy; subst hy; simp)).below hbA))
          have RA := hB.rows.kept hbA
          have NA := own_kept hnow hbA
          have OA := own_kept hout hbA
          have hlw := hB.env.low.size
          have gC1 := hout.lt _ rfl
          have HA := Lib.hid (And.intro EA (And.intro RA (And.intro NA OA)))
          have NB := hnow.lt _ rfl
          dsimp only at NB
          clear hB B3 EA RA NA hnow hout hbA
          gi_wp2_with (gi_at_builtin; refine wpListIn_append_own _ rfl (.tmp 68) (.tmp 70) _ rfl w.heap.size 62 iR _ 1 24 Try.underlying61 hiR hr0 hr1 hr2 rfl (by decide) (.slice (some ⟨gC, 0, none⟩) (k + 1) cC) (k + 1) hdrs rfl OA ⟨W'.heap.size, 0, none⟩ 1 1 [.slice (some ⟨W.heap.size + 1, 0, none⟩) i i] rfl rfl (cells_new _ _ _) (by intro u hu; rw [List.mem_singleton.1 hu]; rfl) (by unfold maxLen; omega) (by omega) (by simp; omega) ?_; intro v6 w6 hown6 hg6 _; obtain ⟨g6, cap6, rfl, hg61, hg62⟩ := own_form hown6 (by omega); have E6 := app_env HA.out.1 OA hg6 (by intro y hy; rw [List.mem_singleton.1 hy]; exact (by decide : (61 : TypeId) ≠ 62)) (Nat.le_refl _); have e68 := (E6.box _ (List.mem_cons_self ..)).cell; have l68 := (E6.box _ (List.mem_cons_self ..)).lt; have f68 := (E6.box _ (List.mem_cons_self ..)).frozen; dsimp only at e68 l68 f68; have E6 := Lib.hid E6; have R6 := Lib.hid (app_rows HA.out.2.1 HA.out.2.2.1 OA hg6 (by decide) (by simp; omega)); have hown6 := Lib.hid hown6; clear hg6)
          have b8 : Boxed w6 (w.heap.size + 1 + 1) 61 _ := E6.out.box _ (List.mem_cons_self ..)
          refine ⟨n - (k + 1), by omega, k + 1, by omega, rfl, ds', _, E6.out.high.set (b := w.heap.size + 1 + 1) (t := 61) (List.mem_cons_self ..) _ (by omega) (by intro x hx; exact .inl (List.mem_singleton.1 hx)), _,
            hown6.out.kept (grown_set w6 (w.heap.size + 1 + 1) 0 _) (own_ne hown6.out (boxed_typ b8 (by decide))), ?_, by omega, rfl⟩
          rw [rcRows_succ]
          exact R6.out.grown (grown_set w6 (w.heap.size + 1 + 1) 0 _) (fun r e => by cases e; exact .inr (boxed_typ b8 (by decide)))
    · obtain rfl : k = n := by omega
      obtain ⟨gC, cC, rfl, hgC1, hgC2⟩ := own_form ho (by omega)
      obtain ⟨bR, cR, q1, q2, q3, q4⟩ := hr.at (i := k) (by rw [rcRows_len]; omega)
      rw [rcRows_at T f N (by omega : k < k + 1), rcRow_len] at q1 q4
      have q5 := q4 f hf
      rw [rcRow_at T f hf] at q5
      have q6 := ho.cellAt k (by omega)
      rw [q1] at q6
      have QQ : Hid (∀ j m, m < k + 1 → j < N → ∃ b c, b < W.heap.size ∧ W.cell? ⟨gC, m, none⟩ = some (.slice (some ⟨b, 0, none⟩) N c) ∧ W.cell? ⟨b, j, none⟩ = some (.bool (rc T f m j))) := by
        refine Lib.hid fun j m hm hj => ?_
        obtain ⟨b, c, q1, q2, q3, q4⟩ := hr.at (i := m) (by rw [rcRows_len]; omega)
        rw [rcRows_at T f N hm, rcRow_len] at q1 q4
        exact ⟨b, c, q3, (ho.cellAt m (by omega)).trans q1, (q4 j hj).trans (rcRow_at T f hj)⟩
      have HE := Lib.hid hE
      have LW8 : Hid (w.heap.size + 1 + 1 < W.heap.size) := Lib.hid l8
      clear hE ho hr q4 O2 q1 q2
      clear hk hlt
      cases hrc : rc T f k f with
      | false =>
        rw [hrc] at q5
        gi_wp2_with fail
        refine leaves_marks ds _ HE.out.marks.marks HE.out.low.size (fun w' hb => ⟨_, results_tmp2 rfl _ _ _, rfl, HE.out.low.trans hb⟩)
      | true =>
        rw [hrc] at q5
        obtain ⟨W4, hW4⟩ : ∃ W4, W4 = (((W.alloc (.cells #[.string ⟨#[]⟩] 9)).alloc (.cells #[.int .i64 f] 3)).alloc (.cells #[.int .i64 ((k : Int) - 1)] 3)) := ⟨_, rfl⟩
        have E4 := (((HE.out.new 9 (.string ⟨#[]⟩)).new 3 (.int .i64 f)).new 3 (.int .i64 ((k : Int) - 1))).high
        simp only [World.size_alloc] at E4
        have hb4 : Below W.heap.size W W4 := by rw [hW4]; exact bl_alloc (bl_alloc (bl_alloc (bl_refl W) _) _) _
        rw [← hW4] at E4
        have hz4 : W4.heap.size = W.heap.size + 3 := by rw [hW4]; simp
        rw [show W.heap.size + 1 + 1 + 1 = W4.heap.size by omega] at E4
        have E4 := Lib.hid (And.intro E4 hb4)
        clear hb4 hz4
        gi_wp2_with fail
        rw [← hW4]
        clear hW4
        refine wpIn_loop_ghost (fun m a X => ∃ (b16 i : Nat) (kk : Int) (out : Str) (ds : List Deferred), i < N ∧ kk = (m : Int) - 1 ∧ m ≤ k ∧ rc T f m i = true ∧ out.length + m = k ∧ out ++ wayG (rc T f) T m i = wayG (rc T f) T k f ∧ W.heap.size + 1 < b16 ∧
          Env w [(b16, 3, .int .i64 kk), (W.heap.size + 1, 3, .int .i64 i), (W.heap.size, 9, .string (bs out)), (w.heap.size + 1 + 1, 61, .slice (some ⟨gC, 0, none⟩) (k + 1) cC)] X.heap.size ds X ∧ Below W.heap.size W X ∧
          a = { tmps := #[.pointer (some ⟨gm, 0, none⟩), .int .i64 f, .int .i64 k, undef, undef, undef, .string ⟨#[]⟩, .bool false, .pointer (some ⟨w.heap.size + 1 + 1, 0, none⟩), (a.tmps.getD 9 undef), (a.tmps.getD 10 undef), (a.tmps.getD 11 undef), (a.tmps.getD 12 undef), (a.tmps.getD 13 undef), .pointer (some ⟨W.heap.size, 0, none⟩), .pointer (some ⟨W.heap.size + 1, 0, none⟩), .pointer (some ⟨b16, 0, none⟩), undef, undef, (a.tmps.getD 19 undef), (a.tmps.getD 20 undef), (a.tmps.getD 21 undef), (a.tmps.getD 22 undef), (a.tmps.getD 23 undef), (a.tmps.getD 24 undef), (a.tmps.getD 25 undef), (a.tmps.getD 26 undef), (a.tmps.getD 27 undef), (a.tmps.getD 28 undef), (a.tmps.getD 29 undef), (a.tmps.getD 30 undef), (a.tmps.getD 31 undef), (a.tmps.getD 32 undef), (a.tmps.getD 33 undef), (a.tmps.getD 34 undef), (a.tmps.getD 35 undef), (a.tmps.getD 36 undef), (a.tmps.getD 37 undef), (a.tmps.getD 38 undef), (a.tmps.getD 39 undef), (a.tmps.getD 40 undef), (a.tmps.getD 41 undef), (a.tmps.getD 42 undef), (a.tmps.getD 43 undef), (a.tmps.getD 44 undef), (a.tmps.getD 45 undef), (a.tmps.getD 46 undef), (a.tmps.getD 47 undef), (a.tmps.getD 48 undef), (a.tmps.getD 49 undef), (a.tmps.getD 50 undef), (a.tmps.getD 51 undef), (a.tmps.getD 52 undef), (a.tmps.getD 53 undef), (a.tmps.getD 54 undef), (a.tmps.getD 55 undef), (a.tmps.getD 56 undef), (a.tmps.getD 57 undef), (a.tmps.getD 58 undef), (a.tmps.getD 59 undef), (a.tmps.getD 60 undef), (a.tmps.getD 61 undef), (a.tmps.getD 62 undef), (a.tmps.getD 63 undef), (a.tmps.getD 64 undef), (a.tmps.getD 65 undef), (a.tmps.getD 66 undef), (a.tmps.getD 67 undef), (a.tmps.getD 68 undef), (a.tmps.getD 69 undef), (a.tmps.getD 70 undef), (a.tmps.getD 71 undef), (a.tmps.getD 72 undef), (a.tmps.getD 73 undef), (a.tmps.getD 74 undef), (a.tmps.getD 75 undef), (a.tmps.getD 76 undef), (a.tmps.getD 77 undef), (a.tmps.getD 78 undef), (a.tmps.getD 79 undef), (a.tmps.getD 80 undef), (a.tmps.getD 81 undef), (a.tmps.getD 82 undef), (a.tmps.getD 83 undef), (a.tmps.getD 84 undef), (a.tmps.getD 85 undef), (a.tmps.getD 86 undef), (a.tmps.getD 87 undef), (a.tmps.getD 88 undef), (a.tmps.getD 89 undef), (a.tmps.getD 90 undef), undef, undef, undef, undef, undef, undef, undef, undef, undef, undef, undef, undef, undef, (a.tmps.getD 104 undef), undef], defers := ds }) k ?_ ?_
        · exact ⟨W.heap.size + 1 + 1, f, (k : Int) - 1, [], ds, hf, rfl, Nat.le_refl _, hrc, by simp, rfl, by omega, E4.out.1, E4.out.2, rfl⟩
        · clear u
          rintro m a X ⟨b16, i, kk, out, ds, hi, hkk, hmk, hri, hol, how, hb16, hE, hbX, ha⟩
          obtain ⟨u, hu⟩ : ∃ u : Nat → Value, u = fun n => a.tmps.getD n undef := ⟨_, rfl⟩
          have ha' : a = { tmps := #[.pointer (some ⟨gm, 0, none⟩), .int .i64 f, .int .i64 k, undef, undef, undef, .string ⟨#[]⟩, .bool false, .pointer (some ⟨w.heap.size + 1 + 1, 0, none⟩), (u 9), (u 10), (u 11), (u 12), (u 13), .pointer (some ⟨W.heap.size, 0, none⟩), .pointer (some ⟨W.heap.size + 1, 0, none⟩), .pointer (some ⟨b16, 0, none⟩), undef, undef, (u 19), (u 20), (u 21), (u 22), (u 23), (u 24), (u 25), (u 26), (u 27), (u 28), (u 29), (u 30), (u 31), (u 32), (u 33), (u 34), (u 35), (u 36), (u 37), (u 38), (u 39), (u 40), (u 41), (u 42), (u 43), (u 44), (u 45), (u 46), (u 47), (u 48), (u 49), (u 50), (u 51), (u 52), (u 53), (u 54), (u 55), (u 56), (u 57), (u 58), (u 59), (u 60), (u 61), (u 62), (u 63), (u 64), (u 65), (u 66), (u 67), (u 68), (u 69), (u 70), (u 71), (u 72), (u 73), (u 74), (u 75), (u 76), (u 77), (u 78), (u 79), (u 80), (u 81), (u 82), (u 83), (u 84), (u 85), (u 86), (u 87), (u 88), (u 89), (u 90), undef, undef, undef, undef, undef, undef, undef, undef, undef, undef, undef, undef, undef, (u 104), undef], defers := ds } := by rw [hu]; exact ha
          clear hu ha
          subst ha'
          have e16 := (hE.box _ (List.mem_cons_self ..)).cell
          have l16 := (hE.box _ (List.mem_cons_self ..)).lt
          have e15 := (hE.box (W.heap.size + 1, 3, .int .i64 i) (by simp)).cell
          have l15 := (hE.box (W.heap.size + 1, 3, .int .i64 i) (by simp)).lt
          have e14 := (hE.box (W.heap.size, 9, .string (bs out)) (by simp)).cell
          have l14 := (hE.box (W.heap.size, 9, .string (bs out)) (by simp)).lt
          dsimp only at e16 l16 l15 l14
          have HE := Lib.hid hE
          have HBX := Lib.hid hbX
          have HRI := Lib.hid hri
          have HOW := Lib.hid how
          have HOL := Lib.hid hol
          clear hE E4 hbX hri how hol q5 q6 q3
          by_cases hm0 : m = 0
          · subst hm0
            obtain rfl : kk = -1 := by omega
            clear hkk
            gi_wp2_with fail
            refine leaves_marks ds _ HE.out.marks.marks HE.out.low.size (fun w' hb => ⟨_, results_tmp2 rfl _ _ _, ?_, HE.out.low.trans hb⟩)
            have := HOW.out
            rw [wayG, List.append_nil] at this
            rw [this]; rfl
          · obtain ⟨k', rfl⟩ : ∃ k', m = k' + 1 := ⟨m - 1, by omega⟩
            obtain rfl : kk = (k' : Int) := by omega
            clear hkk
            gi_wp2_with fail
            refine ⟨trivial, ?_⟩
            refine (ST.out _ _ _ _).mono ?_
            rintro e w5 ⟨rfl, hw5⟩
            obtain ⟨bx1, bx2⟩ : Boxed w5 X.heap.size 56 (.pointer (some ⟨gm, 0, none⟩)) ∧ Boxed w5 (X.heap.size + 1) 3 (.int .i64 i) := by
              rw [hw5]
              refine ⟨(Boxed.new X _ _).alloc _, ?_⟩
              have := Boxed.new (X.alloc (.cells #[.pointer (some ⟨gm, 0, none⟩)] 56)) 3 (.int .i64 i)
              rwa [World.size_alloc] at this
            have HZ5 : Hid (w5.heap.size = X.heap.size + 2) := Lib.hid (by rw [hw5]; simp)
            have hb5 : Below X.heap.size X w5 := by rw [hw5]; exact bl_alloc (bl_alloc (bl_refl X) _) _
            have E5 := Lib.hid (HE.out.below hb5).high
            have B5 := Lib.hid (bl_then HBX.out hb5)
            have HWs := Lib.hid HE.out.low.size
            have hi' : i < S.length := by have := HN.out; omega
            clear hw5 hb5 HE
            gi_wp2_with fail
            refine wpIn_rangeFunc_ownG (w0 := w5) rfl (by omega) (gf := 50) (lb := #[.pointer (some ⟨X.heap.size, 0, none⟩), .pointer (some ⟨X.heap.size + 1, 0, none⟩)]) rfl trivial (enters_of Try.func50 (by kernel_rfl) rfl)
              (steps_stops 8 gm q X.heap.size (X.heap.size + 1) i _ _ w w5 HM.out hT hq hS hi' E5.out.low (by have := HZ5.out; omega) bx1.cell (by have := HZ5.out; omega) bx2.cell) belowK_t (belowK_b (by have := E5.out.low.size; omega)) (Below.refl _ _) (fun _ => rfl)
              (fun pre X' => (Env w [(b16, 3, .int .i64 k'), (W.heap.size + 1, 3, .int .i64 i), (W.heap.size, 9, .string (bs out)), (w.heap.size + 1 + 1, 61, .slice (some ⟨gC, 0, none⟩) (k + 1) cC)] w5.heap.size ds X' ∧ Below W.heap.size W X') ∧ NoneYet (rc T f k') pre)
              (fun c pre X' => c = .exit 8 ∧ ∃ cF jF : Nat, FoundAt (rc T f k') pre cF jF ∧ Env w [(b16, 3, .int .i64 k'), (W.heap.size + 1, 3, .int .i64 jF), (W.heap.size, 9, .string (bs (out ++ [ltr cF]))), (w.heap.size + 1 + 1, 61, .slice (some ⟨gC, 0, none⟩) (k + 1) cC)] w5.heap.size ds X' ∧ Below W.heap.size W X')
              ?o1 ?o2 ⟨⟨E5.out, B5.out⟩, NoneYet.start _⟩
              (fun x => { tmps := #[.pointer (some ⟨gm, 0, none⟩), .int .i64 f, .int .i64 k, undef, undef, undef, .string ⟨#[]⟩, .bool false, .pointer (some ⟨w.heap.size + 1 + 1, 0, none⟩), (u 9), (u 10), (u 11), (u 12), (u 13), .pointer (some ⟨W.heap.size, 0, none⟩), .pointer (some ⟨W.heap.size + 1, 0, none⟩), .pointer (some ⟨b16, 0, none⟩), .string (bs [ltr x.1.1]), .int .i64 x.1.2, (u 19), (u 20), (u 21), (u 22), (u 23), (u 24), (u 25), (u 26), (u 27), (u 28), (u 29), (u 30), (u 31), (u 32), (u 33), (u 34), (u 35), (u 36), (u 37), (u 38), (u 39), (u 40), (u 41), (u 42), (u 43), (u 44), (u 45), (u 46), (u 47), (u 48), (u 49), (u 50), (u 51), (u 52), (u 53), (u 54), (u 55), (u 56), (u 57), (u 58), (u 59), (u 60), (u 61), (u 62), (u 63), (u 64), (u 65), (u 66), (u 67), (u 68), (u 69), (u 70), (u 71), (u 72), (u 73), (u 74), (u 75), (u 76), (u 77), (u 78), (u 79), (u 80), (u 81), (u 82), (u 83), .int .i64 k', .bool true, (u 86), (u 87), .pointer (some ⟨gm, 0, none⟩), .int .i64 i, .func (.func 50) #[] #[.pointer (some ⟨X.heap.size, 0, none⟩), .pointer (some ⟨X.heap.size + 1, 0, none⟩)], .string (bs [ltr x.1.1]), .int .i64 x.1.2, undef, undef, undef, undef, undef, undef, undef, undef, undef, undef, undef, (u 104), undef], defers := [] }) ?assign ?body ?done ?stop
            case o1 =>
              rintro s A D row ⟨⟨h, h2⟩, h'⟩ hg hr
              exact ⟨⟨Env.own (β := Unit) E5.out.low.size (Nat.le_refl _) () A D row h hg hr, h2.grown hg h2.size fun r e => by have := (hr r e).1; have := B5.out.size; omega⟩, h'⟩
            case o2 =>
              rintro c s A D row ⟨h0, cF, jF, e1, h, h2⟩ hg hr
              exact ⟨h0, cF, jF, e1, Env.own (β := Unit) E5.out.low.size (Nat.le_refl _) () A D row h hg hr, h2.grown hg h2.size fun r e => by have := (hr r e).1; have := B5.out.size; omega⟩
            case assign =>
              intro l x X' K hK
              dsimp only [encP]
              gi_wp2
              exact hK
            case done =>
              rintro D xs X' hD hxs ⟨_, hpre⟩ _
              have h5 : ((stp T i).any fun p => rc T f k' p.2) = true := HRI.out
              rw [hpre.all hxs] at h5
              cases h5
            case body =>
              rintro l pre ⟨⟨c, j⟩, hmem⟩ Y ⟨⟨hX, hY⟩, hpre⟩ _
              dsimp only
              obtain ⟨hcq, hjn⟩ := hT.stp hi' hmem
              have hjN : j < N := by have := HN.out; omega
              obtain ⟨bR, cR, q3, q1, q2⟩ := QQ.out j k' (by omega) hjN
              have lC := Nat.lt_of_lt_of_le hgC2 hY.size
              have q1 := (hY.cell (p := ⟨gC, k', none⟩) hgC2).trans q1
              have q2 := (hY.cell (p := ⟨bR, j, none⟩) q3).trans q2
              have e16 := (hX.box _ (List.mem_cons_self ..)).cell
              have l16 := (hX.box _ (List.mem_cons_self ..)).lt
              have e15 := (hX.box (W.heap.size + 1, 3, .int .i64 i) (by simp)).cell
              have f15 := (hX.box (W.heap.size + 1, 3, .int .i64 i) (by simp)).frozen
              have l15 := (hX.box (W.heap.size + 1, 3, .int .i64 i) (by simp)).lt
              have e14 := (hX.box (W.heap.size, 9, .string (bs out)) (by simp)).cell
              have f14 := (hX.box (W.heap.size, 9, .string (bs out)) (by simp)).frozen
              have l14 := (hX.box (W.heap.size, 9, .string (bs out)) (by simp)).lt
              have e8 := (hX.box (w.heap.size + 1 + 1, 61, .slice (some ⟨gC, 0, none⟩) (k + 1) cC) (by simp)).cell
              have l8 := (hX.box (w.heap.size + 1 + 1, 61, .slice (some ⟨gC, 0, none⟩) (k + 1) cC) (by simp)).lt
              have lR := Nat.lt_of_lt_of_le q3 hY.size
              dsimp only at e16 l16 l15 l14 l8
              have hws := LW8.out
              have hS1 := Env.set (bl' := [(b16, 3, .int .i64 k'), (W.heap.size + 1, 3, .int .i64 i), (W.heap.size, 9, .string (bs (out ++ [ltr c]))), (w.heap.size + 1 + 1, 61, .slice (some ⟨gC, 0, none⟩) (k + 1) cC)]) hX (b := W.heap.size) (t := 9) (u := .string (bs out)) (by simp) (.string (bs (out ++ [ltr c]))) (by omega) (by
                intro x hx
                simp only [List.mem_cons, List.not_mem_nil, or_false] at hx ⊢
                rcases hx with rfl | rfl | rfl | rfl
                · exact .inr ⟨.inl rfl, by show b16 ≠ _; omega⟩
                · exact .inr ⟨.inr (.inl rfl), by show W.heap.size + 1 ≠ _; omega⟩
                · exact .inl rfl
                · exact .inr ⟨.inr (.inr (.inr rfl)), by show w.heap.size + 1 + 1 ≠ _; have := LW8.out; omega⟩)
              have hS2 := Env.set (bl' := [(b16, 3, .int .i64 k'), (W.heap.size + 1, 3, .int .i64 j), (W.heap.size, 9, .string (bs (out ++ [ltr c]))), (w.heap.size + 1 + 1, 61, .slice (some ⟨gC, 0, none⟩) (k + 1) cC)]) hS1 (b := W.heap.size + 1) (t := 3) (u := .int .i64 i) (by simp) (.int .i64 j) (by omega) (by
                intro x hx
                simp only [List.mem_cons, List.not_mem_nil, or_false] at hx ⊢
                rcases hx with rfl | rfl | rfl | rfl
                · exact .inr ⟨.inl rfl, by show b16 ≠ _; omega⟩
                · exact .inl rfl
                · exact .inr ⟨.inr (.inr (.inl rfl)), by show W.heap.size ≠ _; omega⟩
                · exact .inr ⟨.inr (.inr (.inr rfl)), by show w.heap.size + 1 + 1 ≠ _; have := LW8.out; omega⟩)
              have HS2 := Lib.hid (And.intro hS2 ((hY.setCell (p := ⟨W.heap.size, 0, none⟩) (Nat.le_refl _) (.string (bs (out ++ [ltr c])))).setCell (p := ⟨W.heap.size + 1, 0, none⟩) (Nat.le_succ _) (.int .i64 j)))
              have HX := Lib.hid (And.intro hX hY)
              have HP := Lib.hid hpre
              have zo : (bs out).size ≤ 300 := by
                show out.length ≤ 300
                have := HOL.out
                omega
              have zc : (bs [ltr c]).size = 1 := rfl
              have bs_app : Hid (bs out ++ bs [ltr c] = bs (out ++ [ltr c])) := Lib.hid (by rw [← bs_sb (bs out ++ bs [ltr c]), sb_append]; rfl)
              clear hX hY hpre hS1 hS2 E5 B5 bx1 bx2
              cases hrj : rc T f k' j with
              | true =>
                rw [hrj] at q2
                have HRJ := Lib.hid hrj
                clear hrj
                gi_wp2_with fail
                rw [bs_app.out]
                exact ⟨(keeps_set _ _ _ _).trans (keeps_set _ _ _ _), rfl, c, j, HP.out.found hmem HRJ.out, HS2.out.1, HS2.out.2⟩
              | false =>
                rw [hrj] at q2
                have HRJ := Lib.hid hrj
                clear hrj
                gi_wp2_with fail
                exact ⟨KeepsFrom.refl _ _, Below.refl _ _, HX.out, HP.out.push HRJ.out⟩
            case stop =>
              rintro D cc pre Y hD hp ⟨rfl, cF, jF, hfo, hX, hY⟩ hKD
              obtain ⟨hf, hmF, h6⟩ := hfo.first hp
              have e16 := (hX.box _ (List.mem_cons_self ..)).cell
              have l16 := (hX.box _ (List.mem_cons_self ..)).lt
              dsimp only at e16 l16
              have hXp := hX.push (by have := E5.out.low.size; omega) hD hKD
              have hjn : jF < N := by have := HN.out; have h := (hT.stp hi' hmF).2; omega
              have hF := Lib.hid (And.intro hf h6)
              have hXp := Lib.hid hXp
              have hY := Lib.hid hY
              clear B5 E5 bx1 bx2 hX hKD hfo hp hf h6
              gi_wp2_with fail
              have hEn := ((hXp.out.less (bl' := [(W.heap.size + 1, 3, .int .i64 jF), (W.heap.size, 9, .string (bs (out ++ [ltr cF]))), (w.heap.size + 1 + 1, 61, .slice (some ⟨gC, 0, none⟩) (k + 1) cC)]) (fun y hy => List.mem_cons_of_mem _ hy)).new 3 (.int .i64 ((k' : Int) - 1))).high
              refine ⟨k', by omega, Y.heap.size, jF, (k' : Int) - 1, out ++ [ltr cF], _, hjn, rfl, by omega, hF.out.2, ?_, ?_, Nat.lt_trans hb16 l16, hEn, bl_alloc hY.out _, rfl⟩
              · have := HOL.out
                rw [List.length_append, List.length_singleton]
                omega
              · have hw := HOW.out
                rw [wayG_succ hF.out.1] at hw
                rw [← hw, List.append_assoc]
                rfl
end Go.Proofs.Ytnamafakjkcmjaa
