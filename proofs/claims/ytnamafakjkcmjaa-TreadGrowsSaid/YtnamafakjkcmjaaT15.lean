/-
  Growth.
-/
import Derived.Test.YtnamafakjkcmjaaT14
namespace Go.Proofs.Ytnamafakjkcmjaa
open Go.RowKit Go.Shelf
set_option linter.unusedVariables false
set_option linter.unusedSimpArgs false
attribute [local go_sem] Oper.semAt_some

/-- The letters by which a state leads to one of its own circle. -/
def inN (T : Tab) (M : Nat → Nat → Bool) (i : Nat) : Nat := ((stp T i).filter fun p => M p.2 i).length
def inP {T : Tab} {i : Nat} (M : Nat → Nat → Bool) (pre : List (StpOf T i)) : Nat := ((pre.map (·.1)).filter fun p => M p.2 i).length
theorem inP_push {T : Tab} {i : Nat} {M : Nat → Nat → Bool} {pre : List (StpOf T i)} (x : StpOf T i) : inP M (pre ++ [x]) = inP M pre + if M x.1.2 i then 1 else 0 := by
  unfold inP
  rw [List.map_append, List.filter_append, List.length_append]
  simp only [List.map_cons, List.map_nil, List.filter_cons, List.filter_nil]
  split <;> rfl
theorem inP_all {T : Tab} {i : Nat} {M : Nat → Nat → Bool} {xs : List (StpOf T i)} (h : xs.map (·.1) = stp T i) : inP M xs = inN T M i := by
  unfold inP inN; rw [h]
theorem inP_le {T : Tab} {i : Nat} {M : Nat → Nat → Bool} (pre : List (StpOf T i)) : inP M pre ≤ pre.length := by
  unfold inP
  exact Nat.le_trans (List.length_filter_le _ _) (by simp)
theorem stp_len {T : Tab} {n q i : Nat} (hT : TabOk T n q) (hi : i < n) : (stp T i).length ≤ q := by
  unfold stp stepsL
  refine Nat.le_trans (List.length_filterMap_le _ _) ?_
  rw [List.length_zipIdx, (hT.at hi).1]
  exact Nat.le_refl _
/-- A store into the first box. -/
theorem Mt.box1 {we : World} {b : Nat} {t : TypeId} {u : Value} {bl : List (Nat × TypeId × Value)} {H : Nat} {ds : List Deferred} {gL N k : Nat} {rb : Nat → Nat} {M : Nat → Nat → Bool} {W : World} (h : Mt we ((b, t, u) :: bl) H ds gL N k rb M W) (hw : we.heap.size ≤ b) (h1 : t ≠ 62) (h2 : t ≠ 4) (hbl : ∀ x ∈ bl, x.1 ≠ b) (v : Value) :
    Mt we ((b, t, v) :: bl) H ds gL N k rb M (W.setCell ⟨b, 0, none⟩ v) := by
  have hb : Boxed W b t u := h.env.box _ (List.mem_cons_self ..)
  refine ⟨h.env.set (List.mem_cons_self ..) v hw fun x hx => ?_, h.hdr.kept (grown_set W b 0 v) (own_ne h.hdr (boxed_typ hb h1)), fun i hi => (h.rows i hi).kept (grown_set W b 0 v) (own_ne (h.rows i hi) (boxed_typ hb h2)), h.inj⟩
  rcases List.mem_cons.1 hx with rfl | hx
  · exact .inl rfl
  · exact .inr ⟨List.mem_cons_of_mem _ hx, hbl x hx⟩
def rdF (T : Tab) (M : Nat → Nat → Bool) (k : Nat) : Int → Option Bool := fun x => if 0 ≤ x ∧ x.toNat < k then some (inN T M x.toNat == 1) else none
theorem rdF_step (T : Tab) (M : Nat → Nat → Bool) (k : Nat) (x : Int) : (if x = (k : Int) then some (inN T M k == 1) else rdF T M k x) = rdF T M (k + 1) x := by
  unfold rdF
  by_cases e : x = (k : Int)
  · subst e
    rw [if_pos rfl, if_pos ⟨by omega, by simp⟩, Int.toNat_natCast]
  · rw [if_neg e]
    by_cases h : 0 ≤ x ∧ x.toNat < k
    · rw [if_pos h, if_pos ⟨h.1, by omega⟩]
    · rw [if_neg h, if_neg (by omega)]
set_option maxRecDepth 100000 in
set_option maxHeartbeats 4000000 in
theorem Growth_any (q N : Nat) (v : Value) (ss : List ByteArray) (w : World) (T : Tab) (S : List Str) (hTd : T = tabL (pats ss) q) (hSd : S = stL (pats ss) q) (hN : N = S.length) (hv : StrsAt w v ss) (hset : setB q ss = true) (hG : HasG w) :
    Calls Try.prog 11 #[.int .i64 q, v] w fun e w' => (∃ M, LeadOk T N M ∧ (((∃ i, i < N ∧ 1 < inN T M i) ∧ e = .returned (.tuple #[.int .i64 (-2), .int .i64 0])) ∨
      ((∀ i, i < N → inN T M i ≤ 1) ∧ e = .returned (.tuple #[.int .i64 (chC M (fun i => inN T M i == 1) N 0 - 1), .int .i64 0])))) ∧ Below w.heap.size w w' := by
  have hmix : Try.prog.follows .mixedOrders = true := by kernel_rfl
  have hdd : ∀ k : Nat, (Fence.wide.depth.isSome = true → 1 ≤ k) := fun k h => by cases h
  obtain ⟨hq1, hq2⟩ := (setB_parts hset).1
  have hq : 1 ≤ q ∧ q ≤ 3 := by omega
  have h0 : okL (pats ss) [] = true := ok_nil (pats_some hset)
  have hT := tab_ok (q := q) h0
  have hS := stL_few (pats ss) hq.2
  have hn0 : 0 < N := by rw [hN, hSd, stL_fix h0]; simp
  rw [← hTd, ← hSd] at hT
  rw [← hSd] at hS
  have hNS : N ≤ 121 := by omega
  have hmf : ∀ (fn : Fn) (first cap : Array Value) (w : World), (Instr.makeFunc fn first cap).run Try.prog w = .ok (.func fn first cap) w := fun _ _ _ _ => rfl
  have hmm := @run_makeMap Try.prog
  have hmk : ∀ W : World, (Instr.makeSlice 62 (.int .i64 (N : Int)) (.int .i64 (N : Int))).run Try.prog W = .ok (.slice (some ⟨W.heap.size, 0, none⟩) N N) (W.alloc (.cells (madeCells #[.bool false] N) 4)) :=
    fun W => run_make_row' (P := Try.prog) 62 4 (.bool false) 1 (by kernel_rfl) infoB rfl .i64 .i64 N (by omega) (by omega) W
  have hmk2 : ∀ W : World, (Instr.makeSlice 61 (.int .i64 (N : Int)) (.int .i64 (N : Int))).run Try.prog W = .ok (.slice (some ⟨W.heap.size, 0, none⟩) N N) (W.alloc (.cells (madeCells #[.slice none 0 0] N) 62)) :=
    fun W => run_make_row' (P := Try.prog) 61 62 (.slice none 0 0) 24 (by kernel_rfl) infoBs rfl .i64 .i64 N (by omega) (by omega) W
  have IS := Lib.hid fun n W h => callsIn_up (n := n) rfl (isSet_any q v ss W h)
  have NM := Lib.hid fun n W h1 h2 => callsIn_up (n := n) rfl (newMachine_any q hq v ss W h1 h0 h2)
  rw [← hTd, ← hSd] at NM
  have ST := Lib.hid fun n gm i W => steps_in n gm i W
  have HV := Lib.hid hv
  have HG := Lib.hid hG
  have HN := Lib.hid hN
  clear hv hG hTd hSd hN
  refine (callsIn_wide (n := 9)).1 ?_
  refine callsIn_of_wp_marks Try.func11 rfl trivial ?_ rfl
  simp only [Try.ntmps11, List.size_toArray, List.length_cons, List.length_nil, Nat.reduceAdd, Nat.reduceSub, Array.replicate_succ, Array.replicate_zero, List.push_toArray, List.append_toArray, List.nil_append, List.cons_append]
  gi_wp2_with fail
  refine ⟨trivial, ?_⟩
  refine (IS.out _ _ HV.out).mono ?_
  rintro e w0 ⟨rfl, r1⟩
  rw [hset]
  gi_wp2_with fail
  refine ⟨trivial, ?_⟩
  refine (NM.out _ _ (HV.out.kept r1) (HG.out.kept r1)).mono ?_
  rintro e w1 ⟨gm, rfl, hM, r2⟩
  have R1 := Lib.hid (bl_then r1 r2)
  obtain ⟨gS, cS, gN, cN, hdrs0, h1, h2, h3, h4⟩ := id hM
  have c1 := (h1.cell 1).trans rfl
  have l1 := h1.lt
  rw [← HN.out] at c1
  have HM := Lib.hid hM
  clear h1 h2 h3 h4 hM r1 r2
  obtain ⟨W1, hW1⟩ : ∃ W1, W1 = (((w1.alloc (.cells #[.int .i64 N] 3)).alloc (.cells (madeCells #[.slice none 0 0] N) 62)).alloc (.cells #[.slice (some ⟨w1.heap.size + 1, 0, none⟩) N N] 61)) := ⟨_, rfl⟩
  have E0 : Env w1 [] w1.heap.size [] w1 := ⟨fun b hb => absurd hb List.not_mem_nil, bl_refl w1, MarksTo.nil _ _ _, Nat.le_refl _⟩
  have E1 := (((E0.new 3 (.int .i64 N)).below (bl_alloc (bl_refl _) (.cells (madeCells #[.slice none 0 0] N) 62))).new 61 (.slice (some ⟨w1.heap.size + 1, 0, none⟩) N N)).high
  simp only [World.size_alloc] at E1
  rw [← hW1] at E1
  have o1 : W1.ownsRow w1.heap.size 62 1 (.slice (some ⟨w1.heap.size + 1, 0, none⟩) N N) N (upto (fun i => rowS 0 N) (.slice none 0 0) N 0) := by
    have := (World.ownsRow_lit (base := w1.heap.size) (e := 62) (size := 1) (w1.alloc (.cells #[.int .i64 N] 3)) (madeCells #[.slice none 0 0] N) N (by simp) (by unfold maxLen; omega) (by rw [← Array.length_toList, toList_madeCells_one]; simp)).alloc (.cells #[.slice (some ⟨w1.heap.size + 1, 0, none⟩) N N] 61)
    simp only [World.size_alloc] at this
    rw [hW1, upto_zero, ← toList_madeCells_one]; exact this
  have hz1 : W1.heap.size = w1.heap.size + 1 + 1 + 1 := by rw [hW1]; simp
  have M1 : Mt w1 [(w1.heap.size + 1 + 1, 61, .slice (some ⟨w1.heap.size + 1, 0, none⟩) N N), (w1.heap.size, 3, .int .i64 N)] W1.heap.size [] (w1.heap.size + 1) N 0 (fun _ => 0) (fun a b => (stp T a).any fun p => p.2 == b) W1 :=
    ⟨by rw [hz1]; exact E1, o1, fun i hi => absurd hi (Nat.not_lt_zero _), fun i j hi => absurd hi (Nat.not_lt_zero _)⟩
  have M1 := Lib.hid M1
  clear E0 E1 o1 hz1
  gi_wp2_with fail
  rw [← hW1]
  clear hW1
  refine wpIn_loop_ghost (fun m a W => ∃ (k : Nat) (ds : List Deferred) (rb : Nat → Nat), k ≤ N ∧ m = N - k ∧ Mt w1 [(w1.heap.size + 1 + 1, 61, .slice (some ⟨w1.heap.size + 1, 0, none⟩) N N), (w1.heap.size, 3, .int .i64 N)] W.heap.size ds (w1.heap.size + 1) N k rb (fun a b => (stp T a).any fun p => p.2 == b) W ∧
    a = { tmps := #[.int .i64 q, v, undef, undef, .int .i64 0, .int .i64 0, .pointer (some ⟨gm, 0, none⟩), .pointer (some ⟨w1.heap.size, 0, none⟩), .pointer (some ⟨w1.heap.size + 1 + 1, 0, none⟩), (a.tmps.getD 9 undef), (a.tmps.getD 10 undef), (a.tmps.getD 11 undef), undef, undef, undef, undef, undef, undef, undef, undef, undef, undef, (a.tmps.getD 22 undef), (a.tmps.getD 23 undef), (a.tmps.getD 24 undef), (a.tmps.getD 25 undef), (a.tmps.getD 26 undef), (a.tmps.getD 27 undef), (a.tmps.getD 28 undef), (a.tmps.getD 29 undef), (a.tmps.getD 30 undef), (a.tmps.getD 31 undef), (a.tmps.getD 32 undef), (a.tmps.getD 33 undef), (a.tmps.getD 34 undef), (a.tmps.getD 35 undef), (a.tmps.getD 36 undef), .int .i64 N, .int .i64 k, (a.tmps.getD 39 undef), (a.tmps.getD 40 undef), (a.tmps.getD 41 undef), (a.tmps.getD 42 undef), (a.tmps.getD 43 undef), (a.tmps.getD 44 undef), (a.tmps.getD 45 undef), (a.tmps.getD 46 undef), (a.tmps.getD 47 undef), (a.tmps.getD 48 undef), (a.tmps.getD 49 undef), (a.tmps.getD 50 undef), (a.tmps.getD 51 undef), (a.tmps.getD 52 undef), (a.tmps.getD 53 undef), (a.tmps.getD 54 undef), (a.tmps.getD 55 undef), (a.tmps.getD 56 undef), (a.tmps.getD 57 undef), undef, undef, undef, undef, undef, undef, undef, undef, undef, undef, undef, undef, undef, undef, undef, undef, undef, undef, undef, undef, undef, undef, undef, undef, undef, undef, undef, undef, undef, undef, undef, undef, undef, undef, undef, undef, undef, undef, undef, undef, undef, undef, undef, undef, undef, undef, undef, undef, undef, undef, undef, undef, undef, undef, undef, undef, undef, undef, undef, undef, undef, undef, undef, undef, undef, undef, undef, undef, undef, undef, undef, undef, undef, undef, undef, undef, undef], defers := ds }) N ?_ ?_
  · exact ⟨0, [], _, Nat.zero_le _, rfl, M1.out, rfl⟩
  · rintro m a W ⟨k, ds, rb, hk, rfl, hMt, ha⟩
    obtain ⟨u, hu⟩ : ∃ u : Nat → Value, u = fun n => a.tmps.getD n undef := ⟨_, rfl⟩
    have ha' : a = { tmps := #[.int .i64 q, v, undef, undef, .int .i64 0, .int .i64 0, .pointer (some ⟨gm, 0, none⟩), .pointer (some ⟨w1.heap.size, 0, none⟩), .pointer (some ⟨w1.heap.size + 1 + 1, 0, none⟩), (u 9), (u 10), (u 11), undef, undef, undef, undef, undef, undef, undef, undef, undef, undef, (u 22), (u 23), (u 24), (u 25), (u 26), (u 27), (u 28), (u 29), (u 30), (u 31), (u 32), (u 33), (u 34), (u 35), (u 36), .int .i64 N, .int .i64 k, (u 39), (u 40), (u 41), (u 42), (u 43), (u 44), (u 45), (u 46), (u 47), (u 48), (u 49), (u 50), (u 51), (u 52), (u 53), (u 54), (u 55), (u 56), (u 57), undef, undef, undef, undef, undef, undef, undef, undef, undef, undef, undef, undef, undef, undef, undef, undef, undef, undef, undef, undef, undef, undef, undef, undef, undef, undef, undef, undef, undef, undef, undef, undef, undef, undef, undef, undef, undef, undef, undef, undef, undef, undef, undef, undef, undef, undef, undef, undef, undef, undef, undef, undef, undef, undef, undef, undef, undef, undef, undef, undef, undef, undef, undef, undef, undef, undef, undef, undef, undef, undef, undef, undef, undef, undef, undef, undef, undef], defers := ds } := by rw [hu]; exact ha
    clear hu ha
    subst ha'
    have e8 := (hMt.env.box _ (List.mem_cons_self ..)).cell
    have l8 := (hMt.env.box _ (List.mem_cons_self ..)).lt
    have e7 := (hMt.env.box (w1.heap.size, 3, .int .i64 N) (by simp)).cell
    have l7 := (hMt.env.box (w1.heap.size, 3, .int .i64 N) (by simp)).lt
    dsimp only at e8 l8 l7
    by_cases hlt : k < N
    · have hgL := hMt.lt1
      have hfr := hMt.hdr.frozenAt k
      have hck := hMt.hdr.cellAt k (by omega)
      rw [upto_at _ _ hlt, if_neg (by omega)] at hck
      have HMt := Lib.hid hMt
      clear hMt M1
      gi_wp2_with fail
      obtain ⟨W9, hW9⟩ : ∃ W9, W9 = (((W.setCell ⟨w1.heap.size + 1, k, none⟩ (.slice (some ⟨W.heap.size + 1, 0, none⟩) N N)).alloc (.cells #[.int .i64 k] 3)).alloc (.cells (madeCells #[.bool false] N) 4)).drew := ⟨_, rfl⟩
      refine wpIn_to { tmps := #[.int .i64 q, v, undef, undef, .int .i64 0, .int .i64 0, .pointer (some ⟨gm, 0, none⟩), .pointer (some ⟨w1.heap.size, 0, none⟩), .pointer (some ⟨w1.heap.size + 1 + 1, 0, none⟩), .pointer (some ⟨W.heap.size, 0, none⟩), (u 10), (u 11), undef, undef, undef, undef, undef, undef, undef, undef, undef, undef, (u 22), (u 23), (u 24), (u 25), (u 26), (u 27), (u 28), (u 29), (u 30), (u 31), (u 32), (u 33), (u 34), (u 35), (u 36), .int .i64 N, .int .i64 k, .bool true, .int .i64 k, .slice (some ⟨w1.heap.size + 1, 0, none⟩) N N, .int .i64 k, .int .i64 N, .slice (some ⟨W.heap.size + 1, 0, none⟩) N N, .pointer (some ⟨w1.heap.size + 1, k, none⟩), (u 46), (u 47), (u 48), (u 49), (u 50), (u 51), (u 52), (u 53), (u 54), (u 55), (u 56), (u 57), undef, undef, undef, undef, undef, undef, undef, undef, undef, undef, undef, undef, undef, undef, undef, undef, undef, undef, undef, undef, undef, undef, undef, undef, undef, undef, undef, undef, undef, undef, undef, undef, undef, undef, undef, undef, undef, undef, undef, undef, undef, undef, undef, undef, undef, undef, undef, undef, undef, undef, undef, undef, undef, undef, undef, undef, undef, undef, undef, undef, undef, undef, undef, undef, undef, undef, undef, undef, undef, undef, undef, undef, undef, undef, undef, undef, undef], defers := ds } W9 ?_ ?_
      · gi_region_with_o (fail)
        all_goals exact ⟨rfl, rfl, hW9.symm⟩
      have M9 := HMt.out.grow hlt (by omega) (by intro b hb; simp at hb; rcases hb with rfl | rfl <;> (dsimp only; decide)) HMt.out.env.low.size (.cells #[.int .i64 k] 3) (M' := fun a b => if a = k then false else (stp T a).any fun p => p.2 == b) (fun a ha => by funext b; rw [if_neg (by omega)]) (by funext b; rw [if_pos rfl])
      have hz9 : W9.heap.size = W.heap.size + 1 + 1 := by rw [hW9]; simp [World.setCell]
      have b9 : Boxed W9 W.heap.size 3 (.int .i64 k) := by
        have := (Boxed.new (W.setCell ⟨w1.heap.size + 1, k, none⟩ (.slice (some ⟨W.heap.size + 1, 0, none⟩) N N)) 3 (.int .i64 k)).alloc (.cells (madeCells #[.bool false] N) 4)
        rw [show (W.setCell ⟨w1.heap.size + 1, k, none⟩ (.slice (some ⟨W.heap.size + 1, 0, none⟩) N N)).heap.size = W.heap.size by simp [World.setCell]] at this
        rw [hW9]; exact this
      have M9 := (show Mt w1 [(w1.heap.size + 1 + 1, 61, .slice (some ⟨w1.heap.size + 1, 0, none⟩) N N), (w1.heap.size, 3, .int .i64 N)] W.heap.size ds (w1.heap.size + 1) N (k + 1) _ _ W9 by rw [hW9]; exact M9)
      have M9 : Mt w1 [(W.heap.size, 3, .int .i64 k), (w1.heap.size + 1 + 1, 61, .slice (some ⟨w1.heap.size + 1, 0, none⟩) N N), (w1.heap.size, 3, .int .i64 N)] W9.heap.size ds (w1.heap.size + 1) N (k + 1) (fun i => if i = k then W.heap.size + 1 else rb i) (fun a b => if a = k then false else (stp T a).any fun p => p.2 == b) W9 :=
        ⟨⟨fun x hx => by
            rcases List.mem_cons.1 hx with rfl | hx
            · exact b9
            · exact M9.env.box x hx, M9.env.low, M9.env.high.marks, Nat.le_refl _⟩, M9.hdr, M9.rows, M9.inj⟩
      obtain ⟨rb2, hrb2⟩ : ∃ rb2, rb2 = fun i => if i = k then W.heap.size + 1 else rb i := ⟨_, rfl⟩
      rw [← hrb2] at M9
      have M9 := Lib.hid M9
      have HWs := Lib.hid HMt.out.env.low.size
      have hi' : k < S.length := by have := HN.out; omega
      clear hW9 hrb2 b9 hz9 HMt hck hfr hgL e8 l8 e7 l7
      have e9 := (M9.out.env.box (W.heap.size, 3, .int .i64 k) (by simp)).cell
      have l9 := (M9.out.env.box (W.heap.size, 3, .int .i64 k) (by simp)).lt
      dsimp only at e9 l9
      gi_wp2_with fail
      refine ⟨trivial, ?_⟩
      refine (ST.out _ _ _ _).mono ?_
      rintro e w5 ⟨rfl, hw5⟩
      obtain ⟨bx1, bx2⟩ : Boxed w5 W9.heap.size 56 (.pointer (some ⟨gm, 0, none⟩)) ∧ Boxed w5 (W9.heap.size + 1) 3 (.int .i64 k) := by
        rw [hw5]
        refine ⟨(Boxed.new W9 _ _).alloc _, ?_⟩
        have := Boxed.new (W9.alloc (.cells #[.pointer (some ⟨gm, 0, none⟩)] 56)) 3 (.int .i64 k)
        rwa [World.size_alloc] at this
      have HZ5 : Hid (w5.heap.size = W9.heap.size + 2) := Lib.hid (by rw [hw5]; simp)
      have hb5 : Below W9.heap.size W9 w5 := by rw [hw5]; exact bl_alloc (bl_alloc (bl_refl W9) _) _
      have M5 := M9.out.kept hb5
      have M5 : Hid (Mt w1 [(W.heap.size, 3, .int .i64 k), (w1.heap.size + 1 + 1, 61, .slice (some ⟨w1.heap.size + 1, 0, none⟩) N N), (w1.heap.size, 3, .int .i64 N)] w5.heap.size ds (w1.heap.size + 1) N (k + 1) rb2 (fun a b => if a = k then false else (stp T a).any fun p => p.2 == b) w5) := Lib.hid ⟨M5.env.high, M5.hdr, M5.rows, M5.inj⟩
      have M5s := Lib.hid M5.out.env.low.size
      clear hw5 hb5 M9 e9 l9
      gi_wp2_with fail
      refine wpIn_rangeFunc_ownG (w0 := w5) rfl (by omega) (gf := 50) (lb := #[.pointer (some ⟨W9.heap.size, 0, none⟩), .pointer (some ⟨W9.heap.size + 1, 0, none⟩)]) rfl trivial (enters_of Try.func50 (by kernel_rfl) rfl)
        (steps_stops 8 gm q W9.heap.size (W9.heap.size + 1) k _ _ w1 w5 HM.out hT hq.2 hS hi' M5.out.env.low (by have := HZ5.out; omega) bx1.cell (by have := HZ5.out; omega) bx2.cell) belowK_t (belowK_b (by have := M5s.out; omega)) (Below.refl _ _) (fun _ => rfl)
        (fun pre X => Mt w1 [(W.heap.size, 3, .int .i64 k), (w1.heap.size + 1 + 1, 61, .slice (some ⟨w1.heap.size + 1, 0, none⟩) N N), (w1.heap.size, 3, .int .i64 N)] w5.heap.size ds (w1.heap.size + 1) N (k + 1) rb2 (fun a b => if a = k then pre.any (fun p => p.1.2 == b) else (stp T a).any fun p => p.2 == b) X)
        (fun c pre X => False) ?o1 (fun c s A D row hs hg hr => hs.elim) M5.out
        (fun x => { tmps := #[.int .i64 q, v, undef, undef, .int .i64 0, .int .i64 0, .pointer (some ⟨gm, 0, none⟩), .pointer (some ⟨w1.heap.size, 0, none⟩), .pointer (some ⟨w1.heap.size + 1 + 1, 0, none⟩), .pointer (some ⟨W.heap.size, 0, none⟩), (u 10), .int .i64 x.1.2, undef, undef, undef, undef, undef, undef, undef, undef, undef, undef, (u 22), (u 23), (u 24), (u 25), (u 26), (u 27), (u 28), (u 29), (u 30), (u 31), (u 32), (u 33), (u 34), (u 35), (u 36), .int .i64 N, .int .i64 k, .bool true, .int .i64 k, .slice (some ⟨w1.heap.size + 1, 0, none⟩) N N, .int .i64 k, .int .i64 N, .slice (some ⟨W.heap.size + 1, 0, none⟩) N N, .pointer (some ⟨w1.heap.size + 1, k, none⟩), .pointer (some ⟨gm, 0, none⟩), .int .i64 k, .func (.func 50) #[] #[.pointer (some ⟨W9.heap.size, 0, none⟩), .pointer (some ⟨W9.heap.size + 1, 0, none⟩)], .string (bs [ltr x.1.1]), .int .i64 x.1.2, (u 51), (u 52), (u 53), (u 54), (u 55), (u 56), (u 57), undef, undef, undef, undef, undef, undef, undef, undef, undef, undef, undef, undef, undef, undef, undef, undef, undef, undef, undef, undef, undef, undef, undef, undef, undef, undef, undef, undef, undef, undef, undef, undef, undef, undef, undef, undef, undef, undef, undef, undef, undef, undef, undef, undef, undef, undef, undef, undef, undef, undef, undef, undef, undef, undef, undef, undef, undef, undef, undef, undef, undef, undef, undef, undef, undef, undef, undef, undef, undef, undef, undef, undef, undef, undef, undef, undef, undef], defers := [] }) ?assign ?body ?done ?stop
      case o1 =>
        rintro s A D row hs hg hr
        exact Mt.own (β := Unit) M5s.out (Nat.le_refl _) () A D row hs hg hr
      case assign =>
        intro l x X K hK
        dsimp only [encP]
        gi_wp2
        exact hK
      case stop =>
        rintro D c pre X _ _ h _
        exact h.elim
      case body =>
        rintro l pre ⟨⟨c, j⟩, hmem⟩ X hX _
        dsimp only
        obtain ⟨hcq, hjn⟩ := hT.stp hi' hmem
        have hjN : j < N := by have := HN.out; omega
        have e9 := (hX.env.box (W.heap.size, 3, .int .i64 k) (by simp)).cell
        have l9 := (hX.env.box (W.heap.size, 3, .int .i64 k) (by simp)).lt
        have e8 := (hX.env.box (w1.heap.size + 1 + 1, 61, .slice (some ⟨w1.heap.size + 1, 0, none⟩) N N) (by simp)).cell
        have l8 := (hX.env.box (w1.heap.size + 1 + 1, 61, .slice (some ⟨w1.heap.size + 1, 0, none⟩) N N) (by simp)).lt
        dsimp only at e9 l9 e8 l8
        have q1 := hX.at1 (i := k) (by omega) (by omega)
        have q2 := hX.at2 (i := k) (by omega) hjN
        have q3 := hX.fr2 (i := k) (j := j) (by omega)
        have q4 := hX.lt2 (i := k) (by omega)
        have q5 := hX.lt1
        have q6 := hX.ge2 (i := k) (by omega)
        have HS := Lib.hid (hX.store (by intro b hb; simp at hb; rcases hb with rfl | rfl | rfl <;> (dsimp only; decide)) (i := k) (by omega) hjN true)
        unfold rowS at q1
        have hfe : (fun a b => if a = k ∧ b = j then true else if a = k then pre.any (fun p => p.1.2 == b) else (stp T a).any fun p => p.2 == b) = (fun a b => if a = k then (pre ++ [(⟨(c, j), hmem⟩ : StpOf T k)]).any (fun p => p.1.2 == b) else (stp T a).any fun p => p.2 == b) := by
          funext a b
          by_cases ha : a = k
          · rw [if_pos ha, if_pos ha, List.any_append]
            by_cases hb : b = j
            · rw [if_pos ⟨ha, hb⟩, hb]; simp
            · rw [if_neg (fun h => hb h.2)]
              have : (j == b) = false := by simpa using fun e => hb e.symm
              simp [this]
          · rw [if_neg ha, if_neg ha, if_neg (fun h => ha h.1)]
        rw [hfe] at HS
        clear hX hfe
        gi_wp2_with fail
        exact ⟨(KeepsOthers.setCell X ⟨rb2 k, j, none⟩ _).from _, (Below.refl w1.heap.size X).setCell q6 _, HS.out⟩
      case done =>
        rintro D xs X hD hxs hX hKD
        have hfe : (fun a b => if a = k then xs.any (fun p => p.1.2 == b) else (stp T a).any fun p => p.2 == b) = fun a b => (stp T a).any fun p => p.2 == b := by
          funext a b
          by_cases ha : a = k
          · rw [if_pos ha, any_sub (p := fun j => j == b) hxs, ha]
          · rw [if_neg ha]
        rw [hfe] at hX
        have HX := Lib.hid hX
        have HKD := Lib.hid hKD
        clear hX hKD hxs hfe M5 bx1 bx2
        gi_wp2_with fail
        exact ⟨N - (k + 1), by omega, k + 1, _, rb2, by omega, rfl, ⟨(HX.out.env.push (by have := M5s.out; omega) hD HKD.out).less (fun y hy => List.mem_cons_of_mem _ hy), HX.out.hdr, HX.out.rows, HX.out.inj⟩, rfl⟩
    · have ek : N = k := by omega
      subst ek
      have HMt := Lib.hid hMt
      have HWS : Hid (Ws T N 0 0 0 (edgeM T)) := Lib.hid (Ws.start T N)
      clear hMt M1
      gi_wp2_with fail
      refine wpIn_loop_ghost (fun m a X => ∃ (k : Nat) (M : Nat → Nat → Bool), k ≤ N ∧ m = N - k ∧ Mt w1 [(w1.heap.size + 1 + 1, 61, .slice (some ⟨w1.heap.size + 1, 0, none⟩) N N), (w1.heap.size, 3, .int .i64 N)] W.heap.size ds (w1.heap.size + 1) N N rb M X ∧ Ws T N k 0 0 M ∧ a = { tmps := #[.int .i64 q, v, undef, undef, .int .i64 0, .int .i64 0, .pointer (some ⟨gm, 0, none⟩), .pointer (some ⟨w1.heap.size, 0, none⟩), .pointer (some ⟨w1.heap.size + 1 + 1, 0, none⟩), (a.tmps.getD 9 undef), (a.tmps.getD 10 undef), (a.tmps.getD 11 undef), (a.tmps.getD 12 undef), (a.tmps.getD 13 undef), (a.tmps.getD 14 undef), undef, undef, undef, undef, undef, undef, undef, (a.tmps.getD 22 undef), (a.tmps.getD 23 undef), (a.tmps.getD 24 undef), (a.tmps.getD 25 undef), (a.tmps.getD 26 undef), (a.tmps.getD 27 undef), (a.tmps.getD 28 undef), (a.tmps.getD 29 undef), (a.tmps.getD 30 undef), (a.tmps.getD 31 undef), (a.tmps.getD 32 undef), (a.tmps.getD 33 undef), (a.tmps.getD 34 undef), (a.tmps.getD 35 undef), (a.tmps.getD 36 undef), (a.tmps.getD 37 undef), (a.tmps.getD 38 undef), (a.tmps.getD 39 undef), (a.tmps.getD 40 undef), (a.tmps.getD 41 undef), (a.tmps.getD 42 undef), (a.tmps.getD 43 undef), (a.tmps.getD 44 undef), (a.tmps.getD 45 undef), (a.tmps.getD 46 undef), (a.tmps.getD 47 undef), (a.tmps.getD 48 undef), (a.tmps.getD 49 undef), (a.tmps.getD 50 undef), (a.tmps.getD 51 undef), (a.tmps.getD 52 undef), (a.tmps.getD 53 undef), (a.tmps.getD 54 undef), (a.tmps.getD 55 undef), (a.tmps.getD 56 undef), (a.tmps.getD 57 undef), .int .i64 N, .int .i64 k, (a.tmps.getD 60 undef), (a.tmps.getD 61 undef), (a.tmps.getD 62 undef), (a.tmps.getD 63 undef), (a.tmps.getD 64 undef), (a.tmps.getD 65 undef), (a.tmps.getD 66 undef), (a.tmps.getD 67 undef), (a.tmps.getD 68 undef), (a.tmps.getD 69 undef), (a.tmps.getD 70 undef), (a.tmps.getD 71 undef), (a.tmps.getD 72 undef), (a.tmps.getD 73 undef), (a.tmps.getD 74 undef), (a.tmps.getD 75 undef), (a.tmps.getD 76 undef), (a.tmps.getD 77 undef), (a.tmps.getD 78 undef), (a.tmps.getD 79 undef), (a.tmps.getD 80 undef), (a.tmps.getD 81 undef), (a.tmps.getD 82 undef), (a.tmps.getD 83 undef), (a.tmps.getD 84 undef), (a.tmps.getD 85 undef), (a.tmps.getD 86 undef), (a.tmps.getD 87 undef), (a.tmps.getD 88 undef), (a.tmps.getD 89 undef), (a.tmps.getD 90 undef), (a.tmps.getD 91 undef), (a.tmps.getD 92 undef), (a.tmps.getD 93 undef), (a.tmps.getD 94 undef), (a.tmps.getD 95 undef), (a.tmps.getD 96 undef), (a.tmps.getD 97 undef), (a.tmps.getD 98 undef), (a.tmps.getD 99 undef), (a.tmps.getD 100 undef), (a.tmps.getD 101 undef), (a.tmps.getD 102 undef), (a.tmps.getD 103 undef), undef, undef, undef, undef, undef, undef, undef, undef, undef, undef, undef, undef, undef, undef, undef, undef, undef, undef, undef, undef, undef, undef, undef, undef, undef, undef, undef, undef, undef, undef, undef], defers := ds }) N ?_ ?_
      · exact ⟨0, _, Nat.zero_le _, rfl, HMt.out, HWS.out, rfl⟩
      · clear u
        rintro m a X ⟨k, M, hk, rfl, hMt, hws, ha⟩
        obtain ⟨u, hu⟩ : ∃ u : Nat → Value, u = fun n => a.tmps.getD n undef := ⟨_, rfl⟩
        have ha' : a = { tmps := #[.int .i64 q, v, undef, undef, .int .i64 0, .int .i64 0, .pointer (some ⟨gm, 0, none⟩), .pointer (some ⟨w1.heap.size, 0, none⟩), .pointer (some ⟨w1.heap.size + 1 + 1, 0, none⟩), (u 9), (u 10), (u 11), (u 12), (u 13), (u 14), undef, undef, undef, undef, undef, undef, undef, (u 22), (u 23), (u 24), (u 25), (u 26), (u 27), (u 28), (u 29), (u 30), (u 31), (u 32), (u 33), (u 34), (u 35), (u 36), (u 37), (u 38), (u 39), (u 40), (u 41), (u 42), (u 43), (u 44), (u 45), (u 46), (u 47), (u 48), (u 49), (u 50), (u 51), (u 52), (u 53), (u 54), (u 55), (u 56), (u 57), .int .i64 N, .int .i64 k, (u 60), (u 61), (u 62), (u 63), (u 64), (u 65), (u 66), (u 67), (u 68), (u 69), (u 70), (u 71), (u 72), (u 73), (u 74), (u 75), (u 76), (u 77), (u 78), (u 79), (u 80), (u 81), (u 82), (u 83), (u 84), (u 85), (u 86), (u 87), (u 88), (u 89), (u 90), (u 91), (u 92), (u 93), (u 94), (u 95), (u 96), (u 97), (u 98), (u 99), (u 100), (u 101), (u 102), (u 103), undef, undef, undef, undef, undef, undef, undef, undef, undef, undef, undef, undef, undef, undef, undef, undef, undef, undef, undef, undef, undef, undef, undef, undef, undef, undef, undef, undef, undef, undef, undef], defers := ds } := by rw [hu]; exact ha
        clear hu ha
        subst ha'
        have e7 := (hMt.env.box (w1.heap.size, 3, .int .i64 N) (by simp)).cell
        have l7 := (hMt.env.box (w1.heap.size, 3, .int .i64 N) (by simp)).lt
        dsimp only at e7 l7
        have HMx := Lib.hid hMt
        have HWs := Lib.hid hws
        clear hMt hws HMt HWS
        by_cases hkN : k < N
        · gi_wp2_with fail
          refine wpIn_loop_ghost (fun m a X => ∃ (i : Nat) (M : Nat → Nat → Bool), i ≤ N ∧ m = N - i ∧ Mt w1 [(w1.heap.size + 1 + 1, 61, .slice (some ⟨w1.heap.size + 1, 0, none⟩) N N), (w1.heap.size, 3, .int .i64 N)] W.heap.size ds (w1.heap.size + 1) N N rb M X ∧ Ws T N k i 0 M ∧ a = { tmps := #[.int .i64 q, v, undef, undef, .int .i64 0, .int .i64 0, .pointer (some ⟨gm, 0, none⟩), .pointer (some ⟨w1.heap.size, 0, none⟩), .pointer (some ⟨w1.heap.size + 1 + 1, 0, none⟩), (a.tmps.getD 9 undef), (a.tmps.getD 10 undef), (a.tmps.getD 11 undef), .int .i64 k, (a.tmps.getD 13 undef), (a.tmps.getD 14 undef), undef, undef, undef, undef, undef, undef, undef, (a.tmps.getD 22 undef), (a.tmps.getD 23 undef), (a.tmps.getD 24 undef), (a.tmps.getD 25 undef), (a.tmps.getD 26 undef), (a.tmps.getD 27 undef), (a.tmps.getD 28 undef), (a.tmps.getD 29 undef), (a.tmps.getD 30 undef), (a.tmps.getD 31 undef), (a.tmps.getD 32 undef), (a.tmps.getD 33 undef), (a.tmps.getD 34 undef), (a.tmps.getD 35 undef), (a.tmps.getD 36 undef), (a.tmps.getD 37 undef), (a.tmps.getD 38 undef), (a.tmps.getD 39 undef), (a.tmps.getD 40 undef), (a.tmps.getD 41 undef), (a.tmps.getD 42 undef), (a.tmps.getD 43 undef), (a.tmps.getD 44 undef), (a.tmps.getD 45 undef), (a.tmps.getD 46 undef), (a.tmps.getD 47 undef), (a.tmps.getD 48 undef), (a.tmps.getD 49 undef), (a.tmps.getD 50 undef), (a.tmps.getD 51 undef), (a.tmps.getD 52 undef), (a.tmps.getD 53 undef), (a.tmps.getD 54 undef), (a.tmps.getD 55 undef), (a.tmps.getD 56 undef), (a.tmps.getD 57 undef), .int .i64 N, .int .i64 k, (a.tmps.getD 60 undef), (a.tmps.getD 61 undef), .int .i64 N, .int .i64 i, (a.tmps.getD 64 undef), (a.tmps.getD 65 undef), (a.tmps.getD 66 undef), (a.tmps.getD 67 undef), (a.tmps.getD 68 undef), (a.tmps.getD 69 undef), (a.tmps.getD 70 undef), (a.tmps.getD 71 undef), (a.tmps.getD 72 undef), (a.tmps.getD 73 undef), (a.tmps.getD 74 undef), (a.tmps.getD 75 undef), (a.tmps.getD 76 undef), (a.tmps.getD 77 undef), (a.tmps.getD 78 undef), (a.tmps.getD 79 undef), (a.tmps.getD 80 undef), (a.tmps.getD 81 undef), (a.tmps.getD 82 undef), (a.tmps.getD 83 undef), (a.tmps.getD 84 undef), (a.tmps.getD 85 undef), (a.tmps.getD 86 undef), (a.tmps.getD 87 undef), (a.tmps.getD 88 undef), (a.tmps.getD 89 undef), (a.tmps.getD 90 undef), (a.tmps.getD 91 undef), (a.tmps.getD 92 undef), (a.tmps.getD 93 undef), (a.tmps.getD 94 undef), (a.tmps.getD 95 undef), (a.tmps.getD 96 undef), (a.tmps.getD 97 undef), (a.tmps.getD 98 undef), (a.tmps.getD 99 undef), (a.tmps.getD 100 undef), (a.tmps.getD 101 undef), (a.tmps.getD 102 undef), (a.tmps.getD 103 undef), undef, undef, undef, undef, undef, undef, undef, undef, undef, undef, undef, undef, undef, undef, undef, undef, undef, undef, undef, undef, undef, undef, undef, undef, undef, undef, undef, undef, undef, undef, undef], defers := ds }) N ?_ ?_
          · exact ⟨0, M, Nat.zero_le _, rfl, HMx.out, HWs.out, rfl⟩
          · clear u HMx HWs e7 l7
            rintro m a X ⟨i, M, hi, rfl, hMt, hws, ha⟩
            obtain ⟨u, hu⟩ : ∃ u : Nat → Value, u = fun n => a.tmps.getD n undef := ⟨_, rfl⟩
            have ha' : a = { tmps := #[.int .i64 q, v, undef, undef, .int .i64 0, .int .i64 0, .pointer (some ⟨gm, 0, none⟩), .pointer (some ⟨w1.heap.size, 0, none⟩), .pointer (some ⟨w1.heap.size + 1 + 1, 0, none⟩), (u 9), (u 10), (u 11), .int .i64 k, (u 13), (u 14), undef, undef, undef, undef, undef, undef, undef, (u 22), (u 23), (u 24), (u 25), (u 26), (u 27), (u 28), (u 29), (u 30), (u 31), (u 32), (u 33), (u 34), (u 35), (u 36), (u 37), (u 38), (u 39), (u 40), (u 41), (u 42), (u 43), (u 44), (u 45), (u 46), (u 47), (u 48), (u 49), (u 50), (u 51), (u 52), (u 53), (u 54), (u 55), (u 56), (u 57), .int .i64 N, .int .i64 k, (u 60), (u 61), .int .i64 N, .int .i64 i, (u 64), (u 65), (u 66), (u 67), (u 68), (u 69), (u 70), (u 71), (u 72), (u 73), (u 74), (u 75), (u 76), (u 77), (u 78), (u 79), (u 80), (u 81), (u 82), (u 83), (u 84), (u 85), (u 86), (u 87), (u 88), (u 89), (u 90), (u 91), (u 92), (u 93), (u 94), (u 95), (u 96), (u 97), (u 98), (u 99), (u 100), (u 101), (u 102), (u 103), undef, undef, undef, undef, undef, undef, undef, undef, undef, undef, undef, undef, undef, undef, undef, undef, undef, undef, undef, undef, undef, undef, undef, undef, undef, undef, undef, undef, undef, undef, undef], defers := ds } := by rw [hu]; exact ha
            clear hu ha
            subst ha'
            have e7 := (hMt.env.box (w1.heap.size, 3, .int .i64 N) (by simp)).cell
            have l7 := (hMt.env.box (w1.heap.size, 3, .int .i64 N) (by simp)).lt
            dsimp only at e7 l7
            have HMx := Lib.hid hMt
            have HWs := Lib.hid hws
            clear hMt hws
            by_cases hiN : i < N
            · gi_wp2_with fail
              refine wpIn_loop_ghost (fun m a X => ∃ (j : Nat) (M : Nat → Nat → Bool), j ≤ N ∧ m = N - j ∧ Mt w1 [(w1.heap.size + 1 + 1, 61, .slice (some ⟨w1.heap.size + 1, 0, none⟩) N N), (w1.heap.size, 3, .int .i64 N)] W.heap.size ds (w1.heap.size + 1) N N rb M X ∧ Ws T N k i j M ∧ a = { tmps := #[.int .i64 q, v, undef, undef, .int .i64 0, .int .i64 0, .pointer (some ⟨gm, 0, none⟩), .pointer (some ⟨w1.heap.size, 0, none⟩), .pointer (some ⟨w1.heap.size + 1 + 1, 0, none⟩), (a.tmps.getD 9 undef), (a.tmps.getD 10 undef), (a.tmps.getD 11 undef), .int .i64 k, .int .i64 i, (a.tmps.getD 14 undef), undef, undef, undef, undef, undef, undef, undef, (a.tmps.getD 22 undef), (a.tmps.getD 23 undef), (a.tmps.getD 24 undef), (a.tmps.getD 25 undef), (a.tmps.getD 26 undef), (a.tmps.getD 27 undef), (a.tmps.getD 28 undef), (a.tmps.getD 29 undef), (a.tmps.getD 30 undef), (a.tmps.getD 31 undef), (a.tmps.getD 32 undef), (a.tmps.getD 33 undef), (a.tmps.getD 34 undef), (a.tmps.getD 35 undef), (a.tmps.getD 36 undef), (a.tmps.getD 37 undef), (a.tmps.getD 38 undef), (a.tmps.getD 39 undef), (a.tmps.getD 40 undef), (a.tmps.getD 41 undef), (a.tmps.getD 42 undef), (a.tmps.getD 43 undef), (a.tmps.getD 44 undef), (a.tmps.getD 45 undef), (a.tmps.getD 46 undef), (a.tmps.getD 47 undef), (a.tmps.getD 48 undef), (a.tmps.getD 49 undef), (a.tmps.getD 50 undef), (a.tmps.getD 51 undef), (a.tmps.getD 52 undef), (a.tmps.getD 53 undef), (a.tmps.getD 54 undef), (a.tmps.getD 55 undef), (a.tmps.getD 56 undef), (a.tmps.getD 57 undef), .int .i64 N, .int .i64 k, (a.tmps.getD 60 undef), (a.tmps.getD 61 undef), .int .i64 N, .int .i64 i, (a.tmps.getD 64 undef), (a.tmps.getD 65 undef), .int .i64 N, .int .i64 j, (a.tmps.getD 68 undef), (a.tmps.getD 69 undef), (a.tmps.getD 70 undef), (a.tmps.getD 71 undef), (a.tmps.getD 72 undef), (a.tmps.getD 73 undef), (a.tmps.getD 74 undef), (a.tmps.getD 75 undef), (a.tmps.getD 76 undef), (a.tmps.getD 77 undef), (a.tmps.getD 78 undef), (a.tmps.getD 79 undef), (a.tmps.getD 80 undef), (a.tmps.getD 81 undef), (a.tmps.getD 82 undef), (a.tmps.getD 83 undef), (a.tmps.getD 84 undef), (a.tmps.getD 85 undef), (a.tmps.getD 86 undef), (a.tmps.getD 87 undef), (a.tmps.getD 88 undef), (a.tmps.getD 89 undef), (a.tmps.getD 90 undef), (a.tmps.getD 91 undef), (a.tmps.getD 92 undef), (a.tmps.getD 93 undef), (a.tmps.getD 94 undef), (a.tmps.getD 95 undef), (a.tmps.getD 96 undef), (a.tmps.getD 97 undef), (a.tmps.getD 98 undef), (a.tmps.getD 99 undef), (a.tmps.getD 100 undef), (a.tmps.getD 101 undef), (a.tmps.getD 102 undef), (a.tmps.getD 103 undef), undef, undef, undef, undef, undef, undef, undef, undef, undef, undef, undef, undef, undef, undef, undef, undef, undef, undef, undef, undef, undef, undef, undef, undef, undef, undef, undef, undef, undef, undef, undef], defers := ds }) N ?_ ?_
              · exact ⟨0, M, Nat.zero_le _, rfl, HMx.out, HWs.out, rfl⟩
              · clear u HMx HWs e7 l7
                rintro m a X ⟨j, M, hj, rfl, hMt, hws, ha⟩
                obtain ⟨u, hu⟩ : ∃ u : Nat → Value, u = fun n => a.tmps.getD n undef := ⟨_, rfl⟩
                have ha' : a = { tmps := #[.int .i64 q, v, undef, undef, .int .i64 0, .int .i64 0, .pointer (some ⟨gm, 0, none⟩), .pointer (some ⟨w1.heap.size, 0, none⟩), .pointer (some ⟨w1.heap.size + 1 + 1, 0, none⟩), (u 9), (u 10), (u 11), .int .i64 k, .int .i64 i, (u 14), undef, undef, undef, undef, undef, undef, undef, (u 22), (u 23), (u 24), (u 25), (u 26), (u 27), (u 28), (u 29), (u 30), (u 31), (u 32), (u 33), (u 34), (u 35), (u 36), (u 37), (u 38), (u 39), (u 40), (u 41), (u 42), (u 43), (u 44), (u 45), (u 46), (u 47), (u 48), (u 49), (u 50), (u 51), (u 52), (u 53), (u 54), (u 55), (u 56), (u 57), .int .i64 N, .int .i64 k, (u 60), (u 61), .int .i64 N, .int .i64 i, (u 64), (u 65), .int .i64 N, .int .i64 j, (u 68), (u 69), (u 70), (u 71), (u 72), (u 73), (u 74), (u 75), (u 76), (u 77), (u 78), (u 79), (u 80), (u 81), (u 82), (u 83), (u 84), (u 85), (u 86), (u 87), (u 88), (u 89), (u 90), (u 91), (u 92), (u 93), (u 94), (u 95), (u 96), (u 97), (u 98), (u 99), (u 100), (u 101), (u 102), (u 103), undef, undef, undef, undef, undef, undef, undef, undef, undef, undef, undef, undef, undef, undef, undef, undef, undef, undef, undef, undef, undef, undef, undef, undef, undef, undef, undef, undef, undef, undef, undef], defers := ds } := by rw [hu]; exact ha
                clear hu ha
                subst ha'
                have e8 := (hMt.env.box _ (List.mem_cons_self ..)).cell
                have l8 := (hMt.env.box _ (List.mem_cons_self ..)).lt
                dsimp only at e8 l8
                by_cases hjN : j < N
                · have q1 := hMt.at1 (i := i) (Nat.le_refl _) hiN
                  have q1k := hMt.at1 (i := k) (Nat.le_refl _) hkN
                  have q2 := hMt.at2 (i := i) hiN hjN
                  have q2k := hMt.at2 (i := i) hiN hkN
                  have q3 := hMt.at2 (i := k) hkN hjN
                  have q4 := hMt.fr2 (i := i) (j := j) hiN
                  have q5 := hMt.lt2 (i := i) hiN
                  have q5k := hMt.lt2 (i := k) hkN
                  have q6 := hMt.lt1
                  unfold rowS at q1 q1k
                  obtain ⟨x, hx⟩ : ∃ x, x = M i j := ⟨_, rfl⟩
                  obtain ⟨y, hy⟩ : ∃ y, y = M i k := ⟨_, rfl⟩
                  obtain ⟨z, hz⟩ : ∃ z, z = M k j := ⟨_, rfl⟩
                  have HWc : Hid (∀ u : Bool, u = (x || (y && z)) → Ws T N k i (j + 1) (fun a b => if a = i ∧ b = j then u else M a b)) := Lib.hid fun u hu => hws.cell hkN hiN hjN (by rw [hu, hx, hy, hz])
                  have HST : Hid (∀ (u : Bool) (nq : Nat), u = (x || (y && z)) → Mt w1 [(w1.heap.size + 1 + 1, 61, .slice (some ⟨w1.heap.size + 1, 0, none⟩) N N), (w1.heap.size, 3, .int .i64 N)] W.heap.size ds (w1.heap.size + 1) N N rb (fun a b => if a = i ∧ b = j then u else M a b) ((X.drewN nq).setCell ⟨rb i, j, none⟩ (.bool u))) :=
                    Lib.hid fun u nq _ => (hMt.draw nq).store (by intro b hb; simp at hb; rcases hb with rfl | rfl <;> (dsimp only; decide)) hiN hjN u
                  rw [← hx] at q2
                  rw [← hy] at q2k
                  rw [← hz] at q3
                  clear hx hy hz hMt hws
                  cases x with
                  | true =>
                      gi_wp2_with fail
                      refine wpIn_region_tail 31 rfl hmix (by kernel_rfl) ?_
                      simp only [List.take_succ_cons, List.take_zero, List.drop_succ_cons, List.drop_zero]
                      repeat (gi_big_quiet_step (fail))
                      refine wpQuietIn_nil ?_
                      rintro _ ⟨nq, rfl⟩
                      gi_wp2_with fail
                      exact ⟨N - (j + 1), by omega, j + 1, _, by omega, rfl, HST.out _ nq rfl, HWc.out _ rfl, rfl⟩
                  | false =>
                    cases y with
                    | false =>
                      gi_wp2_with fail
                      refine wpIn_region_tail 31 rfl hmix (by kernel_rfl) ?_
                      simp only [List.take_succ_cons, List.take_zero, List.drop_succ_cons, List.drop_zero]
                      repeat (gi_big_quiet_step (fail))
                      refine wpQuietIn_nil ?_
                      rintro _ ⟨nq, rfl⟩
                      gi_wp2_with fail
                      exact ⟨N - (j + 1), by omega, j + 1, _, by omega, rfl, HST.out _ nq rfl, HWc.out _ rfl, rfl⟩
                    | true =>
                      gi_wp2_with fail
                      refine wpIn_region_tail 31 rfl hmix (by kernel_rfl) ?_
                      simp only [List.take_succ_cons, List.take_zero, List.drop_succ_cons, List.drop_zero]
                      repeat (gi_big_quiet_step (fail))
                      refine wpQuietIn_nil ?_
                      rintro _ ⟨nq, rfl⟩
                      gi_wp2_with fail
                      exact ⟨N - (j + 1), by omega, j + 1, _, by omega, rfl, HST.out _ nq rfl, HWc.out _ rfl, rfl⟩
                · have ej : N = j := by omega
                  subst ej
                  have HMx := Lib.hid hMt
                  have HWs := Lib.hid hws.row
                  clear hMt hws
                  gi_wp2_with fail
                  exact ⟨N - (i + 1), by omega, i + 1, M, by omega, rfl, HMx.out, HWs.out, rfl⟩
            · have ei : N = i := by omega
              subst ei
              have HWs := Lib.hid HWs.out.round
              gi_wp2_with fail
              exact ⟨N - (k + 1), by omega, k + 1, M, by omega, rfl, HMx.out, HWs.out, rfl⟩
        · have ek : N = k := by omega
          subst ek
          have XLo : Hid (w1.heap.size ≤ X.heap.size) := Lib.hid HMx.out.env.low.size
          have hLO : Hid (LeadOk T N M) := Lib.hid (HWs.out.done (by have := HN.out; rw [this]; exact hT))
          obtain ⟨X1, hX1⟩ : ∃ X1, X1 = (X.alloc (.map #[] 0)).alloc (.cells #[.map (some X.heap.size)] 66) := ⟨_, rfl⟩
          have M1 : Mt w1 [(X.heap.size + 1, 66, .map (some X.heap.size)), (w1.heap.size + 1 + 1, 61, .slice (some ⟨w1.heap.size + 1, 0, none⟩) N N), (w1.heap.size, 3, .int .i64 N)] X1.heap.size ds (w1.heap.size + 1) N N rb M X1 := by
            have hb : Below X.heap.size X X1 := by rw [hX1]; exact bl_alloc (bl_alloc (bl_refl X) _) _
            have h := HMx.out.kept hb
            have E := (HMx.out.env.below (bl_alloc (bl_refl X) (.map #[] 0))).new 66 (.map (some X.heap.size))
            simp only [World.size_alloc] at E
            rw [← hX1] at E
            exact ⟨E.high, h.hdr, h.rows, h.inj⟩
          have R1m : MapF kindIB X1 X.heap.size 0 (rdF T M 0) := by
            have := (MapF.made kindIB X).same (g := rdF T M 0) (fun x => by unfold rdF; rw [if_neg (by omega)])
            rw [hX1]
            exact this.below (bl_alloc (bl_refl _) _)
          have e7' := (M1.env.box (w1.heap.size, 3, .int .i64 N) (by simp)).cell
          have l7' := (M1.env.box (w1.heap.size, 3, .int .i64 N) (by simp)).lt
          dsimp only at l7'
          have HM1 := Lib.hid (And.intro M1 R1m)
          rw [hX1] at e7' l7'
          clear M1 R1m HMx HWs
          gi_wp2_with fail
          rw [← hX1]
          clear hX1 e7 l7
          refine wpIn_loop_ghost (fun m a Y => ∃ (k : Nat) (ds : List Deferred), k ≤ N ∧ m = N - k ∧ Mt w1 [(X.heap.size + 1, 66, .map (some X.heap.size)), (w1.heap.size + 1 + 1, 61, .slice (some ⟨w1.heap.size + 1, 0, none⟩) N N), (w1.heap.size, 3, .int .i64 N)] Y.heap.size ds (w1.heap.size + 1) N N rb M Y ∧ MapF kindIB Y X.heap.size k (rdF T M k) ∧ (∀ i, i < k → inN T M i ≤ 1) ∧ X.heap.size + 1 < Y.heap.size ∧ a = { tmps := #[.int .i64 q, v, undef, undef, .int .i64 0, .int .i64 0, .pointer (some ⟨gm, 0, none⟩), .pointer (some ⟨w1.heap.size, 0, none⟩), .pointer (some ⟨w1.heap.size + 1 + 1, 0, none⟩), (a.tmps.getD 9 undef), (a.tmps.getD 10 undef), (a.tmps.getD 11 undef), (a.tmps.getD 12 undef), (a.tmps.getD 13 undef), (a.tmps.getD 14 undef), .pointer (some ⟨X.heap.size + 1, 0, none⟩), (a.tmps.getD 16 undef), (a.tmps.getD 17 undef), (a.tmps.getD 18 undef), (a.tmps.getD 19 undef), undef, undef, (a.tmps.getD 22 undef), (a.tmps.getD 23 undef), (a.tmps.getD 24 undef), (a.tmps.getD 25 undef), (a.tmps.getD 26 undef), (a.tmps.getD 27 undef), (a.tmps.getD 28 undef), (a.tmps.getD 29 undef), (a.tmps.getD 30 undef), (a.tmps.getD 31 undef), (a.tmps.getD 32 undef), (a.tmps.getD 33 undef), (a.tmps.getD 34 undef), (a.tmps.getD 35 undef), (a.tmps.getD 36 undef), (a.tmps.getD 37 undef), (a.tmps.getD 38 undef), (a.tmps.getD 39 undef), (a.tmps.getD 40 undef), (a.tmps.getD 41 undef), (a.tmps.getD 42 undef), (a.tmps.getD 43 undef), (a.tmps.getD 44 undef), (a.tmps.getD 45 undef), (a.tmps.getD 46 undef), (a.tmps.getD 47 undef), (a.tmps.getD 48 undef), (a.tmps.getD 49 undef), (a.tmps.getD 50 undef), (a.tmps.getD 51 undef), (a.tmps.getD 52 undef), (a.tmps.getD 53 undef), (a.tmps.getD 54 undef), (a.tmps.getD 55 undef), (a.tmps.getD 56 undef), (a.tmps.getD 57 undef), (a.tmps.getD 58 undef), (a.tmps.getD 59 undef), (a.tmps.getD 60 undef), (a.tmps.getD 61 undef), (a.tmps.getD 62 undef), (a.tmps.getD 63 undef), (a.tmps.getD 64 undef), (a.tmps.getD 65 undef), (a.tmps.getD 66 undef), (a.tmps.getD 67 undef), (a.tmps.getD 68 undef), (a.tmps.getD 69 undef), (a.tmps.getD 70 undef), (a.tmps.getD 71 undef), (a.tmps.getD 72 undef), (a.tmps.getD 73 undef), (a.tmps.getD 74 undef), (a.tmps.getD 75 undef), (a.tmps.getD 76 undef), (a.tmps.getD 77 undef), (a.tmps.getD 78 undef), (a.tmps.getD 79 undef), (a.tmps.getD 80 undef), (a.tmps.getD 81 undef), (a.tmps.getD 82 undef), (a.tmps.getD 83 undef), (a.tmps.getD 84 undef), (a.tmps.getD 85 undef), (a.tmps.getD 86 undef), (a.tmps.getD 87 undef), (a.tmps.getD 88 undef), (a.tmps.getD 89 undef), (a.tmps.getD 90 undef), (a.tmps.getD 91 undef), (a.tmps.getD 92 undef), (a.tmps.getD 93 undef), (a.tmps.getD 94 undef), (a.tmps.getD 95 undef), (a.tmps.getD 96 undef), (a.tmps.getD 97 undef), (a.tmps.getD 98 undef), (a.tmps.getD 99 undef), (a.tmps.getD 100 undef), (a.tmps.getD 101 undef), (a.tmps.getD 102 undef), (a.tmps.getD 103 undef), (a.tmps.getD 104 undef), .int .i64 N, .int .i64 k, (a.tmps.getD 107 undef), (a.tmps.getD 108 undef), (a.tmps.getD 109 undef), (a.tmps.getD 110 undef), (a.tmps.getD 111 undef), (a.tmps.getD 112 undef), (a.tmps.getD 113 undef), (a.tmps.getD 114 undef), (a.tmps.getD 115 undef), (a.tmps.getD 116 undef), (a.tmps.getD 117 undef), (a.tmps.getD 118 undef), (a.tmps.getD 119 undef), (a.tmps.getD 120 undef), (a.tmps.getD 121 undef), (a.tmps.getD 122 undef), (a.tmps.getD 123 undef), (a.tmps.getD 124 undef), (a.tmps.getD 125 undef), (a.tmps.getD 126 undef), (a.tmps.getD 127 undef), (a.tmps.getD 128 undef), (a.tmps.getD 129 undef), undef, undef, undef, undef, undef], defers := ds }) N ?_ ?_
          · exact ⟨0, ds, Nat.zero_le _, rfl, HM1.out.1, HM1.out.2, fun i hi => absurd hi (Nat.not_lt_zero _), (HM1.out.1.env.box _ (List.mem_cons_self ..)).lt, rfl⟩
          · clear u e7' l7' HM1
            rintro m a Y ⟨k, ds, hk, rfl, hMt, hmR, hin, hXY, ha⟩
            obtain ⟨u, hu⟩ : ∃ u : Nat → Value, u = fun n => a.tmps.getD n undef := ⟨_, rfl⟩
            have ha' : a = { tmps := #[.int .i64 q, v, undef, undef, .int .i64 0, .int .i64 0, .pointer (some ⟨gm, 0, none⟩), .pointer (some ⟨w1.heap.size, 0, none⟩), .pointer (some ⟨w1.heap.size + 1 + 1, 0, none⟩), (u 9), (u 10), (u 11), (u 12), (u 13), (u 14), .pointer (some ⟨X.heap.size + 1, 0, none⟩), (u 16), (u 17), (u 18), (u 19), undef, undef, (u 22), (u 23), (u 24), (u 25), (u 26), (u 27), (u 28), (u 29), (u 30), (u 31), (u 32), (u 33), (u 34), (u 35), (u 36), (u 37), (u 38), (u 39), (u 40), (u 41), (u 42), (u 43), (u 44), (u 45), (u 46), (u 47), (u 48), (u 49), (u 50), (u 51), (u 52), (u 53), (u 54), (u 55), (u 56), (u 57), (u 58), (u 59), (u 60), (u 61), (u 62), (u 63), (u 64), (u 65), (u 66), (u 67), (u 68), (u 69), (u 70), (u 71), (u 72), (u 73), (u 74), (u 75), (u 76), (u 77), (u 78), (u 79), (u 80), (u 81), (u 82), (u 83), (u 84), (u 85), (u 86), (u 87), (u 88), (u 89), (u 90), (u 91), (u 92), (u 93), (u 94), (u 95), (u 96), (u 97), (u 98), (u 99), (u 100), (u 101), (u 102), (u 103), (u 104), .int .i64 N, .int .i64 k, (u 107), (u 108), (u 109), (u 110), (u 111), (u 112), (u 113), (u 114), (u 115), (u 116), (u 117), (u 118), (u 119), (u 120), (u 121), (u 122), (u 123), (u 124), (u 125), (u 126), (u 127), (u 128), (u 129), undef, undef, undef, undef, undef], defers := ds } := by rw [hu]; exact ha
            clear hu ha
            subst ha'
            have XL : Hid (w1.heap.size ≤ X.heap.size) := XLo
            have YW : Hid (w1.heap.size ≤ Y.heap.size) := Lib.hid hMt.env.low.size
            have XW : Hid (w1.heap.size + 1 + 1 < Y.heap.size) := Lib.hid (hMt.env.box (w1.heap.size + 1 + 1, 61, .slice (some ⟨w1.heap.size + 1, 0, none⟩) N N) (by simp)).lt
            have e7 := (hMt.env.box (w1.heap.size, 3, .int .i64 N) (by simp)).cell
            by_cases hkN : k < N
            · have hi' : k < S.length := by have := HN.out; omega
              obtain ⟨Y2, hY2⟩ : ∃ Y2, Y2 = (Y.alloc (.cells #[.int .i64 k] 3)).alloc (.cells #[.int .i64 0] 3) := ⟨_, rfl⟩
              have hb2 : Below Y.heap.size Y Y2 := by rw [hY2]; exact bl_alloc (bl_alloc (bl_refl Y) _) _
              have M2 : Mt w1 [(Y.heap.size + 1, 3, .int .i64 0), (Y.heap.size, 3, .int .i64 k), (X.heap.size + 1, 66, .map (some X.heap.size)), (w1.heap.size + 1 + 1, 61, .slice (some ⟨w1.heap.size + 1, 0, none⟩) N N), (w1.heap.size, 3, .int .i64 N)] Y2.heap.size ds (w1.heap.size + 1) N N rb M Y2 := by
                have h := hMt.kept hb2
                have E := ((hMt.env.new 3 (.int .i64 k)).new 3 (.int .i64 0)).high
                simp only [World.size_alloc] at E
                rw [← hY2] at E
                exact ⟨by rw [show Y2.heap.size = Y.heap.size + 1 + 1 by rw [hY2]; simp]; exact E, h.hdr, h.rows, h.inj⟩
              have R2 := hmR.below hb2
              have e16 := (M2.env.box (Y.heap.size, 3, .int .i64 k) (by simp)).cell
              have l16 := (M2.env.box (Y.heap.size, 3, .int .i64 k) (by simp)).lt
              dsimp only at l16
              rw [hY2] at e16 l16
              have HM2 := Lib.hid (And.intro M2 R2)
              have HIN := Lib.hid hin
              clear hMt hmR M2 R2 hb2 hin
              gi_wp2_with fail
              refine ⟨trivial, ?_⟩
              rw [← hY2]
              clear hY2 e16 l16
              refine (ST.out _ _ _ _).mono ?_
              rintro e w5 ⟨rfl, hw5⟩
              obtain ⟨bx1, bx2⟩ : Boxed w5 Y2.heap.size 56 (.pointer (some ⟨gm, 0, none⟩)) ∧ Boxed w5 (Y2.heap.size + 1) 3 (.int .i64 k) := by
                rw [hw5]
                refine ⟨(Boxed.new Y2 _ _).alloc _, ?_⟩
                have := Boxed.new (Y2.alloc (.cells #[.pointer (some ⟨gm, 0, none⟩)] 56)) 3 (.int .i64 k)
                rwa [World.size_alloc] at this
              have HZ5 : Hid (w5.heap.size = Y2.heap.size + 2) := Lib.hid (by rw [hw5]; simp)
              have hb5 : Below Y2.heap.size Y2 w5 := by rw [hw5]; exact bl_alloc (bl_alloc (bl_refl Y2) _) _
              have M5 := HM2.out.1.kept hb5
              have M5 : Hid (Mt w1 [(Y.heap.size + 1, 3, .int .i64 0), (Y.heap.size, 3, .int .i64 k), (X.heap.size + 1, 66, .map (some X.heap.size)), (w1.heap.size + 1 + 1, 61, .slice (some ⟨w1.heap.size + 1, 0, none⟩) N N), (w1.heap.size, 3, .int .i64 N)] w5.heap.size ds (w1.heap.size + 1) N N rb M w5 ∧ MapF kindIB w5 X.heap.size k (rdF T M k)) := Lib.hid ⟨⟨M5.env.high, M5.hdr, M5.rows, M5.inj⟩, HM2.out.2.below hb5⟩
              have M5s := Lib.hid M5.out.1.env.low.size
              have YZ : Hid (Y.heap.size + 1 < w5.heap.size) := Lib.hid (M5.out.1.env.box _ (List.mem_cons_self ..)).lt
              clear hw5 hb5 HM2
              gi_wp2_with fail
              refine wpIn_rangeFunc_ownG (w0 := w5) rfl (by omega) (gf := 50) (lb := #[.pointer (some ⟨Y2.heap.size, 0, none⟩), .pointer (some ⟨Y2.heap.size + 1, 0, none⟩)]) rfl trivial (enters_of Try.func50 (by kernel_rfl) rfl)
                (steps_stops 8 gm q Y2.heap.size (Y2.heap.size + 1) k _ _ w1 w5 HM.out hT hq.2 hS hi' M5.out.1.env.low (by have := HZ5.out; omega) bx1.cell (by have := HZ5.out; omega) bx2.cell) belowK_t (belowK_b (by have := M5s.out; omega)) (Below.refl _ _) (fun _ => rfl)
                (fun pre Z => Mt w1 [(Y.heap.size + 1, 3, .int .i64 (inP M pre : Nat)), (Y.heap.size, 3, .int .i64 k), (X.heap.size + 1, 66, .map (some X.heap.size)), (w1.heap.size + 1 + 1, 61, .slice (some ⟨w1.heap.size + 1, 0, none⟩) N N), (w1.heap.size, 3, .int .i64 N)] w5.heap.size ds (w1.heap.size + 1) N N rb M Z ∧ MapF kindIB Z X.heap.size k (rdF T M k) ∧ inP M pre ≤ pre.length)
                (fun c pre Z => False) ?o1 (fun c s A D row hs hg hr => hs.elim) ⟨M5.out.1, M5.out.2, Nat.le_refl _⟩
                (fun x => { tmps := #[.int .i64 q, v, undef, undef, .int .i64 0, .int .i64 0, .pointer (some ⟨gm, 0, none⟩), .pointer (some ⟨w1.heap.size, 0, none⟩), .pointer (some ⟨w1.heap.size + 1 + 1, 0, none⟩), (u 9), (u 10), (u 11), (u 12), (u 13), (u 14), .pointer (some ⟨X.heap.size + 1, 0, none⟩), .pointer (some ⟨Y.heap.size, 0, none⟩), .pointer (some ⟨Y.heap.size + 1, 0, none⟩), (u 18), .int .i64 x.1.2, undef, undef, (u 22), (u 23), (u 24), (u 25), (u 26), (u 27), (u 28), (u 29), (u 30), (u 31), (u 32), (u 33), (u 34), (u 35), (u 36), (u 37), (u 38), (u 39), (u 40), (u 41), (u 42), (u 43), (u 44), (u 45), (u 46), (u 47), (u 48), (u 49), (u 50), (u 51), (u 52), (u 53), (u 54), (u 55), (u 56), (u 57), (u 58), (u 59), (u 60), (u 61), (u 62), (u 63), (u 64), (u 65), (u 66), (u 67), (u 68), (u 69), (u 70), (u 71), (u 72), (u 73), (u 74), (u 75), (u 76), (u 77), (u 78), (u 79), (u 80), (u 81), (u 82), (u 83), (u 84), (u 85), (u 86), (u 87), (u 88), (u 89), (u 90), (u 91), (u 92), (u 93), (u 94), (u 95), (u 96), (u 97), (u 98), (u 99), (u 100), (u 101), (u 102), (u 103), (u 104), .int .i64 N, .int .i64 k, .bool true, .int .i64 k, .pointer (some ⟨gm, 0, none⟩), .int .i64 k, .func (.func 50) #[] #[.pointer (some ⟨Y2.heap.size, 0, none⟩), .pointer (some ⟨Y2.heap.size + 1, 0, none⟩)], .string (bs [ltr x.1.1]), .int .i64 x.1.2, (u 114), (u 115), (u 116), (u 117), (u 118), (u 119), (u 120), (u 121), (u 122), (u 123), (u 124), (u 125), (u 126), (u 127), (u 128), (u 129), undef, undef, undef, undef, undef], defers := [] }) ?assign ?body ?done ?stop
              case o1 =>
                rintro s A D row ⟨hs, hs2, hs3⟩ hg hr
                refine ⟨Mt.own (β := Unit) M5s.out (Nat.le_refl _) () A D row hs hg hr, hs2.kept hg fun e => ?_, hs3⟩
                have h1 := (hr _ e.symm).1
                have := YZ.out
                omega
              case assign =>
                intro l x X' K hK
                dsimp only [encP]
                gi_wp2
                exact hK
              case stop =>
                rintro D c pre X' _ _ h _
                exact h.elim
              case body =>
                rintro l pre ⟨⟨c, j⟩, hmem⟩ Z ⟨hX, hR, hle⟩ hpl
                dsimp only
                obtain ⟨hcq, hjn⟩ := hT.stp hi' hmem
                have hjN : j < N := by have := HN.out; omega
                have hlen : pre.length ≤ 3 := by
                  have := stp_len hT hi'
                  omega
                have e16 := (hX.env.box (Y.heap.size, 3, .int .i64 k) (by simp)).cell
                have l16 := (hX.env.box (Y.heap.size, 3, .int .i64 k) (by simp)).lt
                have e17 := (hX.env.box (Y.heap.size + 1, 3, .int .i64 (inP M pre : Nat)) (by simp)).cell
                have l17 := (hX.env.box (Y.heap.size + 1, 3, .int .i64 (inP M pre : Nat)) (by simp)).lt
                have f17 := (hX.env.box (Y.heap.size + 1, 3, .int .i64 (inP M pre : Nat)) (by simp)).frozen
                have e8 := (hX.env.box (w1.heap.size + 1 + 1, 61, .slice (some ⟨w1.heap.size + 1, 0, none⟩) N N) (by simp)).cell
                have l8 := (hX.env.box (w1.heap.size + 1 + 1, 61, .slice (some ⟨w1.heap.size + 1, 0, none⟩) N N) (by simp)).lt
                dsimp only at l16 l17 l8 f17
                have q1 := hX.at1 (i := j) (Nat.le_refl _) hjN
                have q2 := hX.at2 (i := j) hjN hkN
                have q5 := hX.lt1
                have q6 := hX.lt2 (i := j) hjN
                unfold rowS at q1
                have hpu := inP_push (M := M) (pre := pre) ⟨(c, j), hmem⟩
                dsimp only at hpu
                have hws : w1.heap.size ≤ Y.heap.size := YW.out
                have HX := Lib.hid (And.intro hX hR)
                obtain ⟨n0, hn0'⟩ : ∃ n0, n0 = inP M pre := ⟨_, rfl⟩
                rw [← hn0'] at e17 hpu HX hle
                clear hX hR
                cases hjk : M j k with
                | false =>
                  rw [hjk] at q2 hpu
                  simp only [Bool.false_eq_true, if_false, Nat.add_zero] at hpu
                  have HPU := Lib.hid hpu
                  clear hpu hn0' hjk
                  gi_wp2_with fail
                  refine wpIn_region_quiet_round rfl hmix (by kernel_rfl) (by intro o ho c h; simp at ho; rcases ho with rfl | rfl | rfl | rfl | rfl | rfl | rfl <;> cases h) ?_
                  repeat (gi_big_quiet_step (fail))
                  refine wpQuietIn_nil ?_
                  rintro _ ⟨nq, rfl⟩
                  gi_wp2_with fail
                  refine ⟨keeps_drewN _ Z nq, (Below.refl w1.heap.size Z).grown (grown_drew Z nq) HX.out.1.env.low.size (fun r e => by cases e), ?_⟩
                  dsimp only
                  rw [HPU.out]
                  exact ⟨HX.out.1.draw nq, HX.out.2.kept (grown_drew Z nq) (by simp), by simp; omega⟩
                | true =>
                  rw [hjk] at q2 hpu
                  simp only [if_true] at hpu
                  have HPU := Lib.hid hpu
                  clear hpu hn0' hjk
                  gi_wp2_with fail
                  refine wpIn_region_quiet_round rfl hmix (by kernel_rfl) (by intro o ho c h; simp at ho; rcases ho with rfl | rfl | rfl | rfl | rfl | rfl | rfl <;> cases h) ?_
                  repeat (gi_big_quiet_step (fail))
                  refine wpQuietIn_nil ?_
                  rintro _ ⟨nq, rfl⟩
                  gi_wp2_with fail
                  refine ⟨(keeps_drewN _ Z nq).trans (keeps_set _ _ _ _), ((Below.refl w1.heap.size Z).grown (grown_drew Z nq) HX.out.1.env.low.size (fun r e => by cases e)).setCell (by show w1.heap.size ≤ Y.heap.size + 1; omega) _, ?_⟩
                  dsimp only
                  rw [HPU.out]
                  refine ⟨(HX.out.1.draw nq).box1 (u := .int .i64 n0) (by omega) (by decide) (by decide) ?_ _, (HX.out.2.kept (grown_drew Z nq) (by simp)).kept (grown_set _ _ 0 _) (by simp; omega), by simp; omega⟩
                  intro b hb
                  simp only [List.mem_cons, List.not_mem_nil, or_false] at hb
                  rcases hb with rfl | rfl | rfl | rfl
                  · show Y.heap.size ≠ _; omega
                  · show X.heap.size + 1 ≠ _; omega
                  · show w1.heap.size + 1 + 1 ≠ _; have := XW.out; omega
                  · show w1.heap.size ≠ _; omega
              case done =>
                rintro D xs Z hD hxs ⟨hX, hR, hle⟩ hKD
                rw [inP_all hxs] at hX hle
                have hlen : inN T M k ≤ 3 := by
                  have h1 := stp_len hT hi'
                  have h2 : xs.length = (stp T k).length := by rw [← hxs]; simp
                  omega
                have e16 := (hX.env.box (Y.heap.size, 3, .int .i64 k) (by simp)).cell
                have l16 := (hX.env.box (Y.heap.size, 3, .int .i64 k) (by simp)).lt
                have e17 := (hX.env.box (Y.heap.size + 1, 3, .int .i64 (inN T M k : Nat)) (by simp)).cell
                have l17 := (hX.env.box (Y.heap.size + 1, 3, .int .i64 (inN T M k : Nat)) (by simp)).lt
                have e15 := (hX.env.box (X.heap.size + 1, 66, .map (some X.heap.size)) (by simp)).cell
                have l15 := (hX.env.box (X.heap.size + 1, 66, .map (some X.heap.size)) (by simp)).lt
                dsimp only at l16 l17 l15
                have HE := Lib.hid ((hX.env.push (by have := M5s.out; omega) hD hKD).less (bl' := [(X.heap.size + 1, 66, .map (some X.heap.size)), (w1.heap.size + 1 + 1, 61, .slice (some ⟨w1.heap.size + 1, 0, none⟩) N N), (w1.heap.size, 3, .int .i64 N)]) (fun y hy => List.mem_cons_of_mem _ (List.mem_cons_of_mem _ hy)))
                obtain ⟨n0, hn0'⟩ : ∃ n0, n0 = inN T M k := ⟨_, rfl⟩
                rw [← hn0'] at e17 hlen
                have HN0 := Lib.hid hn0'
                obtain ⟨w6, s6, hm6, hg6⟩ := hR.store (x := (k : Int)) (y := (inN T M k == 1)) (WalkArith.wf_i64 (by omega)) trivial (by unfold maxLen; omega)
                have hm6 := hm6.same (rdF_step T M k)
                dsimp only [kindIB] at s6
                rw [← hn0'] at s6
                have hM6 := (show Mt w1 [(X.heap.size + 1, 66, .map (some X.heap.size)), (w1.heap.size + 1 + 1, 61, .slice (some ⟨w1.heap.size + 1, 0, none⟩) N N), (w1.heap.size, 3, .int .i64 N)] Z.heap.size ({ target := .collected D, args := #[] } :: ds) (w1.heap.size + 1) N N rb M Z from ⟨HE.out, hX.hdr, hX.rows, hX.inj⟩)
                obtain ⟨es, clock, hmb⟩ := hR.block
                have hM7 : Mt w1 [(X.heap.size + 1, 66, .map (some X.heap.size)), (w1.heap.size + 1 + 1, 61, .slice (some ⟨w1.heap.size + 1, 0, none⟩) N N), (w1.heap.size, 3, .int .i64 N)] w6.heap.size ({ target := .collected D, args := #[] } :: ds) (w1.heap.size + 1) N N rb M w6 := by
                  have hc : ∀ t cur, Z.heap[X.heap.size]? ≠ some (.cells cur t (0, 0)) := fun t cur hx => by rw [hmb] at hx; cases hx
                  refine ⟨Env.high (hM6.env.kept hg6 fun r e => ?_), hM6.hdr.kept hg6 (own_ne hM6.hdr (hc _)), fun i hi => (hM6.rows i hi).kept hg6 (own_ne (hM6.rows i hi) (hc _)), hM6.inj⟩
                  cases e
                  exact ⟨fun b hb => boxed_ne (hM6.env.box b hb) hmb rfl, XL.out, .inr (by rw [hmb]; simp)⟩
                have HF := Lib.hid (And.intro hM7 hm6)
                have hz6 := hg6.size
                have hXY6 : X.heap.size + 1 < w6.heap.size := Nat.lt_of_lt_of_le l15 hz6
                clear hX hR hKD hm6 hg6 hM6 hM7 hmb hxs M5 bx1 bx2 hle hn0'
                have hc3 : n0 = 0 ∨ n0 = 1 ∨ 1 < n0 := by omega
                rcases hc3 with rfl | rfl | hc3
                · rw [show ((0 : Nat) == 1) = false from rfl] at s6
                  gi_wp2_with fail
                  refine ⟨N - (k + 1), by omega, k + 1, by omega, rfl, _, HF.out.1, HF.out.2, fun i hi => ?_, by omega, rfl⟩
                  rcases Nat.lt_or_ge i k with h | h
                  · exact HIN.out i h
                  · obtain rfl : i = k := by omega
                    rw [← HN0.out]; omega
                · rw [show ((1 : Nat) == 1) = true from rfl] at s6
                  gi_wp2_with fail
                  refine ⟨N - (k + 1), by omega, k + 1, by omega, rfl, _, HF.out.1, HF.out.2, fun i hi => ?_, by omega, rfl⟩
                  rcases Nat.lt_or_ge i k with h | h
                  · exact HIN.out i h
                  · obtain rfl : i = k := by omega
                    rw [← HN0.out]; omega
                · clear s6
                  gi_wp2_with fail
                  refine leaves_marks _ _ HE.out.marks.marks HE.out.low.size (fun w' hb => ⟨_, results_tmp2 rfl _ _ _, ⟨M, hLO.out, .inl ⟨⟨k, hkN, by rw [← HN0.out]; exact hc3⟩, rfl⟩⟩, bl_then R1.out (HE.out.low.trans hb)⟩)
            · have ek : N = k := by omega
              subst ek
              have hM : ∀ a b c, a < N → b < N → c < N → M a b = true → M b c = true → M a c = true := fun a b c ha hb hc h1 h2 => hLO.out.trans ha hb hc h1 h2
              obtain ⟨fv, hfv⟩ : ∃ fv, fv = Value.func (.func 35) #[] #[.pointer (some ⟨Y.heap.size + 1, 0, none⟩), .pointer (some ⟨w1.heap.size, 0, none⟩), .pointer (some ⟨w1.heap.size + 1 + 1, 0, none⟩), .pointer (some ⟨Y.heap.size + 1 + 1, 0, none⟩), .pointer (some ⟨X.heap.size + 1, 0, none⟩)] := ⟨_, rfl⟩
              obtain ⟨Y4, hY4⟩ : ∃ Y4, Y4 = ((Y.alloc (.map #[] 0)).alloc (.cells #[.map (some Y.heap.size)] 67)).alloc (.cells #[fv] 68) := ⟨_, rfl⟩
              have hb4 : Below Y.heap.size Y Y4 := by rw [hY4]; exact bl_alloc (bl_alloc (bl_alloc (bl_refl Y) _) _) _
              have hK4 : MapF kindII Y4 Y.heap.size 0 (mapN fun _ => none) := by
                have h := (MapF.made kindII Y).same (g := mapN fun _ => none) (fun x => by unfold mapN; split <;> rfl)
                rw [hY4]
                exact h.below (bl_alloc (bl_alloc (bl_refl _) _) _)
              have hR4 := hmR.below hb4
              have hM4 : Mt w1 (chBl (Y.heap.size + 1) w1.heap.size (w1.heap.size + 1 + 1) (Y.heap.size + 1 + 1) (X.heap.size + 1) Y.heap.size X.heap.size (w1.heap.size + 1) N) Y.heap.size ds (w1.heap.size + 1) N N rb M Y4 := by
                have h := hMt.kept hb4
                have E := ((hMt.env.below (bl_alloc (bl_refl Y) (.map #[] 0))).new 67 (.map (some Y.heap.size))).new 68 fv
                simp only [World.size_alloc] at E
                rw [← hY4] at E
                refine ⟨E.less fun x hx => ?_, h.hdr, h.rows, h.inj⟩
                simp only [chBl, ← hfv, List.mem_cons, List.not_mem_nil, or_false] at hx ⊢
                rcases hx with rfl | rfl | rfl | rfl | rfl <;> simp
              have l7 := (hMt.env.box (w1.heap.size, 3, .int .i64 N) (by simp)).lt
              dsimp only at l7
              have CH := Lib.hid fun n => callsIn_up (n := n) rfl (chain_calls w1 (Y.heap.size + 1) w1.heap.size (w1.heap.size + 1 + 1) (Y.heap.size + 1 + 1) (X.heap.size + 1) Y.heap.size X.heap.size (w1.heap.size + 1) N Y.heap.size N ds rb M (fun i => inN T M i == 1) hNS hM (by omega) YW.out (Nat.le_refl _) N 1000 0 0 (fun _ => none) Y4 (rk_le M N 0) (by omega) hn0 (fun k v h => by cases h) hM4 hR4 hK4 (by have := free_start N; omega))
              have HF := Lib.hid (And.intro hM4 (And.intro hK4 hin))
              have hcs := ch_small (R := fun i => inN T M i == 1) hM hn0
              obtain ⟨cv, hcv⟩ : ∃ cv, cv = chC M (fun i => inN T M i == 1) N 0 := ⟨_, rfl⟩
              rw [← hcv] at hcs
              clear hMt hmR hb4 hK4 hR4 hM4 hin
              gi_wp2_with fail
              refine ⟨trivial, ?_⟩
              rw [← hfv, ← hY4]
              clear hY4 hfv
              refine (CH.out _).mono ?_
              rintro e Y5 ⟨K', cnt', rfl, _, _, _, _, _, r6⟩
              rw [← hcv]
              have M5 := HF.out.1.map HF.out.2.1 YW.out (Nat.le_refl _) r6
              have HM5 := Lib.hid M5.env
              have HCV := Lib.hid hcv
              clear r6 M5 hcv
              gi_wp2_with fail
              refine leaves_marks _ _ HM5.out.marks.marks HM5.out.low.size (fun w' hb => ⟨_, results_tmp2 rfl _ _ _, ⟨M, hLO.out, .inr ⟨HF.out.2.2, by rw [← HCV.out]; rfl⟩⟩, bl_then R1.out (HM5.out.low.trans hb)⟩)
end Go.Proofs.Ytnamafakjkcmjaa
