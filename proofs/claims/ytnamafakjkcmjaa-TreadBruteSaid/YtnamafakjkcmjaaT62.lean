/-
  Index: the place of a word.
-/
import Derived.Test.YtnamafakjkcmjaaT61
import Derived.Test.YtnamafakjkcmjaaMK
import Derived.Test.YtnamafakjkcmjaaT43
namespace Go.Proofs.Ytnamafakjkcmjaa
open Go.RowKit Go.Shelf
set_option linter.unusedVariables false
set_option linter.unusedSimpArgs false
attribute [local go_sem] Oper.semAt_some

theorem sumA_most {T : Tab} {i p : Nat} {B : Int} (h : ∀ y ∈ stp T i, ((accL T p y.2).length : Int) ≤ B) : ∀ pre : List (StpOf T i), (sumA T p (pre.map (·.1)) : Int) ≤ pre.length * B
  | [] => by simp [sumA]
  | y :: pre => by
    have h1 := sumA_most h pre
    have h2 := h y.1 y.2
    have e : sumA T p ((y :: pre).map (·.1)) = (accL T p y.1.2).length + sumA T p (pre.map (·.1)) := by simp [sumA]
    rw [e, List.length_cons]
    have e2 : ((pre.length + 1 : Nat) : Int) * B = (pre.length : Int) * B + B := by rw [Int.natCast_add, Int.add_mul]; simp
    rw [e2]
    omega
/-- The letter has not come yet. -/
def NotC {T : Tab} {i : Nat} (c : Nat) (pre : List (StpOf T i)) : Prop := ∀ y ∈ pre, y.1.1 ≠ c
theorem NotC.start {T : Tab} {i : Nat} (c : Nat) : NotC c ([] : List (StpOf T i)) := fun y h => absurd h List.not_mem_nil
theorem NotC.push {T : Tab} {i c : Nat} {pre : List (StpOf T i)} {x : StpOf T i} (h : NotC c pre) (hx : x.1.1 ≠ c) : NotC c (pre ++ [x]) := by
  intro y hy
  rcases List.mem_append.1 hy with hy | hy
  · exact h y hy
  · rw [List.mem_singleton.1 hy]; exact hx
set_option maxRecDepth 100000 in
set_option maxHeartbeats 4000000 in
theorem Index_any (q Z : Nat) (v : Value) (ss : List ByteArray) (wd : Str) (w : World) (T : Tab) (hTd : T = tabL (pats ss) q) (hv : StrsAt w v ss) (hset : setB q ss = true) (hZd : wd.length = Z) (hz60 : Z ≤ 60) (hwl : lettB q wd = true) (hG : HasG w) :
    Calls Try.prog 16 #[.int .i64 q, v, .string (bs wd)] w fun e w' =>
      ((fewB T Z = false ∧ e = .returned (.tuple #[.int .i64 0, .int .i64 5])) ∨ (fewB T Z = true ∧ okL (pats ss) wd = false ∧ e = .returned (.tuple #[.int .i64 0, .int .i64 6])) ∨
       (fewB T Z = true ∧ okL (pats ss) wd = true ∧ e = .returned (.tuple #[.int .i64 ((accL T Z 0).idxOf wd : Nat), .int .i64 0]))) ∧ Below w.heap.size w w' := by
  have hmix : Try.prog.follows .mixedOrders = true := by kernel_rfl
  have hdd : ∀ k : Nat, (Fence.wide.depth.isSome = true → 1 ≤ k) := fun k h => by cases h
  have hmf : ∀ (fn : Fn) (first cap : Array Value) (w : World), (Instr.makeFunc fn first cap).run Try.prog w = .ok (.func fn first cap) w := fun _ _ _ _ => rfl
  have hq : 1 ≤ q ∧ q ≤ 3 := by have := (setB_parts hset).1; omega
  have h0 := ok_nil (pats_some hset)
  have hp5 := pats_five hset
  have IS := Lib.hid fun m W h => callsIn_up (n := m) rfl (isSet_any q v ss W h)
  rw [hset] at IS
  have IW := Lib.hid fun m W => callsIn_up (n := m) rfl (isWord_any q hq.2 (bs wd) W)
  rw [sb_bs, hwl] at IW
  have NM := Lib.hid fun m W h1 h2 => callsIn_up (n := m) rfl (newMachine_x q hq v ss W h1 h0 h2)
  have hT := tab_ok (q := q) h0
  have hS := stL_few (pats ss) hq.2
  have hN0 : 0 < (stL (pats ss) q).length := by rw [stL_fix h0]; simp
  have HMEM := Lib.hid (mem_acc0 h0 hp5 hq.2 Z wd)
  rw [← hTd] at NM hT HMEM
  obtain ⟨S, hSd⟩ : ∃ S, S = stL (pats ss) q := ⟨_, rfl⟩
  rw [← hSd] at NM hT hS hN0
  obtain ⟨N, hN⟩ : ∃ N, N = S.length := ⟨_, rfl⟩
  have CT := Lib.hid fun m gm W h => callsIn_up (n := m) rfl (counted_any gm q Z N S T W h hT hq.2 hS hN (by omega) (by omega))
  have AV := Lib.hid fun m W h1 h2 => callsIn_up (n := m) rfl (avoids_any v ss (bs wd) W h1 (by show wd.length < 4294967281; omega) h2)
  rw [sb_bs] at AV
  have ST := Lib.hid fun n gm i W => steps_in n gm i W
  have HLT := Lib.hid ((lettB_iff hq.2 wd).1 hwl)
  have HN := Lib.hid hN
  have hTl := hT.len
  rw [← hN] at hN0 hTl
  have hNb : N ≤ 121 := by omega
  obtain ⟨W0, hW0⟩ : ∃ W0, W0 = w.alloc (.cells #[.string (bs wd)] 9) := ⟨_, rfl⟩
  have hb0 : Below w.heap.size w W0 := by rw [hW0]; exact bl_alloc (bl_refl w) _
  have HV := Lib.hid (hv.kept hb0)
  have HG := Lib.hid (hG.kept hb0)
  have hx : Boxed W0 w.heap.size 9 (.string (bs wd)) := by rw [hW0]; exact Boxed.new w _ _
  have HX : Hid (∀ W', Below W0.heap.size W0 W' → W'.cell? ⟨w.heap.size, 0, none⟩ = some (.string (bs wd)) ∧ w.heap.size < W'.heap.size) := Lib.hid fun W' hb => ⟨(hb.cell (p := ⟨w.heap.size, 0, none⟩) hx.lt).trans hx.cell, Nat.lt_of_lt_of_le hx.lt hb.size⟩
  have HB0 := Lib.hid hb0
  have HW0 := Lib.hid hW0
  have hzs : (bs wd).size = Z := hZd
  have HZD := Lib.hid hZd
  have hcn : ¬ (60 : Int) < (Z : Int) := by omega
  have hcd : decide ((60 : Int) < (Z : Int)) = false := decide_eq_false hcn
  clear hv hG hset hwl hTd hSd h0 hN hb0 hW0 hx hp5 hZd
  refine (callsIn_wide (n := 9)).1 ?_
  refine callsIn_of_wp_marks Try.func16 rfl trivial ?_ rfl
  simp only [Try.ntmps16, List.size_toArray, List.length_cons, List.length_nil, Nat.reduceAdd, Nat.reduceSub, Array.replicate_succ, Array.replicate_zero, List.push_toArray, List.append_toArray, List.nil_append, List.cons_append]
  gi_wp2_with fail
  refine ⟨trivial, ?_⟩
  rw [← HW0.out]
  refine (IS.out _ _ HV.out).mono ?_
  rintro e w1 ⟨rfl, r1⟩
  have HB1 := Lib.hid (bl_then (bl_refl W0) r1)
  obtain ⟨e5, l5⟩ := HX.out _ HB1.out
  clear r1
  gi_wp2_with fail
  refine ⟨trivial, ?_⟩
  refine (IW.out _ _).mono ?_
  rintro e w2 ⟨rfl, r2⟩
  have HB2 := Lib.hid (bl_then HB1.out r2)
  clear r2 e5 l5
  gi_wp2_with fail
  refine ⟨trivial, ?_⟩
  refine (NM.out _ _ (HV.out.kept HB2.out) (HG.out.kept HB2.out)).mono ?_
  rintro e w3 ⟨gm, gS, cS, gN, cN, hdrs, rfl, hMx, r3⟩
  have HB3 := Lib.hid (bl_then HB2.out r3)
  obtain ⟨e5, l5⟩ := HX.out _ HB3.out
  have HM3 := Lib.hid hMx.y
  obtain ⟨base, hbase⟩ : ∃ base, base = w2.heap.size := ⟨_, rfl⟩
  have hwb : w.heap.size < base := by have := (HX.out _ HB2.out).2; omega
  rw [← hbase] at HM3
  obtain ⟨top, htop⟩ : ∃ top, top = w3.heap.size := ⟨_, rfl⟩
  have HTOP := Lib.hid htop
  rw [← htop] at HM3
  clear hMx r3 hbase htop
  gi_wp2_with fail
  refine ⟨trivial, ?_⟩
  refine (CT.out _ gm w3 (HM3.out.at (Nat.le_of_eq HTOP.out))).mono ?_
  rintro e w4 ⟨r4, hr⟩
  have HB4 := Lib.hid (bl_then HB3.out r4)
  have HM4 := Lib.hid (HM3.out.kept r4)
  have HZ4 := Lib.hid r4.size
  clear r4 e5 l5 HM3
  obtain ⟨e5, l5⟩ := HX.out _ HB4.out
  rcases hr with ⟨hf, rfl⟩ | ⟨hf, g, c, rfl, hgl, hgr⟩
  · have HF := Lib.hid hf
    have HLAST : Hid (Below w.heap.size w (w4.alloc (.cells #[.slice none 0 0] 58))) := Lib.hid (bl_alloc (bl_then HB0.out HB4.out) _)
    clear hf
    gi_wp2_with fail
    exact ⟨_, results_tmp2 rfl _ _ _, .inl ⟨HF.out, rfl⟩, HLAST.out⟩
  · have HF := Lib.hid hf
    have HGR := Lib.hid hgr
    clear hf hgr
    obtain ⟨bg, hbg⟩ : ∃ bg, bg = w4.heap.size := ⟨_, rfl⟩
    obtain ⟨W5, hW5⟩ : ∃ W5, W5 = w4.alloc (.cells #[.slice (some ⟨g, 0, none⟩) (Z + 1) c] 58) := ⟨_, rfl⟩
    have HW5 := Lib.hid hW5
    have HBG := Lib.hid hbg
    have hb5 : Below w4.heap.size w4 W5 := by rw [hW5]; exact bl_alloc (bl_refl w4) _
    have E5 : Env w4 [(bg, 58, .slice (some ⟨g, 0, none⟩) (Z + 1) c)] W5.heap.size [] W5 := by
      have E00 : Env w4 [] w4.heap.size [] w4 := ⟨fun b hb => absurd hb List.not_mem_nil, bl_refl w4, MarksTo.nil _ _ _, Nat.le_refl _⟩
      have := (E00.new 58 (.slice (some ⟨g, 0, none⟩) (Z + 1) c)).high
      rw [hW5, hbg]; exact this
    have HB5 := Lib.hid (bl_then HB4.out hb5)
    have HM5 := Lib.hid (HM4.out.kept hb5)
    have E5 := Lib.hid E5
    clear hW5 hbg hb5
    gi_wp2_with fail
    refine ⟨trivial, ?_⟩
    rw [← HW5.out]
    refine (AV.out _ _ (HV.out.kept HB5.out) (HG.out.kept HB5.out)).mono ?_
    rintro e w6 ⟨rfl, r6⟩
    have HB6 := Lib.hid (bl_then HB5.out r6)
    have HM6 := Lib.hid (HM5.out.kept r6)
    have E6 := Lib.hid (E5.out.below r6).high
    clear r6 e5 l5 HM5 E5
    obtain ⟨f6, k6⟩ := HX.out _ HB6.out
    cases hok : okL (pats ss) wd with
    | false =>
      have HOK := Lib.hid hok
      have HLAST : Hid (Below w.heap.size w w6) := Lib.hid (bl_then HB0.out HB6.out)
      clear hok
      gi_wp2_with fail
      exact ⟨_, results_tmp2 rfl _ _ _, .inr (.inl ⟨HF.out, HOK.out, rfl⟩), HLAST.out⟩
    | true =>
      have HOK := Lib.hid hok
      clear hok
      gi_wp2_with fail
      obtain ⟨bo, hbo⟩ : ∃ bo, bo = w6.heap.size := ⟨_, rfl⟩
      obtain ⟨bi, hbi⟩ : ∃ bi, bi = w6.heap.size + 1 := ⟨_, rfl⟩
      obtain ⟨W7, hW7⟩ : ∃ W7, W7 = (w6.alloc (.cells #[.int .i64 0] 3)).alloc (.cells #[.int .i64 0] 3) := ⟨_, rfl⟩
      have hb7 : Below w6.heap.size w6 W7 := by rw [hW7]; exact bl_alloc (bl_alloc (bl_refl w6) _) _
      have E7 : Env w4 [(bi, 3, .int .i64 ((0 : Nat) : Int)), (bo, 3, .int .i64 ((0 : Nat) : Int)), (bg, 58, .slice (some ⟨g, 0, none⟩) (Z + 1) c)] W7.heap.size [] W7 := by
        have := ((E6.out.new 3 (.int .i64 0)).new 3 (.int .i64 0)).high
        simp only [World.size_alloc] at this
        rw [hW7, hbi, hbo]
        simp only [World.size_alloc]
        exact this
      have HB7 := Lib.hid (bl_then HB6.out hb7)
      have HM7 := Lib.hid (HM6.out.kept hb7)
      have E7 := Lib.hid E7
      have HI0 := Lib.hid (IndexAt.start (n := Z) (w := wd) hT hq.2 (by have := HN.out; omega) HF.out (HMEM.out.2 ⟨HZD.out, HLT.out, HOK.out⟩))
      have HORD0 : Hid (w4.heap.size ≤ bg ∧ bg < bo ∧ bi = bo + 1 ∧ top ≤ bo) := Lib.hid (by
        have h1 := (E6.out.box (bg, 58, .slice (some ⟨g, 0, none⟩) (Z + 1) c) (by simp)).lt
        have h2 := HBG.out
        have h3 := HTOP.out
        have h4 := HZ4.out
        dsimp only at h1
        omega)
      rw [← hW7, ← hbi, ← hbo, ← HBG.out]
      clear hW7 hbi hbo hb7 E6 HM6 f6 k6
      refine wpIn_loop_ghost (fun m a X => ∃ (k i out : Nat) (ds : List Deferred), m + k = Z ∧ IndexAt T Z wd k i out ∧ Env w4 [(bi, 3, .int .i64 i), (bo, 3, .int .i64 out), (bg, 58, .slice (some ⟨g, 0, none⟩) (Z + 1) c)] X.heap.size ds X ∧ MachY base top X gm q S T gS cS gN cN hdrs ∧
        a = { tmps := #[.int .i64 q, v, .string (bs wd), undef, undef, .pointer (some ⟨w.heap.size, 0, none⟩), (a.tmps.getD 6 undef), (a.tmps.getD 7 undef), .pointer (some ⟨gm, 0, none⟩), .pointer (some ⟨bg, 0, none⟩), (a.tmps.getD 10 undef), .pointer (some ⟨bo, 0, none⟩), .pointer (some ⟨bi, 0, none⟩), (a.tmps.getD 13 undef), (a.tmps.getD 14 undef), (a.tmps.getD 15 undef), (a.tmps.getD 16 undef), (a.tmps.getD 17 undef), (a.tmps.getD 18 undef), (a.tmps.getD 19 undef), (a.tmps.getD 20 undef), (a.tmps.getD 21 undef), (a.tmps.getD 22 undef), (a.tmps.getD 23 undef), (a.tmps.getD 24 undef), (a.tmps.getD 25 undef), (a.tmps.getD 26 undef), (a.tmps.getD 27 undef), (a.tmps.getD 28 undef), (a.tmps.getD 29 undef), (a.tmps.getD 30 undef), (a.tmps.getD 31 undef), (a.tmps.getD 32 undef), (a.tmps.getD 33 undef), (a.tmps.getD 34 undef), (a.tmps.getD 35 undef), (a.tmps.getD 36 undef), (a.tmps.getD 37 undef), (a.tmps.getD 38 undef), (a.tmps.getD 39 undef), (a.tmps.getD 40 undef), (a.tmps.getD 41 undef), (a.tmps.getD 42 undef), (a.tmps.getD 43 undef), (a.tmps.getD 44 undef), (a.tmps.getD 45 undef), (a.tmps.getD 46 undef), (a.tmps.getD 47 undef), (a.tmps.getD 48 undef), .int .i64 Z, .int .i64 k, (a.tmps.getD 51 undef), (a.tmps.getD 52 undef), (a.tmps.getD 53 undef), (a.tmps.getD 54 undef), (a.tmps.getD 55 undef), (a.tmps.getD 56 undef), (a.tmps.getD 57 undef), (a.tmps.getD 58 undef), (a.tmps.getD 59 undef), (a.tmps.getD 60 undef), (a.tmps.getD 61 undef), (a.tmps.getD 62 undef), (a.tmps.getD 63 undef), (a.tmps.getD 64 undef), (a.tmps.getD 65 undef), (a.tmps.getD 66 undef), (a.tmps.getD 67 undef), (a.tmps.getD 68 undef), (a.tmps.getD 69 undef), (a.tmps.getD 70 undef), (a.tmps.getD 71 undef), (a.tmps.getD 72 undef), (a.tmps.getD 73 undef), (a.tmps.getD 74 undef), (a.tmps.getD 75 undef), (a.tmps.getD 76 undef), (a.tmps.getD 77 undef), (a.tmps.getD 78 undef), (a.tmps.getD 79 undef), (a.tmps.getD 80 undef)], defers := ds }) Z ?_ ?_
      · exact ⟨0, 0, 0, [], by omega, HI0.out, E7.out, HM7.out, rfl⟩
      · rintro m a X ⟨k, i, out, ds, hmk, hI, hE, hMX, ha⟩
        obtain ⟨u, hu⟩ : ∃ u : Nat → Value, u = fun n => a.tmps.getD n undef := ⟨_, rfl⟩
        have ha' : a = { tmps := #[.int .i64 q, v, .string (bs wd), undef, undef, .pointer (some ⟨w.heap.size, 0, none⟩), (u 6), (u 7), .pointer (some ⟨gm, 0, none⟩), .pointer (some ⟨bg, 0, none⟩), (u 10), .pointer (some ⟨bo, 0, none⟩), .pointer (some ⟨bi, 0, none⟩), (u 13), (u 14), (u 15), (u 16), (u 17), (u 18), (u 19), (u 20), (u 21), (u 22), (u 23), (u 24), (u 25), (u 26), (u 27), (u 28), (u 29), (u 30), (u 31), (u 32), (u 33), (u 34), (u 35), (u 36), (u 37), (u 38), (u 39), (u 40), (u 41), (u 42), (u 43), (u 44), (u 45), (u 46), (u 47), (u 48), .int .i64 Z, .int .i64 k, (u 51), (u 52), (u 53), (u 54), (u 55), (u 56), (u 57), (u 58), (u 59), (u 60), (u 61), (u 62), (u 63), (u 64), (u 65), (u 66), (u 67), (u 68), (u 69), (u 70), (u 71), (u 72), (u 73), (u 74), (u 75), (u 76), (u 77), (u 78), (u 79), (u 80)], defers := ds } := by rw [hu]; exact ha
        clear hu ha
        subst ha'
        have ei := (hE.box _ (List.mem_cons_self ..)).cell
        have li := (hE.box _ (List.mem_cons_self ..)).lt
        have eo := (hE.box (bo, 3, .int .i64 out) (by simp)).cell
        have lo := (hE.box (bo, 3, .int .i64 out) (by simp)).lt
        have HBX := Lib.hid (bl_then HB4.out hE.low)
        obtain ⟨e5, l5⟩ := HX.out _ HBX.out
        dsimp only at ei li eo lo
        have HE := Lib.hid hE
        have HMX := Lib.hid hMX
        have HI := Lib.hid hI
        clear hE hMX hI E7 HM7
        by_cases hk : k < Z
        · have hkz : (k : Int) < (Z : Int) := by omega
          obtain ⟨cW, jW, hcW, hmW, hc3, hdrop⟩ := HI.out.next hk HZD.out
          obtain ⟨p, hp⟩ : ∃ p, p = Z - (k + 1) := ⟨_, rfl⟩
          rw [← hp] at hdrop
          obtain ⟨NN, qq, hT', hq', hi'⟩ := HI.out.st
          have hiN : i < S.length := by have h1 := hT'.len; have h2 := hT.len; omega
          obtain ⟨X1, hX1⟩ : ∃ X1, X1 = X.alloc (.cells #[.int .i64 k] 3) := ⟨_, rfl⟩
          have hbX : Below X.heap.size X X1 := by rw [hX1]; exact bl_alloc (bl_refl X) _
          have HE1 : Hid (Env w4 [(X.heap.size, 3, .int .i64 k), (bi, 3, .int .i64 i), (bo, 3, .int .i64 out), (bg, 58, .slice (some ⟨g, 0, none⟩) (Z + 1) c)] X1.heap.size ds X1) := by
            have := (HE.out.new 3 (.int .i64 k)).high
            rw [← hX1] at this
            exact this
          have HM1 := Lib.hid (HMX.out.kept hbX)
          have HBK := Lib.hid (And.intro li (And.intro lo (HE.out.box (bg, 58, .slice (some ⟨g, 0, none⟩) (Z + 1) c) (by simp)).lt))
          clear hT' hq' hi' hbX
          gi_wp2_with fail
          refine ⟨trivial, ?_⟩
          rw [← hX1]
          clear hX1 ei eo e5 l5 li lo
          refine (ST.out _ _ _ _).mono ?_
          rintro e w9 ⟨rfl, hw9⟩
          obtain ⟨bx1, bx2⟩ : Boxed w9 X1.heap.size 56 (.pointer (some ⟨gm, 0, none⟩)) ∧ Boxed w9 (X1.heap.size + 1) 3 (.int .i64 i) := by
            rw [hw9]
            refine ⟨(Boxed.new X1 _ _).alloc _, ?_⟩
            have := Boxed.new (X1.alloc (.cells #[.pointer (some ⟨gm, 0, none⟩)] 56)) 3 (.int .i64 i)
            rwa [World.size_alloc] at this
          have HZ9 : Hid (w9.heap.size = X1.heap.size + 2) := Lib.hid (by rw [hw9]; simp)
          have hb9 : Below X1.heap.size X1 w9 := by rw [hw9]; exact bl_alloc (bl_alloc (bl_refl X1) _) _
          have E9 := Lib.hid (HE1.out.below hb9).high
          have M9 := Lib.hid (HM1.out.kept hb9)
          clear hw9 hb9 HE HMX HM1 HE1
          gi_wp2_with fail
          refine wpIn_rangeFunc_ownG (w0 := w9) rfl (by omega) (gf := 50) (lb := #[.pointer (some ⟨X1.heap.size, 0, none⟩), .pointer (some ⟨X1.heap.size + 1, 0, none⟩)]) rfl trivial (enters_of Try.func50 (by kernel_rfl) rfl)
            (steps_stops_x 8 base top gm q X1.heap.size (X1.heap.size + 1) i S T gS cS gN cN hdrs w9 M9.out hT hq.2 hS hiN (by have := HZ9.out; omega) bx1.cell (by have := HZ9.out; omega) bx2.cell) keepX_t (fun W l o o' _ h hc _ => keepX_b W l o o' h hc) (Below.refl _ _) (fun _ => rfl)
            (fun pre Y => (Env w4 [(X.heap.size, 3, .int .i64 k), (bi, 3, .int .i64 i), (bo, 3, .int .i64 ((out + sumA T p (pre.map (·.1)) : Nat) : Int)), (bg, 58, .slice (some ⟨g, 0, none⟩) (Z + 1) c)] w9.heap.size ds Y ∧ MachY base top Y gm q S T gS cS gN cN hdrs) ∧ NotC cW pre)
            (fun c' pre Y => c' = .exit 2 ∧ ∃ (pre' : List (Nat × Nat)) (jF : Nat), pre.map (·.1) = pre' ++ [(cW, jF)] ∧ Env w4 [(X.heap.size, 3, .int .i64 k), (bi, 3, .int .i64 jF), (bo, 3, .int .i64 ((out + sumA T p pre' : Nat) : Int)), (bg, 58, .slice (some ⟨g, 0, none⟩) (Z + 1) c)] w9.heap.size ds Y ∧ MachY base top Y gm q S T gS cS gN cN hdrs)
            ?o1 ?o2 ⟨⟨E9.out, M9.out⟩, NotC.start _⟩
            (fun x => { tmps := #[.int .i64 q, v, .string (bs wd), undef, undef, .pointer (some ⟨w.heap.size, 0, none⟩), (u 6), (u 7), .pointer (some ⟨gm, 0, none⟩), .pointer (some ⟨bg, 0, none⟩), (u 10), .pointer (some ⟨bo, 0, none⟩), .pointer (some ⟨bi, 0, none⟩), .pointer (some ⟨X.heap.size, 0, none⟩), .string (bs [ltr x.1.1]), .int .i64 x.1.2, (u 16), (u 17), (u 18), (u 19), (u 20), (u 21), (u 22), (u 23), (u 24), (u 25), (u 26), (u 27), (u 28), (u 29), (u 30), (u 31), (u 32), (u 33), (u 34), (u 35), (u 36), (u 37), (u 38), (u 39), (u 40), (u 41), (u 42), (u 43), (u 44), (u 45), (u 46), (u 47), (u 48), .int .i64 Z, .int .i64 k, .bool true, .int .i64 k, .pointer (some ⟨gm, 0, none⟩), .int .i64 i, .func (.func 50) #[] #[.pointer (some ⟨X1.heap.size, 0, none⟩), .pointer (some ⟨X1.heap.size + 1, 0, none⟩)], .string (bs [ltr x.1.1]), .int .i64 x.1.2, (u 58), (u 59), (u 60), (u 61), (u 62), (u 63), (u 64), (u 65), (u 66), (u 67), (u 68), (u 69), (u 70), (u 71), (u 72), (u 73), (u 74), (u 75), (u 76), (u 77), (u 78), (u 79), (u 80)], defers := [] }) ?assign ?body ?done ?stop
          case o1 =>
            rintro s A D row ⟨⟨h, h2⟩, h'⟩ hg hr
            exact ⟨⟨Env.own (β := Unit) E9.out.low.size (Nat.le_refl _) () A D row h hg hr, machY_own h2 hg hr⟩, h'⟩
          case o2 =>
            rintro c s A D row ⟨h0, pre', jF, e1, h, h2⟩ hg hr
            exact ⟨h0, pre', jF, e1, Env.own (β := Unit) E9.out.low.size (Nat.le_refl _) () A D row h hg hr, machY_own h2 hg hr⟩
          case assign =>
            intro l x X' K hK
            dsimp only [encP]
            gi_wp2
            exact hK
          case done =>
            rintro D xs X' hD hxs ⟨_, hpre⟩ _
            have h5 : (cW, jW) ∈ xs.map (·.1) := by rw [hxs]; exact hmW
            obtain ⟨y, hy, e⟩ := List.mem_map.1 h5
            exact absurd (by rw [e]) (hpre y hy)
          case body =>
            rintro l pre ⟨⟨c', j⟩, hmem⟩ Y ⟨⟨hX, hMY⟩, hpre⟩ hpl
            dsimp only
            obtain ⟨hcq, hjn⟩ := hT.stp hiN hmem
            have hjN : j < N := by have := HN.out; omega
            have e13 := (hX.box _ (List.mem_cons_self ..)).cell
            have l13 := (hX.box _ (List.mem_cons_self ..)).lt
            have ei := (hX.box (bi, 3, .int .i64 i) (by simp)).cell
            have fi := (hX.box (bi, 3, .int .i64 i) (by simp)).frozen
            have li := (hX.box (bi, 3, .int .i64 i) (by simp)).lt
            have eo := (hX.box (bo, 3, .int .i64 ((out + sumA T p (pre.map (·.1)) : Nat) : Int)) (by simp)).cell
            have fo := (hX.box (bo, 3, .int .i64 ((out + sumA T p (pre.map (·.1)) : Nat) : Int)) (by simp)).frozen
            have lo := (hX.box (bo, 3, .int .i64 ((out + sumA T p (pre.map (·.1)) : Nat) : Int)) (by simp)).lt
            have eg := (hX.box (bg, 58, .slice (some ⟨g, 0, none⟩) (Z + 1) c) (by simp)).cell
            have lg := (hX.box (bg, 58, .slice (some ⟨g, 0, none⟩) (Z + 1) c) (by simp)).lt
            dsimp only at e13 l13 ei fi li eo fo lo eg lg
            obtain ⟨e5, l5⟩ := HX.out _ (bl_then HB4.out hX.low)
            have hord := HORD0.out
            have hbk := HBK.out.1
            obtain ⟨sm, hsm⟩ : ∃ sm, sm = out + sumA T p (pre.map (·.1)) := ⟨_, rfl⟩
            rw [← hsm] at hX eo
            have hS1 := fun (W' : World) (jn : Nat) (hW' : Env w4 [(X.heap.size, 3, .int .i64 k), (bi, 3, .int .i64 i), (bo, 3, .int .i64 sm), (bg, 58, .slice (some ⟨g, 0, none⟩) (Z + 1) c)] w9.heap.size ds W') => Env.set (bl' := [(X.heap.size, 3, .int .i64 k), (bi, 3, .int .i64 jn), (bo, 3, .int .i64 sm), (bg, 58, .slice (some ⟨g, 0, none⟩) (Z + 1) c)]) hW' (b := bi) (t := 3) (u := .int .i64 i) (by simp) (.int .i64 jn) (by omega) (by
              intro x hx
              simp only [List.mem_cons, List.not_mem_nil, or_false] at hx ⊢
              rcases hx with rfl | rfl | rfl | rfl
              · exact .inr ⟨.inl rfl, by show X.heap.size ≠ bi; omega⟩
              · exact .inl rfl
              · exact .inr ⟨.inr (.inr (.inl rfl)), by show bo ≠ bi; omega⟩
              · exact .inr ⟨.inr (.inr (.inr rfl)), by show bg ≠ bi; omega⟩)
            have hS2 := fun (W' : World) (sn : Nat) (hW' : Env w4 [(X.heap.size, 3, .int .i64 k), (bi, 3, .int .i64 i), (bo, 3, .int .i64 sm), (bg, 58, .slice (some ⟨g, 0, none⟩) (Z + 1) c)] w9.heap.size ds W') => Env.set (bl' := [(X.heap.size, 3, .int .i64 k), (bi, 3, .int .i64 i), (bo, 3, .int .i64 sn), (bg, 58, .slice (some ⟨g, 0, none⟩) (Z + 1) c)]) hW' (b := bo) (t := 3) (u := .int .i64 sm) (by simp) (.int .i64 sn) (by omega) (by
              intro x hx
              simp only [List.mem_cons, List.not_mem_nil, or_false] at hx ⊢
              rcases hx with rfl | rfl | rfl | rfl
              · exact .inr ⟨.inl rfl, by show X.heap.size ≠ bo; omega⟩
              · exact .inr ⟨.inr (.inl rfl), by show bi ≠ bo; omega⟩
              · exact .inl rfl
              · exact .inr ⟨.inr (.inr (.inr rfl)), by show bg ≠ bo; omega⟩)
            have htop : top ≤ bi ∧ top ≤ bo := by omega
            obtain ⟨D, hD⟩ : ∃ D, D = k + 1 := ⟨_, rfl⟩
            have hext : (bs wd).extract k D = bs [ltr cW] := by
              obtain ⟨h1, h2⟩ := List.getElem?_eq_some_iff.1 hcW
              apply sb_inj
              unfold sb bs
              rw [ByteArray.data_extract, Array.toList_extract, hD]
              simp only [List.extract_eq_take_drop, Nat.add_sub_cancel_left]
              rw [List.drop_eq_getElem_cons h1, h2]
              rfl
            have hw1 : IntKind.i64.wrap ((k : Int) + 1) = (D : Int) := by rw [show (k : Int) + 1 = (D : Int) by omega]; exact wrapN (by omega)
            have hDZ : (D : Int) ≤ (Z : Int) := by omega
            have hkD : (k : Int) ≤ (D : Int) := by omega
            have hk0 : (0 : Int) ≤ (k : Int) := by omega
            have HX := Lib.hid (And.intro hX hMY)
            have HP := Lib.hid hpre
            have HS1 := Lib.hid hS1
            have HS2 := Lib.hid hS2
            have HSM := Lib.hid hsm
            have HPP := Lib.hid hp
            by_cases hcc : c' = cW
            · subst hcc
              have hM2 := Lib.hid (hMY.grown (grown_set Y bi 0 (.int .i64 j)) (fun r e => .inl (by cases e; exact htop.1)))
              clear hX hMY hpre hS1 hS2 hsm hp hD hcW hmW hdrop E9 M9 bx1 bx2 hord
              gi_wp2_with fail
              exact ⟨keeps_set _ _ _ _, rfl, pre.map (·.1), j, by simp, by rw [← HSM.out]; exact HS1.out _ _ HX.out.1, hM2.out⟩
            · have hne : (ltr c' == ltr cW) = false := by
                rw [beq_eq_false_iff_ne]
                intro h
                exact hcc (ltr_inj (by omega) hc3 h)
              have hbt1 := bs_toList [ltr c']
              have hbt2 := bs_toList [ltr cW]
              have hpZ : p ≤ Z := by omega
              obtain ⟨rb, rc, lrb, hrow⟩ := HGR.out p hpZ
              obtain ⟨y1, y2'⟩ := hrow Y hX.low
              have y2 := y2' j hjN
              have hlg := Nat.lt_of_lt_of_le hgl hX.low.size
              have hlb := Nat.lt_of_lt_of_le lrb hX.low.size
              have hcnt := HI.out.exact hk hmem
              rw [← hp] at hcnt
              obtain ⟨x, hx⟩ : ∃ x, x = (accL T p j).length := ⟨_, rfl⟩
              rw [hcnt, ← hx] at y2
              have hbd : ((sm + x : Nat) : Int) ≤ 4 * most1 := by
                have h1 := HI.out.few
                have h3 : ∀ y ∈ stp T i, ((accL T p y.2).length : Int) ≤ most1 := fun y hy => by
                  have h2 := acc_kid (m := p) (c := y.1) (j := y.2) hy
                  rw [show Z - k = p + 1 by omega] at h1
                  omega
                have h4 := sumA_most h3 pre
                have h5 := stp_len hT hiN
                have h6 : pre.length < (stp T i).length := hpl
                have h7 := h3 _ hmem
                dsimp only at h7
                rw [← hx] at h7
                have h8 : (pre.length : Int) * most1 ≤ 2 * most1 := Int.mul_le_mul_of_nonneg_right (by omega) (by unfold most1; omega)
                omega
              have hmo : most1 = 1152921504606846977 := rfl
              have HSUM : Hid (sumA T p ((pre ++ [(⟨(c', j), hmem⟩ : StpOf T i)]).map (·.1)) = sumA T p (pre.map (·.1)) + x) := Lib.hid (by rw [List.map_append, List.map_singleton, sumA_snoc, hx])
              obtain ⟨sn, hsn⟩ : ∃ sn, sn = sm + x := ⟨_, rfl⟩
              have hw3 : IntKind.i64.wrap ((sm : Int) + (x : Int)) = (sn : Int) := by rw [show (sm : Int) + (x : Int) = (sn : Int) by omega]; exact wrapI (by omega)
              have hw4 : IntKind.i64.wrap ((Z : Int) - 1) = (Z : Int) - 1 := wrapI (by omega)
              have hZk : (Z : Int) - 1 - (k : Int) = (p : Int) := by omega
              have hw5 : IntKind.i64.wrap ((Z : Int) - 1 - (k : Int)) = (p : Int) := by rw [hZk]; exact wrapN (by omega)
              have hpZ' : (p : Int) < (Z : Int) + 1 := by omega
              have hp0 : (0 : Int) ≤ (p : Int) := by omega
              have hjN' : (j : Int) < (N : Int) := by omega
              have hM3 := Lib.hid (fun nq => (hMY.grown (grown_drew Y nq) (fun r e => by cases e)).grown (grown_set (Y.drewN nq) bo 0 (.int .i64 (sn : Int))) (fun r e => .inl (by cases e; exact htop.2)))
              have HS3 := Lib.hid (fun nq => HS2.out (Y.drewN nq) sn (HX.out.1.kept (grown_drew Y nq) (fun r e => by cases e)))
              have HSN := Lib.hid hsn
              have HXw := Lib.hid hX.low.size
              have HCC := Lib.hid hcc
              clear hX hMY hpre hS1 hS2 hsm hp hD hcW hmW hdrop E9 M9 bx1 bx2 hrow y2' hcnt hx hbd hsn hcc hmo hord
              gi_wp2_with fail
              refine wpIn_region_tail_round 13 rfl hmix (by kernel_rfl) (by intro o ho c h; simp at ho; rcases ho with rfl | rfl | rfl | rfl | rfl | rfl | rfl | rfl | rfl | rfl | rfl | rfl | rfl | rfl <;> cases h) ?_
              simp only [List.take_succ_cons, List.take_zero, List.drop_succ_cons, List.drop_zero]
              repeat (gi_big_quiet_step (fail))
              refine wpQuietIn_nil ?_
              rintro _ ⟨nq, rfl⟩
              gi_wp2_with fail
              exact ⟨(keeps_drewN _ Y nq).trans (keeps_set _ _ _ _), fun m => (m.grown (grown_drew Y nq) (fun r e => by cases e)).grown (grown_set (Y.drewN nq) bo 0 _) (fun r e => .inl (by cases e; exact htop.2)), ⟨by rw [HSUM.out, show out + (sumA T p (pre.map (·.1)) + x) = sn by have := HSM.out; have := HSN.out; omega]; exact HS3.out nq, hM3.out nq⟩, HP.out.push HCC.out⟩
          case stop =>
            rintro D cc pre Y hD hpx ⟨rfl, pre', jF, hpe, hX, hMY⟩ hKD
            rw [hpe] at hpx
            have hmF : (cW, jF) ∈ stp T i := hpx.subset (by simp)
            have hjj : jF = jW := by
              have h1 := mem_steps.1 hmF
              have h2 := mem_steps.1 hmW
              rw [h1] at h2
              injection h2 with h2
              omega
            have hI2 := Lib.hid (HI.out.step hk hcW hpx (by rw [← hp, hjj]; exact hdrop))
            rw [← hp] at hI2
            have hXp := hX.push (by have := E9.out.low.size; omega) hD hKD
            have hEn := Lib.hid ((hXp.less (bl' := [(bi, 3, .int .i64 jF), (bo, 3, .int .i64 ((out + sumA T p pre' : Nat) : Int)), (bg, 58, .slice (some ⟨g, 0, none⟩) (Z + 1) c)]) (fun y hy => List.mem_cons_of_mem _ hy)))
            have HMY := Lib.hid hMY
            have hD1 : Hid (Z - (k + 1) < m ∧ Z - (k + 1) + (k + 1) = Z) := Lib.hid (by omega)
            clear hX hMY hXp hKD hpe hpx hp hcW hmW hdrop hmF hjj E9 M9 bx1 bx2 hD
            gi_wp2_with fail
            exact ⟨Z - (k + 1), hD1.out.1, k + 1, jF, out + sumA T p pre', _, hD1.out.2, hI2.out, hEn.out, HMY.out, rfl⟩
        · obtain rfl : k = Z := by omega
          have hnlt : ¬ (k : Int) < (k : Int) := by omega
          have HDN := Lib.hid (HI.out.done HZD.out)
          clear hk
          gi_wp2_with fail
          refine leaves_marks ds _ HE.out.marks.marks HE.out.low.size (fun w' hb => ⟨_, results_tmp2 rfl _ _ _, .inr (.inr ⟨HF.out, HOK.out, ?_⟩), ?_⟩)
          · rw [HDN.out]; rfl
          · exact bl_then HB0.out (bl_then HB4.out (HE.out.low.trans hb))
end Go.Proofs.Ytnamafakjkcmjaa
