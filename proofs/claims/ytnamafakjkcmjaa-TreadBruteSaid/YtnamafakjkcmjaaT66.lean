/-
  Item: the word at a place.
-/
import Derived.Test.YtnamafakjkcmjaaT65
import Derived.Test.YtnamafakjkcmjaaT62
namespace Go.Proofs.Ytnamafakjkcmjaa
open Go.RowKit Go.Shelf
set_option linter.unusedVariables false
set_option linter.unusedSimpArgs false
attribute [local go_sem] Oper.semAt_some

/-- The word at a place, or why there is none. -/
def ItemRes (T : Tab) (n : Nat) (K : Int) (e : Ending) : Prop :=
  (fewB T n = false ∧ e = .returned (.tuple #[.string ⟨#[]⟩, .int .i64 5])) ∨ (fewB T n = true ∧ ¬ (0 ≤ K ∧ K < (accL T n 0).length) ∧ e = .returned (.tuple #[.string ⟨#[]⟩, .int .i64 2])) ∨
  (∃ (k : Nat) (s : Str), fewB T n = true ∧ K = k ∧ (accL T n 0)[k]? = some s ∧ e = .returned (.tuple #[.string (bs s), .int .i64 0]))
/-- What the boxes hold in a round. -/
abbrev itemE (w : World) (b15 bi bo bg g n c : Nat) (kk i k : Int) (out : Str) (H : Nat) (ds : List Deferred) (X : World) : Prop :=
  Env w [(b15, 3, .int .i64 kk), (bi, 3, .int .i64 i), (bo, 9, .string (bs out)), (w.heap.size, 3, .int .i64 k), (bg, 58, .slice (some ⟨g, 0, none⟩) (n + 1) c)] H ds X
set_option maxRecDepth 100000 in
set_option maxHeartbeats 4000000 in
theorem Item_any (q n : Nat) (K : Int) (v : Value) (ss : List ByteArray) (w : World) (T : Tab) (hTd : T = tabL (pats ss) q) (hv : StrsAt w v ss) (hset : setB q ss = true) (hn : n ≤ 60) (hG : HasG w) :
    Calls Try.prog 21 #[.int .i64 q, v, .int .i64 n, .int .i64 K] w fun e w' => ItemRes T n K e ∧ Below w.heap.size w w' := by
  have hmix : Try.prog.follows .mixedOrders = true := by kernel_rfl
  have hdd : ∀ k : Nat, (Fence.wide.depth.isSome = true → 1 ≤ k) := fun k h => by cases h
  have hmf : ∀ (fn : Fn) (first cap : Array Value) (w : World), (Instr.makeFunc fn first cap).run Try.prog w = .ok (.func fn first cap) w := fun _ _ _ _ => rfl
  have hq : 1 ≤ q ∧ q ≤ 3 := by have := (setB_parts hset).1; omega
  have h0 := ok_nil (pats_some hset)
  have IS := Lib.hid fun m W h => callsIn_up (n := m) rfl (isSet_any q v ss W h)
  rw [hset] at IS
  have WI := Lib.hid fun m W => callsIn_up (n := m) rfl (within_any n 0 60 W)
  rw [show (decide ((0 : Int) ≤ n) && decide ((n : Int) ≤ 60)) = true by simp; omega] at WI
  have WI2 := Lib.hid fun m hi W => callsIn_up (n := m) rfl (within_any K 0 hi W)
  have NM := Lib.hid fun m W h1 h2 => callsIn_up (n := m) rfl (newMachine_x q hq v ss W h1 h0 h2)
  have hT := tab_ok (q := q) h0
  have hS := stL_few (pats ss) hq.2
  have hN0 : 0 < (stL (pats ss) q).length := by rw [stL_fix h0]; simp
  have RNE := Lib.hid fun base top bk (k : Nat) w g gS cS gN cN hdrs h hb hK => rows_ne (base := base) (top := top) (bk := bk) (K := k) (w := w) (g := g) (gS := gS) (cS := cS) (gN := gN) (cN := cN) (hdrs := hdrs) h hq h0 hb hK
  have NBK := Lib.hid fun c i (hi : i < (stL (pats ss) q).length) => no_back (set := pats ss) (q := q) (i := i) (c := c) h0 hi
  have HQ1 : Hid (q = 1 → (accL T n 0).length ≤ 1) := Lib.hid fun h => by
    have h1 := acc_bound h0 (pats_five hset) hq.2 n
    rw [← hTd] at h1
    rw [h, Nat.one_pow] at h1
    exact h1
  rw [← hTd] at NM hT RNE NBK
  obtain ⟨S, hSd⟩ : ∃ S, S = stL (pats ss) q := ⟨_, rfl⟩
  rw [← hSd] at NM hT hS hN0 RNE NBK
  obtain ⟨N, hN⟩ : ∃ N, N = S.length := ⟨_, rfl⟩
  have CT := Lib.hid fun m gm W h => callsIn_up (n := m) rfl (counted_any gm q n N S T W h hT hq.2 hS hN (by omega) (by omega))
  have ST := Lib.hid fun n gm i W => steps_in n gm i W
  have HN := Lib.hid hN
  have hTl := hT.len
  rw [← hN] at hN0 hTl
  have hNb : N ≤ 121 := by omega
  obtain ⟨W0, hW0⟩ : ∃ W0, W0 = w.alloc (.cells #[.int .i64 K] 3) := ⟨_, rfl⟩
  have hb0 : Below w.heap.size w W0 := by rw [hW0]; exact bl_alloc (bl_refl w) _
  have HV := Lib.hid (hv.kept hb0)
  have HG := Lib.hid (hG.kept hb0)
  have E0 : Env w [(w.heap.size, 3, .int .i64 K)] W0.heap.size [] W0 := by
    have E00 : Env w [] w.heap.size [] w := ⟨fun b hb => absurd hb List.not_mem_nil, bl_refl w, MarksTo.nil _ _ _, Nat.le_refl _⟩
    have := (E00.new 3 (.int .i64 K)).high
    rw [hW0]; simp only [World.size_alloc] at this ⊢; exact this
  have E0 := Lib.hid E0
  have HW0 := Lib.hid hW0
  clear hv hG hset hTd hSd h0 hN hb0 hW0
  refine (callsIn_wide (n := 9)).1 ?_
  refine callsIn_of_wp_marks Try.func21 rfl trivial ?_ rfl
  simp only [Try.ntmps21, List.size_toArray, List.length_cons, List.length_nil, Nat.reduceAdd, Nat.reduceSub, Array.replicate_succ, Array.replicate_zero, List.push_toArray, List.append_toArray, List.nil_append, List.cons_append]
  gi_wp2_with fail
  refine ⟨trivial, ?_⟩
  rw [← HW0.out]
  refine (IS.out _ _ HV.out).mono ?_
  rintro e w1 ⟨rfl, r1⟩
  have E1 := Lib.hid (E0.out.below r1).high
  have HV1 := Lib.hid (HV.out.kept r1)
  have HG1 := Lib.hid (HG.out.kept r1)
  clear r1 E0 HV HG
  gi_wp2_with fail
  refine ⟨trivial, ?_⟩
  refine (WI.out _ _).mono ?_
  rintro e w2 ⟨rfl, rfl⟩
  gi_wp2_with fail
  refine ⟨trivial, ?_⟩
  refine (NM.out _ _ HV1.out HG1.out).mono ?_
  rintro e w3 ⟨gm, gS, cS, gN, cN, hdrs, rfl, hMx, r3⟩
  have E3 := Lib.hid (E1.out.below r3).high
  have hwb0 : w.heap.size < w1.heap.size := (E1.out.box _ (List.mem_cons_self ..)).lt
  have HM3 := Lib.hid hMx.y
  obtain ⟨base, hbase⟩ : ∃ base, base = w1.heap.size := ⟨_, rfl⟩
  rw [← hbase] at HM3 hwb0
  obtain ⟨top, htop⟩ : ∃ top, top = w3.heap.size := ⟨_, rfl⟩
  have HTOP := Lib.hid htop
  rw [← htop] at HM3
  have HBT : Hid (base ≤ top) := Lib.hid (by rw [hbase, htop]; exact r3.size)
  clear hMx r3 hbase htop E1 HV1 HG1
  gi_wp2_with fail
  refine ⟨trivial, ?_⟩
  refine (CT.out _ gm w3 (HM3.out.at (Nat.le_of_eq HTOP.out))).mono ?_
  rintro e w4 ⟨r4, hr⟩
  have E4 := Lib.hid (E3.out.below r4).high
  have HM4 := Lib.hid (HM3.out.kept r4)
  have HZ4 := Lib.hid r4.size
  clear r4 HM3 E3
  rcases hr with ⟨hf, rfl⟩ | ⟨hf, g, c, rfl, hgl, hgr⟩
  · have HF := Lib.hid hf
    have HLAST : Hid (Below w.heap.size w (w4.alloc (.cells #[.slice none 0 0] 58))) := Lib.hid (bl_alloc E4.out.low _)
    clear hf
    gi_wp2_with fail
    exact ⟨_, results_tmp2 rfl _ _ _, .inl ⟨HF.out, rfl⟩, HLAST.out⟩
  · have HF := Lib.hid hf
    obtain ⟨hl1, hl2⟩ := few_len hf (Nat.le_refl n)
    have hgy : GridY w4.heap.size w.heap.size w4 g N n T := GridY.start hgl (E4.out.box _ (List.mem_cons_self ..)) (fun b c h => by cases h) hgr
    obtain ⟨rb, rc, lrb, hrow⟩ := hgr n (Nat.le_refl n)
    obtain ⟨bg, hbg⟩ : ∃ bg, bg = w4.heap.size := ⟨_, rfl⟩
    obtain ⟨W5, hW5⟩ : ∃ W5, W5 = w4.alloc (.cells #[.slice (some ⟨g, 0, none⟩) (n + 1) c] 58) := ⟨_, rfl⟩
    have hb5 : Below w4.heap.size w4 W5 := by rw [hW5]; exact bl_alloc (bl_refl w4) _
    have E5 : Env w [(bg, 58, .slice (some ⟨g, 0, none⟩) (n + 1) c), (w.heap.size, 3, .int .i64 K)] W5.heap.size [] W5 := by
      have := (E4.out.new 58 (.slice (some ⟨g, 0, none⟩) (n + 1) c)).high
      rw [hW5, hbg]; exact this
    obtain ⟨y1, y2'⟩ := hrow W5 hb5
    have y2 := y2' 0 hN0
    have lg := Nat.lt_of_lt_of_le hgl hb5.size
    have lb := Nat.lt_of_lt_of_le lrb hb5.size
    have eg := (E5.box _ (List.mem_cons_self ..)).cell
    have lbg := (E5.box _ (List.mem_cons_self ..)).lt
    have ek := (E5.box (w.heap.size, 3, .int .i64 K) (by simp)).cell
    have lk := (E5.box (w.heap.size, 3, .int .i64 K) (by simp)).lt
    dsimp only at eg lbg ek lk
    have HM5 := Lib.hid (HM4.out.kept hb5)
    have HGY := Lib.hid (hgy.kept hb5)
    have HW5 := Lib.hid hW5
    have HBG := Lib.hid hbg
    have HTG : Hid (top ≤ bg) := Lib.hid (by rw [hbg, HTOP.out]; exact HZ4.out)
    rw [← hbg] at HGY
    obtain ⟨L, hL⟩ : ∃ L, L = (accL T n 0).length := ⟨_, rfl⟩
    rw [hl2, ← hL] at y2
    rw [← hL] at hl1
    have hmo : most1 = 1152921504606846977 := rfl
    have hLb : (L : Int) ≤ 1152921504606846976 := by omega
    have HL := Lib.hid hL
    have HE5 := Lib.hid E5
    have hn1 : (n : Int) < (n : Int) + 1 := by omega
    have hn0 : (0 : Int) ≤ (n : Int) := by omega
    have hN0' : (0 : Int) < (N : Int) := by omega
    have hwL : IntKind.i64.wrap ((L : Int) - 1) = (L : Int) - 1 := wrapI (by omega)
    clear hf hgr hgy hrow y2' hbg hW5 hb5 E5 hl1 hl2 hL E4 HM4
    gi_wp2_with fail
    rw [← HW5.out, ← HBG.out]
    refine wpIn_region_tail 8 rfl hmix (by kernel_rfl) ?_
    simp only [List.take_succ_cons, List.take_zero, List.drop_succ_cons, List.drop_zero]
    repeat (gi_big_quiet_step (fail))
    refine wpQuietIn_nil ?_
    rintro _ ⟨nq, rfl⟩
    obtain ⟨W6, hW6⟩ : ∃ W6, W6 = W5.drewN nq := ⟨_, rfl⟩
    have E6 : Env w [(bg, 58, .slice (some ⟨g, 0, none⟩) (n + 1) c), (w.heap.size, 3, .int .i64 K)] W6.heap.size [] W6 := by
      have := (HE5.out.kept (grown_drew W5 nq) (fun r e => by cases e)).high
      rw [hW6]; exact this
    have HM6 := Lib.hid (show MachY base top W6 gm q S T gS cS gN cN hdrs by rw [hW6]; exact HM5.out.grown (grown_drew W5 nq) (fun r e => by cases e))
    have HGY6 := Lib.hid (show GridY bg w.heap.size W6 g N n T by rw [hW6]; exact HGY.out.grown (grown_drew W5 nq) (fun r e => by cases e))
    have HE6 := Lib.hid E6
    have HW6 := Lib.hid hW6
    clear E6 hW6 HM5 HGY y1 y2 lg lb eg ek
    gi_wp2_with fail
    refine ⟨trivial, ?_⟩
    rw [← HW6.out]
    refine (WI2.out _ _ _).mono ?_
    rintro e w7 ⟨rfl, rfl⟩
    cases hin : (decide (0 ≤ K) && decide (K ≤ (L : Int) - 1)) with
    | false =>
      have HIN : Hid (¬ (0 ≤ K ∧ K < (accL T n 0).length)) := Lib.hid (by
        rw [← HL.out]
        simp at hin
        omega)
      clear hin
      gi_wp2_with fail
      exact ⟨_, results_tmp2 rfl _ _ _, .inr (.inl ⟨HF.out, HIN.out, rfl⟩), HE6.out.low⟩
    | true =>
      obtain ⟨hK0, hKL⟩ : 0 ≤ K ∧ K ≤ (L : Int) - 1 := by simpa using hin
      obtain ⟨k0, hk0⟩ : ∃ k0 : Nat, K = k0 := ⟨K.toNat, by omega⟩
      have HK0 := Lib.hid hk0
      have hk0L : k0 < (accL T n 0).length := by have := HL.out; omega
      have HI0 := Lib.hid (ItemAt.start HF.out hk0L)
      have HRNE := Lib.hid (RNE.out base top w.heap.size k0 W6 gm gS cS gN cN hdrs HM6.out (by rw [← hk0]; exact HE6.out.box (w.heap.size, 3, .int .i64 K) (by simp)) (fun h => by have := HQ1.out h; omega))
      obtain ⟨bo, hbo⟩ : ∃ bo, bo = W6.heap.size := ⟨_, rfl⟩
      obtain ⟨bi, hbi⟩ : ∃ bi, bi = bo + 1 := ⟨_, rfl⟩
      obtain ⟨W9, hW9⟩ : ∃ W9, W9 = (((W6.alloc (.cells #[.string ⟨#[]⟩] 9)).alloc (.cells #[.int .i64 0] 3)).alloc (.cells #[.int .i64 ((n : Int) - 1)] 3)) := ⟨_, rfl⟩
      have hb9 : Below W6.heap.size W6 W9 := by rw [hW9]; exact bl_alloc (bl_alloc (bl_alloc (bl_refl W6) _) _) _
      have E9 : itemE w (bi + 1) bi bo bg g n c ((n : Int) - 1) ((0 : Nat) : Int) (k0 : Int) [] W9.heap.size [] W9 := by
        have := (((HE6.out.new 9 (.string ⟨#[]⟩)).new 3 (.int .i64 0)).new 3 (.int .i64 ((n : Int) - 1))).high
        simp only [World.size_alloc] at this
        rw [← hW9, ← hbo, ← hbi, hk0] at this
        have hz9 : W9.heap.size = bi + 1 + 1 := by rw [hW9, hbi, hbo]; simp
        rw [hz9]
        refine this.less fun y hy => ?_
        simp only [List.mem_cons, List.not_mem_nil, or_false] at hy ⊢
        rcases hy with rfl | rfl | rfl | rfl | rfl
        · left; rfl
        · right; left; rfl
        · right; right; left; rfl
        · right; right; right; right; rfl
        · right; right; right; left; rfl
      have HM9 := Lib.hid (HM6.out.kept hb9)
      have HGY9 := Lib.hid (HGY6.out.kept hb9)
      have HE9 := Lib.hid E9
      have HORD : Hid (w.heap.size < base ∧ base ≤ top ∧ top ≤ bg ∧ bg < bo ∧ bi = bo + 1) := Lib.hid (by
        have h1 := HBT.out
        have h2 := HTG.out
        have h3 : bg < W6.heap.size := (HE6.out.box _ (List.mem_cons_self ..)).lt
        omega)
      have HBIW : Hid (bi < bi + 1) := Lib.hid (by omega)
      clear hin hK0 hKL hk0 hk0L hb9 E9 HE6 HM6 HGY6 HE5
      gi_wp2_with fail
      rw [← hW9, ← hbo, ← hbi]
      clear hW9 hbo hwb0 hbi
      refine wpIn_loop_ghost (fun m a X => ∃ (b15 i k : Nat) (out : Str) (kk : Int) (ds : List Deferred), i < N ∧ kk = (m : Int) - 1 ∧ m ≤ n ∧ ItemAt T n k0 m i k out ∧ bi < b15 ∧ itemE w b15 bi bo bg g n c kk i k out X.heap.size ds X ∧ MachY base top X gm q S T gS cS gN cN hdrs ∧ GridY bg w.heap.size X g N n T ∧
        a = { tmps := #[.int .i64 q, v, .int .i64 n, .int .i64 K, undef, undef, undef, .pointer (some ⟨w.heap.size, 0, none⟩), (a.tmps.getD 8 undef), (a.tmps.getD 9 undef), .pointer (some ⟨gm, 0, none⟩), .pointer (some ⟨bg, 0, none⟩), (a.tmps.getD 12 undef), .pointer (some ⟨bo, 0, none⟩), .pointer (some ⟨bi, 0, none⟩), .pointer (some ⟨b15, 0, none⟩), (a.tmps.getD 16 undef), (a.tmps.getD 17 undef), (a.tmps.getD 18 undef), (a.tmps.getD 19 undef), (a.tmps.getD 20 undef), (a.tmps.getD 21 undef), (a.tmps.getD 22 undef), (a.tmps.getD 23 undef), (a.tmps.getD 24 undef), (a.tmps.getD 25 undef), (a.tmps.getD 26 undef), (a.tmps.getD 27 undef), (a.tmps.getD 28 undef), (a.tmps.getD 29 undef), (a.tmps.getD 30 undef), (a.tmps.getD 31 undef), (a.tmps.getD 32 undef), (a.tmps.getD 33 undef), (a.tmps.getD 34 undef), (a.tmps.getD 35 undef), (a.tmps.getD 36 undef), (a.tmps.getD 37 undef), (a.tmps.getD 38 undef), (a.tmps.getD 39 undef), (a.tmps.getD 40 undef), (a.tmps.getD 41 undef), (a.tmps.getD 42 undef), (a.tmps.getD 43 undef), (a.tmps.getD 44 undef), (a.tmps.getD 45 undef), (a.tmps.getD 46 undef), (a.tmps.getD 47 undef), (a.tmps.getD 48 undef), (a.tmps.getD 49 undef), (a.tmps.getD 50 undef), (a.tmps.getD 51 undef), (a.tmps.getD 52 undef), (a.tmps.getD 53 undef), (a.tmps.getD 54 undef), (a.tmps.getD 55 undef), (a.tmps.getD 56 undef), (a.tmps.getD 57 undef), (a.tmps.getD 58 undef), (a.tmps.getD 59 undef), (a.tmps.getD 60 undef), (a.tmps.getD 61 undef), (a.tmps.getD 62 undef), (a.tmps.getD 63 undef), (a.tmps.getD 64 undef), (a.tmps.getD 65 undef), (a.tmps.getD 66 undef), (a.tmps.getD 67 undef), (a.tmps.getD 68 undef), (a.tmps.getD 69 undef), (a.tmps.getD 70 undef), (a.tmps.getD 71 undef), (a.tmps.getD 72 undef), (a.tmps.getD 73 undef), (a.tmps.getD 74 undef), (a.tmps.getD 75 undef), (a.tmps.getD 76 undef), (a.tmps.getD 77 undef), (a.tmps.getD 78 undef), (a.tmps.getD 79 undef), (a.tmps.getD 80 undef), (a.tmps.getD 81 undef), (a.tmps.getD 82 undef), undef], defers := ds }) n ?_ ?_
      · exact ⟨bi + 1, 0, k0, [], (n : Int) - 1, [], hN0, rfl, Nat.le_refl _, HI0.out, HBIW.out, HE9.out, HM9.out, HGY9.out, rfl⟩
      · rintro m a X ⟨b15, i, k, out, kk, ds, hi, hkk, hmn, hI, hb15, hE, hMX, hGX, ha⟩
        obtain ⟨u, hu⟩ : ∃ u : Nat → Value, u = fun n => a.tmps.getD n undef := ⟨_, rfl⟩
        have ha' : a = { tmps := #[.int .i64 q, v, .int .i64 n, .int .i64 K, undef, undef, undef, .pointer (some ⟨w.heap.size, 0, none⟩), (u 8), (u 9), .pointer (some ⟨gm, 0, none⟩), .pointer (some ⟨bg, 0, none⟩), (u 12), .pointer (some ⟨bo, 0, none⟩), .pointer (some ⟨bi, 0, none⟩), .pointer (some ⟨b15, 0, none⟩), (u 16), (u 17), (u 18), (u 19), (u 20), (u 21), (u 22), (u 23), (u 24), (u 25), (u 26), (u 27), (u 28), (u 29), (u 30), (u 31), (u 32), (u 33), (u 34), (u 35), (u 36), (u 37), (u 38), (u 39), (u 40), (u 41), (u 42), (u 43), (u 44), (u 45), (u 46), (u 47), (u 48), (u 49), (u 50), (u 51), (u 52), (u 53), (u 54), (u 55), (u 56), (u 57), (u 58), (u 59), (u 60), (u 61), (u 62), (u 63), (u 64), (u 65), (u 66), (u 67), (u 68), (u 69), (u 70), (u 71), (u 72), (u 73), (u 74), (u 75), (u 76), (u 77), (u 78), (u 79), (u 80), (u 81), (u 82), undef], defers := ds } := by rw [hu]; exact ha
        clear hu ha
        subst ha'
        have e15 := (hE.box _ (List.mem_cons_self ..)).cell
        have l15 := (hE.box _ (List.mem_cons_self ..)).lt
        have ei := (hE.box (bi, 3, .int .i64 i) (by simp)).cell
        have li := (hE.box (bi, 3, .int .i64 i) (by simp)).lt
        have eo := (hE.box (bo, 9, .string (bs out)) (by simp)).cell
        have lo := (hE.box (bo, 9, .string (bs out)) (by simp)).lt
        dsimp only at e15 l15 ei li eo lo
        have HE := Lib.hid hE
        have HMX := Lib.hid hMX
        have HGX := Lib.hid hGX
        have HI := Lib.hid hI
        clear hE hMX hGX hI HE9 HM9 HGY9 HI0
        by_cases hm0 : m = 0
        · subst hm0
          obtain rfl : kk = -1 := by omega
          clear hkk
          have HDN := Lib.hid HI.out.done
          gi_wp2_with fail
          exact leaves_marks ds _ HE.out.marks.marks HE.out.low.size (fun w' hb => ⟨_, results_tmp2 rfl _ _ _, .inr (.inr ⟨k0, out, HF.out, HK0.out, HDN.out, rfl⟩), HE.out.low.trans hb⟩)
        · obtain ⟨p, rfl⟩ : ∃ p, m = p + 1 := ⟨m - 1, by omega⟩
          obtain rfl : kk = (p : Int) := by omega
          clear hkk
          have hiN : i < S.length := by have := HN.out; omega
          have HLI := Lib.hid (And.intro l15 (And.intro li lo))
          gi_wp2_with fail
          refine ⟨trivial, ?_⟩
          clear e15 l15 ei eo li lo
          refine (ST.out _ _ _ _).mono ?_
          rintro e w9 ⟨rfl, hw9⟩
          obtain ⟨bx1, bx2⟩ : Boxed w9 X.heap.size 56 (.pointer (some ⟨gm, 0, none⟩)) ∧ Boxed w9 (X.heap.size + 1) 3 (.int .i64 i) := by
            rw [hw9]
            refine ⟨(Boxed.new X _ _).alloc _, ?_⟩
            have := Boxed.new (X.alloc (.cells #[.pointer (some ⟨gm, 0, none⟩)] 56)) 3 (.int .i64 i)
            rwa [World.size_alloc] at this
          have HZ9 : Hid (w9.heap.size = X.heap.size + 2) := Lib.hid (by rw [hw9]; simp)
          have hb9 : Below X.heap.size X w9 := by rw [hw9]; exact bl_alloc (bl_alloc (bl_refl X) _) _
          have E9 : Hid (itemE w b15 bi bo bg g n c p i k out w9.heap.size ds w9) := Lib.hid (HE.out.below hb9).high
          have M9 := Lib.hid (HMX.out.kept hb9)
          have G9 := Lib.hid (HGX.out.kept hb9)
          clear hw9 hb9 HE HMX HGX
          gi_wp2_with fail
          refine wpIn_rangeFunc_ownG (w0 := w9) rfl (by omega) (gf := 50) (lb := #[.pointer (some ⟨X.heap.size, 0, none⟩), .pointer (some ⟨X.heap.size + 1, 0, none⟩)]) rfl trivial (enters_of Try.func50 (by kernel_rfl) rfl)
            (steps_stops_x 8 base top gm q X.heap.size (X.heap.size + 1) i S T gS cS gN cN hdrs w9 M9.out hT hq.2 hS hiN (by have := HZ9.out; omega) bx1.cell (by have := HZ9.out; omega) bx2.cell) keepX_t (fun W l o o' _ h hc _ => keepX_b W l o o' h hc) (Below.refl _ _) (fun _ => rfl)
            (fun pre Y => ∃ k' : Nat, k' + sumA T p (pre.map (·.1)) = k ∧ itemE w b15 bi bo bg g n c p i k' out w9.heap.size ds Y ∧ MachY base top Y gm q S T gS cS gN cN hdrs ∧ GridY bg w.heap.size Y g N n T)
            (fun c' pre Y => c' = .exit 2 ∧ ∃ (pre' : List (Nat × Nat)) (cF jF k' : Nat), pre.map (·.1) = pre' ++ [(cF, jF)] ∧ k' + sumA T p pre' = k ∧ k' < (accL T p jF).length ∧ itemE w b15 bi bo bg g n c p jF k' (out ++ [ltr cF]) w9.heap.size ds Y ∧ MachY base top Y gm q S T gS cS gN cN hdrs ∧ GridY bg w.heap.size Y g N n T)
            ?o1 ?o2 ⟨k, by simp [sumA], E9.out, M9.out, G9.out⟩
            (fun x => { tmps := #[.int .i64 q, v, .int .i64 n, .int .i64 K, undef, undef, undef, .pointer (some ⟨w.heap.size, 0, none⟩), (u 8), (u 9), .pointer (some ⟨gm, 0, none⟩), .pointer (some ⟨bg, 0, none⟩), (u 12), .pointer (some ⟨bo, 0, none⟩), .pointer (some ⟨bi, 0, none⟩), .pointer (some ⟨b15, 0, none⟩), .string (bs [ltr x.1.1]), .int .i64 x.1.2, (u 18), (u 19), (u 20), (u 21), (u 22), (u 23), (u 24), (u 25), (u 26), (u 27), (u 28), (u 29), (u 30), (u 31), (u 32), (u 33), (u 34), (u 35), (u 36), (u 37), (u 38), (u 39), (u 40), (u 41), (u 42), (u 43), (u 44), (u 45), (u 46), (u 47), (u 48), (u 49), (u 50), .int .i64 p, .bool true, (u 53), (u 54), .pointer (some ⟨gm, 0, none⟩), .int .i64 i, .func (.func 50) #[] #[.pointer (some ⟨X.heap.size, 0, none⟩), .pointer (some ⟨X.heap.size + 1, 0, none⟩)], .string (bs [ltr x.1.1]), .int .i64 x.1.2, (u 60), (u 61), (u 62), (u 63), (u 64), (u 65), (u 66), (u 67), (u 68), (u 69), (u 70), (u 71), (u 72), (u 73), (u 74), (u 75), (u 76), (u 77), (u 78), (u 79), (u 80), (u 81), (u 82), undef], defers := [] }) ?assign ?body ?done ?stop
          case o1 =>
            rintro s A D row ⟨k', hk', h, h2, h3⟩ hg hr
            exact ⟨k', hk', Env.own (β := Unit) E9.out.low.size (Nat.le_refl _) () A D row h hg hr, machY_own h2 hg hr, gridY_own h3 (by have := G9.out.1; exact this) hg hr⟩
          case o2 =>
            rintro c s A D row ⟨h0, pre', cF, jF, k', e1, e2, e3, h, h2, h3⟩ hg hr
            exact ⟨h0, pre', cF, jF, k', e1, e2, e3, Env.own (β := Unit) E9.out.low.size (Nat.le_refl _) () A D row h hg hr, machY_own h2 hg hr, gridY_own h3 (by have := G9.out.1; exact this) hg hr⟩
          case assign =>
            intro l x X' K hK
            dsimp only [encP]
            gi_wp2
            exact hK
          case done =>
            rintro D xs X' hD hxs ⟨k', hk', _⟩ _
            exfalso
            rw [hxs] at hk'
            exact HI.out.not_all (by omega)
          case body =>
            rintro l pre ⟨⟨c', j⟩, hmem⟩ Y ⟨k', hk', hX, hMY, hGY⟩ _
            dsimp only
            obtain ⟨hcq, hjn⟩ := hT.stp hiN hmem
            have hjN : j < N := by have := HN.out; omega
            have hN2 : 2 ≤ N := by
              have h1 : j ≠ 0 := fun e => NBK.out c' i hiN (by rw [← e]; exact hmem)
              omega
            have e15 := (hX.box _ (List.mem_cons_self ..)).cell
            have l15 := (hX.box _ (List.mem_cons_self ..)).lt
            have ei := (hX.box (bi, 3, .int .i64 i) (by simp)).cell
            have fi := (hX.box (bi, 3, .int .i64 i) (by simp)).frozen
            have li := (hX.box (bi, 3, .int .i64 i) (by simp)).lt
            have eo := (hX.box (bo, 9, .string (bs out)) (by simp)).cell
            have fo := (hX.box (bo, 9, .string (bs out)) (by simp)).frozen
            have lo := (hX.box (bo, 9, .string (bs out)) (by simp)).lt
            have ek := (hX.box (w.heap.size, 3, .int .i64 k') (by simp)).cell
            have fk := (hX.box (w.heap.size, 3, .int .i64 k') (by simp)).frozen
            have lk := (hX.box (w.heap.size, 3, .int .i64 k') (by simp)).lt
            have eg := (hX.box (bg, 58, .slice (some ⟨g, 0, none⟩) (n + 1) c) (by simp)).cell
            have lg := (hX.box (bg, 58, .slice (some ⟨g, 0, none⟩) (n + 1) c) (by simp)).lt
            dsimp only at e15 l15 ei fi li eo fo lo ek fk lk eg lg
            obtain ⟨z1, z2, z3, z4⟩ := hGY
            obtain ⟨rb, rc, y0, y00, y1, y2'⟩ := z4 p (by omega)
            have y2 := y2' j hjN
            have lgg : g < Y.heap.size := by omega
            have lrb : rb < Y.heap.size := by omega
            obtain ⟨hcnt, hcntb⟩ := HI.out.exact hmem
            obtain ⟨x, hx⟩ : ∃ x, x = (accL T p j).length := ⟨_, rfl⟩
            rw [hcnt, ← hx] at y2
            have hord := HORD.out
            have hpn : (p : Int) < (n : Int) + 1 := by omega
            have hp0 : (0 : Int) ≤ (p : Int) := by omega
            have hjN' : (j : Int) < (N : Int) := by omega
            have HX := Lib.hid (And.intro hX (And.intro hMY (show GridY bg w.heap.size Y g N n T from ⟨z1, z2, z3, z4⟩)))
            have HKK := Lib.hid hk'
            by_cases hkx : k' < x
            · have hkx' : (k' : Int) < (x : Int) := by omega
              have HKX : Hid (k' < (accL T p j).length) := Lib.hid (by rw [← hx]; exact hkx)
              have HS2 : Hid (∀ nq, itemE w b15 bi bo bg g n c p j k' (out ++ [ltr c']) w9.heap.size ds (((Y.drewN nq).setCell ⟨bo, 0, none⟩ (.string (bs (out ++ [ltr c'])))).setCell ⟨bi, 0, none⟩ (.int .i64 j))) := Lib.hid fun nq => by
                have h1 := Env.set (bl' := [(b15, 3, .int .i64 p), (bi, 3, .int .i64 i), (bo, 9, .string (bs (out ++ [ltr c']))), (w.heap.size, 3, .int .i64 k'), (bg, 58, .slice (some ⟨g, 0, none⟩) (n + 1) c)]) (HX.out.1.kept (grown_drew Y nq) (fun r e => by cases e)) (b := bo) (t := 9) (u := .string (bs out)) (by simp) (.string (bs (out ++ [ltr c']))) (by omega) (by
                  intro x hx
                  simp only [List.mem_cons, List.not_mem_nil, or_false] at hx ⊢
                  rcases hx with rfl | rfl | rfl | rfl | rfl
                  · exact .inr ⟨.inl rfl, by show b15 ≠ bo; omega⟩
                  · exact .inr ⟨.inr (.inl rfl), by show bi ≠ bo; omega⟩
                  · exact .inl rfl
                  · exact .inr ⟨.inr (.inr (.inr (.inl rfl))), by show w.heap.size ≠ bo; omega⟩
                  · exact .inr ⟨.inr (.inr (.inr (.inr rfl))), by show bg ≠ bo; omega⟩)
                exact Env.set (bl' := [(b15, 3, .int .i64 p), (bi, 3, .int .i64 j), (bo, 9, .string (bs (out ++ [ltr c']))), (w.heap.size, 3, .int .i64 k'), (bg, 58, .slice (some ⟨g, 0, none⟩) (n + 1) c)]) h1 (b := bi) (t := 3) (u := .int .i64 i) (by simp) (.int .i64 j) (by omega) (by
                  intro x hx
                  simp only [List.mem_cons, List.not_mem_nil, or_false] at hx ⊢
                  rcases hx with rfl | rfl | rfl | rfl | rfl
                  · exact .inr ⟨.inl rfl, by show b15 ≠ bi; omega⟩
                  · exact .inl rfl
                  · exact .inr ⟨.inr (.inr (.inl rfl)), by show bo ≠ bi; omega⟩
                  · exact .inr ⟨.inr (.inr (.inr (.inl rfl))), by show w.heap.size ≠ bi; omega⟩
                  · exact .inr ⟨.inr (.inr (.inr (.inr rfl))), by show bg ≠ bi; omega⟩)
              have HM2 : Hid (∀ nq, MachY base top Y gm q S T gS cS gN cN hdrs → MachY base top (((Y.drewN nq).setCell ⟨bo, 0, none⟩ (.string (bs (out ++ [ltr c'])))).setCell ⟨bi, 0, none⟩ (.int .i64 j)) gm q S T gS cS gN cN hdrs) := Lib.hid fun nq m =>
                ((m.grown (grown_drew Y nq) (fun r e => by cases e)).grown (grown_set _ bo 0 _) (fun r e => .inl (by cases e; omega))).grown (grown_set _ bi 0 _) (fun r e => .inl (by cases e; omega))
              have HG2 : Hid (∀ nq, GridY bg w.heap.size (((Y.drewN nq).setCell ⟨bo, 0, none⟩ (.string (bs (out ++ [ltr c'])))).setCell ⟨bi, 0, none⟩ (.int .i64 j)) g N n T) := Lib.hid fun nq =>
                ((HX.out.2.2.grown (grown_drew Y nq) (fun r e => by cases e)).grown (grown_set _ bo 0 _) (fun r e => .inl (by cases e; omega))).grown (grown_set _ bi 0 _) (fun r e => .inl (by cases e; omega))
              have hne1 : ¬ bo = bi := by omega
              have hne2 : ¬ bi = bo := by omega
              have zo : (bs out).size ≤ 300 := by show out.length ≤ 300; have := HI.out.len; omega
              have zc : (bs [ltr c']).size = 1 := rfl
              have bs_app : Hid (bs out ++ bs [ltr c'] = bs (out ++ [ltr c'])) := Lib.hid (bs_append _ _)
              clear hX hMY z1 z2 z3 z4 y0 y00 y2' hx hcnt hcntb hk' hkx hord E9 M9 G9 bx1 bx2
              gi_wp2_with fail
              refine wpIn_region_quiet_round rfl hmix (by kernel_rfl) (by intro o ho c h; simp at ho; rcases ho with rfl | rfl | rfl | rfl | rfl | rfl | rfl | rfl | rfl <;> cases h) ?_
              repeat (gi_big_quiet_step (fail))
              refine wpQuietIn_nil ?_
              rintro _ ⟨nq, rfl⟩
              gi_wp2_with fail
              rw [bs_app.out]
              exact ⟨(keeps_drewN _ Y nq).trans ((keeps_set _ _ _ _).trans (keeps_set _ _ _ _)), rfl, pre.map (·.1), c', j, k', by simp, HKK.out, HKX.out, HS2.out nq, HM2.out nq HX.out.2.1, HG2.out nq⟩
            · have hkx' : ¬ (k' : Int) < (x : Int) := by omega
              obtain ⟨k2, hk2⟩ : ∃ k2, k2 = k' - x := ⟨_, rfl⟩
              have HSUM : Hid (k2 + sumA T p ((pre ++ [(⟨(c', j), hmem⟩ : StpOf T i)]).map (·.1)) = k) := Lib.hid (by
                rw [List.map_append, List.map_singleton, sumA_snoc, ← hx]
                omega)
              have hw3 : IntKind.i64.wrap ((k' : Int) - (x : Int)) = (k2 : Int) := by
                have h1 := HI.out.lt
                have h2 := HI.out.few
                have h3 : most1 = 1152921504606846977 := rfl
                rw [show (k' : Int) - (x : Int) = (k2 : Int) by omega]
                exact wrapI (by omega)
              have HS2 : Hid (∀ nq, itemE w b15 bi bo bg g n c p i k2 out w9.heap.size ds ((Y.drewN nq).setCell ⟨w.heap.size, 0, none⟩ (.int .i64 k2))) := Lib.hid fun nq =>
                Env.set (bl' := [(b15, 3, .int .i64 p), (bi, 3, .int .i64 i), (bo, 9, .string (bs out)), (w.heap.size, 3, .int .i64 k2), (bg, 58, .slice (some ⟨g, 0, none⟩) (n + 1) c)]) (HX.out.1.kept (grown_drew Y nq) (fun r e => by cases e)) (b := w.heap.size) (t := 3) (u := .int .i64 k') (by simp) (.int .i64 k2) (by omega) (by
                  intro x hx
                  simp only [List.mem_cons, List.not_mem_nil, or_false] at hx ⊢
                  rcases hx with rfl | rfl | rfl | rfl | rfl
                  · exact .inr ⟨.inl rfl, by show b15 ≠ w.heap.size; omega⟩
                  · exact .inr ⟨.inr (.inl rfl), by show bi ≠ w.heap.size; omega⟩
                  · exact .inr ⟨.inr (.inr (.inl rfl)), by show bo ≠ w.heap.size; omega⟩
                  · exact .inl rfl
                  · exact .inr ⟨.inr (.inr (.inr (.inr rfl))), by show bg ≠ w.heap.size; omega⟩)
              have HM2 : Hid (∀ nq, MachY base top Y gm q S T gS cS gN cN hdrs → MachY base top ((Y.drewN nq).setCell ⟨w.heap.size, 0, none⟩ (.int .i64 k2)) gm q S T gS cS gN cN hdrs) := Lib.hid fun nq m =>
                (m.grown (grown_drew Y nq) (fun r e => by cases e)).older (grown_set _ w.heap.size 0 _) hord.1 HRNE.out
              have HG2 : Hid (∀ nq, GridY bg w.heap.size ((Y.drewN nq).setCell ⟨w.heap.size, 0, none⟩ (.int .i64 k2)) g N n T) := Lib.hid fun nq =>
                (HX.out.2.2.grown (grown_drew Y nq) (fun r e => by cases e)).grown (grown_set _ w.heap.size 0 _) (fun r e => .inr ⟨hN2, by cases e; rfl⟩)
              clear hX hMY z1 z2 z3 z4 y0 y00 y2' hx hcnt hcntb hk' hkx hk2 hord E9 M9 G9 bx1 bx2
              gi_wp2_with fail
              refine wpIn_region_quiet_round rfl hmix (by kernel_rfl) (by intro o ho c h; simp at ho; rcases ho with rfl | rfl | rfl | rfl | rfl | rfl | rfl | rfl | rfl <;> cases h) ?_
              repeat (gi_big_quiet_step (fail))
              refine wpQuietIn_nil ?_
              rintro _ ⟨nq, rfl⟩
              gi_wp2_with fail
              refine wpIn_region_tail_round 9 rfl hmix (by kernel_rfl) (by intro o ho c h; simp at ho; rcases ho with rfl | rfl | rfl | rfl | rfl | rfl | rfl | rfl | rfl | rfl <;> cases h) ?_
              simp only [List.take_succ_cons, List.take_zero, List.drop_succ_cons, List.drop_zero]
              repeat (gi_big_quiet_step (fail))
              refine wpQuietIn_nil ?_
              rintro _ ⟨nq2, rfl⟩
              gi_wp2_with fail
              exact ⟨(keeps_drewN _ Y _).trans (keeps_set _ _ _ _), HM2.out _, k2, HSUM.out, HS2.out _, HM2.out _ HX.out.2.1, HG2.out _⟩
          case stop =>
            rintro D cc pre Y hD hpx ⟨rfl, pre', cF, jF, k', hpe, hk', hlt, hX, hMY, hGY⟩ hKD
            rw [hpe] at hpx
            have hmF : (cF, jF) ∈ stp T i := hpx.subset (by simp)
            have hjF : jF < N := by have := HN.out; have h := (hT.stp hiN hmF).2; omega
            have hI2 := Lib.hid (HI.out.step hpx (by omega) (by rw [show k - sumA T p pre' = k' by omega]; exact hlt))
            rw [show k - sumA T p pre' = k' by omega] at hI2
            have e15 := (hX.box _ (List.mem_cons_self ..)).cell
            have l15 := (hX.box _ (List.mem_cons_self ..)).lt
            dsimp only at e15 l15
            have hXp := Lib.hid (hX.push (by have := E9.out.low.size; omega) hD hKD)
            have HMY := Lib.hid hMY
            have HGY := Lib.hid hGY
            have hbY : bi < Y.heap.size := by omega
            clear hX hMY hGY hKD hpe hpx hmF hlt hk' E9 M9 G9 bx1 bx2 hD
            gi_wp2_with fail
            have hEn := ((hXp.out.less (bl' := [(bi, 3, .int .i64 jF), (bo, 9, .string (bs (out ++ [ltr cF]))), (w.heap.size, 3, .int .i64 k'), (bg, 58, .slice (some ⟨g, 0, none⟩) (n + 1) c)]) (fun y hy => List.mem_cons_of_mem _ hy)).new 3 (.int .i64 ((p : Int) - 1))).high
            exact ⟨p, by omega, Y.heap.size, jF, k', out ++ [ltr cF], (p : Int) - 1, _, hjF, rfl, by omega, hI2.out, hbY, hEn, HMY.out.kept (bl_alloc (bl_refl Y) _), HGY.out.kept (bl_alloc (bl_refl Y) _), rfl⟩
end Go.Proofs.Ytnamafakjkcmjaa
