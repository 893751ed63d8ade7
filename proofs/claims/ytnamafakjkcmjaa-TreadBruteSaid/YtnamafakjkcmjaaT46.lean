/-
  Extend: the first word of a length with a beginning.
-/
import Derived.Test.YtnamafakjkcmjaaT45
namespace Go.Proofs.Ytnamafakjkcmjaa
open Go.RowKit Go.Shelf
set_option linter.unusedVariables false
set_option linter.unusedSimpArgs false
attribute [local go_sem] Oper.semAt_some

theorem Lett.at {q k : Nat} {s : Str} (h : Lett q s) (hk : k < s.length) : ∃ c, c < q ∧ s[k] = ltr c := h _ (List.getElem_mem hk)
set_option maxRecDepth 100000 in
set_option maxHeartbeats 4000000 in
theorem Extend_any (q n : Nat) (v : Value) (ss : List ByteArray) (wd : Str) (w : World) (T : Tab) (hTd : T = tabL (pats ss) q) (hv : StrsAt w v ss) (hset : setB q ss = true) (hn : n ≤ 60) (hwn : wd.length ≤ n) (hwl : lettB q wd = true) (hG : HasG w) :
    Calls Try.prog 27 #[.int .i64 q, v, .string (bs wd), .int .i64 n] w fun e w' =>
      (((runT T 0 wd = none ∨ ∃ i, runT T 0 wd = some i ∧ can T (n - wd.length) i = false) ∧ e = .returned (.tuple #[.string ⟨#[]⟩, .int .i64 6])) ∨
       (∃ i, runT T 0 wd = some i ∧ can T (n - wd.length) i = true ∧ e = .returned (.tuple #[.string (bs (wd ++ wayL T (n - wd.length) i)), .int .i64 0]))) ∧ Below w.heap.size w w' := by
  have hmix : Try.prog.follows .mixedOrders = true := by kernel_rfl
  have hdd : ∀ k : Nat, (Fence.wide.depth.isSome = true → 1 ≤ k) := fun k h => by cases h
  have hmf : ∀ (fn : Fn) (first cap : Array Value) (w : World), (Instr.makeFunc fn first cap).run Try.prog w = .ok (.func fn first cap) w := fun _ _ _ _ => rfl
  have hq : 1 ≤ q ∧ q ≤ 3 := by have := (setB_parts hset).1; omega
  have h0 := ok_nil (pats_some hset)
  have IS := Lib.hid fun m W h => callsIn_up (n := m) rfl (isSet_any q v ss W h)
  rw [hset] at IS
  have WI := Lib.hid fun m W => callsIn_up (n := m) rfl (within_any n 0 60 W)
  rw [show (decide ((0 : Int) ≤ n) && decide ((n : Int) ≤ 60)) = true by simp; omega] at WI
  have IW := Lib.hid fun m W => callsIn_up (n := m) rfl (isWord_any q hq.2 (bs wd) W)
  rw [sb_bs, hwl] at IW
  have NM := Lib.hid fun m W h1 h2 => callsIn_up (n := m) rfl (newMachine_x q hq v ss W h1 h0 h2)
  have hT := tab_ok (q := q) h0
  have hS := stL_few (pats ss) hq.2
  have hN0 : 0 < (stL (pats ss) q).length := by rw [stL_fix h0]; simp
  rw [← hTd] at NM hT
  obtain ⟨S, hSd⟩ : ∃ S, S = stL (pats ss) q := ⟨_, rfl⟩
  rw [← hSd] at NM hT hS hN0
  have LG := Lib.hid fun m gm W h => callsIn_up (n := m) rfl (longest_any gm q S T W h hT hq.2 hS)
  have ST := Lib.hid fun n gm i W => steps_in n gm i W
  have FA := Lib.hid fun B gl N cl i m x W h1 h2 h3 h4 h5 h6 => far_any B gl N cl i m T x W h1 h2 h3 h4 h5 h6
  have HLT := Lib.hid ((lettB_iff hq.2 wd).1 hwl)
  obtain ⟨N, hN⟩ : ∃ N, N = S.length := ⟨_, rfl⟩
  have HN := Lib.hid hN
  have hTl := hT.len
  rw [← hN] at LG hN0 hTl
  have hNb : N ≤ 121 := by omega
  obtain ⟨W0, hW0⟩ : ∃ W0, W0 = w.alloc (.cells #[.string (bs wd)] 9) := ⟨_, rfl⟩
  have hb0 : Below w.heap.size w W0 := by rw [hW0]; exact bl_alloc (bl_refl w) _
  have HV := Lib.hid (hv.kept hb0)
  have HG := Lib.hid (hG.kept hb0)
  have E0 : Env w [(w.heap.size, 9, .string (bs wd))] W0.heap.size [] W0 := by
    have E00 : Env w [] w.heap.size [] w := ⟨fun b hb => absurd hb List.not_mem_nil, bl_refl w, MarksTo.nil _ _ _, Nat.le_refl _⟩
    have := (E00.new 9 (.string (bs wd))).high
    rw [hW0]; simp only [World.size_alloc] at this ⊢; exact this
  have hz0 : W0.heap.size = w.heap.size + 1 := by rw [hW0]; simp
  have hzs : (bs wd).size = wd.length := rfl
  have hcn : ¬ (n : Int) < ((bs wd).size : Int) := by rw [hzs]; omega
  obtain ⟨Z, hZ⟩ : ∃ Z, Z = wd.length := ⟨_, rfl⟩
  have HZ := Lib.hid hZ
  rw [← hZ] at hwn hzs
  rw [← hZ]
  obtain ⟨M, hM⟩ : ∃ M, M = n - Z := ⟨_, rfl⟩
  rw [← hM]
  have HM0 := Lib.hid hM
  have E0 := Lib.hid E0
  have HW0 := Lib.hid hW0
  have H0 := Lib.hid h0
  clear hv hG hset hwl hTd hSd h0 hN hZ hb0 hW0 hM
  refine (callsIn_wide (n := 9)).1 ?_
  refine callsIn_of_wp_marks Try.func27 rfl trivial ?_ rfl
  simp only [Try.ntmps27, List.size_toArray, List.length_cons, List.length_nil, Nat.reduceAdd, Nat.reduceSub, Array.replicate_succ, Array.replicate_zero, List.push_toArray, List.append_toArray, List.nil_append, List.cons_append]
  gi_wp2_with fail
  refine ⟨trivial, ?_⟩
  rw [← HW0.out]
  refine (IS.out _ _ HV.out).mono ?_
  rintro e w1 ⟨rfl, r1⟩
  have E1 := Lib.hid (E0.out.below r1).high
  have e6 := (E1.out.box _ (List.mem_cons_self ..)).cell
  have l6 := (E1.out.box _ (List.mem_cons_self ..)).lt
  have HV1 := Lib.hid (HV.out.kept r1)
  have HG1 := Lib.hid (HG.out.kept r1)
  have hz1 := r1.size
  dsimp only at e6 l6
  clear r1 E0 HV HG
  gi_wp2_with fail
  refine ⟨trivial, ?_⟩
  refine (WI.out _ _).mono ?_
  rintro e w2 ⟨rfl, rfl⟩
  gi_wp2_with fail
  refine ⟨trivial, ?_⟩
  refine (IW.out _ _).mono ?_
  rintro e w2 ⟨rfl, r2⟩
  have E2 := Lib.hid (E1.out.below r2).high
  have HV2 := Lib.hid (HV1.out.kept r2)
  have HG2 := Lib.hid (HG1.out.kept r2)
  have hz2 := r2.size
  clear r2 e6 l6 E1 HV1 HG1
  gi_wp2_with fail
  refine ⟨trivial, ?_⟩
  refine (NM.out _ _ HV2.out HG2.out).mono ?_
  rintro e w3 ⟨gm, gS, cS, gN, cN, hdrs, rfl, hMx, r3⟩
  have E3 := Lib.hid (E2.out.below r3).high
  have e6 := (E3.out.box _ (List.mem_cons_self ..)).cell
  have l6 := (E3.out.box _ (List.mem_cons_self ..)).lt
  have hM3 := hMx.y
  have hz3 := r3.size
  obtain ⟨base, hbase⟩ : ∃ base, base = w2.heap.size := ⟨_, rfl⟩
  have hwb : w.heap.size < base := by omega
  rw [← hbase] at hM3
  obtain ⟨bi, hbi⟩ : ∃ bi, bi = w3.heap.size := ⟨_, rfl⟩
  rw [← hbi] at hM3
  have hbb : base ≤ bi := by omega
  obtain ⟨W5, hW5⟩ : ∃ W5, W5 = w3.alloc (.cells #[.int .i64 0] 3) := ⟨_, rfl⟩
  have hb5 : Below w3.heap.size w3 W5 := by rw [hW5]; exact bl_alloc (bl_refl w3) _
  have E5 : Env w [(bi, 3, .int .i64 ((0 : Nat) : Int)), (w.heap.size, 9, .string (bs wd))] W5.heap.size [] W5 := by
    have := (E3.out.new 3 (.int .i64 0)).high
    rw [← hW5, ← hbi] at this
    exact this
  have hM5 := hM3.kept hb5
  have hz5 : W5.heap.size = bi + 1 := by rw [hW5, hbi]; simp
  have E5 := Lib.hid E5
  have HM5 := Lib.hid hM5
  have HR0 : Hid (runT T 0 (wd.take 0) = some 0) := Lib.hid (by rw [List.take_zero]; rfl)
  dsimp only at e6 l6
  clear hMx r3 hM3 hb5 hM5 E2 E3 HV2 HG2 hbase
  gi_wp2_with fail
  rw [← hW5, ← hbi]
  clear hW5 hbi e6 l6
  gi_loopw [44] (fun v44 wr => ∃ (k i : Nat), k ≤ Z ∧ v44 = .int .i64 k ∧ i < N ∧ Hid (runT T 0 (wd.take k) = some i) ∧ Hid (Env w [(bi, 3, .int .i64 i), (w.heap.size, 9, .string (bs wd))] W5.heap.size [] wr) ∧ Hid (MachY base bi wr gm q S T gS cS gN cN hdrs)) (fun v44 _ => Z - (intOf v44).toNat)
  case atStart => exact ⟨0, 0, Nat.zero_le _, rfl, hN0, HR0, E5, HM5⟩
  case round =>
    obtain ⟨k, i, hk, rfl, hi, HR, HE, HM⟩ := hrel
    clear E5 HM5 HR0
    have e6 := (HE.out.box (w.heap.size, 9, .string (bs wd)) (by simp)).cell
    have l6 := (HE.out.box (w.heap.size, 9, .string (bs wd)) (by simp)).lt
    have e11 := (HE.out.box _ (List.mem_cons_self ..)).cell
    have f11 := (HE.out.box _ (List.mem_cons_self ..)).frozen
    have l11 := (HE.out.box _ (List.mem_cons_self ..)).lt
    dsimp only at e6 l6 l11
    by_cases hlt : k < Z
    · have hkl : k < wd.length := by have := HZ.out; omega
      have hks : k < (bs wd).size := by omega
      obtain ⟨c, hcq, hcw⟩ := HLT.out.at hkl
      obtain ⟨b, hb⟩ : ∃ b, (bs wd)[k]'hks = b := ⟨_, rfl⟩
      have hbc : b = ltr c := by rw [← hb]; exact hcw
      have hcc : ((b.toNat : Int) - 97) % 256 = (c : Int) := by rw [hbc, ltr_nat (by omega)]; omega
      have hcq' : (c : Int) < (q : Int) := by omega
      have hc0 : (0 : Int) ≤ (c : Int) := by omega
      obtain ⟨rb, rc, _, lN, lrb, lg, m1, m2, m3⟩ := HM.out.row (i := i) (by rw [hTl]; exact hi)
      rw [hTl] at m1
      have hTr := hT.at (show i < S.length by have := HN.out; omega)
      rw [hTr.1] at m2 m3
      have m4 := m3 c hcq
      obtain ⟨x, hx⟩ : ∃ x, x = (T.getD i []).getD c 0 := ⟨_, rfl⟩
      rw [← hx] at m4
      have hto : toT T i (wd[k]'hkl) = x := by
        rw [hcw, hx]
        exact to_at (by omega) (by rw [hTr.1]; exact hcq)
      have hrs := run_take_succ hkl HR.out
      rw [hto] at hrs
      have HRS := Lib.hid hrs
      have hxr : x = -1 ∨ (0 ≤ x ∧ x < N) := by
        rw [hx, HN.out]
        exact row_range hT (by have := HN.out; omega) hcq
      have HXR := Lib.hid hxr
      have HSET : Hid (∀ nq, Env w [(bi, 3, .int .i64 x), (w.heap.size, 9, .string (bs wd))] W5.heap.size [] ((wr.drewN nq).setCell ⟨bi, 0, none⟩ (.int .i64 x)) ∧ MachY base bi ((wr.drewN nq).setCell ⟨bi, 0, none⟩ (.int .i64 x)) gm q S T gS cS gN cN hdrs) := Lib.hid fun nq => by
        refine ⟨Env.set (HE.out.kept (grown_drew wr nq) (fun r e => by cases e)) (b := bi) (t := 3) (u := .int .i64 i) (by simp) (.int .i64 x) (by omega) ?_, ?_⟩
        · intro y hy
          simp only [List.mem_cons, List.not_mem_nil, or_false] at hy ⊢
          rcases hy with rfl | rfl
          · exact .inl rfl
          · exact .inr ⟨.inr rfl, by show w.heap.size ≠ bi; omega⟩
        · exact (HM.out.grown (grown_drew wr nq) (fun r e => by cases e)).grown (grown_set _ bi 0 _) fun r e => .inl (by cases e; exact Nat.le_refl _)
      have hii : (i : Int) < (N : Int) := by omega
      have hi0 : (0 : Int) ≤ (i : Int) := by omega
      have hkz : (k : Int) < (Z : Int) := by omega
      clear hcw hbc hx hrs hto m3 hTr hxr
      gi_wp2_with fail
      refine wpIn_region_tail 13 rfl hmix (by kernel_rfl) ?_
      simp only [List.take_succ_cons, List.take_zero, List.drop_succ_cons, List.drop_zero]
      repeat (gi_big_quiet_step (fail))
      refine wpQuietIn_nil ?_
      rintro _ ⟨nq, rfl⟩
      have HS2 := Lib.hid (HSET.out nq)
      clear HSET
      by_cases hx0 : x < 0
      · have HNO : Hid (runT T 0 wd = none) := Lib.hid (run_take_none (k := k + 1) (by rw [HRS.out, if_neg (by omega)]))
        gi_wp2_with fail
        exact ⟨_, results_tmp2 rfl _ _ _, .inl ⟨.inl HNO.out, rfl⟩, HS2.out.1.low⟩
      · have hxN := HXR.out
        obtain ⟨j, rfl⟩ : ∃ j : Nat, x = j := ⟨x.toNat, by omega⟩
        have HRj : Hid (runT T 0 (wd.take (k + 1)) = some j) := Lib.hid (by rw [HRS.out, if_pos (by omega), Int.toNat_natCast])
        have hjN : j < N := by omega
        clear hxN HXR HRS
        gi_wp2_with fail
        go_roundw
        case rel => exact ⟨k + 1, j, by omega, by go_num, hjN, HRj, Lib.hid HS2.out.1, Lib.hid HS2.out.2⟩
        case measure => simp [intOf]; omega
    · have ek : Z = k := by omega
      have HRZ : Hid (runT T 0 wd = some i) := Lib.hid (by
        have h := HR.out
        rw [List.take_of_length_le (by rw [← HZ.out]; omega)] at h
        exact h)
      subst ek
      clear HR hlt hk
      have hbw : bi < wr.heap.size := l11
      have LGm := Lib.hid (fun m => LG.out m gm wr (HM.out.at (Nat.le_of_lt hbw)))
      have hNi : i < S.length := by have := HN.out; omega
      gi_wp2_with fail
      refine ⟨trivial, ?_⟩
      refine (LGm.out _).mono ?_
      rintro e w6 ⟨lv, L, rfl, hLl, hL, ho, r6⟩
      obtain ⟨gl, cl, rfl, hgl1, hgl2⟩ := own_form ho hN0
      have hz6 := r6.size
      have E6 := Lib.hid (HE.out.below r6).high
      have M6 := Lib.hid (HM.out.kept r6)
      have HL := Lib.hid hL
      have HO := Lib.hid ho
      obtain ⟨bl, hbl⟩ : ∃ bl, bl = w6.heap.size := ⟨_, rfl⟩
      obtain ⟨bf, hbf⟩ : ∃ bf, bf = w6.heap.size + 1 := ⟨_, rfl⟩
      obtain ⟨W7, hW7⟩ : ∃ W7, W7 = (w6.alloc (.cells #[.slice (some ⟨gl, 0, none⟩) N cl] 74)).alloc (.cells #[.func (.func 46) #[] #[.pointer (some ⟨w6.heap.size, 0, none⟩)]] 83) := ⟨_, rfl⟩
      have hb7 : Below w6.heap.size w6 W7 := by rw [hW7]; exact bl_alloc (bl_alloc (bl_refl w6) _) _
      have E7 : Env w [(bf, 83, .func (.func 46) #[] #[.pointer (some ⟨bl, 0, none⟩)]), (bl, 74, .slice (some ⟨gl, 0, none⟩) N cl), (bi, 3, .int .i64 i), (w.heap.size, 9, .string (bs wd))] W7.heap.size [] W7 := by
        have := ((E6.out.new 74 (.slice (some ⟨gl, 0, none⟩) N cl)).new 83 (.func (.func 46) #[] #[.pointer (some ⟨bl, 0, none⟩)])).high
        simp only [World.size_alloc] at this
        rw [hW7, hbf, hbl]
        simp only [World.size_alloc]
        rw [hbl] at this
        exact this
      have M7 := M6.out.kept hb7
      have O7 := own_kept HO.out hb7
      have hM := HM0.out
      have hMM : (n : Int) - (Z : Int) = (M : Int) := by omega
      have hwM : IntKind.i64.wrap (M : Int) = (M : Int) := wrapI (by omega)
      have e6i := (E6.out.box (bi, 3, .int .i64 i) (by simp)).cell
      have e6w := (E6.out.box (w.heap.size, 9, .string (bs wd)) (by simp)).cell
      have l6i := (E6.out.box (bi, 3, .int .i64 i) (by simp)).lt
      have l6w := (E6.out.box (w.heap.size, 9, .string (bs wd)) (by simp)).lt
      dsimp only at e6i e6w l6i l6w
      have e7i := (E7.box (bi, 3, .int .i64 i) (by simp)).cell
      have e7w := (E7.box (w.heap.size, 9, .string (bs wd)) (by simp)).cell
      have e7f := (E7.box (bf, 83, .func (.func 46) #[] #[.pointer (some ⟨bl, 0, none⟩)]) (by simp)).cell
      have e7l := (E7.box (bl, 74, .slice (some ⟨gl, 0, none⟩) N cl) (by simp)).cell
      have l7i := (E7.box (bi, 3, .int .i64 i) (by simp)).lt
      have l7w := (E7.box (w.heap.size, 9, .string (bs wd)) (by simp)).lt
      have l7f := (E7.box (bf, 83, .func (.func 46) #[] #[.pointer (some ⟨bl, 0, none⟩)]) (by simp)).lt
      have l7l := (E7.box (bl, 74, .slice (some ⟨gl, 0, none⟩) N cl) (by simp)).lt
      dsimp only at e7i e7w e7f e7l l7i l7w l7f l7l
      have HCELL : Hid (∀ X : World, X.ownsRow wr.heap.size 3 1 (.slice (some ⟨gl, 0, none⟩) N cl) N (encI L) → ∀ j, j < N → gl < X.heap.size ∧ X.cell? ⟨gl, j, none⟩ = some (.int .i64 (L.getD j 0))) := Lib.hid fun X hX j hj => by
        refine ⟨(hX.lt _ rfl).2, ?_⟩
        rw [hX.cellAt j (by omega)]
        unfold encI
        rw [List.getElem?_map, List.getElem?_eq_getElem (by omega), List.getD_eq_getElem?_getD, List.getElem?_eq_getElem (by omega)]
        rfl
      obtain ⟨lc1, lc2⟩ := HCELL.out W7 O7 i hi
      have FA7 := Lib.hid fun m => callsIn_up (n := m) (F := Fence.wide) rfl (FA.out bl gl N cl i M (L.getD i 0) W7 hi (hL i hi) l7l lc1 e7l lc2)
      have E7 := Lib.hid E7
      have M7 := Lib.hid M7
      have O7 := Lib.hid O7
      have HW7 := Lib.hid hW7
      have HBL := Lib.hid hbl
      have HBF := Lib.hid hbf
      clear hL ho r6 hb7 hM lc1 lc2 E6 M6 HE HM LGm e6 l6 e11 f11 l11 hW7 hbl hbf e7l
      gi_wp2_with fail
      refine ⟨trivial, ?_⟩
      rw [← HW7.out, ← HBF.out, ← HBL.out]
      clear e6i e6w l6i l6w
      refine (FA7.out _).mono ?_
      rintro e w8 ⟨rfl, rfl⟩
      cases hcan : can T M i with
      | false =>
        have HCAN := Lib.hid hcan
        clear hcan
        gi_wp2_with fail
        exact ⟨_, results_tmp2 rfl _ _ _, .inl ⟨.inr ⟨i, HRZ.out, HCAN.out⟩, rfl⟩, E7.out.low⟩
      | true =>
        have HCAN := Lib.hid hcan
        obtain ⟨W8, hW8⟩ : ∃ W8, W8 = W7.alloc (.cells #[.int .i64 ((M : Int) - 1)] 3) := ⟨_, rfl⟩
        have hb8 : Below W7.heap.size W7 W8 := by rw [hW8]; exact bl_alloc (bl_refl W7) _
        have E8 : Env w [(W7.heap.size, 3, .int .i64 ((M : Int) - 1)), (bi, 3, .int .i64 i), (w.heap.size, 9, .string (bs wd)), (bl, 74, .slice (some ⟨gl, 0, none⟩) N cl), (bf, 83, .func (.func 46) #[] #[.pointer (some ⟨bl, 0, none⟩)])] W8.heap.size [] W8 := by
          have := ((E7.out.less (bl' := [(bi, 3, .int .i64 i), (w.heap.size, 9, .string (bs wd)), (bl, 74, .slice (some ⟨gl, 0, none⟩) N cl), (bf, 83, .func (.func 46) #[] #[.pointer (some ⟨bl, 0, none⟩)])]) (by intro y hy; simp only [List.mem_cons, List.not_mem_nil, or_false] at hy ⊢; rcases hy with rfl | rfl | rfl | rfl <;> simp)).new 3 (.int .i64 ((M : Int) - 1))).high
          rw [← hW8] at this
          exact this
        have M8 := M7.out.kept hb8
        have O8 := own_kept O7.out hb8
        have hlen8 : wd.length + M = n := by have := HZ.out; have := HM0.out; omega
        have HLN := Lib.hid hlen8
        have S8 := Lib.hid (And.intro E8 (And.intro M8 O8))
        have hord : bf = bl + 1 ∧ bl < W7.heap.size ∧ bf < W7.heap.size ∧ gl < bl ∧ bi < wr.heap.size ∧ wr.heap.size ≤ gl := ⟨by rw [HBF.out, HBL.out], l7l, l7f, by rw [HBL.out]; exact hgl2, hbw, hgl1⟩
        have HORD := Lib.hid hord
        clear hcan hb8 E8 M8 O8 hlen8 E7 M7 O7 hord
        gi_wp2_with fail
        rw [← hW8]
        clear hW8
        refine wpIn_loop_ghost (fun m a X => ∃ (b15 i' : Nat) (kk : Int) (out : Str) (ds : List Deferred), i' < N ∧ kk = (m : Int) - 1 ∧ m ≤ M ∧ can T m i' = true ∧ out.length + m = n ∧ out ++ wayL T m i' = wd ++ wayL T M i ∧ bf < b15 ∧
          Env w [(b15, 3, .int .i64 kk), (bi, 3, .int .i64 i'), (w.heap.size, 9, .string (bs out)), (bl, 74, .slice (some ⟨gl, 0, none⟩) N cl), (bf, 83, .func (.func 46) #[] #[.pointer (some ⟨bl, 0, none⟩)])] X.heap.size ds X ∧ MachY base bi X gm q S T gS cS gN cN hdrs ∧ X.ownsRow wr.heap.size 3 1 (.slice (some ⟨gl, 0, none⟩) N cl) N (encI L) ∧
          a = { tmps := #[.int .i64 q, v, .string (bs wd), .int .i64 n, undef, undef, .pointer (some ⟨w.heap.size, 0, none⟩), undef, (a.tmps.getD 8 undef), (a.tmps.getD 9 undef), .pointer (some ⟨gm, 0, none⟩), .pointer (some ⟨bi, 0, none⟩), (a.tmps.getD 12 undef), .pointer (some ⟨bl, 0, none⟩), .pointer (some ⟨bf, 0, none⟩), .pointer (some ⟨b15, 0, none⟩), (a.tmps.getD 16 undef), (a.tmps.getD 17 undef), (a.tmps.getD 18 undef), (a.tmps.getD 19 undef), (a.tmps.getD 20 undef), (a.tmps.getD 21 undef), (a.tmps.getD 22 undef), (a.tmps.getD 23 undef), (a.tmps.getD 24 undef), (a.tmps.getD 25 undef), (a.tmps.getD 26 undef), (a.tmps.getD 27 undef), (a.tmps.getD 28 undef), (a.tmps.getD 29 undef), (a.tmps.getD 30 undef), (a.tmps.getD 31 undef), (a.tmps.getD 32 undef), (a.tmps.getD 33 undef), (a.tmps.getD 34 undef), (a.tmps.getD 35 undef), (a.tmps.getD 36 undef), (a.tmps.getD 37 undef), (a.tmps.getD 38 undef), (a.tmps.getD 39 undef), (a.tmps.getD 40 undef), (a.tmps.getD 41 undef), (a.tmps.getD 42 undef), (a.tmps.getD 43 undef), (a.tmps.getD 44 undef), (a.tmps.getD 45 undef), (a.tmps.getD 46 undef), (a.tmps.getD 47 undef), (a.tmps.getD 48 undef), (a.tmps.getD 49 undef), (a.tmps.getD 50 undef), (a.tmps.getD 51 undef), (a.tmps.getD 52 undef), (a.tmps.getD 53 undef), (a.tmps.getD 54 undef), (a.tmps.getD 55 undef), (a.tmps.getD 56 undef), (a.tmps.getD 57 undef), (a.tmps.getD 58 undef), (a.tmps.getD 59 undef), (a.tmps.getD 60 undef), (a.tmps.getD 61 undef), (a.tmps.getD 62 undef), (a.tmps.getD 63 undef), (a.tmps.getD 64 undef), (a.tmps.getD 65 undef), (a.tmps.getD 66 undef), (a.tmps.getD 67 undef), (a.tmps.getD 68 undef), (a.tmps.getD 69 undef), (a.tmps.getD 70 undef), (a.tmps.getD 71 undef), (a.tmps.getD 72 undef), (a.tmps.getD 73 undef), (a.tmps.getD 74 undef), (a.tmps.getD 75 undef), (a.tmps.getD 76 undef), (a.tmps.getD 77 undef), (a.tmps.getD 78 undef), (a.tmps.getD 79 undef), (a.tmps.getD 80 undef), (a.tmps.getD 81 undef), (a.tmps.getD 82 undef), (a.tmps.getD 83 undef), (a.tmps.getD 84 undef), (a.tmps.getD 85 undef), (a.tmps.getD 86 undef), (a.tmps.getD 87 undef), (a.tmps.getD 88 undef), (a.tmps.getD 89 undef), (a.tmps.getD 90 undef), (a.tmps.getD 91 undef), (a.tmps.getD 92 undef), (a.tmps.getD 93 undef), (a.tmps.getD 94 undef), (a.tmps.getD 95 undef), (a.tmps.getD 96 undef), undef], defers := ds }) M ?_ ?_
        · exact ⟨W7.heap.size, i, (M : Int) - 1, wd, [], hi, rfl, Nat.le_refl _, HCAN.out, HLN.out, rfl, HORD.out.2.2.1, S8.out.1, S8.out.2.1, S8.out.2.2, rfl⟩
        · clear e7i e7w e7f l7i l7w l7f l7l
          rintro m a X ⟨b15, i', kk, out, ds, hi', hkk, hmM, hcm, hol, how, hb15, hE, hMX, hOX, ha⟩
          obtain ⟨u, hu⟩ : ∃ u : Nat → Value, u = fun n => a.tmps.getD n undef := ⟨_, rfl⟩
          have ha' : a = { tmps := #[.int .i64 q, v, .string (bs wd), .int .i64 n, undef, undef, .pointer (some ⟨w.heap.size, 0, none⟩), undef, (u 8), (u 9), .pointer (some ⟨gm, 0, none⟩), .pointer (some ⟨bi, 0, none⟩), (u 12), .pointer (some ⟨bl, 0, none⟩), .pointer (some ⟨bf, 0, none⟩), .pointer (some ⟨b15, 0, none⟩), (u 16), (u 17), (u 18), (u 19), (u 20), (u 21), (u 22), (u 23), (u 24), (u 25), (u 26), (u 27), (u 28), (u 29), (u 30), (u 31), (u 32), (u 33), (u 34), (u 35), (u 36), (u 37), (u 38), (u 39), (u 40), (u 41), (u 42), (u 43), (u 44), (u 45), (u 46), (u 47), (u 48), (u 49), (u 50), (u 51), (u 52), (u 53), (u 54), (u 55), (u 56), (u 57), (u 58), (u 59), (u 60), (u 61), (u 62), (u 63), (u 64), (u 65), (u 66), (u 67), (u 68), (u 69), (u 70), (u 71), (u 72), (u 73), (u 74), (u 75), (u 76), (u 77), (u 78), (u 79), (u 80), (u 81), (u 82), (u 83), (u 84), (u 85), (u 86), (u 87), (u 88), (u 89), (u 90), (u 91), (u 92), (u 93), (u 94), (u 95), (u 96), undef], defers := ds } := by rw [hu]; exact ha
          clear hu ha
          subst ha'
          have e15 := (hE.box _ (List.mem_cons_self ..)).cell
          have l15 := (hE.box _ (List.mem_cons_self ..)).lt
          have ei := (hE.box (bi, 3, .int .i64 i') (by simp)).cell
          have li := (hE.box (bi, 3, .int .i64 i') (by simp)).lt
          have ew := (hE.box (w.heap.size, 9, .string (bs out)) (by simp)).cell
          have lw := (hE.box (w.heap.size, 9, .string (bs out)) (by simp)).lt
          dsimp only at e15 l15 li lw
          have HE := Lib.hid hE
          have HMX := Lib.hid hMX
          have HOX := Lib.hid hOX
          have HCM := Lib.hid hcm
          have HOW := Lib.hid how
          have HOL := Lib.hid hol
          clear hE hMX hOX hcm how hol S8
          by_cases hm0 : m = 0
          · subst hm0
            obtain rfl : kk = -1 := by omega
            clear hkk
            gi_wp2_with fail
            refine leaves_marks ds _ HE.out.marks.marks HE.out.low.size (fun w' hb => ⟨_, results_tmp2 rfl _ _ _, .inr ⟨i, HRZ.out, HCAN.out, ?_⟩, HE.out.low.trans hb⟩)
            have := HOW.out
            rw [wayL, List.append_nil] at this
            rw [← this]
            rfl
          · obtain ⟨k', rfl⟩ : ∃ k', m = k' + 1 := ⟨m - 1, by omega⟩
            obtain rfl : kk = (k' : Int) := by omega
            clear hkk
            gi_wp2_with fail
            refine ⟨trivial, ?_⟩
            refine (ST.out _ _ _ _).mono ?_
            rintro e w9 ⟨rfl, hw9⟩
            obtain ⟨bx1, bx2⟩ : Boxed w9 X.heap.size 56 (.pointer (some ⟨gm, 0, none⟩)) ∧ Boxed w9 (X.heap.size + 1) 3 (.int .i64 i') := by
              rw [hw9]
              refine ⟨(Boxed.new X _ _).alloc _, ?_⟩
              have := Boxed.new (X.alloc (.cells #[.pointer (some ⟨gm, 0, none⟩)] 56)) 3 (.int .i64 i')
              rwa [World.size_alloc] at this
            have HZ9 : Hid (w9.heap.size = X.heap.size + 2) := Lib.hid (by rw [hw9]; simp)
            have hb9 : Below X.heap.size X w9 := by rw [hw9]; exact bl_alloc (bl_alloc (bl_refl X) _) _
            have E9 := Lib.hid (HE.out.below hb9).high
            have M9 := Lib.hid (HMX.out.kept hb9)
            have O9 := Lib.hid (own_kept HOX.out hb9)
            have hi2 : i' < S.length := by have := HN.out; omega
            have L15 : Hid (b15 < X.heap.size) := Lib.hid l15
            clear hw9 hb9 HE HMX HOX
            gi_wp2_with fail
            refine wpIn_rangeFunc_ownG (w0 := w9) rfl (by omega) (gf := 50) (lb := #[.pointer (some ⟨X.heap.size, 0, none⟩), .pointer (some ⟨X.heap.size + 1, 0, none⟩)]) rfl trivial (enters_of Try.func50 (by kernel_rfl) rfl)
              (steps_stops_x 8 base bi gm q X.heap.size (X.heap.size + 1) i' S T gS cS gN cN hdrs w9 M9.out hT hq.2 hS hi2 (by have := HZ9.out; omega) bx1.cell (by have := HZ9.out; omega) bx2.cell) keepX_t (fun W l o o' _ h hc _ => keepX_b W l o o' h hc) (Below.refl _ _) (fun _ => rfl)
              (fun pre Y => (Env w [(b15, 3, .int .i64 k'), (bi, 3, .int .i64 i'), (w.heap.size, 9, .string (bs out)), (bl, 74, .slice (some ⟨gl, 0, none⟩) N cl), (bf, 83, .func (.func 46) #[] #[.pointer (some ⟨bl, 0, none⟩)])] w9.heap.size ds Y ∧ MachY base bi Y gm q S T gS cS gN cN hdrs ∧ Y.ownsRow wr.heap.size 3 1 (.slice (some ⟨gl, 0, none⟩) N cl) N (encI L)) ∧ NoneYet (can T k') pre)
              (fun c pre Y => c = .exit 4 ∧ ∃ cF jF : Nat, FoundAt (can T k') pre cF jF ∧ Env w [(b15, 3, .int .i64 k'), (bi, 3, .int .i64 jF), (w.heap.size, 9, .string (bs (out ++ [ltr cF]))), (bl, 74, .slice (some ⟨gl, 0, none⟩) N cl), (bf, 83, .func (.func 46) #[] #[.pointer (some ⟨bl, 0, none⟩)])] w9.heap.size ds Y ∧ MachY base bi Y gm q S T gS cS gN cN hdrs ∧ Y.ownsRow wr.heap.size 3 1 (.slice (some ⟨gl, 0, none⟩) N cl) N (encI L))
              ?o1 ?o2 ⟨⟨E9.out, M9.out, O9.out⟩, NoneYet.start _⟩
              (fun x => { tmps := #[.int .i64 q, v, .string (bs wd), .int .i64 n, undef, undef, .pointer (some ⟨w.heap.size, 0, none⟩), undef, (u 8), (u 9), .pointer (some ⟨gm, 0, none⟩), .pointer (some ⟨bi, 0, none⟩), (u 12), .pointer (some ⟨bl, 0, none⟩), .pointer (some ⟨bf, 0, none⟩), .pointer (some ⟨b15, 0, none⟩), .string (bs [ltr x.1.1]), .int .i64 x.1.2, (u 18), (u 19), (u 20), (u 21), (u 22), (u 23), (u 24), (u 25), (u 26), (u 27), (u 28), (u 29), (u 30), (u 31), (u 32), (u 33), (u 34), (u 35), (u 36), (u 37), (u 38), (u 39), (u 40), (u 41), (u 42), (u 43), (u 44), (u 45), (u 46), (u 47), (u 48), (u 49), (u 50), (u 51), (u 52), (u 53), (u 54), (u 55), (u 56), (u 57), (u 58), (u 59), (u 60), (u 61), (u 62), (u 63), (u 64), (u 65), (u 66), (u 67), (u 68), (u 69), (u 70), (u 71), (u 72), (u 73), (u 74), (u 75), (u 76), (u 77), (u 78), .int .i64 k', .bool true, (u 81), (u 82), .pointer (some ⟨gm, 0, none⟩), .int .i64 i', .func (.func 50) #[] #[.pointer (some ⟨X.heap.size, 0, none⟩), .pointer (some ⟨X.heap.size + 1, 0, none⟩)], .string (bs [ltr x.1.1]), .int .i64 x.1.2, (u 88), (u 89), (u 90), (u 91), (u 92), (u 93), (u 94), (u 95), (u 96), undef], defers := [] }) ?assign ?body ?done ?stop
            case o1 =>
              rintro s A D row ⟨⟨h, h2, h3⟩, h'⟩ hg hr
              exact ⟨⟨Env.own (β := Unit) E9.out.low.size (Nat.le_refl _) () A D row h hg hr, machY_own h2 hg hr, row_own h3 hg hr⟩, h'⟩
            case o2 =>
              rintro c s A D row ⟨h0, cF, jF, e1, h, h2, h3⟩ hg hr
              exact ⟨h0, cF, jF, e1, Env.own (β := Unit) E9.out.low.size (Nat.le_refl _) () A D row h hg hr, machY_own h2 hg hr, row_own h3 hg hr⟩
            case assign =>
              intro l x X' K hK
              dsimp only [encP]
              gi_wp2
              exact hK
            case done =>
              rintro D xs X' hD hxs ⟨_, hpre⟩ _
              have h5 : ((stp T i').any fun p => can T k' p.2) = true := HCM.out
              rw [hpre.all hxs] at h5
              cases h5
            case body =>
              rintro l pre ⟨⟨c, j⟩, hmem⟩ Y ⟨⟨hX, hMY, hOY⟩, hpre⟩ _
              dsimp only
              obtain ⟨hcq, hjn⟩ := hT.stp hi2 hmem
              have hjN : j < N := by have := HN.out; omega
              have e15 := (hX.box _ (List.mem_cons_self ..)).cell
              have l15 := (hX.box _ (List.mem_cons_self ..)).lt
              have ei := (hX.box (bi, 3, .int .i64 i') (by simp)).cell
              have fi := (hX.box (bi, 3, .int .i64 i') (by simp)).frozen
              have li := (hX.box (bi, 3, .int .i64 i') (by simp)).lt
              have ew := (hX.box (w.heap.size, 9, .string (bs out)) (by simp)).cell
              have fw := (hX.box (w.heap.size, 9, .string (bs out)) (by simp)).frozen
              have lw := (hX.box (w.heap.size, 9, .string (bs out)) (by simp)).lt
              have ef := (hX.box (bf, 83, .func (.func 46) #[] #[.pointer (some ⟨bl, 0, none⟩)]) (by simp)).cell
              have lf := (hX.box (bf, 83, .func (.func 46) #[] #[.pointer (some ⟨bl, 0, none⟩)]) (by simp)).lt
              have el := (hX.box (bl, 74, .slice (some ⟨gl, 0, none⟩) N cl) (by simp)).cell
              have ll := (hX.box (bl, 74, .slice (some ⟨gl, 0, none⟩) N cl) (by simp)).lt
              dsimp only at e15 l15 li lw lf ll
              obtain ⟨lc1, lc2⟩ := HCELL.out Y hOY j hjN
              have FAj := Lib.hid (fun m => CallsIn.inRound l (callsIn_up (n := m) (F := Fence.wide) rfl (FA.out bl gl N cl j k' (L.getD j 0) Y hjN (HL.out j hjN) ll lc1 el lc2)))
              have hne : w.heap.size ≠ bi ∧ b15 ≠ bi ∧ bl ≠ bi ∧ bf ≠ bi ∧ b15 ≠ w.heap.size ∧ bl ≠ w.heap.size ∧ bf ≠ w.heap.size := by
                have := HORD.out
                omega
              have hS1 := Env.set (bl' := [(b15, 3, .int .i64 k'), (bi, 3, .int .i64 i'), (w.heap.size, 9, .string (bs (out ++ [ltr c]))), (bl, 74, .slice (some ⟨gl, 0, none⟩) N cl), (bf, 83, .func (.func 46) #[] #[.pointer (some ⟨bl, 0, none⟩)])]) hX (b := w.heap.size) (t := 9) (u := .string (bs out)) (by simp) (.string (bs (out ++ [ltr c]))) (Nat.le_refl _) (by
                intro x hx
                simp only [List.mem_cons, List.not_mem_nil, or_false] at hx ⊢
                rcases hx with rfl | rfl | rfl | rfl | rfl
                · exact .inr ⟨.inl rfl, hne.2.2.2.2.1⟩
                · exact .inr ⟨.inr (.inl rfl), Ne.symm hne.1⟩
                · exact .inl rfl
                · exact .inr ⟨.inr (.inr (.inr (.inl rfl))), hne.2.2.2.2.2.1⟩
                · exact .inr ⟨.inr (.inr (.inr (.inr rfl))), hne.2.2.2.2.2.2⟩)
              have hS2 := Env.set (bl' := [(b15, 3, .int .i64 k'), (bi, 3, .int .i64 j), (w.heap.size, 9, .string (bs (out ++ [ltr c]))), (bl, 74, .slice (some ⟨gl, 0, none⟩) N cl), (bf, 83, .func (.func 46) #[] #[.pointer (some ⟨bl, 0, none⟩)])]) hS1 (b := bi) (t := 3) (u := .int .i64 i') (by simp) (.int .i64 j) (by omega) (by
                intro x hx
                simp only [List.mem_cons, List.not_mem_nil, or_false] at hx ⊢
                rcases hx with rfl | rfl | rfl | rfl | rfl
                · exact .inr ⟨.inl rfl, hne.2.1⟩
                · exact .inl rfl
                · exact .inr ⟨.inr (.inr (.inl rfl)), hne.1⟩
                · exact .inr ⟨.inr (.inr (.inr (.inl rfl))), hne.2.2.1⟩
                · exact .inr ⟨.inr (.inr (.inr (.inr rfl))), hne.2.2.2.1⟩)
              have hbwt := boxed_typ (hX.box (w.heap.size, 9, .string (bs out)) (by simp)) (e := 3) (show (9 : TypeId) ≠ 3 by decide)
              have hM2 : MachY base bi ((Y.setCell ⟨w.heap.size, 0, none⟩ (.string (bs (out ++ [ltr c])))).setCell ⟨bi, 0, none⟩ (.int .i64 j)) gm q S T gS cS gN cN hdrs :=
                (hMY.grown (grown_set Y w.heap.size 0 _) (fun r e => .inr (.inl (by cases e; exact ⟨hwb, hbwt⟩)))).grown (grown_set _ bi 0 _) (fun r e => .inl (by cases e; exact Nat.le_refl _))
              have hgne : gl ≠ w.heap.size ∧ gl ≠ bi := by have := HORD.out; omega
              have hO2 : ((Y.setCell ⟨w.heap.size, 0, none⟩ (.string (bs (out ++ [ltr c])))).setCell ⟨bi, 0, none⟩ (.int .i64 j)).ownsRow wr.heap.size 3 1 (.slice (some ⟨gl, 0, none⟩) N cl) N (encI L) :=
                (hOY.kept (grown_set Y w.heap.size 0 _) (.inr (by simp only [Value.ownBlock, Option.map_some, ne_eq, Option.some.injEq]; exact hgne.1))).kept (grown_set _ bi 0 _) (.inr (by simp only [Value.ownBlock, Option.map_some, ne_eq, Option.some.injEq]; exact hgne.2))
              have HS2 := Lib.hid (And.intro hS2 (And.intro hM2 hO2))
              have HX := Lib.hid (And.intro hX (And.intro hMY hOY))
              have HP := Lib.hid hpre
              have zo : (bs out).size ≤ 300 := by
                show out.length ≤ 300
                have := HOL.out
                omega
              have zc : (bs [ltr c]).size = 1 := rfl
              have bs_app : Hid (bs out ++ bs [ltr c] = bs (out ++ [ltr c])) := Lib.hid (by rw [← bs_sb (bs out ++ bs [ltr c]), sb_append]; rfl)
              clear hX hMY hOY hpre hS1 hS2 hM2 hO2 E9 M9 O9 bx1 bx2 lc1 lc2 hbwt hgne
              gi_wp2_with fail
              refine ⟨trivial, ?_⟩
              refine (FAj.out _).mono ?_
              rintro e Y' ⟨rfl, rfl⟩
              cases hck : can T k' j with
              | true =>
                have HCK := Lib.hid hck
                clear hck
                gi_wp2_with fail
                rw [bs_app.out]
                exact ⟨(keeps_set _ _ _ _).trans (keeps_set _ _ _ _), rfl, c, j, HP.out.found hmem HCK.out, HS2.out.1, HS2.out.2.1, HS2.out.2.2⟩
              | false =>
                have HCK := Lib.hid hck
                clear hck
                gi_wp2_with fail
                exact ⟨KeepsFrom.refl _ _, fun m => m, HX.out, HP.out.push HCK.out⟩
            case stop =>
              rintro D cc pre Y hD hp ⟨rfl, cF, jF, hfo, hX, hMY, hOY⟩ hKD
              obtain ⟨hf, hmF, h6⟩ := hfo.first hp
              have e15 := (hX.box _ (List.mem_cons_self ..)).cell
              have l15 := (hX.box _ (List.mem_cons_self ..)).lt
              dsimp only at e15 l15
              have hXp := hX.push (by have := E9.out.low.size; omega) hD hKD
              have hjn : jF < N := by have := HN.out; have h := (hT.stp hi2 hmF).2; omega
              have hF := Lib.hid (And.intro hf h6)
              have hXp := Lib.hid hXp
              have hMY := Lib.hid hMY
              have hOY := Lib.hid hOY
              have hlb : bf < Y.heap.size := Nat.lt_trans hb15 l15
              clear E9 M9 O9 bx1 bx2 hX hKD hfo hp hf h6
              gi_wp2_with fail
              have hEn := ((hXp.out.less (bl' := [(bi, 3, .int .i64 jF), (w.heap.size, 9, .string (bs (out ++ [ltr cF]))), (bl, 74, .slice (some ⟨gl, 0, none⟩) N cl), (bf, 83, .func (.func 46) #[] #[.pointer (some ⟨bl, 0, none⟩)])]) (fun y hy => List.mem_cons_of_mem _ hy)).new 3 (.int .i64 ((k' : Int) - 1))).high
              refine ⟨k', by omega, Y.heap.size, jF, (k' : Int) - 1, out ++ [ltr cF], _, hjn, rfl, by omega, hF.out.2, ?_, ?_, hlb, hEn, hMY.out.kept (bl_alloc (bl_refl Y) _), own_kept hOY.out (bl_alloc (bl_refl Y) _), rfl⟩
              · have := HOL.out
                rw [List.length_append, List.length_singleton]
                omega
              · have hw := HOW.out
                rw [wayL_succ hF.out.1] at hw
                rw [← hw, List.append_assoc]
                rfl
end Go.Proofs.Ytnamafakjkcmjaa
