/-
  Longest.
-/
import Derived.Test.YtnamafakjkcmjaaTq
namespace Go.Proofs.Ytnamafakjkcmjaa
open Go.RowKit Go.Shelf
set_option linter.unusedVariables false
set_option linter.unusedSimpArgs false
attribute [local go_sem] Oper.semAt_some

theorem callsIn_up {F : Fence} {n : Nat} {f : FuncId} {args : Array Value} {w : World} {R : Ending → World → Prop} {P : Program} (hF : F = Fence.wide) (h : Calls P f args w R) : CallsIn F n P f args w R := by
  subst hF; exact callsIn_wide.2 h
theorem firstG_found {p : Nat → Bool} {L ps : List (Nat × Nat)} {x : Nat × Nat} (hp : ps ++ [x] <+: L) (h : ∀ y ∈ ps, p y.2 = false) (hx : p x.2 = true) : firstG p L = some x := by
  obtain ⟨t, rfl⟩ := hp
  rw [List.append_assoc, firstG_skip _ _ h]
  show (if p x.2 then some (x.1, x.2) else _) = _
  rw [if_pos hx]
theorem wayL_succ {T : Tab} {m i c j : Nat} (h : firstG (can T m) (stp T i) = some (c, j)) : wayL T (m + 1) i = ltr c :: wayL T m j := by
  show (match firstG (can T m) (stp T i) with | some (c, j) => ltr c :: wayL T m j | none => []) = _
  rw [h]
theorem keeps_drewN (B : Nat) (W : World) (n : Nat) : KeepsFrom B W (W.drewN n) := KeepsFrom.of_grownBy (grown_drew W n) (fun j e => by cases e)
theorem keeps_set (B : Nat) (W : World) (g : Nat) (v : Value) : KeepsFrom B W (W.setCell ⟨g, 0, none⟩ v) := (KeepsOthers.setCell W ⟨g, 0, none⟩ v).from _
/-- The letter to take: the first one behind which as many letters as wanted can come. -/
theorem far_iff {T : Tab} {i c j k' : Nat} {kj : Int} (h : Lng T i ((k' + 1 : Nat) : Int)) (hm : (c, j) ∈ stp T i) (hj : Lng T j kj) : can T k' j = true ↔ kj = ((k' + 1 : Nat) : Int) - 1 := by
  have h1 : can T (k' + 1 + 1) i = false := by
    cases hc : can T (k' + 1 + 1) i with
    | false => rfl
    | true => have := (h.can_iff _).1 hc; omega
  have h2 : ¬ can T (k' + 1) j = true := fun hc => by
    rw [can_succ.2 ⟨c, j, hm, hc⟩] at h1; cases h1
  rw [hj.can_iff] at h2 ⊢
  omega
set_option maxRecDepth 100000 in
set_option maxHeartbeats 4000000 in
theorem Longest_no (q : Int) (v : Value) (ss : List ByteArray) (w : World) (hv : StrsAt w v ss) (hset : setB q ss = false) :
    Calls Try.prog 36 #[.int .i64 q, v] w fun e w' => e = .returned (.tuple #[.string ⟨#[]⟩, .int .i64 2]) ∧ Below w.heap.size w w' := by
  have IS := Lib.hid fun W h => isSet_any q v ss W h
  have HV := Lib.hid hv
  clear hv
  go_enter Try.func36, Try.ntmps36
  go_wp2_with fail
  refine (IS.out _ HV.out).mono ?_
  rintro e w1 ⟨rfl, r1⟩
  rw [hset]
  go_wp2_with fail
  go_ret2
  exact ⟨rfl, r1⟩
set_option maxRecDepth 100000 in
set_option maxHeartbeats 4000000 in
theorem Longest_any (q : Nat) (v : Value) (ss : List ByteArray) (w : World) (hv : StrsAt w v ss) (hset : setB q ss = true) (hG : HasG w) :
    Calls Try.prog 36 #[.int .i64 q, v] w fun e w' => ((can (tabL (pats ss) q) 1000 0 = true ∧ e = .returned (.tuple #[.string ⟨#[]⟩, .int .i64 6])) ∨
      (∃ m : Nat, Lng (tabL (pats ss) q) 0 m ∧ e = .returned (.tuple #[.string (bs (wayL (tabL (pats ss) q) m 0)), .int .i64 0]))) ∧ Below w.heap.size w w' := by
  have hmix : Try.prog.follows .mixedOrders = true := by kernel_rfl
  have hdd : ∀ k : Nat, (Fence.wide.depth.isSome = true → 1 ≤ k) := fun k h => by cases h
  obtain ⟨hq1, hq2⟩ := (setB_parts hset).1
  have hq : 1 ≤ q ∧ q ≤ 3 := by omega
  have h0 : okL (pats ss) [] = true := ok_nil (pats_some hset)
  have IS := Lib.hid fun n W h => callsIn_up (n := n) rfl (isSet_any q v ss W h)
  have NM := Lib.hid fun n W h1 h2 => callsIn_up (n := n) rfl (newMachine_any q hq v ss W h1 h0 h2)
  have hT := tab_ok (q := q) h0
  have hS := stL_few (pats ss) hq.2
  have LG := Lib.hid fun n gm W h => callsIn_up (n := n) rfl (longest_any gm q _ _ W h hT hq.2 hS)
  have ST := Lib.hid fun n gm i W => steps_in n gm i W
  have HV := Lib.hid hv
  have HG := Lib.hid hG
  clear hv hG
  refine (callsIn_wide (n := 9)).1 ?_
  refine callsIn_of_wp_marks Try.func36 rfl trivial ?_ rfl
  simp only [Try.ntmps36, List.size_toArray, List.length_cons, List.length_nil, Nat.reduceAdd, Nat.reduceSub, Array.replicate_succ, Array.replicate_zero, List.push_toArray, List.append_toArray, List.nil_append, List.cons_append]
  gi_wp2_with fail
  refine ⟨trivial, ?_⟩
  refine (IS.out _ _ HV.out).mono ?_
  rintro e w1 ⟨rfl, r1⟩
  rw [hset]
  gi_wp2_with fail
  refine ⟨trivial, ?_⟩
  refine (NM.out _ _ (HV.out.kept r1) (HG.out.kept r1)).mono ?_
  rintro e w2 ⟨gm, rfl, hM, r2⟩
  gi_wp2_with fail
  refine ⟨trivial, ?_⟩
  refine (LG.out _ _ _ hM).mono ?_
  rintro e w3 ⟨lv, L, rfl, hLl, HL, ho, r3⟩
  have hn0 : 0 < (stL (pats ss) q).length := by rw [stL_fix h0]; simp
  have hL0 := HL 0 hn0
  obtain ⟨N, hN⟩ : ∃ N, N = (stL (pats ss) q).length := ⟨_, rfl⟩
  have HN := Lib.hid hN
  rw [← hN] at hLl ho hn0 HL
  clear hN
  obtain ⟨gl, cl, rfl, hgl, hgl2⟩ := own_form ho hn0
  have ld : ∀ i, i < N → w3.cell? ⟨gl, i, none⟩ = some (.int .i64 (L.getD i 0)) := by
    intro i hi
    rw [ho.cellAt i (by omega)]
    unfold encI
    rw [List.getElem?_map, List.getElem?_eq_getElem (by omega), List.getD_eq_getElem?_getD, List.getElem?_eq_getElem (by omega)]
    rfl
  have ld0 := ld 0 hn0
  have LD := Lib.hid ld
  have HL := Lib.hid HL
  have HO := Lib.hid ho
  have R3 := Lib.hid r3
  clear ho ld r3
  rcases hL0 with ⟨h1, h2⟩ | ⟨m, h1, h2, h3⟩
  · rw [h1] at ld0
    gi_wp2_with fail
    refine ⟨_, results_tmp2 rfl _ _ _, .inl ⟨h2 _, rfl⟩, ?_⟩
    exact bl_alloc (bl_then (bl_then r1 r2) R3.out) _
  · rw [h1] at ld0
    obtain ⟨W4, hW4⟩ : ∃ W4, W4 = (((w3.alloc (.cells #[.slice (some ⟨gl, 0, none⟩) N cl] 74)).alloc (.cells #[.string ⟨#[]⟩] 9)).alloc (.cells #[.int .i64 0] 3)) := ⟨_, rfl⟩
    have hz4 : W4.heap.size = w3.heap.size + 3 := by rw [hW4]; simp
    have E0 : Env w3 [] w3.heap.size [] w3 := ⟨fun b hb => absurd hb List.not_mem_nil, bl_refl w3, MarksTo.nil _ _ _, Nat.le_refl _⟩
    have E4 := ((E0.new 74 (.slice (some ⟨gl, 0, none⟩) N cl)).new 9 (.string ⟨#[]⟩)).new 3 (.int .i64 0)
    simp only [World.size_alloc] at E4
    rw [← hW4] at E4
    have E4 := Lib.hid E4.high
    gi_wp2_with fail
    rw [← hW4]
    refine wpIn_loop_ghost (fun k a W => ∃ (b9 i : Nat) (out : Str) (ds : List Deferred) (u12 u13 u14 u15 u16 u17 u18 u19 u20 u21 u22 u23 u24 u25 u26 u27 u28 u29 u30 u31 u32 u49 : Value), i < N ∧ Lng (tabL (pats ss) q) i k ∧ out ++ wayL (tabL (pats ss) q) k i = wayL (tabL (pats ss) q) m 0 ∧ w3.heap.size + 1 < b9 ∧
      Env w3 [(b9, 3, .int .i64 i), (w3.heap.size + 1, 9, .string (bs out)), (w3.heap.size, 74, .slice (some ⟨gl, 0, none⟩) N cl)] W.heap.size ds W ∧
      a = { tmps := #[.int .i64 q, v, undef, undef, .string ⟨#[]⟩, .int .i64 0, .pointer (some ⟨gm, 0, none⟩), .pointer (some ⟨w3.heap.size, 0, none⟩), .pointer (some ⟨w3.heap.size + 1, 0, none⟩), .pointer (some ⟨b9, 0, none⟩), undef, undef, u12, u13, u14, u15, u16, u17, u18, u19, u20, u21, u22, u23, u24, u25, u26, u27, u28, u29, u30, u31, u32, undef, undef, undef, undef, undef, undef, undef, undef, undef, undef, undef, undef, undef, undef, undef, undef, u49, undef], defers := ds }) m ?_ ?_
    · refine ⟨w3.heap.size + 1 + 1, 0, [], [], _, _, _, _, _, _, _, _, _, _, _, _, _, _, _, _, _, _, _, _, _, _, hn0, .inr ⟨m, rfl, h2, h3⟩, rfl, by omega, E4.out, rfl⟩
    · rintro k a W ⟨b9, i, out, ds, u12, u13, u14, u15, u16, u17, u18, u19, u20, u21, u22, u23, u24, u25, u26, u27, u28, u29, u30, u31, u32, u49, hi, hl, hw, hb9, hE, rfl⟩
      have e9 := (hE.box _ (List.mem_cons_self ..)).cell
      have e8 := (hE.box (w3.heap.size + 1, 9, .string (bs out)) (by simp)).cell
      have e7 := (hE.box (w3.heap.size, 74, .slice (some ⟨gl, 0, none⟩) N cl) (by simp)).cell
      have l9 := (hE.box _ (List.mem_cons_self ..)).lt
      have l8 := (hE.box (w3.heap.size + 1, 9, .string (bs out)) (by simp)).lt
      have l7 := (hE.box (w3.heap.size, 74, .slice (some ⟨gl, 0, none⟩) N cl) (by simp)).lt
      have hlL : L.getD i 0 = (k : Int) := (HL.out i hi).one hl
      have hld : ∀ W' : World, Below w3.heap.size w3 W' → ∀ j, j < N → W'.cell? ⟨gl, j, none⟩ = some (.int .i64 (L.getD j 0)) := fun W' hb j hj => (hb.cell (p := ⟨gl, j, none⟩) hgl2).trans (LD.out j hj)
      have ei := hld W hE.low i hi
      rw [hlL] at ei
      have HE := Lib.hid hE
      have HLD := Lib.hid hld
      have Hw := Lib.hid hw
      have Hl := Lib.hid hl
      clear hE hld hw hl E4 hW4 ld0
      by_cases hk : k = 0
      · subst hk
        gi_wp2_with fail
        refine leaves_marks ds _ HE.out.marks.marks HE.out.low.size (fun w' hb => ⟨_, results_tmp2 rfl _ _ _, .inr ⟨m, .inr ⟨m, rfl, h2, h3⟩, ?_⟩, ?_⟩)
        · have := Hw.out
          rw [wayL, List.append_nil] at this
          rw [this]; rfl
        · exact bl_then (bl_then (bl_then r1 r2) R3.out) (HE.out.low.trans hb)
      · obtain ⟨k', rfl⟩ : ∃ k', k = k' + 1 := ⟨k - 1, by omega⟩
        obtain ⟨ki, hki⟩ : ∃ ki : Int, ki = ((k' + 1 : Nat) : Int) := ⟨_, rfl⟩
        have hkb : 0 < ki ∧ ki < 200 := by have := Hl.out.few hT (by have := HN.out; omega); omega
        have HKI := Lib.hid hki
        rw [← hki] at ei
        clear hki
        gi_wp2_with fail
        refine ⟨trivial, ?_⟩
        refine (ST.out _ _ _ _).mono ?_
        rintro e w5 ⟨rfl, hw5⟩
        obtain ⟨bx1, bx2⟩ : Boxed w5 W.heap.size 56 (.pointer (some ⟨gm, 0, none⟩)) ∧ Boxed w5 (W.heap.size + 1) 3 (.int .i64 i) := by
          rw [hw5]
          refine ⟨(Boxed.new W _ _).alloc _, ?_⟩
          have := Boxed.new (W.alloc (.cells #[.pointer (some ⟨gm, 0, none⟩)] 56)) 3 (.int .i64 i)
          rwa [World.size_alloc] at this
        have hz5 : w5.heap.size = W.heap.size + 2 := by rw [hw5]; simp
        have E5 := Lib.hid ((HE.out.below (W' := w5) (by rw [hw5]; exact bl_alloc (bl_alloc (bl_refl W) _) _)).high)
        clear hw5
        have hM3 := hM.kept R3.out
        have hi' : i < (stL (pats ss) q).length := by have := HN.out; omega
        gi_wp2_with fail
        refine wpIn_rangeFunc_ownG (w0 := w5) rfl (by omega) (gf := 50) (lb := #[.pointer (some ⟨W.heap.size, 0, none⟩), .pointer (some ⟨W.heap.size + 1, 0, none⟩)]) rfl trivial (enters_of Try.func50 (by kernel_rfl) rfl)
          (steps_stops 8 gm q W.heap.size (W.heap.size + 1) i _ _ w3 w5 hM3 hT hq.2 hS hi' E5.out.low (by omega) bx1.cell (by omega) bx2.cell) belowK_t (belowK_b (by have := E5.out.low.size; omega)) (Below.refl _ _) (fun _ => rfl)
          (fun pre W' => Env w3 [(b9, 3, .int .i64 i), (w3.heap.size + 1, 9, .string (bs out)), (w3.heap.size, 74, .slice (some ⟨gl, 0, none⟩) N cl)] w5.heap.size ds W' ∧ ∀ x ∈ pre, can (tabL (pats ss) q) k' x.1.2 = false)
          (fun c pre W' => c = .exit 2 ∧ ∃ pre' x, pre = pre' ++ [x] ∧ (∀ y ∈ pre', can (tabL (pats ss) q) k' y.1.2 = false) ∧ can (tabL (pats ss) q) k' x.1.2 = true ∧ Env w3 [(b9, 3, .int .i64 x.1.2), (w3.heap.size + 1, 9, .string (bs (out ++ [ltr x.1.1]))), (w3.heap.size, 74, .slice (some ⟨gl, 0, none⟩) N cl)] w5.heap.size ds W')
          ?o1 ?o2 ⟨E5.out, fun x h => absurd h List.not_mem_nil⟩
          (fun x => { tmps := #[.int .i64 q, v, undef, undef, .string ⟨#[]⟩, .int .i64 0, .pointer (some ⟨gm, 0, none⟩), .pointer (some ⟨w3.heap.size, 0, none⟩), .pointer (some ⟨w3.heap.size + 1, 0, none⟩), .pointer (some ⟨b9, 0, none⟩), .string (bs [ltr x.1.1]), .int .i64 x.1.2, u12, u13, u14, u15, u16, u17, u18, u19, u20, u21, u22, u23, u24, .slice (some ⟨gl, 0, none⟩) N cl, .int .i64 i, .pointer (some ⟨gl, i, none⟩), .int .i64 ki, .bool true, .pointer (some ⟨gm, 0, none⟩), .int .i64 i, .func (.func 50) #[] #[.pointer (some ⟨W.heap.size, 0, none⟩), .pointer (some ⟨W.heap.size + 1, 0, none⟩)], .string (bs [ltr x.1.1]), .int .i64 x.1.2, undef, undef, undef, undef, undef, undef, undef, undef, undef, undef, undef, undef, undef, undef, u49, undef], defers := [] }) ?assign ?body ?done ?stop
        case o1 =>
          rintro s A D row ⟨h, h'⟩ hg hr
          exact ⟨Env.own (β := Unit) E5.out.low.size (Nat.le_refl _) () A D row h hg hr, h'⟩
        case o2 =>
          rintro c s A D row ⟨h0, pre', x, e1, e2, e3, h⟩ hg hr
          exact ⟨h0, pre', x, e1, e2, e3, Env.own (β := Unit) E5.out.low.size (Nat.le_refl _) () A D row h hg hr⟩
        case assign =>
          intro l x X K hK
          dsimp only [encP]
          gi_wp2
          exact hK
        case body =>
          rintro l pre ⟨⟨c, j⟩, hmem⟩ X ⟨hX, hpre⟩ _
          dsimp only
          obtain ⟨hcq, hjn⟩ := hT.stp hi' hmem
          have e9 := (hX.box _ (List.mem_cons_self ..)).cell
          have e8 := (hX.box (w3.heap.size + 1, 9, .string (bs out)) (by simp)).cell
          have e7 := (hX.box (w3.heap.size, 74, .slice (some ⟨gl, 0, none⟩) N cl) (by simp)).cell
          have f9 := (hX.box _ (List.mem_cons_self ..)).frozen
          have f8 := (hX.box (w3.heap.size + 1, 9, .string (bs out)) (by simp)).frozen
          have l9 := (hX.box _ (List.mem_cons_self ..)).lt
          have l8 := (hX.box (w3.heap.size + 1, 9, .string (bs out)) (by simp)).lt
          have hjN : j < N := by have := HN.out; omega
          have ei := HLD.out X hX.low i hi
          rw [hlL, ← HKI.out] at ei
          obtain ⟨kj, hkj⟩ : ∃ kj : Int, kj = L.getD j 0 := ⟨_, rfl⟩
          have ej := HLD.out X hX.low j hjN
          rw [← hkj] at ej
          have HX := Lib.hid hX
          clear hX
          have hfar := far_iff Hl.out hmem (HL.out j hjN)
          rw [← HKI.out, ← hkj] at hfar
          have l9w : w3.heap.size ≤ b9 := by omega
          have hS1 := fun nq => Env.set (bl' := [(b9, 3, .int .i64 i), (w3.heap.size + 1, 9, .string (bs (out ++ [ltr c]))), (w3.heap.size, 74, .slice (some ⟨gl, 0, none⟩) N cl)]) (HX.out.kept (grown_drew X nq) (fun r e => by cases e)) (b := w3.heap.size + 1) (t := 9) (u := .string (bs out)) (by simp) (.string (bs (out ++ [ltr c]))) (by omega) (by
            intro x hx
            simp only [List.mem_cons, List.not_mem_nil, or_false] at hx ⊢
            rcases hx with rfl | rfl | rfl
            · exact .inr ⟨.inl rfl, by show b9 ≠ _; omega⟩
            · exact .inl rfl
            · exact .inr ⟨.inr (.inr rfl), by show w3.heap.size ≠ _; omega⟩)
          have hS2 := fun nq => Env.set (bl' := [(b9, 3, .int .i64 j), (w3.heap.size + 1, 9, .string (bs (out ++ [ltr c]))), (w3.heap.size, 74, .slice (some ⟨gl, 0, none⟩) N cl)]) (hS1 nq) (b := b9) (t := 3) (u := .int .i64 i) (by simp) (.int .i64 j) (by omega) (by
            intro x hx
            simp only [List.mem_cons, List.not_mem_nil, or_false] at hx ⊢
            rcases hx with rfl | rfl | rfl
            · exact .inl rfl
            · exact .inr ⟨.inr (.inl rfl), by show w3.heap.size + 1 ≠ _; omega⟩
            · exact .inr ⟨.inr (.inr rfl), by show w3.heap.size ≠ _; omega⟩)
          have HS2 := Lib.hid hS2
          have HF := Lib.hid hfar
          have HP := Lib.hid hpre
          have bs_app : Hid (bs out ++ bs [ltr c] = bs (out ++ [ltr c])) := Lib.hid (by rw [← bs_sb (bs out ++ bs [ltr c]), sb_append]; rfl)
          have zo : (bs out).size ≤ 300 := by
            have h := congrArg List.length Hw.out
            rw [List.length_append, wayL_len _ _ _ h2] at h
            have := (show Lng (tabL (pats ss) q) 0 m from .inr ⟨m, rfl, h2, h3⟩).few hT (by have := HN.out; omega)
            show out.length ≤ 300
            omega
          have zc : (bs [ltr c]).size = 1 := rfl
          clear hS1 hS2 hfar hpre hkj
          by_cases hc : kj = ki - 1
          · gi_wp2_with fail
            refine wpIn_region_quiet_round rfl hmix (by kernel_rfl) (by intro o ho c h; simp at ho; rcases ho with rfl | rfl | rfl | rfl | rfl | rfl | rfl | rfl | rfl | rfl <;> cases h) ?_
            repeat (gi_big_quiet_step (fail))
            refine wpQuietIn_nil ?_
            rintro _ ⟨nq, rfl⟩
            gi_wp2_with fail
            rw [bs_app.out]
            exact ⟨(keeps_drewN _ X nq).trans ((keeps_set _ _ _ _).trans (keeps_set _ _ _ _)), rfl, pre, ⟨(c, j), hmem⟩, rfl, HP.out, HF.out.2 hc, HS2.out nq⟩
          · have hcb : (kj == ki - 1) = false := by simpa using hc
            gi_wp2_with fail
            refine wpIn_region_quiet_round rfl hmix (by kernel_rfl) (by intro o ho c h; simp at ho; rcases ho with rfl | rfl | rfl | rfl | rfl | rfl | rfl | rfl | rfl | rfl <;> cases h) ?_
            repeat (gi_big_quiet_step (fail))
            refine wpQuietIn_nil ?_
            rintro _ ⟨nq, rfl⟩
            gi_wp2_with fail
            refine ⟨keeps_drewN _ X nq, (Below.refl w3.heap.size X).grown (grown_drew X nq) HX.out.low.size (fun r e => by cases e), HX.out.kept (grown_drew X nq) (fun r e => by cases e), fun y hy => ?_⟩
            rcases List.mem_append.1 hy with hy | hy
            · exact HP.out y hy
            · rw [List.mem_singleton.1 hy]
              cases hcc : can (tabL (pats ss) q) k' j with
              | false => rfl
              | true => exact absurd (HF.out.1 hcc) hc
        case done =>
          rintro D xs X hD hxs ⟨_, hpre⟩ _
          have h5 := (Hl.out.can_iff (k' + 1)).2 (.inr (Int.le_refl _))
          obtain ⟨c, j, hm, hc⟩ := can_succ.1 h5
          rw [← hxs] at hm
          obtain ⟨y, hy, e⟩ := List.mem_map.1 hm
          have := hpre y hy
          rw [e] at this
          rw [this] at hc; cases hc
        case stop =>
          rintro D cc pre X hD hp ⟨rfl, pre', x, rfl, h5, h6, hX⟩ hKD
          have hf := firstG_found (p := can (tabL (pats ss) q) k') (by rw [List.map_append] at hp; exact hp) (fun y hy => by obtain ⟨z, hz, rfl⟩ := List.mem_map.1 hy; exact h5 z hz) h6
          have e9 := (hX.box _ (List.mem_cons_self ..)).cell
          have l9 : b9 < X.heap.size := (hX.box _ (List.mem_cons_self ..)).lt
          have hXp := hX.push (by have := E5.out.low.size; omega) hD hKD
          have hjn : x.1.2 < N := by have := HN.out; have h : x.1.2 < (stL (pats ss) q).length := (hT.stp hi' x.2).2; omega
          gi_wp2_with fail
          have hl2 : Lng (tabL (pats ss) q) x.1.2 (k' : Int) := by
            refine .inr ⟨k', rfl, h6, ?_⟩
            cases hcc : can (tabL (pats ss) q) (k' + 1) x.1.2 with
            | false => rfl
            | true =>
              have := (Hl.out.can_iff (k' + 1 + 1)).1 (can_succ.2 ⟨x.1.1, x.1.2, x.2, hcc⟩)
              omega
          have hEn := (hXp.less (bl' := [(w3.heap.size + 1, 9, .string (bs (out ++ [ltr x.1.1]))), (w3.heap.size, 74, .slice (some ⟨gl, 0, none⟩) N cl)]) (fun y hy => List.mem_cons_of_mem _ hy)).new 3 (.int .i64 x.1.2)
          have hEn := hEn.high
          simp only [World.size_alloc] at hEn
          refine ⟨k', by omega, X.heap.size, x.1.2, hjn, hl2, out ++ [ltr x.1.1], ?_, Nat.lt_trans hb9 l9, hEn, rfl⟩
          have hw := Hw.out
          rw [wayL_succ hf] at hw
          rw [← hw, List.append_assoc]
          rfl
end Go.Proofs.Ytnamafakjkcmjaa
