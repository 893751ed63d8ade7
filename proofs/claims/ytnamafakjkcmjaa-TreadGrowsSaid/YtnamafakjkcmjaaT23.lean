/-
  Few: the choice, a closure that calls itself.
-/
import Derived.Test.YtnamafakjkcmjaaT22
import Derived.Test.YtnamafakjkcmjaaMB
namespace Go.Proofs.Ytnamafakjkcmjaa
open Go.RowKit Go.Shelf
set_option linter.unusedVariables false
set_option linter.unusedSimpArgs false

theorem CAt.ring {c : CPar} {W : World} {s : Cs} (h : CAt c W s) {k : Nat} (hk : k < c.R.length) : ∃ gr cr, c.hdrs[k]? = some (.slice (some ⟨gr, 0, none⟩) (c.R[k]).length cr) ∧ gr < c.B0 := by
  obtain ⟨b, cc, h1, h2, _⟩ := h.rw.at (i := k) (by simpa using hk)
  refine ⟨b, cc, ?_, h2⟩
  rw [h1, List.getD_eq_getElem?_getD, List.getElem?_map, List.getElem?_eq_getElem hk]
  simp [encS]
theorem CAt.head {c : CPar} {W : World} {s : Cs} (h : CAt c W s) {k gr cr : Nat} (hk : k < c.R.length) (he : c.hdrs[k]? = some (.slice (some ⟨gr, 0, none⟩) (c.R[k]).length cr)) : W.cell? ⟨c.gA, k, none⟩ = some (.slice (some ⟨gr, 0, none⟩) (c.R[k]).length cr) ∧ c.gA < W.heap.size ∧
    ∀ j, ∀ hj : j < (c.R[k]).length, W.cell? ⟨gr, j, none⟩ = some (.string (bs (c.R[k])[j])) := by
  refine ⟨(h.hd.cellAt k (by omega)).trans he, (h.hd.lt c.gA rfl).2, fun j hj => ?_⟩
  obtain ⟨b, cc, h1, _, _, h4⟩ := h.rw.at (i := k) (by simpa using hk)
  have e : (c.R.map encS).getD k [] = encS c.R[k] := by
    rw [List.getD_eq_getElem?_getD, List.getElem?_map, List.getElem?_eq_getElem hk]; rfl
  rw [e] at h1 h4
  have e2 := he.symm.trans h1
  simp only [Option.some.injEq, Value.slice.injEq, Addr.mk.injEq, and_true] at e2
  obtain ⟨rfl, _⟩ := e2
  rw [h4 j (by simpa [encS] using hj)]
  unfold encS
  rw [List.getElem?_map, List.getElem?_eq_getElem hj]
  rfl
theorem own_cut {w : World} {base e n cap g : Nat} {xs : List Value} (h : w.ownsRow base e 1 (.slice (some ⟨g, 0, none⟩) (n + 1) cap) (n + 1) xs) : w.ownsRow base e 1 (.slice (some ⟨g, 0, none⟩) n cap) n xs.dropLast := by
  have hl := h.1
  refine ⟨by rw [List.length_dropLast, hl]; omega, ?_⟩
  rcases h.2 with ⟨h1, _⟩ | ⟨g', cap', cur, h1, h2, h3, h4, h5, h6, h7⟩
  · simp at h1
  · simp only [Value.slice.injEq, Option.some.injEq, Addr.mk.injEq, and_true, true_and] at h1
    obtain ⟨rfl, rfl⟩ := h1
    refine .inr ⟨_, _, cur, rfl, h2, h3, by omega, h5, h6, ?_⟩
    have hlen := congrArg List.length h7
    rw [List.length_take, hl] at hlen
    rw [← h7, List.dropLast_eq_take, List.length_take, List.take_take]
    congr 1
    omega
theorem own_cap {w : World} {base e n cap g : Nat} {xs : List Value} (h : w.ownsRow base e 1 (.slice (some ⟨g, 0, none⟩) n cap) n xs) : n ≤ cap := by
  rcases h.2 with ⟨h1, _⟩ | ⟨g', cap', cur, h1, h2, h3, h4, h5, h6, h7⟩
  · simp at h1
  · simp only [Value.slice.injEq, Option.some.injEq, Addr.mk.injEq, and_true, true_and] at h1
    obtain ⟨rfl, rfl⟩ := h1
    exact h4
theorem encS_dropLast (L : List Str) : (encS L).dropLast = encS L.dropLast := by
  unfold encS
  rw [List.map_dropLast]
set_option maxRecDepth 100000 in
set_option maxHeartbeats 4000000 in
theorem choose_calls (c : CPar) (hR : RingsOk c.n c.R) (hn : 1 ≤ c.n ∧ c.n ≤ 5) : ∀ (m k : Nat) (s : Cs) (W : World), c.R.length = k + m → CAt c W s → s.cnt + cost m ≤ 10000000000 → s.out.length ≤ k →
    Calls Try.prog 53 #[.int .i64 k, .pointer (some ⟨c.Ba, 0, none⟩), .pointer (some ⟨c.Bl, 0, none⟩), .pointer (some ⟨c.Bo, 0, none⟩), .pointer (some ⟨c.Bu, 0, none⟩), .pointer (some ⟨c.Bc, 0, none⟩)] W
      fun e W' => e = .returned (.bool (chooseL c.n (c.R.drop k) s).1) ∧ CAt c W' (chooseL c.n (c.R.drop k) s).2 := by
  intro m
  obtain ⟨i0, hi, hz0, hz1, hz2⟩ := info_parts infoS
  induction m with
  | zero =>
    intro k s W hk hC hcnt hou
    have c1 := hC.a.cell
    have l1 := hC.a.lt
    have hk' : c.R.length = k := hk
    have e : c.R.drop k = [] := by rw [← hk']; simp
    rw [e]
    rw [hk'] at c1
    have HC := Lib.hid hC
    clear hC hk hk' e
    go_enter Try.func53, Try.ntmps53
    go_wp2_with fail
    go_ret
    exact ⟨rfl, HC.out⟩
  | succ m ih =>
    intro k s W hk hC hcnt hou
    have hkR : k < c.R.length := by omega
    obtain ⟨gr, cr, hhd, hgr⟩ := hC.ring hkR
    obtain ⟨ring, hring⟩ : ∃ ring, ring = c.R[k] := ⟨_, rfl⟩
    have hdrop : c.R.drop k = ring :: c.R.drop (k + 1) := by rw [hring]; exact List.drop_eq_getElem_cons hkR
    rw [hdrop]
    have hr5 : ring.length ≤ 5 := hR.small _ (hring ▸ List.getElem_mem hkR)
    have hmem : Hid (∀ w ∈ ring, w ∈ c.R.flatten ∧ w.length = c.n) := Lib.hid fun w hw => ⟨List.mem_flatten.2 ⟨ring, hring ▸ List.getElem_mem hkR, hw⟩, hR.word ring (hring ▸ List.getElem_mem hkR) w hw⟩
    have HH : Hid (∀ W' s', CAt c W' s' → W'.cell? ⟨c.gA, k, none⟩ = some (.slice (some ⟨gr, 0, none⟩) ring.length cr) ∧ c.gA < W'.heap.size ∧ gr < W'.heap.size ∧ ∀ j, ∀ hj : j < ring.length, W'.cell? ⟨gr, j, none⟩ = some (.string (bs ring[j]))) := Lib.hid fun W' s' h' => by
      subst hring
      obtain ⟨h1, h2, h3⟩ := h'.head hkR hhd
      exact ⟨h1, h2, Nat.lt_of_lt_of_le hgr h'.b1, h3⟩
    obtain ⟨ch, hch⟩ : ∃ ch, ch = chooseL c.n (c.R.drop (k + 1)) := ⟨_, rfl⟩
    have hccnt : Hid (∀ s, (ch s).2.cnt ≤ s.cnt + cost m) := Lib.hid fun s => by
      have := chooseL_cnt c.n (c.R.drop (k + 1)) s fun r hr => hR.small r (List.mem_of_mem_drop hr)
      rw [← hch, List.length_drop, show c.R.length - (k + 1) = m by omega] at this
      exact this
    have IH := Lib.hid fun s W h1 h2 h3 => ih (k + 1) s W (by omega) h1 h2 h3
    rw [← hch] at IH
    have HCH := Lib.hid hch
    have hyes : Hid (∀ {s}, (tryL c.n ch ring (st1 c.n ring s)).1 = true → chooseL c.n (ring :: c.R.drop (k + 1)) s = tryL c.n ch ring (st1 c.n ring s)) := Lib.hid fun h => by rw [hch] at h ⊢; exact chooseL_yes h
    have hno : Hid (∀ {s}, (tryL c.n ch ring (st1 c.n ring s)).1 = false → chooseL c.n (ring :: c.R.drop (k + 1)) s = (false, ⟨ring.foldl (fun E w => delB E (ofB c.n w)) (tryL c.n ch ring (st1 c.n ring s)).2.E, (tryL c.n ch ring (st1 c.n ring s)).2.out, (tryL c.n ch ring (st1 c.n ring s)).2.cnt⟩)) := Lib.hid fun h => by rw [hch] at h ⊢; exact chooseL_no h
    have hcost : cost (m + 1) = 5 * (cost m + 2) := rfl
    have hcout : Hid (∀ s, (ch s).1 = false → (ch s).2.out = s.out) := Lib.hid fun s h => by rw [hch] at h ⊢; exact chooseL_out c.n _ s h
    obtain ⟨RES, hRES⟩ : ∃ RES, RES = chooseL c.n (ring :: c.R.drop (k + 1)) s := ⟨_, rfl⟩
    have HRES := Lib.hid hRES
    rw [← hRES]
    obtain ⟨Rn, hRn⟩ : ∃ Rn, Rn = ring.length := ⟨_, rfl⟩
    have HRn := Lib.hid hRn
    have OF : Hid (∀ (w : Str) (W' : World) (s' : Cs), w ∈ ring → CAt c W' s' → Calls Try.prog 52 #[.string (bs w), .pointer (some ⟨c.Bn, 0, none⟩)] W' fun e w' => e = .returned (brV (ofB c.n w)) ∧ Below W'.heap.size W' w') := Lib.hid fun w W' s' hw h' => of_any c.n c.Bn w W' hn (hmem.out w hw).2 h'.nn.lt h'.nn.cell
    have HRW := Lib.hid hR
    have HRL := Lib.hid hk
    have HKR := Lib.hid hkR
    rw [← hRn] at hr5
    clear hRES hch hdrop hhd hring ih hk hR hgr
    have HC := Lib.hid hC
    obtain ⟨RL, hRL⟩ : ∃ RL, RL = c.R.length := ⟨_, rfl⟩
    have hkRL : k < RL := by omega
    have hkRL1 : ((k : Int) == (RL : Int)) = false := by simp; omega
    have hRL12 : RL ≤ 12 := by rw [hRL]; exact HRW.out.few
    have e1 := hC.a.cell
    rw [← hRL] at e1
    have l1 := hC.a.lt
    obtain ⟨e2, l2, l3, _⟩ := HH.out W s hC
    rw [← hRn] at e2
    have HRLq := Lib.hid hRL
    clear hC hRn hRL hkR
    go_enter Try.func53, Try.ntmps53
    go_wp2_with fail
    clear e1 e2 l1 l2 l3
    go_loopw [23] (fun i wr => ∃ j : Nat, j ≤ Rn ∧ i = .int .i64 j ∧ Hid (CAt c wr ⟨(ring.take j).foldl (fun E w => addB E (ofB c.n w)) s.E, s.out, s.cnt + j⟩)) (fun i _ => Rn - (intOf i).toNat)
    case atStart => exact ⟨0, Nat.zero_le _, rfl, HC⟩
    case round =>
      obtain ⟨j, hj, rfl, HCj⟩ := hrel
      clear HC
      obtain ⟨e2, l2, l3, e4⟩ := HH.out wr _ HCj.out
      by_cases hjn : j < Rn
      · have hjr : j < ring.length := by have := HRn.out; omega
        obtain ⟨w, hw⟩ : ∃ w, w = ring[j] := ⟨_, rfl⟩
        have hwm : w ∈ ring := by rw [hw]; exact List.getElem_mem hjr
        have e5 := e4 j hjr
        rw [← hw] at e5
        have d1 := HCj.out.l.cell
        have d2 := HCj.out.o.cell
        have k1 := HCj.out.l.lt
        have k2 := HCj.out.o.lt
        have hst := foldl_take (fun E w => addB E (ofB c.n w)) hjr s.E
        rw [← hw] at hst
        have HST := Lib.hid hst
        have HWM := Lib.hid hwm
        clear e2 e4 hst hw l2 hwm
        go_wp2_with fail
        go_region_held3 (fun w' => w'.cell? ⟨c.Bl, 0, none⟩ = some (.map (some c.bL)) ∧ w'.cell? ⟨c.Bo, 0, none⟩ = some (.func (.func 52) #[] #[.pointer (some ⟨c.Bn, 0, none⟩)]))
          (first
            | exact ⟨hC6.l.cell, hC6.o.cell⟩
            | exact ⟨hC5.l.cell, hC5.o.cell⟩
            | go_keep)
          (first
            | ((go_at_call 52); (refine (OF.out w _ _ HWM.out (HCj.out.below (bl_drewN (bl_refl wr) 1))).mono ?_); (rintro e w5 ⟨rfl, hb5⟩); (have hC5 := (HCj.out.below (bl_drewN (bl_refl wr) 1)).below hb5); (obtain ⟨W6, hup, hC6⟩ := hC5.add HRW.out hn.2 (hmem.out w HWM.out).1 (by dsimp only; omega))))
        have HC6 : Hid (CAt c W6 ⟨(ring.take (j + 1)).foldl (fun E w => addB E (ofB c.n w)) s.E, s.out, s.cnt + (j + 1)⟩) := by rw [HST.out]; exact hC6
        clear hC6 hC5 hup hb5 d1 d2 k1 k2 l3 e5 HCj
        go_wp2_with fail
        go_roundw
        case rel => exact ⟨j + 1, by omega, by go_num, HC6⟩
        case measure => simp [intOf]; omega
      · have ej : Rn = j := by omega
        subst ej
        have hst1 : (⟨(ring.take Rn).foldl (fun E w => addB E (ofB c.n w)) s.E, s.out, s.cnt + Rn⟩ : Cs) = st1 c.n ring s := by
          rw [HRn.out, List.take_length]; rfl
        rw [hst1] at HCj
        have hs1 : Hid ((st1 c.n ring s).cnt ≤ s.cnt + 5) := Lib.hid (by show s.cnt + ring.length ≤ _; have := HRn.out; omega)
        obtain ⟨S1, hS1⟩ : ∃ S1, S1 = st1 c.n ring s := ⟨_, rfl⟩
        have HS1 := Lib.hid hS1
        rw [← hS1] at HCj hs1
        clear hst1 hS1
        have e1 := HCj.out.a.cell
        rw [← HRLq.out] at e1
        have l1 := HCj.out.a.lt
        rw [← HRn.out] at e2
        clear e4
        go_wp2_with fail
        clear e1 e2 l1 l2 l3
        go_loopw [37] (fun i wx => ∃ j : Nat, j ≤ Rn ∧ i = .int .i64 j ∧ Hid ((tryL c.n ch (ring.take j) S1).1 = false) ∧ Hid (CAt c wx (tryL c.n ch (ring.take j) S1).2)) (fun i _ => Rn - (intOf i).toNat)
        case atStart => exact ⟨0, Nat.zero_le _, rfl, Lib.hid rfl, HCj⟩
        case round =>
          obtain ⟨j, hj, rfl, HF, HCk⟩ := hrel
          clear HCj
          obtain ⟨e2, l2, l3, e4⟩ := HH.out wr _ HCk.out
          by_cases hjn : j < Rn
          · have hjr : j < ring.length := by have := HRn.out; omega
            obtain ⟨w, hw⟩ : ∃ w, w = ring[j] := ⟨_, rfl⟩
            have hwm : w ∈ ring := by rw [hw]; exact List.getElem_mem hjr
            have e5 := e4 j hjr
            rw [← hw] at e5
            have d1 := HCk.out.l.cell
            have d2 := HCk.out.o.cell
            have k1 := HCk.out.l.lt
            have k2 := HCk.out.o.lt
            have hstep := tryL_step hjr HF.out
            rw [← hw, tryL_one] at hstep
            have hto := tryL_out hcout.out _ _ HF.out
            rw [show S1.out = s.out by rw [HS1.out]; rfl] at hto
            have hcb := tryL_cnt (n := c.n) hccnt.out (ring.take j) S1
            have hcb2 : (ring.take j).length * (cost m + 1) ≤ 4 * (cost m + 1) := Nat.mul_le_mul_right _ (by rw [List.length_take]; omega)
            have hcb3 := hs1.out
            have hcb4 : (tryL c.n ch (ring.take j) S1).2.cnt + cost m ≤ 10000000000 := by omega
            obtain ⟨st, hst⟩ : ∃ st, st = (tryL c.n ch (ring.take j) S1).2 := ⟨_, rfl⟩
            rw [← hst] at hstep HCk hcb4 hto
            have hol : st.out.length ≤ k := by rw [hto]; exact hou
            clear hto
            have HSTEP := Lib.hid hstep
            have HWM := Lib.hid hwm
            have HYN : Hid ((tryL c.n ch (ring.take (j + 1)) S1).1 = true → RES = tryL c.n ch (ring.take (j + 1)) S1) := Lib.hid fun h => by
              have h2 := tryL_true h
              rw [← h2] at h
              rw [HRES.out, ← h2]
              rw [HS1.out] at h ⊢
              exact hyes.out h
            clear e2 e4 hstep hw l2 hwm hcb hcb2 hcb3 hst
            go_wp2_with fail
            go_region_held3 (fun w' => w'.cell? ⟨c.Bl, 0, none⟩ = some (.map (some c.bL)) ∧ w'.cell? ⟨c.Bo, 0, none⟩ = some (.func (.func 52) #[] #[.pointer (some ⟨c.Bn, 0, none⟩)]))
              (first
                | exact ⟨hC6.l.cell, hC6.o.cell⟩
                | exact ⟨hC5.l.cell, hC5.o.cell⟩
                | go_keep)
              (first
                | ((go_at_call 52); (refine (OF.out w _ _ HWM.out (HCk.out.below (bl_drewN (bl_refl wr) 1))).mono ?_); (rintro e w5 ⟨rfl, hb5⟩); (have hC5 := (HCk.out.below (bl_drewN (bl_refl wr) 1)).below hb5); (obtain ⟨W6, hup, hC6⟩ := hC5.del HRW.out hn.2 (hmem.out w HWM.out).1 0)))
            have HC6 := Lib.hid hC6
            have d1 := hC6.l.cell
            have k1 := hC6.l.lt
            have hsz := hC6.br.sizes HRW.out hn.2
            have HY := Lib.hid (hasCycle_any (delB st.E (ofB c.n w)) c.bL st.cnt W6 hC6.m hsz.1 hsz.2)
            clear hC6 hC5 hup hb5 d2 k2 l3 e5 HCk hsz
            generalize W6 = W6 at *
            cases hcy : cycB (delB st.E (ofB c.n w)) with
            | true =>
              rw [hcy] at HY
              have HS := HSTEP.out
              rw [if_pos hcy] at HS
              have HNF : Hid ((tryL c.n ch (ring.take (j + 1)) S1).1 = false) := Lib.hid (by rw [HS])
              have HNS : Hid ((tryL c.n ch (ring.take (j + 1)) S1).2 = ⟨addB (delB st.E (ofB c.n w)) (ofB c.n w), st.out, st.cnt + 1⟩) := Lib.hid (by rw [HS])
              clear HS hcy
              go_wp2_with fail
              refine HY.out.mono ?_
              rintro e W7 ⟨rfl, hb7⟩
              have HC7 := Lib.hid (HC6.out.below hb7)
              have d1 := HC7.out.l.cell
              have d2 := HC7.out.o.cell
              have k1 := HC7.out.l.lt
              have k2 := HC7.out.o.lt
              clear hb7 HC6
              go_wp2_with fail
              go_region_held3 (fun w' => w'.cell? ⟨c.Bl, 0, none⟩ = some (.map (some c.bL)) ∧ w'.cell? ⟨c.Bo, 0, none⟩ = some (.func (.func 52) #[] #[.pointer (some ⟨c.Bn, 0, none⟩)]))
                (first
                  | exact ⟨hC6.l.cell, hC6.o.cell⟩
                  | exact ⟨hC5.l.cell, hC5.o.cell⟩
                  | go_keep)
                (first
                  | ((go_at_call 52); (refine (OF.out w _ _ HWM.out (HC7.out.below (bl_drewN (bl_refl W7) 1))).mono ?_); (rintro e w9 ⟨rfl, hb5⟩); (have hC5 := (HC7.out.below (bl_drewN (bl_refl W7) 1)).below hb5); (obtain ⟨W9, hup, hC6⟩ := hC5.add HRW.out hn.2 (hmem.out w HWM.out).1 (by dsimp only; omega))))
              have HC8 : Hid (CAt c W9 (tryL c.n ch (ring.take (j + 1)) S1).2) := Lib.hid (by rw [HNS.out]; exact hC6)
              clear hC6 hC5 hup hb5 d1 d2 k1 k2 HC7
              go_wp2_with fail
              go_roundw
              case rel => exact ⟨j + 1, by omega, by go_num, HNF, HC8⟩
              case measure => simp [intOf]; omega
            | false =>
              rw [hcy] at HY
              have HS := HSTEP.out
              rw [if_neg (by rw [hcy]; simp)] at HS
              have HSS := Lib.hid HS
              clear HS hcy
              go_wp2_with fail
              refine HY.out.mono ?_
              rintro e W7 ⟨rfl, hb7⟩
              have HC7 := Lib.hid (HC6.out.below hb7)
              obtain ⟨vo, hvo, hro⟩ := HC7.out.u
              have d3 := hvo.cell
              have k3 := hvo.lt
              obtain ⟨A, ca, rfl, _⟩ := own_any hro
              have hb0 := HC7.out.b1
              have HVO := Lib.hid hvo
              clear hb7 HC6 hvo d1 k1
              obtain ⟨NO, hNO⟩ : ∃ NO, NO = st.out.length := ⟨_, rfl⟩
              have HNO := Lib.hid hNO
              rw [← hNO] at hro hol HVO d3
              clear hNO
              go_wp2_with (at_builtin; refine wpList_append_lies _ rfl (.tmp 48) (.tmp 50) _ rfl c.B0 9 i0 _ 1 16 Try.underlying22 hi hz0 hz1 hz2 rfl (by decide) (.slice A NO ca) NO (encS st.out) rfl (hro.alloc _) ⟨W7.heap.size, 0, none⟩ 1 1 [.string (bs w)] rfl rfl (cells_new _ _ _) (by intro u hu; rw [List.mem_singleton.1 hu]; rfl) (by omega) (by unfold maxLen; omega) (by omega) (by simp; omega) _ rfl ?_; intro g6 c6 w6 hown6 hg6 hat hlt; have hoA := hro.alloc (.cells #[.string (bs w)] 9); have hvA := HVO.out.alloc (.cells #[.string (bs w)] 9); have hv6 := hvA.kept hg6 (hvA.not_row (by decide) hoA); have d6 := hv6.cell; have k6 := hv6.lt; have f6 := hv6.frozen; have hch6 := (HC7.out.ch.alloc (.cells #[.string (bs w)] 9)).kept hg6 ((HC7.out.ch.alloc (.cells #[.string (bs w)] 9)).not_row (by decide) hoA); have e6c := hch6.cell; have l6c := hch6.lt; have hne1 : c.Bc ≠ c.Bu := (fun e => by rw [e] at hch6; unfold Boxed at hch6 hv6; rw [hv6] at hch6; injection hch6 with hch6; injection hch6 with _ hch6; exact absurd hch6 (by decide)))
              rw [← encS_snoc] at hown6
              have hCA := HC7.out.below (bl_alloc (bl_refl W7) (.cells #[.string (bs w)] 9))
              have HC8 : Hid (CAt c (w6.setCell ⟨c.Bu, 0, none⟩ (.slice (some ⟨g6, 0, none⟩) (NO + 1) c6)) ⟨delB st.E (ofB c.n w), st.out ++ [w], st.cnt⟩) := Lib.hid (hCA.chosen hvA (by dsimp only; rw [← HNO.out]; exact hoA) hg6 (by
                have : (st.out ++ [w]).length = NO + 1 := by simp [HNO.out]
                rw [this]; exact hown6))
              generalize w6.setCell ⟨c.Bu, 0, none⟩ (.slice (some ⟨g6, 0, none⟩) (NO + 1) c6) = W8 at *
              have e8 := HC8.out.ch.cell
              have l8 := HC8.out.ch.lt
              have IHC := Lib.hid (IH.out _ W8 HC8.out (by dsimp only; omega) (by dsimp only; rw [List.length_append, List.length_singleton, ← HNO.out]; omega))
              have hk1 : (k : Int) + 1 = ((k + 1 : Nat) : Int) := by omega
              clear hown6 hg6 hat hlt hoA hvA hv6 d6 k6 f6 hCA hro d3 k3 HVO
              rw [← hk1] at IHC
              obtain ⟨r, hr⟩ : ∃ r, r = ch ⟨delB st.E (ofB c.n w), st.out ++ [w], st.cnt⟩ := ⟨_, rfl⟩
              have hrc := hccnt.out ⟨delB st.E (ofB c.n w), st.out ++ [w], st.cnt⟩
              have HRO : Hid (r.1 = false → r.2.out = st.out ++ [w]) := Lib.hid fun h => by rw [hr] at h ⊢; exact hcout.out _ h
              rw [← hr] at HSS IHC hrc
              dsimp only at hrc
              clear hr hk1
              go_wp2_with fail
              refine IHC.out.mono ?_
              rintro e Y ⟨rfl, hCY⟩
              have HCY := Lib.hid hCY
              clear hCY HC8 HC7 IHC e8 l8 e6c l6c hne1 hch6
              cases hrf : r.1 with
              | true =>
                have HS := HSS.out
                rw [if_pos hrf] at HS
                have hfin : Hid (RES = r) := Lib.hid (by
                  have h2 := HYN.out (by rw [HS]; exact hrf)
                  rw [h2, HS])
                have HF1 := Lib.hid hrf
                clear HS hrf
                go_wp2_with fail
                go_ret
                exact ⟨by rw [hfin.out, HF1.out]; rfl, by rw [hfin.out]; exact HCY.out⟩
              | false =>
                have HS := HSS.out
                rw [if_neg (by rw [hrf]; simp)] at HS
                have HNF : Hid ((tryL c.n ch (ring.take (j + 1)) S1).1 = false) := Lib.hid (by rw [HS])
                have HNS : Hid ((tryL c.n ch (ring.take (j + 1)) S1).2 = ⟨addB r.2.E (ofB c.n w), r.2.out.dropLast, r.2.cnt + 1⟩) := Lib.hid (by rw [HS])
                have hro := HRO.out hrf
                obtain ⟨vo, hvo, hro2⟩ := HCY.out.u
                have hol2 : r.2.out.length = NO + 1 := by rw [hro, List.length_append, List.length_singleton, HNO.out]
                rw [hol2] at hro2
                obtain ⟨g7, c7, rfl, _, _⟩ := own_form hro2 (Nat.succ_pos _)
                have d3 := hvo.cell
                have k3 := hvo.lt
                have f3 := hvo.frozen
                have hcut := own_cut hro2
                rw [encS_dropLast] at hcut
                have HC8 : Hid (CAt c (Y.setCell ⟨c.Bu, 0, none⟩ (.slice (some ⟨g7, 0, none⟩) NO c7)) ⟨r.2.E, r.2.out.dropLast, r.2.cnt⟩) := Lib.hid (HCY.out.chosen hvo (by rw [hol2]; exact hro2) (grown_refl _ _) (by
                  rw [List.length_dropLast, hol2]; exact hcut))
                have hn1 : IntKind.i64.wrap (((NO + 1 : Nat) : Int) - 1) = (NO : Int) := by
                  rw [show (((NO + 1 : Nat) : Int) - 1) = (NO : Int) by omega]; exact wrapI (by omega)
                have hn2 : ((NO + 1 : Nat) : Int) - 1 = (NO : Int) := by omega
                have hn3 : (NO : Int) + 1 - 1 = (NO : Int) := by omega
                have hn4 : (NO : Int) ≤ (c7 : Int) := by have := own_cap hro2; omega
                have hn5 : (0 : Int) ≤ (NO : Int) := by omega
                clear HS hrf hro hvo hro2 hol2 hcut
                go_wp2_with fail
                generalize Y.setCell ⟨c.Bu, 0, none⟩ (.slice (some ⟨g7, 0, none⟩) NO c7) = W8 at *
                have d1 := HC8.out.l.cell
                have d2 := HC8.out.o.cell
                have k1 := HC8.out.l.lt
                have k2 := HC8.out.o.lt
                clear hn1 hn2 hn3 hn4 hn5 d3 k3 f3 HCY
                go_region_held3 (fun w' => w'.cell? ⟨c.Bl, 0, none⟩ = some (.map (some c.bL)) ∧ w'.cell? ⟨c.Bo, 0, none⟩ = some (.func (.func 52) #[] #[.pointer (some ⟨c.Bn, 0, none⟩)]))
                  (first
                    | exact ⟨hC6.l.cell, hC6.o.cell⟩
                    | exact ⟨hC5.l.cell, hC5.o.cell⟩
                    | go_keep)
                  (first
                    | ((go_at_call 52); (refine (OF.out w _ _ HWM.out (HC8.out.below (bl_drewN (bl_refl W8) 1))).mono ?_); (rintro e w9 ⟨rfl, hb5⟩); (have hC5 := (HC8.out.below (bl_drewN (bl_refl W8) 1)).below hb5); (obtain ⟨W9, hup, hC6⟩ := hC5.add HRW.out hn.2 (hmem.out w HWM.out).1 (by dsimp only; omega))))
                have HC9 : Hid (CAt c W9 (tryL c.n ch (ring.take (j + 1)) S1).2) := Lib.hid (by rw [HNS.out]; exact hC6)
                clear hC6 hC5 hup hb5 d1 d2 k1 k2 HC8
                go_wp2_with fail
                go_roundw
                case rel => exact ⟨j + 1, by omega, by go_num, HNF, HC9⟩
                case measure => simp [intOf]; omega
          · have ej : Rn = j := by omega
            subst ej
            have htk : ring.take Rn = ring := by rw [HRn.out, List.take_length]
            have HRF : Hid (RES = (false, ⟨ring.foldl (fun E w => delB E (ofB c.n w)) (tryL c.n ch ring S1).2.E, (tryL c.n ch ring S1).2.out, (tryL c.n ch ring S1).2.cnt⟩)) := Lib.hid (by
              have h := HF.out
              rw [htk] at h
              rw [HRES.out, HS1.out]
              rw [HS1.out] at h
              exact hno.out h)
            rw [htk] at HCk
            obtain ⟨r, hr⟩ : ∃ r, r = (tryL c.n ch ring S1).2 := ⟨_, rfl⟩
            rw [← hr] at HRF HCk
            clear htk hr HF
            have e1 := HCk.out.a.cell
            rw [← HRLq.out] at e1
            have l1 := HCk.out.a.lt
            rw [← HRn.out] at e2
            clear e4
            go_wp2_with fail
            clear e1 e2 l1 l2 l3
            go_loopw [71] (fun i wx => ∃ j : Nat, j ≤ Rn ∧ i = .int .i64 j ∧ Hid (CAt c wx ⟨(ring.take j).foldl (fun E w => delB E (ofB c.n w)) r.E, r.out, r.cnt⟩)) (fun i _ => Rn - (intOf i).toNat)
            case atStart => exact ⟨0, Nat.zero_le _, rfl, HCk⟩
            case round =>
              obtain ⟨j, hj, rfl, HCj⟩ := hrel
              clear HCk
              obtain ⟨e2, l2, l3, e4⟩ := HH.out wr _ HCj.out
              by_cases hjn : j < Rn
              · have hjr : j < ring.length := by have := HRn.out; omega
                obtain ⟨w, hw⟩ : ∃ w, w = ring[j] := ⟨_, rfl⟩
                have hwm : w ∈ ring := by rw [hw]; exact List.getElem_mem hjr
                have e5 := e4 j hjr
                rw [← hw] at e5
                have d1 := HCj.out.l.cell
                have d2 := HCj.out.o.cell
                have k1 := HCj.out.l.lt
                have k2 := HCj.out.o.lt
                have hst := foldl_take (fun E w => delB E (ofB c.n w)) hjr r.E
                rw [← hw] at hst
                have HST := Lib.hid hst
                have HWM := Lib.hid hwm
                clear e2 e4 hst hw l2 hwm
                go_wp2_with fail
                go_region_held3 (fun w' => w'.cell? ⟨c.Bl, 0, none⟩ = some (.map (some c.bL)) ∧ w'.cell? ⟨c.Bo, 0, none⟩ = some (.func (.func 52) #[] #[.pointer (some ⟨c.Bn, 0, none⟩)]))
                  (first
                    | exact ⟨hC6.l.cell, hC6.o.cell⟩
                    | exact ⟨hC5.l.cell, hC5.o.cell⟩
                    | go_keep)
                  (first
                    | ((go_at_call 52); (refine (OF.out w _ _ HWM.out (HCj.out.below (bl_drewN (bl_refl wr) 1))).mono ?_); (rintro e w9 ⟨rfl, hb5⟩); (have hC5 := (HCj.out.below (bl_drewN (bl_refl wr) 1)).below hb5); (obtain ⟨W9, hup, hC6⟩ := hC5.del HRW.out hn.2 (hmem.out w HWM.out).1 0)))
                have HC6 : Hid (CAt c W9 ⟨(ring.take (j + 1)).foldl (fun E w => delB E (ofB c.n w)) r.E, r.out, r.cnt⟩) := by rw [HST.out]; exact hC6
                clear hC6 hC5 hup hb5 d1 d2 k1 k2 l3 e5 HCj
                go_wp2_with fail
                go_roundw
                case rel => exact ⟨j + 1, by omega, by go_num, HC6⟩
                case measure => simp [intOf]; omega
              · have ej : Rn = j := by omega
                subst ej
                have htk : ring.take Rn = ring := by rw [HRn.out, List.take_length]
                rw [htk] at HCj
                clear htk e2 e4 l2 l3
                go_wp2_with fail
                go_ret
                exact ⟨by rw [HRF.out]; rfl, by rw [HRF.out]; exact HCj.out⟩
end Go.Proofs.Ytnamafakjkcmjaa
