/-
  The law TreadRung: the walk.
-/
import Derived.Test.YtpclkocfbkjabaaT36
import Derived.Test.YtpclkocfbkjabaaMD
import Derived.Test.YtpclkocfbkjabaaMB
namespace Go.Proofs.Ytpclkocfbkjabaa
open Go.RowKit Go.Shelf
set_option linter.unusedVariables false
set_option linter.unusedSimpArgs false

theorem quiet_left2 {P : Program} {f : FuncId} {args : Array Value} {w : World} {n : Nat} {v : Value}
    (h : Calls P f args (w.drewN n) fun e w' => e = .returned v ∧ ∃ m, w' = (w.drewN n).drewN m) : Calls P f args (w.drewN n) fun e w'' => e = .returned v ∧ ∃ m, w'' = w.drewN m :=
  h.mono fun _ _ ⟨he, m, hm⟩ => ⟨he, n + m, by rw [hm, World.drewN_drewN]⟩
theorem sumLen_app (a b : List (List Str)) : sumLen (a ++ b) = sumLen a + sumLen b := by
  refine snoc_ind (P := fun b => sumLen (a ++ b) = sumLen a + sumLen b) (by simp [sumLen]) (fun l x ih => ?_) b
  rw [← List.append_assoc, sumLen_snoc, ih, sumLen_snoc]
  omega
theorem sumLen_take {l : List (List Str)} {i : Nat} (h : i < l.length) : sumLen (l.take (i + 1)) = sumLen (l.take i) + (l.getD i []).length ∧ sumLen (l.take (i + 1)) ≤ sumLen l := by
  constructor
  · rw [List.take_succ_eq_append_getElem h, sumLen_snoc, List.getD_eq_getElem?_getD, List.getElem?_eq_getElem h]
    rfl
  · have e := sumLen_app (l.take (i + 1)) (l.drop (i + 1))
    rw [List.take_append_drop] at e
    omega
set_option maxRecDepth 100000 in
set_option maxHeartbeats 4000000 in
theorem Turned_drew (s : Str) (w : World) (hs : s.length ≤ 100) :
    Calls Try.prog 30 #[.string (bs s)] w fun e w' => e = .returned (.string (bs (turned s))) ∧ ∃ m, w' = w.drewN m := by
  obtain ⟨N, hN⟩ : ∃ N, N = s.length := ⟨_, rfl⟩
  have HN := Lib.hid hN
  have hsz : (bs s).size = N := hN.symm
  rw [← hN] at hs
  clear hN
  go_enter Try.func30, Try.ntmps30
  go_wp2_with fail
  go_loopw [3, 4] (fun b i wr => ∃ k : Nat, k ≤ N ∧ i = .int .i64 k ∧ b = .string (bs (minTurn s k)) ∧ Hid (∃ m, wr = w.drewN m)) (fun _ i _ => N - (intOf i).toNat)
  case atStart => exact ⟨0, Nat.zero_le _, rfl, rfl, Lib.hid ⟨0, rfl⟩⟩
  case round =>
    obtain ⟨k, hk, rfl, rfl, HB⟩ := hrel
    by_cases hkN : k < N
    · have hk1 : (k : Int) < (N : Int) := by omega
      have htb := turn_bs (s := s) (i := k) (by have := HN.out; omega)
      rw [hsz] at htb
      have hk2 : (k : Int) ≤ (N : Int) := by omega
      have hk3 : (0 : Int) ≤ (k : Int) := by omega
      have e1 := minTurn_len s k
      have e2 := turnL_len s k
      have hno : ¬ 9223372036854775807 < (N - k) + (min k N) := by omega
      go_wp2_with fail
      go_quiet (fail)
      have HB2 : Hid (∃ m, wr.drewN nq = w.drewN m) := Lib.hid (by obtain ⟨m, e⟩ := HB.out; exact ⟨m + nq, by rw [e, World.drewN_drewN]⟩)
      obtain ⟨tt, htt⟩ : ∃ tt, tt = turnL s k := ⟨_, rfl⟩
      obtain ⟨mm, hmm⟩ : ∃ mm, mm = minTurn s k := ⟨_, rfl⟩
      have hst : Hid (minTurn s (k + 1) = if Op.bytesLess tt mm = true then tt else mm) := Lib.hid (by rw [htt, hmm]; rfl)
      rw [← htt, ← hmm]
      have b1 := bs_toList tt
      have b2 := bs_toList mm
      clear htt hmm htb
      cases hl : Op.bytesLess tt mm with
      | true =>
        have e : Hid (minTurn s (k + 1) = tt) := Lib.hid (by rw [hst.out, hl]; rfl)
        go_wp2_with fail
        go_roundw
        case rel => exact ⟨k + 1, by omega, by go_num, by rw [e.out], HB2⟩
        case measure => simp [intOf]; omega
      | false =>
        have e : Hid (minTurn s (k + 1) = mm) := Lib.hid (by rw [hst.out, hl]; rfl)
        go_wp2_with fail
        go_roundw
        case rel => exact ⟨k + 1, by omega, by go_num, by rw [e.out], HB2⟩
        case measure => simp [intOf]; omega
    · have ek : N = k := by omega
      subst ek
      have e : Hid (minTurn s N = turned s) := Lib.hid (by rw [HN.out]; rfl)
      rw [e.out]
      go_wp2_with fail
      go_ret
      exact ⟨rfl, HB.out⟩
set_option maxRecDepth 100000 in
set_option maxHeartbeats 4000000 in
theorem TreadRung_walk (q n : Int) (W : World) (hq : (Lit.int .i64 q).wf = true) (hn : (Lit.int .i64 n).wf = true) (hG : HasG W) :
    Calls Try.prog 7 #[.int .i64 q, .int .i64 n] W fun e w' => e = .returned (.bool true) ∧ Below W.heap.size W w' := by
  have MD3 := Lib.hid fun x W => mod_any x 3 W (by omega)
  have MD5 := Lib.hid fun x W => mod_any x 5 W (by omega)
  have AW := Lib.hid fun W h => awake_any W h
  have HG := Lib.hid hG
  have LT := Lib.hid fun (q : Nat) (hq : q ≤ 3) s W h => Letters_any q hq s W h
  have TD := Lib.hid fun s W h => Turned_drew s W h
  have RA := Lib.hid fun (q n : Nat) hq hn W => Rings_any q n hq hn W
  clear hG hq hn
  go_enter Try.func7, Try.ntmps7
  go_wp2_with fail
  refine (MD3.out q _).mono ?_
  rintro e w1 ⟨⟨r1, hr1, rfl⟩, rfl⟩
  go_wp2_with fail
  refine (MD5.out n _).mono ?_
  rintro e w1 ⟨⟨r2, hr2, rfl⟩, rfl⟩
  go_wp2_with fail
  obtain ⟨Q, hQ⟩ : ∃ Q, Q = r1 + 1 := ⟨_, rfl⟩
  obtain ⟨M, hM⟩ : ∃ M, M = r2 + 1 := ⟨_, rfl⟩
  have e1 : 1 + (r1 : Int) = (Q : Int) := by omega
  have e2 : 1 + (r2 : Int) = (M : Int) := by omega
  have hQ3 : 1 ≤ Q ∧ Q ≤ 3 := by omega
  have hM5 : 1 ≤ M ∧ M ≤ 5 := by omega
  rw [e1, e2]
  clear e1 e2 hQ hM hr1 hr2
  refine (RA.out Q M hQ3 hM5 _).mono ?_
  rintro e w2 ⟨v2, hdrs, rfl, ho, hr, hb⟩
  obtain ⟨hf1, hf2, hf3⟩ := rung_facts hQ3 hM5
  have hcnt := cntR_ringsL hQ3 hM5
  obtain ⟨hpos, h51⟩ := cntR_pos hQ3 hM5
  rw [← hcnt] at hpos h51
  obtain ⟨RL, hRL⟩ : ∃ RL, RL = ringsL Q M := ⟨_, rfl⟩
  rw [← hRL] at ho hr hf1 hf2 hf3 hpos h51
  clear hRL hcnt
  obtain ⟨N, hN⟩ : ∃ N, N = RL.length := ⟨_, rfl⟩
  have HN := Lib.hid hN
  rw [← hN] at ho hpos h51
  clear hN
  obtain ⟨g2, c2, rfl, _, hg2⟩ := own_form ho hpos
  have HO := Lib.hid ho
  have HR := Lib.hid hr
  have HB := Lib.hid hb
  have HF1 := Lib.hid hf1
  have HF2 := Lib.hid hf2
  have HF3 := Lib.hid hf3
  have HQ3 := Lib.hid hQ3
  have HM5 := Lib.hid hM5
  clear ho hr hb hf1 hf2 hf3
  go_wp2_with fail
  go_loopw [8, 9] (fun av iv wr => ∃ k : Nat, k ≤ M ∧ iv = .int .i64 k ∧ av = .int .i64 ((Q ^ k : Nat) : Int) ∧ w2 = wr) (fun _ iv _ => M - (intOf iv).toNat)
  case atStart => exact ⟨0, Nat.zero_le _, rfl, rfl, rfl⟩
  case round =>
    obtain ⟨k, hk, rfl, rfl, rfl⟩ := hrel
    by_cases hkM : k < M
    · have hk1 : (k : Int) < (M : Int) := by omega
      obtain ⟨a, ha⟩ : ∃ a : Nat, a = Q ^ k := ⟨_, rfl⟩
      obtain ⟨b, hb⟩ : ∃ b : Nat, b = Q ^ (k + 1) := ⟨_, rfl⟩
      have hab : a * Q = b := by rw [ha, hb, Nat.pow_succ]
      have hb243 : b ≤ 243 := by
        rw [hb]
        exact Nat.le_trans (Nat.pow_le_pow_left hQ3.2 _) (Nat.le_trans (Nat.pow_le_pow_right (n := 3) (by omega) (show k + 1 ≤ 5 by omega)) (by decide))
      have HBP := Lib.hid hb
      have hm1 : (a : Int) * (Q : Int) = (b : Int) := by rw [← hab, Int.natCast_mul]
      have hw : IntKind.i64.wrap (b : Int) = (b : Int) := wrapN (by omega)
      rw [← ha]
      clear ha hb hab
      go_wp2_with fail
      go_roundw
      case rel => exact ⟨k + 1, by omega, by go_num, by rw [← HBP.out], by first | rfl | trivial⟩
      case measure => simp [intOf]; omega
    · have ek : M = k := by omega
      have hall : ((Q ^ k : Nat) : Int) = (sumLen RL : Nat) := by rw [HF3.out, ek]
      rw [hall]
      have HALL := Lib.hid hall
      clear hall ek
      obtain ⟨A, hA⟩ : ∃ A : Nat, A = sumLen RL := ⟨_, rfl⟩
      have HA := Lib.hid hA
      have hA243 : A ≤ 243 := by
        rw [hA, HF3.out]
        exact Nat.le_trans (Nat.pow_le_pow_left hQ3.2 _) (Nat.le_trans (Nat.pow_le_pow_right (n := 3) (by omega) hM5.2) (by decide))
      rw [← hA]
      clear hA
      go_wp2_with fail
      obtain ⟨W2, hW2⟩ : ∃ W2, W2 = w2 := ⟨_, rfl⟩
      rw [← hW2] at HO HR HB hg2 ⊢
      clear hW2
      have HROWR : Hid (∀ i, i < N → ∃ b c, b < W2.heap.size ∧ ∀ W', Below W2.heap.size W2 W' → W'.cell? ⟨g2, i, none⟩ = some (.slice (some ⟨b, 0, none⟩) (RL.getD i []).length c) ∧ ∀ j, j < (RL.getD i []).length → W'.cell? ⟨b, j, none⟩ = some (.string (bs ((RL.getD i []).getD j [])))) := Lib.hid fun i hi => by
        have hiR : i < RL.length := by have := HN.out; omega
        obtain ⟨b, c, e1, e2, e3, e4⟩ := HR.out.at (i := i) (by simpa using hiR)
        have e : (RL.map encS).getD i [] = encS (RL.getD i []) := by
          rw [List.getD_eq_getElem?_getD, List.getElem?_map, List.getElem?_eq_getElem hiR, List.getD_eq_getElem?_getD, List.getElem?_eq_getElem hiR]
          rfl
        rw [e] at e1 e4
        rw [show (encS (RL.getD i [])).length = (RL.getD i []).length by simp [encS]] at e1 e4
        refine ⟨b, c, e2, fun W' hb => ⟨(hb.cell (p := ⟨g2, i, none⟩) hg2).trans ((HO.out.cellAt i (by omega)).trans e1), fun j hj => ?_⟩⟩
        rw [hb.cell (p := ⟨b, j, none⟩) e3, e4 j hj]
        unfold encS
        rw [List.getElem?_map, List.getElem?_eq_getElem hj, show (RL.getD i []).getD j [] = (RL.getD i [])[j] by rw [List.getD_eq_getElem?_getD, List.getElem?_eq_getElem hj]; rfl]
        rfl
      go_loopw [7, 10] (fun sv iv wr => ∃ i : Nat, i ≤ N ∧ iv = .int .i64 i ∧ sv = .int .i64 (sumLen (RL.take i) : Nat) ∧ Hid (Below W2.heap.size W2 wr)) (fun _ iv _ => N - (intOf iv).toNat)
      case atStart => exact ⟨0, Nat.zero_le _, rfl, rfl, Lib.hid (bl_refl W2)⟩
      case round =>
        obtain ⟨i, hi, rfl, rfl, HBi⟩ := hrel
        by_cases hiN : i < N
        · have hi1 : (i : Int) < (N : Int) := by omega
          have hi0 : (0 : Int) ≤ (i : Int) := by omega
          have hiR : i < RL.length := by have := HN.out; omega
          obtain ⟨b, c, lb, hcell⟩ := HROWR.out i hiN
          obtain ⟨y1, y2⟩ := hcell wr HBi.out
          have HCELL := Lib.hid hcell
          obtain ⟨p1, p2, p3, p4⟩ := ringOk_parts (HF1.out (RL.getD i []) (by rw [List.getD_eq_getElem?_getD, List.getElem?_eq_getElem hiR]; exact List.getElem_mem hiR))
          obtain ⟨r, hr⟩ : ∃ r, r = RL.getD i [] := ⟨_, rfl⟩
          rw [← hr] at y1 y2 p1 p2 p3 p4 HCELL
          have HRR := Lib.hid hr
          have y3 := y2 0 (by omega)
          rw [show r.getD 0 [] = r.headD [] by cases r <;> rfl] at y3
          obtain ⟨hd, hhd⟩ : ∃ hd, hd = r.headD [] := ⟨_, rfl⟩
          rw [← hhd] at y3 p4
          have HHD := Lib.hid hhd
          obtain ⟨L, hL⟩ : ∃ L, L = r.length := ⟨_, rfl⟩
          have HL := Lib.hid hL
          rw [← hL] at y1 y2 p1 p2 HCELL
          have hrem : (M : Int).tmod (L : Int) = 0 := by rw [Int.tmod_eq_emod_of_nonneg (by omega), ← Int.natCast_emod, p2]; rfl
          have hL1 : ¬ (L : Int) < 1 := by omega
          have hLd : decide ((L : Int) < 1) = false := decide_eq_false hL1
          have hL0 : ¬ (L : Int) = 0 := by omega
          have hL0n : ¬ L = 0 := by omega
          have hLb : (L == 0) = false := by simp; omega
          have hLc : ((L : Int) == 0) = false := by simp; omega
          have hw0 : IntKind.i64.wrap 0 = 0 := rfl
          have hrem2 : (M : Int) % (L : Int) = 0 := by rw [← Int.natCast_emod, p2]; rfl
          have hL2 : (0 : Int) < (L : Int) := by omega
          have P3 := Lib.hid p3
          have P4 := Lib.hid p4
          have lb' := Nat.lt_of_lt_of_le lb HBi.out.size
          have lg' := Nat.lt_of_lt_of_le hg2 HBi.out.size
          have hpre : Hid (0 < i → ∃ b c L' hp, b < W2.heap.size ∧ 1 ≤ L' ∧ Op.bytesLess hp hd = true ∧ ∀ W', Below W2.heap.size W2 W' → W'.cell? ⟨g2, i - 1, none⟩ = some (.slice (some ⟨b, 0, none⟩) L' c) ∧ W'.cell? ⟨b, 0, none⟩ = some (.string (bs hp))) := Lib.hid fun h0 => by
            obtain ⟨b', c', lb2, hc2⟩ := HROWR.out (i - 1) (by omega)
            have hpR : i - 1 < RL.length := by have := HN.out; omega
            have q1 := (ringOk_parts (HF1.out (RL.getD (i - 1) []) (by rw [List.getD_eq_getElem?_getD, List.getElem?_eq_getElem hpR]; exact List.getElem_mem hpR))).1
            refine ⟨b', c', _, (RL.getD (i - 1) []).headD [], lb2, q1, ?_, fun W' hb => ⟨(hc2 W' hb).1, ?_⟩⟩
            · have h := incS_at HF2.out (k := i - 1) (by simp; omega)
              simp only [List.getElem_map] at h
              rw [HHD.out, HRR.out]
              rw [List.getD_eq_getElem?_getD, List.getElem?_eq_getElem hpR, List.getD_eq_getElem?_getD, List.getElem?_eq_getElem hiR]
              simp only [Option.getD_some]
              have e : i - 1 + 1 = i := by omega
              simp only [e] at h
              exact h
            · rw [(hc2 W' hb).2 0 (by omega)]
              cases RL.getD (i - 1) [] <;> rfl
          clear hr hhd hL p3 p4 hcell y2
          by_cases hi00 : i = 0
          · have d0n : (0 < i) = False := eq_false (by omega)
            have d0i : (0 < (i : Int)) = False := eq_false (by omega)
            clear hi00 hpre
            go_wp2_with fail
            refine wp_region_quiet_lit (by kernel_rfl) (by kernel_rfl) ?_
            repeat (go_big_quiet_step (fail))
            refine wpQuiet_nil ?_
            intro _ hw'
            obtain ⟨nq, hw''⟩ := hw'
            subst hw''
            clear d0n d0i
            have HBd := Lib.hid (bl_drewN HBi.out nq)
            obtain ⟨wd, hwd⟩ : ∃ wd, wd = wr.drewN nq := ⟨_, rfl⟩
            rw [← hwd] at HBd ⊢
            have HSN := sumLen_take hiR
            obtain ⟨s0, hs0⟩ : ∃ s0, s0 = sumLen (RL.take i) := ⟨_, rfl⟩
            rw [← HRR.out, ← HL.out, ← hs0, ← HA.out] at HSN
            rw [← hs0]
            have HSM := Lib.hid HSN.1
            have hb243 : s0 + L ≤ 243 := by have := HSN.1; have := HSN.2; omega
            have hw7 : IntKind.i64.wrap ((s0 : Int) + (L : Int)) = ((s0 + L : Nat) : Int) := by rw [show (s0 : Int) + (L : Int) = ((s0 + L : Nat) : Int) by omega]; exact wrapI (by omega)
            clear hwd HSN hs0 y1 y3 lb' lg' hL0n hLb hLc hrem hrem2 hL1 hLd hL0 hL2 hw0
            go_wp2_with fail
            go_loopw [11] (fun kv wr2 => ∃ kk : Nat, kk ≤ L ∧ kv = .int .i64 kk ∧ Hid (Below W2.heap.size W2 wr2)) (fun kv _ => L - (intOf kv).toNat)
            case atStart => exact ⟨0, Nat.zero_le _, rfl, HBd⟩
            case round =>
              obtain ⟨kk, hkk, rfl, HBk⟩ := hrel
              obtain ⟨y1, y2⟩ := HCELL.out _ HBk.out
              have lb' := Nat.lt_of_lt_of_le lb HBk.out.size
              have lg' := Nat.lt_of_lt_of_le hg2 HBk.out.size
              by_cases hkL : kk < L
              · have hk1 : (kk : Int) < (L : Int) := by omega
                have hk0 : (0 : Int) ≤ (kk : Int) := by omega
                have hkr : kk < r.length := by have := HL.out; omega
                have y3 := y2 kk hkL
                have y4 := y2 0 (by omega)
                rw [show r.getD 0 [] = r.headD [] by cases r <;> rfl, ← HHD.out] at y4
                obtain ⟨s, hs⟩ : ∃ s, s = r.getD kk [] := ⟨_, rfl⟩
                rw [← hs] at y3
                have hsm : s ∈ r := by rw [hs, List.getD_eq_getElem?_getD, List.getElem?_eq_getElem hkr]; exact List.getElem_mem hkr
                obtain ⟨p1', p2', p3'⟩ := P4.out s hsm
                have hsz : (bs s).size = M := p1'
                have C1 := Lib.hid fun n => LT.out Q hQ3.2 (bs s) (wr.drewN n) (by omega)
                rw [show lettB Q (sb (bs s)) = true from p2'] at C1
                have C2 := Lib.hid fun n => TD.out s (wr.drewN n) (by omega)
                rw [p3'] at C2
                have hpv : Hid (0 < kk → ∃ rp, Op.bytesLess rp s = true ∧ wr.cell? ⟨b, kk - 1, none⟩ = some (.string (bs rp))) := Lib.hid fun h0 => by
                  refine ⟨r.getD (kk - 1) [], ?_, y2 (kk - 1) (by omega)⟩
                  have h := incS_at P3.out (k := kk - 1) (by omega)
                  have e : kk - 1 + 1 = kk := by omega
                  simp only [e] at h
                  rw [hs, List.getD_eq_getElem?_getD, List.getElem?_eq_getElem (by omega), List.getD_eq_getElem?_getD, List.getElem?_eq_getElem hkr]
                  exact h
                have hhd : (bs hd).toList = hd := bs_toList hd
                have t2 := bs_toList s
                clear hs hsm p1' p2' p3' y2 hkr
                by_cases hk00 : kk = 0
                · have d0n : (0 < kk) = False := eq_false (by omega)
                  have d0i : (0 < (kk : Int)) = False := eq_false (by omega)
                  clear hk00 hpv
                  go_wp2_with fail
                  go_quiet ((first | (go_at_call 29; exact quiet_left (C1.out _)) | (go_at_call 30; exact quiet_left2 (C2.out _))))
                  have HBk2 := Lib.hid (bl_drewN HBk.out nq)
                  go_wp2_with fail
                  go_roundw
                  case rel => exact ⟨kk + 1, by omega, by go_num, HBk2⟩
                  case measure => simp [intOf]; omega
                · have d0 : (0 : Int) < (kk : Int) := by omega
                  have d0n : (0 < kk) = True := eq_true (by omega)
                  obtain ⟨rp, hless, z1⟩ := hpv.out (by omega)
                  have t1 := bs_toList rp
                  clear hpv
                  go_wp2_with fail
                  go_quiet ((first | (go_at_call 29; exact quiet_left (C1.out _)) | (go_at_call 30; exact quiet_left2 (C2.out _))))
                  have HBk2 := Lib.hid (bl_drewN HBk.out nq)
                  go_wp2_with fail
                  go_roundw
                  case rel => exact ⟨kk + 1, by omega, by go_num, HBk2⟩
                  case measure => simp [intOf]; omega
              · have ek : L = kk := by omega
                have hknl : ¬ (kk : Int) < (L : Int) := by omega
                clear ek hkL y2
                go_wp2_with fail
                go_roundw
                case rel => exact ⟨i + 1, by omega, by go_num, by rw [HSM.out, Int.natCast_add], HBk⟩
                case measure => simp [intOf]; omega
          · have d0 : (0 : Int) < (i : Int) := by omega
            have d0n : (0 < i) = True := eq_true (by omega)
            obtain ⟨bp, cp, Lp, hp, lbp, hLp, hless, hcp⟩ := hpre.out (by omega)
            obtain ⟨z1, z2⟩ := hcp wr HBi.out
            have lbp' := Nat.lt_of_lt_of_le lbp HBi.out.size
            have t1 := bs_toList hp
            have t2 := bs_toList hd
            have dLp : (0 : Int) < (Lp : Int) := by omega
            go_wp2_with fail
            refine wp_region_quiet_lit (by kernel_rfl) (by kernel_rfl) ?_
            repeat (go_big_quiet_step (fail))
            refine wpQuiet_nil ?_
            intro _ hw'
            obtain ⟨nq, hw''⟩ := hw'
            subst hw''
            clear d0n d0 z1 z2 lbp' t1 t2 dLp hless hcp hpre
            have HBd := Lib.hid (bl_drewN HBi.out nq)
            obtain ⟨wd, hwd⟩ : ∃ wd, wd = wr.drewN nq := ⟨_, rfl⟩
            rw [← hwd] at HBd ⊢
            have HSN := sumLen_take hiR
            obtain ⟨s0, hs0⟩ : ∃ s0, s0 = sumLen (RL.take i) := ⟨_, rfl⟩
            rw [← HRR.out, ← HL.out, ← hs0, ← HA.out] at HSN
            rw [← hs0]
            have HSM := Lib.hid HSN.1
            have hb243 : s0 + L ≤ 243 := by have := HSN.1; have := HSN.2; omega
            have hw7 : IntKind.i64.wrap ((s0 : Int) + (L : Int)) = ((s0 + L : Nat) : Int) := by rw [show (s0 : Int) + (L : Int) = ((s0 + L : Nat) : Int) by omega]; exact wrapI (by omega)
            clear hwd HSN hs0 y1 y3 lb' lg' hL0n hLb hLc hrem hrem2 hL1 hLd hL0 hL2 hw0
            go_wp2_with fail
            go_loopw [11] (fun kv wr2 => ∃ kk : Nat, kk ≤ L ∧ kv = .int .i64 kk ∧ Hid (Below W2.heap.size W2 wr2)) (fun kv _ => L - (intOf kv).toNat)
            case atStart => exact ⟨0, Nat.zero_le _, rfl, HBd⟩
            case round =>
              obtain ⟨kk, hkk, rfl, HBk⟩ := hrel
              obtain ⟨y1, y2⟩ := HCELL.out _ HBk.out
              have lb' := Nat.lt_of_lt_of_le lb HBk.out.size
              have lg' := Nat.lt_of_lt_of_le hg2 HBk.out.size
              by_cases hkL : kk < L
              · have hk1 : (kk : Int) < (L : Int) := by omega
                have hk0 : (0 : Int) ≤ (kk : Int) := by omega
                have hkr : kk < r.length := by have := HL.out; omega
                have y3 := y2 kk hkL
                have y4 := y2 0 (by omega)
                rw [show r.getD 0 [] = r.headD [] by cases r <;> rfl, ← HHD.out] at y4
                obtain ⟨s, hs⟩ : ∃ s, s = r.getD kk [] := ⟨_, rfl⟩
                rw [← hs] at y3
                have hsm : s ∈ r := by rw [hs, List.getD_eq_getElem?_getD, List.getElem?_eq_getElem hkr]; exact List.getElem_mem hkr
                obtain ⟨p1', p2', p3'⟩ := P4.out s hsm
                have hsz : (bs s).size = M := p1'
                have C1 := Lib.hid fun n => LT.out Q hQ3.2 (bs s) (wr.drewN n) (by omega)
                rw [show lettB Q (sb (bs s)) = true from p2'] at C1
                have C2 := Lib.hid fun n => TD.out s (wr.drewN n) (by omega)
                rw [p3'] at C2
                have hpv : Hid (0 < kk → ∃ rp, Op.bytesLess rp s = true ∧ wr.cell? ⟨b, kk - 1, none⟩ = some (.string (bs rp))) := Lib.hid fun h0 => by
                  refine ⟨r.getD (kk - 1) [], ?_, y2 (kk - 1) (by omega)⟩
                  have h := incS_at P3.out (k := kk - 1) (by omega)
                  have e : kk - 1 + 1 = kk := by omega
                  simp only [e] at h
                  rw [hs, List.getD_eq_getElem?_getD, List.getElem?_eq_getElem (by omega), List.getD_eq_getElem?_getD, List.getElem?_eq_getElem hkr]
                  exact h
                have hhd : (bs hd).toList = hd := bs_toList hd
                have t2 := bs_toList s
                clear hs hsm p1' p2' p3' y2 hkr
                by_cases hk00 : kk = 0
                · have d0n : (0 < kk) = False := eq_false (by omega)
                  have d0i : (0 < (kk : Int)) = False := eq_false (by omega)
                  clear hk00 hpv
                  go_wp2_with fail
                  go_quiet ((first | (go_at_call 29; exact quiet_left (C1.out _)) | (go_at_call 30; exact quiet_left2 (C2.out _))))
                  have HBk2 := Lib.hid (bl_drewN HBk.out nq)
                  go_wp2_with fail
                  go_roundw
                  case rel => exact ⟨kk + 1, by omega, by go_num, HBk2⟩
                  case measure => simp [intOf]; omega
                · have d0 : (0 : Int) < (kk : Int) := by omega
                  have d0n : (0 < kk) = True := eq_true (by omega)
                  obtain ⟨rp, hless, z1⟩ := hpv.out (by omega)
                  have t1 := bs_toList rp
                  clear hpv
                  go_wp2_with fail
                  go_quiet ((first | (go_at_call 29; exact quiet_left (C1.out _)) | (go_at_call 30; exact quiet_left2 (C2.out _))))
                  have HBk2 := Lib.hid (bl_drewN HBk.out nq)
                  go_wp2_with fail
                  go_roundw
                  case rel => exact ⟨kk + 1, by omega, by go_num, HBk2⟩
                  case measure => simp [intOf]; omega
              · have ek : L = kk := by omega
                have hknl : ¬ (kk : Int) < (L : Int) := by omega
                clear ek hkL y2
                go_wp2_with fail
                go_roundw
                case rel => exact ⟨i + 1, by omega, by go_num, by rw [HSM.out, Int.natCast_add], HBk⟩
                case measure => simp [intOf]; omega
        · have ei : N = i := by omega
          have hnlt : ¬ (i : Int) < (N : Int) := by omega
          have e1 : sumLen (RL.take i) = A := by rw [List.take_of_length_le (by have := HN.out; omega), HA.out]
          rw [e1]
          clear e1 ei
          go_wp2_with fail
          refine (AW.out _ (HG.out.kept (bl_then HB.out HBi.out))).mono ?_
          rintro e w9 ⟨rfl, hb9⟩
          have HB9 := Lib.hid (bl_then (bl_then HB.out HBi.out) hb9)
          clear hb9
          go_wp2_with fail
          go_ret
          exact ⟨rfl, HB9.out⟩
end Go.Proofs.Ytpclkocfbkjabaa
