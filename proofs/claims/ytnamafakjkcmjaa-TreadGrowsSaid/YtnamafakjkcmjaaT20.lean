/-
  hasCycle: the visit, a closure that calls itself.
-/
import Derived.Test.YtnamafakjkcmjaaT19
namespace Go.Proofs.Ytnamafakjkcmjaa
open Go.RowKit Go.Shelf
set_option linter.unusedVariables false
set_option linter.unusedSimpArgs false

def dnF (K : Str → Nat) : ByteArray → Option Int := fun s => if K (sb s) = 0 then none else some (K (sb s) : Int)
theorem dnF_at (K : Str → Nat) (s : Str) : (dnF K (bs s)).getD 0 = (K s : Int) := by
  unfold dnF
  rw [sb_bs]
  by_cases h : K s = 0
  · rw [if_pos h, h]; rfl
  · rw [if_neg h]; rfl
theorem dnF_set (K : Str → Nat) (s : Str) (v : Nat) (hv : v ≠ 0) (u : ByteArray) : (if u = bs s then some (v : Int) else dnF K u) = dnF (setB' K s v) u := by
  unfold dnF
  by_cases e : u = bs s
  · subst e
    rw [if_pos rfl, sb_bs, setB_same, if_neg hv]
  · rw [if_neg e, setB_other _ _ (show sb u ≠ s from fun h => e (by rw [← h]; rfl))]
theorem own_any {w : World} {base e size n : Nat} {v : Value} {xs : List Value} (h : w.ownsRow base e size v n xs) : ∃ A c, v = .slice A n c ∧ (0 < n → ∃ g, A = some ⟨g, 0, none⟩ ∧ g < w.heap.size) := by
  rcases h.2 with ⟨rfl, h0⟩ | ⟨g, cap, cur, rfl, hb, hg, _⟩
  · exact ⟨none, 0, by rw [h0], fun h => by omega⟩
  · exact ⟨_, cap, rfl, fun _ => ⟨g, rfl, (Array.getElem?_eq_some_iff.1 hg).1⟩⟩
/-- What the visit has captured. -/
structure HEnv (E : List Br) (Bd Bn Bv bD bN n base : Nat) (W : World) : Prop where
  d : Boxed W Bd 87 (.map (some bD))
  b : Boxed W Bn 117 (.map (some bN))
  v : Boxed W Bv 103 (.func (.func 74) #[] #[.pointer (some ⟨Bd, 0, none⟩), .pointer (some ⟨Bn, 0, none⟩), .pointer (some ⟨Bv, 0, none⟩)])
  nx : NextAt W base bN n E
  ne : bN ≠ bD
theorem HEnv.nc {E : List Br} {Bd Bn Bv bD bN n base : Nat} {W W' : World} {r : Nat} {o : Obj} (h : HEnv E Bd Bn Bv bD bN n base W) (ho : W.heap[r]? = some o) (hc : o.isCells = false) (hne : bN ≠ r) (hg : W.grownBy W' (some r)) : HEnv E Bd Bn Bv bD bN n base W' :=
  ⟨h.d.kept hg (fun e => boxed_ne h.d ho hc (by simpa using e.symm)), h.b.kept hg (fun e => boxed_ne h.b ho hc (by simpa using e.symm)), h.v.kept hg (fun e => boxed_ne h.v ho hc (by simpa using e.symm)), h.nx.nc ho hc hne hg, h.ne⟩
theorem HEnv.map {E : List Br} {Bd Bn Bv bD bN n base cnt : Nat} {W W' : World} {f : ByteArray → Option Int} (h : HEnv E Bd Bn Bv bD bN n base W) (hm : MapF kindSI W bD cnt f) (hg : W.grownBy W' (some bD)) : HEnv E Bd Bn Bv bD bN n base W' := by
  obtain ⟨es, clock, hb⟩ := hm.block
  exact h.nc hb rfl h.ne hg
def HPost (E : List Br) (C bD : Nat) (i : Str) (st : List Str) (K : Str → Nat) (W : World) (e : Ending) (W' : World) : Prop :=
  ∃ (r : Bool) (K' : Str → Nat) (cnt' : Nat), e = .returned (.bool r) ∧ (r = true → HasCyc E) ∧ (r = false → KnownB E K' st ∧ (∀ s, K s ≠ 0 → K' s ≠ 0) ∧ ∃ m, ¬ walkB E m i) ∧ MapF kindSI W' bD cnt' (dnF K') ∧ cnt' + 2 * freeB E K' ≤ C ∧ W.grownBy W' (some bD)

set_option maxRecDepth 100000 in
set_option maxHeartbeats 4000000 in
theorem hvisit_known (E : List Br) (Bd Bn Bv bD bN n base C : Nat) (i : Str) (cnt : Nat) (K : Str → Nat) (st : List Str) (W : World) (hi : i.length ≤ 100) (hKi : K i ≠ 0) (hK : KnownB E K st) (hst : ∀ s ∈ st, ∃ m, PathB E (m + 1) s i)
    (hE : HEnv E Bd Bn Bv bD bN n base W) (hm : MapF kindSI W bD cnt (dnF K)) (hcnt : cnt + 2 * freeB E K ≤ C) :
    Calls Try.prog 74 #[.string (bs i), .pointer (some ⟨Bd, 0, none⟩), .pointer (some ⟨Bn, 0, none⟩), .pointer (some ⟨Bv, 0, none⟩)] W (HPost E C bD i st K W) := by
  have c1 := hE.d.cell
  have l1 := hE.d.lt
  have lk := hm.look (x := bs i) (by show i.length ≤ maxLen; unfold maxLen; omega)
  dsimp only [kindSI] at lk
  rw [dnF_at] at lk
  have hle := hK.le i
  have HM := Lib.hid hm
  have HK := Lib.hid hK
  have HST := Lib.hid hst
  obtain ⟨k, hk⟩ : ∃ k, k = K i := ⟨_, rfl⟩
  rw [← hk] at lk hKi hle
  have HKI := Lib.hid hk
  clear hm hE hK hst hk
  have h12 : k = 1 ∨ k = 2 := by omega
  rcases h12 with rfl | rfl <;> simp only [show ((1 : Nat) : Int) = 1 from rfl, show ((2 : Nat) : Int) = 2 from rfl] at lk
  · go_enter Try.func74, Try.ntmps74
    go_wp2_with fail
    go_ret
    refine ⟨true, K, cnt, rfl, fun _ => ?_, (fun h => by cases h), HM.out, hcnt, grown_refl _ _⟩
    obtain ⟨m, hp⟩ := HST.out i ((HK.out.way i).1 HKI.out.symm)
    exact ⟨i, hp.endless⟩
  · go_enter Try.func74, Try.ntmps74
    go_wp2_with fail
    go_ret
    exact ⟨false, K, cnt, rfl, (fun h => by cases h), (fun _ => ⟨HK.out, fun s h => h, HK.out.dead i HKI.out.symm⟩), HM.out, hcnt, grown_refl _ _⟩
set_option maxRecDepth 100000 in
set_option maxHeartbeats 4000000 in
theorem hvisit_calls (E : List Br) (Bd Bn Bv bD bN n base : Nat) (hlen : ∀ s ∈ nodesB E, s.length ≤ 100) (hE0 : E.length ≤ 10000) :
    ∀ (f C : Nat) (i : Str) (cnt : Nat) (K : Str → Nat) (st : List Str) (W : World), freeB E K ≤ f → C ≤ 1000000 → i ∈ nodesB E → KnownB E K st → (∀ s ∈ st, ∃ m, PathB E (m + 1) s i) → HEnv E Bd Bn Bv bD bN n base W → MapF kindSI W bD cnt (dnF K) → cnt + 2 * freeB E K ≤ C →
      Calls Try.prog 74 #[.string (bs i), .pointer (some ⟨Bd, 0, none⟩), .pointer (some ⟨Bn, 0, none⟩), .pointer (some ⟨Bv, 0, none⟩)] W (HPost E C bD i st K W) := by
  intro f
  induction f with
  | zero =>
    intro C i cnt K st W hf hC hi hK hst hE hm hcnt
    by_cases hKi : K i = 0
    · have := free_enter (v := 1) hi hKi (by omega); omega
    · exact hvisit_known E Bd Bn Bv bD bN n base C i cnt K st W (hlen i hi) hKi hK hst hE hm hcnt
  | succ f ih =>
    intro C i cnt K st W hf hC hi hK hst hE hm hcnt
    by_cases hKi : K i = 0
    · have hil := hlen i hi
      have hfr := free_enter (v := 1) hi hKi (by omega)
      have hok : kindSI.okK (bs i) := by show i.length ≤ maxLen; unfold maxLen; omega
      have lk := hm.look (x := bs i) hok
      dsimp only [kindSI] at lk
      rw [dnF_at, hKi, show ((0 : Nat) : Int) = 0 from rfl] at lk
      obtain ⟨w1, s1, hm1, hg1⟩ := hm.store (x := bs i) (y := (1 : Int)) hok (by show _ = _; decide) (by unfold maxLen; omega)
      have hm1 := hm1.same (fun u => dnF_set K i 1 (by omega) u)
      dsimp only [kindSI] at s1
      have hE1 := hE.map hm hg1
      obtain ⟨v, lk1, ho1⟩ := hE1.nx.look (s := i) (by unfold maxLen; omega)
      have hnl : (Go.Proofs.Ytnamafakjkcmjaa.nx E i).length ≤ 10000 := by
        unfold Go.Proofs.Ytnamafakjkcmjaa.nx
        rw [List.length_map]
        exact Nat.le_trans (List.length_filter_le _ _) hE0
      obtain ⟨N, hN⟩ : ∃ N, N = (Go.Proofs.Ytnamafakjkcmjaa.nx E i).length := ⟨_, rfl⟩
      have HN := Lib.hid hN
      rw [← hN] at hnl ho1
      clear hN
      obtain ⟨A, c, rfl, hA⟩ := own_any ho1
      have c1 := hE.d.cell
      have l1 := hE.d.lt
      have d1 := hE1.d.cell
      have d2 := hE1.b.cell
      have d3 := hE1.v.cell
      have k1 := hE1.d.lt
      have k2 := hE1.b.lt
      have k3 := hE1.v.lt
      have HE1 := Lib.hid hE1
      have HM1 := Lib.hid hm1
      have HG1 := Lib.hid hg1
      have HK1 := Lib.hid (hK.enter hKi)
      have HK := Lib.hid hK
      have HST := Lib.hid hst
      have HO1 := Lib.hid ho1
      have HA := Lib.hid hA
      have HKi := Lib.hid hKi
      have hks : Hid (∀ s, K s ≠ 0 → setB' K i 1 s ≠ 0) := Lib.hid fun s h => by
        by_cases e : s = i
        · subst e; rw [setB_same]; omega
        · rw [setB_other _ _ e]; exact h
      clear hE hm hE1 hm1 hg1 hK hst ho1 hA hKi
      go_enter Try.func74, Try.ntmps74
      go_wp2_with fail
      clear lk s1 lk1 c1 l1 d1 d2 d3 k1 k2 k3
      go_loopw [22] (fun jj wr => ∃ (j : Nat) (K' : Str → Nat) (cnt' : Nat), j ≤ N ∧ jj = .int .i64 j ∧ Hid (KnownB E K' (i :: st)) ∧ Hid (∀ s, setB' K i 1 s ≠ 0 → K' s ≠ 0) ∧ Hid (MapF kindSI wr bD cnt' (dnF K')) ∧ cnt' + 2 * freeB E K' + 1 ≤ C ∧ Hid (W.grownBy wr (some bD)) ∧
        Hid (HEnv E Bd Bn Bv bD bN n base wr) ∧ Hid (wr.ownsRow base 9 1 (.slice A N c) N (encS (nx E i))) ∧ Hid (∀ k, ∀ h : k < (nx E i).length, k < j → ∃ m, ¬ walkB E m (nx E i)[k])) (fun jj _ => N - (intOf jj).toNat)
      case atStart => exact ⟨0, setB' K i 1, cnt + 1, Nat.zero_le _, rfl, HK1, Lib.hid (fun s h => h), HM1, by omega, HG1, HE1, HO1, Lib.hid (fun k h hk => by omega)⟩
      case round =>
        obtain ⟨j, K', cnt', hj, rfl, HK', HKK, HM', hcnt', HG, HE', HO', HD⟩ := hrel
        clear HE1 HM1 HG1 HK1 HO1
        have e1 := HE'.out.d.cell
        have e2 := HE'.out.b.cell
        have e3 := HE'.out.v.cell
        have l1 := HE'.out.d.lt
        have l2 := HE'.out.b.lt
        have l3 := HE'.out.v.lt
        have hfl := free_less HKK.out (E := E)
        by_cases hlt : j < N
        · have hjn : j < (nx E i).length := by have := HN.out; omega
          obtain ⟨g, rfl, hg⟩ := HA.out (by omega)
          obtain ⟨t, ht⟩ : ∃ t, t = (nx E i)[j] := ⟨_, rfl⟩
          have hmem : (i, t) ∈ E := by rw [ht]; exact mem_nx.1 (List.getElem_mem hjn)
          have htl := hlen t (node_to hmem)
          have ce : wr.cell? ⟨g, j, none⟩ = some (.string (bs t)) := by
            rw [HO'.out.cellAt j (by omega), ht]
            unfold encS
            rw [List.getElem?_map, List.getElem?_eq_getElem hjn]
            rfl
          have lg : g < wr.heap.size := (HO'.out.lt g rfl).2
          have HT := Lib.hid ht
          have IH := Lib.hid (ih (C - 1) t cnt' K' (i :: st) wr (by omega) (by omega) (node_to hmem) HK'.out (fun s hs => by
            rcases List.mem_cons.1 hs with rfl | hs
            · exact ⟨0, t, hmem, rfl⟩
            · obtain ⟨m, hp⟩ := HST.out s hs
              exact ⟨m + 1, hp.snoc hmem⟩) HE'.out HM'.out (by omega))
          clear ht hfl hmem
          go_wp2_with fail
          refine IH.out.mono ?_
          rintro e Y ⟨r, K2, cnt2, rfl, r1, r2, r3, r4, r5⟩
          have HG2 := Lib.hid (grown_trans HG.out r5 (fun r e => .inl (by cases e; rfl)))
          cases r with
          | true =>
            have R1 := Lib.hid (r1 rfl)
            have R3 := Lib.hid r3
            clear r1 r2 r3 r5
            go_wp2_with fail
            go_ret
            exact ⟨true, K2, cnt2, rfl, (fun _ => R1.out), (fun h => by cases h), R3.out, by omega, HG2.out⟩
          | false =>
            obtain ⟨q1, q2, q3⟩ := r2 rfl
            have HE2 := Lib.hid (HE'.out.map HM'.out r5)
            have HO2 := Lib.hid (own_map HO'.out HM'.out r5)
            have R3 := Lib.hid r3
            have Q1 := Lib.hid q1
            have Q2 : Hid (∀ s, setB' K i 1 s ≠ 0 → K2 s ≠ 0) := Lib.hid fun s h => q2 s (HKK.out s h)
            have HD2 : Hid (∀ k, ∀ h : k < (nx E i).length, k < j + 1 → ∃ m, ¬ walkB E m (nx E i)[k]) := Lib.hid fun k h hk => by
              rcases Nat.lt_or_ge k j with h1 | h1
              · exact HD.out k h h1
              · obtain rfl : k = j := by omega
                rw [← HT.out]; exact q3
            clear r1 r2 r3 r5 q1 q2 q3 HE' HM' HO' HK' HKK HG e1 e2 e3 l1 l2 l3 ce lg
            go_wp2_with fail
            go_roundw
            case rel => exact ⟨j + 1, K2, cnt2, by omega, by go_num, Q1, Q2, R3, by omega, HG2, HE2, HO2, HD2⟩
            case measure => simp [intOf]; omega
        · have ej : N = j := by omega
          subst ej
          obtain ⟨w5, s5, hm5, hg5⟩ := HM'.out.store (x := bs i) (y := (2 : Int)) hok (by show _ = _; decide) (by unfold maxLen; omega)
          have hm5 := hm5.same (fun u => dnF_set K' i 2 (by omega) u)
          dsimp only [kindSI] at s5
          have hdead : ∃ m, ¬ walkB E m i := dead_up (l := nx E i) (fun t ht => mem_nx.2 ht) (fun t ht => by
            obtain ⟨k, hk, rfl⟩ := List.mem_iff_getElem.1 ht
            exact HD.out k hk (by have := HN.out; omega))
          have hist : i ∉ st := fun h => by
            have := (HK.out.way i).2 h
            rw [HKi.out] at this; omega
          have HF : Hid (HPost E C bD i st K W (.returned (.bool false)) w5) := Lib.hid ⟨false, setB' K' i 2, cnt' + 1, rfl, (fun h => by cases h), (fun _ => ⟨HK'.out.leave hist hdead, fun s h => by
            by_cases e : s = i
            · subst e; rw [setB_same]; omega
            · rw [setB_other _ _ e]; exact HKK.out s (by rw [setB_other _ _ e]; exact h), hdead⟩), hm5, by
              have : freeB E (setB' K' i 2) ≤ freeB E K' := free_less fun s h => by
                by_cases e : s = i
                · subst e; rw [setB_same]; omega
                · rw [setB_other _ _ e]; exact h
              omega, grown_trans HG.out hg5 (fun r e => .inl (by cases e; rfl))⟩
          clear hm5 hg5 hdead hist hfl
          go_wp2_with fail
          go_ret
          exact HF.out
    · exact hvisit_known E Bd Bn Bv bD bN n base C i cnt K st W (hlen i hi) hKi hK hst hE hm hcnt
end Go.Proofs.Ytnamafakjkcmjaa
