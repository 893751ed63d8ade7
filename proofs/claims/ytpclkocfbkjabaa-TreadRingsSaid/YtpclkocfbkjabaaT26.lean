/-
  The laws' helpers, and the reference's Letters and Set.
-/
import Derived.Test.YtpclkocfbkjabaaT25
namespace Go.Proofs.Ytpclkocfbkjabaa
open Go.RowKit Go.Shelf
set_option linter.unusedVariables false
set_option linter.unusedSimpArgs false

theorem brief_any (s : ByteArray) (w : World) (hs : s.size ≤ 140737488351232) :
    Calls Try.prog 31 #[.string s] w fun e w' => e = .returned (.string (s.extract 0 (min s.size 61))) ∧ w = w' := by
  by_cases h : s.size ≤ 61
  · have h1 : min (s.size : Int) 61 = (s.size : Int) := by omega
    have h2 : min s.size 61 = s.size := by omega
    rw [h2]
    have h3 : (0 : Int) ≤ (s.size : Int) := by omega
    go_enter Try.func31, Try.ntmps31
    go_wp2
    go_ret
    exact ⟨by rw [show s.extract 0 s.size = s from bs_all (sb s)]; rfl, rfl⟩
  · have h1 : min (s.size : Int) 61 = 61 := by omega
    have h2 : min s.size 61 = 61 := by omega
    rw [h2]
    have h3 : (61 : Int) ≤ (s.size : Int) := by omega
    have h4 : 61 ≤ s.size := by omega
    go_enter Try.func31, Try.ntmps31
    go_wp2
    go_ret
    exact ⟨rfl, rfl⟩
set_option maxRecDepth 100000 in
theorem Letters_any (q : Nat) (hq : q ≤ 3) (s : ByteArray) (w : World) (hs : s.size ≤ 140737488351232) :
    Calls Try.prog 29 #[.int .i64 q, .string s] w fun e w' => e = .returned (.bool (lettB q (sb s))) ∧ w = w' := by
  obtain ⟨N, hN⟩ : ∃ N, N = s.size := ⟨_, rfl⟩
  have HN := Lib.hid hN
  rw [← hN] at hs
  have hN' : s.size = N := hN.symm
  clear hN
  go_enter Try.func29, Try.ntmps29
  go_wp2_with fail
  go_loopw [5] (fun i wr => ∃ k : Nat, k ≤ N ∧ i = .int .i64 k ∧ Hid (∀ j, ∀ h : j < (sb s).length, j < k → letB q (sb s)[j] = true) ∧ w = wr) (fun i _ => N - (intOf i).toNat)
  case atStart => exact ⟨0, Nat.zero_le _, rfl, Lib.hid (fun j _ h => by omega), rfl⟩
  case round =>
    obtain ⟨k, hk, rfl, HL, rfl⟩ := hrel
    by_cases hlt : k < N
    · have hkl : k < (sb s).length := by rw [sb_size]; omega
      have hks : k < s.size := by omega
      obtain ⟨b, hb⟩ : ∃ b, s[k] = b := ⟨_, rfl⟩
      have hsb : (sb s)[k] = b := by rw [← hb]; rfl
      cases hl : letB q b with
      | true =>
        have h97 : ¬ ((b.toNat : Int) < 97) := by unfold letB at hl; simp at hl; omega
        have h97' : (97 : Int) ≤ (b.toNat : Int) := by omega
        have hq' : ((b.toNat : Int) - 97) % 256 < (q : Int) := by unfold letB at hl; simp at hl; omega
        have hq2 : ¬ ((q : Int) ≤ ((b.toNat : Int) - 97) % 256) := by omega
        have HL2 : Hid (∀ j, ∀ h : j < (sb s).length, j < k + 1 → letB q (sb s)[j] = true) := Lib.hid fun j h hj => by
          rcases Nat.lt_or_ge j k with h1 | h1
          · exact HL.out j h h1
          · obtain rfl : j = k := by omega
            exact (congrArg (letB q) hsb).trans hl
        clear hl hsb
        go_wp2_with fail
        go_roundw
        case rel => exact ⟨k + 1, by omega, by go_num, HL2, trivial⟩
        case measure => simp [intOf]; omega
      | false =>
        have e : Hid (lettB q (sb s) = false) := Lib.hid (by
          cases h : lettB q (sb s) with
          | false => rfl
          | true =>
            unfold lettB at h
            rw [List.all_eq_true] at h
            have := h _ (List.getElem_mem hkl)
            exact absurd ((congrArg (letB q) hsb).symm.trans this) (by rw [hl]; simp))
        by_cases h97 : (b.toNat : Int) < 97
        · clear hl hsb
          go_wp2_with fail
          go_ret
          exact ⟨by rw [e.out]; rfl, rfl⟩
        · have hq' : (q : Int) ≤ ((b.toNat : Int) - 97) % 256 := by
            have := b.toNat_lt
            unfold letB at hl; simp at hl; omega
          have h97' : (97 : Int) ≤ (b.toNat : Int) := by omega
          have hq2 : ¬ (((b.toNat : Int) - 97) % 256 < (q : Int)) := by omega
          clear hl hsb
          go_wp2_with fail
          go_ret
          exact ⟨by rw [e.out]; rfl, rfl⟩
    · have e : Hid (lettB q (sb s) = true) := Lib.hid (by
        unfold lettB
        rw [List.all_eq_true]
        intro b hb
        obtain ⟨j, hj, rfl⟩ := List.mem_iff_getElem.1 hb
        exact HL.out j hj (by have h := hj; rw [sb_size] at h; omega))
      go_wp2_with fail
      go_ret
      exact ⟨by rw [e.out]; rfl, rfl⟩
theorem quiet_left {P : Program} {f : FuncId} {args : Array Value} {w : World} {n : Nat} {v : Value}
    (h : Calls P f args (w.drewN n) fun e w' => e = .returned v ∧ w.drewN n = w') : Calls P f args (w.drewN n) fun e w'' => e = .returned v ∧ ∃ m, w'' = w.drewN m :=
  h.mono fun _ _ ⟨he, hm⟩ => ⟨he, n, hm.symm⟩
set_option maxRecDepth 100000 in
set_option maxHeartbeats 4000000 in
theorem Set_any (q : Int) (v : Value) (ss : List ByteArray) (w : World) (hv : StrsAt w v ss) (hz : ∀ s ∈ ss, s.size ≤ 140737488351232) :
    Calls Try.prog 16 #[.int .i64 q, v] w fun e w' => e = .returned (.bool (setB q ss)) ∧ Below w.heap.size w w' := by
  have LT := Lib.hid fun (q : Nat) (hq : q ≤ 3) s W h => Letters_any q hq s W h
  obtain ⟨A, c, rfl, hlc, hcm, hA⟩ := hv
  by_cases hq1 : q < 1
  · have e : setB q ss = false := by unfold setB; simp; omega
    rw [e]
    clear e LT hA
    go_enter Try.func16, Try.ntmps16
    go_wp2_with fail
    go_ret
    exact ⟨rfl, bl_refl _⟩
  by_cases hq3 : 3 < q
  · have e : setB q ss = false := by unfold setB; simp; omega
    rw [e]
    clear e LT hA
    go_enter Try.func16, Try.ntmps16
    go_wp2_with fail
    go_ret
    exact ⟨rfl, bl_refl _⟩
  by_cases hl : 12 < ss.length
  · have e : setB q ss = false := by unfold setB; simp; omega
    rw [e]
    have hl' : (12 : Int) < (ss.length : Int) := by omega
    clear e LT hA
    go_enter Try.func16, Try.ntmps16
    go_wp2_with fail
    go_ret
    exact ⟨rfl, bl_refl _⟩
  obtain ⟨p, rfl⟩ : ∃ p : Nat, q = p := ⟨q.toNat, by omega⟩
  have HQ : Hid (1 ≤ p ∧ p ≤ 3) := Lib.hid (by omega)
  have hp1 : ¬ ((p : Int) < 1) := hq1
  have hp3 : ¬ (3 : Int) < (p : Int) := hq3
  have LT1 := Lib.hid fun s W h => LT.out p HQ.out.2 s W h
  obtain ⟨N, hN⟩ : ∃ N, N = ss.length := ⟨_, rfl⟩
  have HN := Lib.hid hN
  obtain ⟨R, hR⟩ : ∃ R, R = setB p ss := ⟨_, rfl⟩
  have HR := Lib.hid hR
  rw [← hR]
  rw [← hN] at hl hlc hA ⊢
  have HA := Lib.hid hA
  have HB := Lib.hid (bl_refl w)
  have HZ0 := Lib.hid hz
  have hl' : ¬ (12 : Int) < (N : Int) := by omega
  clear hN hR hA LT hz hq1 hq3
  go_enter Try.func16, Try.ntmps16
  go_wp2_with fail
  go_loopw [5] (fun i wr => ∃ k : Nat, k ≤ N ∧ i = .int .i64 k ∧ Hid (∀ j, j < k → goodB p ss j = true) ∧ Hid (Below w.heap.size w wr)) (fun i _ => N - (intOf i).toNat)
  case atStart => exact ⟨0, Nat.zero_le _, rfl, fun j h => absurd h (Nat.not_lt_zero _), HB⟩
  case round =>
    obtain ⟨k, hk, rfl, HG, Hb⟩ := hrel
    by_cases hlt : k < N
    · obtain ⟨g, off, rfl, hg, hc⟩ := HA.out (by omega)
      have hg' : g < wr.heap.size := Nat.lt_of_lt_of_le hg Hb.out.size
      have hk0 : wr.cell? ⟨g, off + k, none⟩ = some (.string (ss.getD k ByteArray.empty)) := (Hb.out.cell (p := ⟨g, off + k, none⟩) hg).trans (hc k hlt)
      have hkl : k < ss.length := by have := HN.out; omega
      have NO : Hid (goodB p ss k = false → R = false) := fun h => HR.out.trans (setB_no hkl h)
      obtain ⟨s, hs⟩ : ∃ s, s = ss.getD k ByteArray.empty := ⟨_, rfl⟩
      have HS := Lib.hid hs
      have hss : s.size ≤ 140737488351232 := by
        rw [hs, List.getD_eq_getElem?_getD, List.getElem?_eq_getElem hkl]
        exact HZ0.out _ (List.getElem_mem hkl)
      rw [← hs] at hk0
      have LTS := Lib.hid fun W => LT1.out s W hss
      clear hs hkl
      by_cases hs1 : s.size < 1
      · have e := Lib.hid (NO.out (by unfold goodB; rw [← HS.out]; simp; omega))
        have d1 : decide ((s.size : Int) < 1) = true := by simp; omega
        have d1' : (s.size : Int) < 1 := by omega
        clear hc
        go_wp2_with fail
        go_quiet (fail)
        have HB2 := Lib.hid (bl_drewN Hb.out nq)
        go_wp2_with fail
        go_ret
        exact ⟨ret_bool e.out.symm, HB2.out⟩
      have d1 : decide ((s.size : Int) < 1) = false := by simp; omega
      by_cases hs5 : 5 < s.size
      · have e := Lib.hid (NO.out (by unfold goodB; rw [← HS.out]; simp; omega))
        have d2 : decide ((5 : Int) < (s.size : Int)) = true := by simp; omega
        clear hc
        go_wp2_with fail
        go_quiet (fail)
        have HB2 := Lib.hid (bl_drewN Hb.out nq)
        go_wp2_with fail
        go_ret
        exact ⟨ret_bool e.out.symm, HB2.out⟩
      have d2 : decide ((5 : Int) < (s.size : Int)) = false := by simp; omega
      have HSZ : Hid (1 ≤ s.size ∧ s.size ≤ 5) := Lib.hid (by omega)
      cases hl2 : lettB p (sb s) with
      | false =>
        have e := Lib.hid (NO.out (by unfold goodB; rw [← HS.out, hl2]; simp))
        have W1 : Hid (∀ W, Calls Try.prog 29 #[.int .i64 (p : Int), .string s] W fun e w' => e = .returned (.bool false) ∧ W = w') := fun W => by
          have := LTS.out W
          rw [hl2] at this
          exact this
        clear hl2 hc
        go_wp2_with fail
        go_quiet ((go_at_call 29; exact quiet_left (W1.out _)))
        have HB2 := Lib.hid (bl_drewN Hb.out nq)
        go_wp2_with fail
        go_ret
        exact ⟨ret_bool e.out.symm, HB2.out⟩
      | true =>
        have W1 : Hid (∀ W, Calls Try.prog 29 #[.int .i64 (p : Int), .string s] W fun e w' => e = .returned (.bool true) ∧ W = w') := fun W => by
          have := LTS.out W
          rw [hl2] at this
          exact this
        have HL := Lib.hid hl2
        clear hl2
        by_cases hk1 : k = 0
        · have HG2 : Hid (∀ j, j < k + 1 → goodB p ss j = true) := by
            intro j hj
            obtain rfl : j = k := by omega
            unfold goodB
            rw [← HS.out, HL.out]
            simp [hk1, HSZ.out.1, HSZ.out.2]
          subst hk1
          rw [Nat.add_zero] at hk0
          clear hc
          go_wp2_with fail
          go_quiet ((go_at_call 29; exact quiet_left (W1.out _)))
          have HB2 := Lib.hid (bl_drewN Hb.out nq)
          go_wp2_with fail
          go_roundw
          case rel => exact ⟨1, by omega, rfl, HG2, HB2⟩
          case measure => simp [intOf]; omega
        · obtain ⟨m, rfl⟩ : ∃ m, k = m + 1 := ⟨k - 1, by omega⟩
          have hm0 : wr.cell? ⟨g, off + m, none⟩ = some (.string (ss.getD m ByteArray.empty)) := (Hb.out.cell (p := ⟨g, off + m, none⟩) hg).trans (hc m (by omega))
          obtain ⟨t, ht⟩ : ∃ t, t = ss.getD m ByteArray.empty := ⟨_, rfl⟩
          have HT := Lib.hid ht
          rw [← ht] at hm0
          have dk : decide ((0 : Int) < ((m + 1 : Nat) : Int)) = true := by simp <;> omega
          have dk2 : decide ((0 : Int) < (m : Int) + 1) = true := by simp <;> omega
          have em : ((m + 1 : Nat) : Int) - 1 = (m : Int) := by omega
          have em2 : (m : Int) + 1 - 1 = (m : Int) := by omega
          clear ht hk1 hc
          cases hbl : Op.bytesLess t.toList s.toList with
          | false =>
            have e := Lib.hid (NO.out (by unfold goodB; rw [← HS.out, show m + 1 - 1 = m from rfl, ← HT.out, hbl]; simp))
            go_wp2_with fail
            go_quiet ((go_at_call 29; exact quiet_left (W1.out _)))
            have HB2 := Lib.hid (bl_drewN Hb.out nq)
            go_wp2_with fail
            go_ret
            exact ⟨ret_bool e.out.symm, HB2.out⟩
          | true =>
            have HG2 : Hid (∀ j, j < m + 1 + 1 → goodB p ss j = true) := by
              intro j hj
              rcases Nat.lt_or_ge j (m + 1) with h | h
              · exact HG.out j h
              · obtain rfl : j = m + 1 := by omega
                unfold goodB
                rw [← HS.out, HL.out, show m + 1 - 1 = m from rfl, ← HT.out, hbl]
                simp [HSZ.out.1, HSZ.out.2]
            go_wp2_with fail
            go_quiet ((go_at_call 29; exact quiet_left (W1.out _)))
            have HB2 := Lib.hid (bl_drewN Hb.out nq)
            go_wp2_with fail
            go_roundw
            case rel => exact ⟨m + 1 + 1, by omega, by go_num, HG2, HB2⟩
            case measure => simp [intOf]; omega
    · have ek : k = N := by omega
      have e : Hid (R = true) := by
        show _ = _
        rw [HR.out]
        exact setB_yes (by have := HQ.out.1; omega) (by have := HQ.out.2; omega) (by have := HN.out; omega) (fun j hj => HG.out j (by have := HN.out; omega))
      clear ek
      go_wp2_with fail
      go_ret
      exact ⟨ret_bool e.out.symm, Hb.out⟩
end Go.Proofs.Ytpclkocfbkjabaa
