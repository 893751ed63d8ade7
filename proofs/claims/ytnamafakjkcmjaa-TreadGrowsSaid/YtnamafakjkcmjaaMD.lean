/-
  Several texts in one: XT26, XT27, XT28, XT31, XT37.
-/
import Derived.Test.YtnamafakjkcmjaaT25
set_option linter.unusedVariables false
set_option linter.unusedSimpArgs false
namespace Go.Proofs.Ytnamafakjkcmjaa
open Go.RowKit Go.Shelf
set_option linter.unusedVariables false
set_option linter.unusedSimpArgs false

theorem brief_any (s : ByteArray) (w : World) (hs : s.size ≤ 140737488351232) :
    Calls Try.prog 15 #[.string s] w fun e w' => e = .returned (.string (s.extract 0 (min s.size 61))) ∧ w = w' := by
  by_cases h : s.size ≤ 61
  · have h1 : min (s.size : Int) 61 = (s.size : Int) := by omega
    have h2 : min s.size 61 = s.size := by omega
    rw [h2]
    have h3 : (0 : Int) ≤ (s.size : Int) := by omega
    go_enter Try.func15, Try.ntmps15
    go_wp2
    go_ret
    exact ⟨by rw [show s.extract 0 s.size = s from bs_all (sb s)]; rfl, rfl⟩
  · have h1 : min (s.size : Int) 61 = 61 := by omega
    have h2 : min s.size 61 = 61 := by omega
    rw [h2]
    have h3 : (61 : Int) ≤ (s.size : Int) := by omega
    have h4 : 61 ≤ s.size := by omega
    go_enter Try.func15, Try.ntmps15
    go_wp2
    go_ret
    exact ⟨rfl, rfl⟩
set_option maxRecDepth 100000 in
theorem Letters_any (q : Nat) (hq : q ≤ 3) (s : ByteArray) (w : World) (hs : s.size ≤ 140737488351232) :
    Calls Try.prog 17 #[.int .i64 q, .string s] w fun e w' => e = .returned (.bool (lettB q (sb s))) ∧ w = w' := by
  obtain ⟨N, hN⟩ : ∃ N, N = s.size := ⟨_, rfl⟩
  have HN := Lib.hid hN
  rw [← hN] at hs
  have hN' : s.size = N := hN.symm
  clear hN
  go_enter Try.func17, Try.ntmps17
  go_wp2_with fail
  go_loopw [5] (fun i wr => ∃ k : Nat, k ≤ N ∧ i = .int .i64 k ∧ Hid (∀ j, ∀ h : j < (sb s).length, j < k → letB q (sb s)[j] = true) ∧ w = wr) (fun i _ => N - (intOf i).toNat)
  case atStart => exact ⟨0, Nat.zero_le _, rfl, Lib.hid (fun j _ h => by omega), rfl⟩
  case round =>
    obtain ⟨k, hk, rfl, HL, rfl⟩ := hrel
    by_cases hlt : k < N
    · have hkl : k < (sb s).length := by rw [sb_size]; omega
      have hks : k < s.size := by omega
      obtain ⟨b, hb⟩ : ∃ b, s[k] = b := ⟨_, rfl⟩
      have hsb : (sb s)[k] = b := by rw [← hb]; rfl
      cases hl : letB q b with
      | true =>
        have h97 : ¬ ((b.toNat : Int) < 97) := by unfold letB at hl; simp at hl; omega
        have h97' : (97 : Int) ≤ (b.toNat : Int) := by omega
        have hq' : ((b.toNat : Int) - 97) % 256 < (q : Int) := by unfold letB at hl; simp at hl; omega
        have hq2 : ¬ ((q : Int) ≤ ((b.toNat : Int) - 97) % 256) := by omega
        have HL2 : Hid (∀ j, ∀ h : j < (sb s).length, j < k + 1 → letB q (sb s)[j] = true) := Lib.hid fun j h hj => by
          rcases Nat.lt_or_ge j k with h1 | h1
          · exact HL.out j h h1
          · obtain rfl : j = k := by omega
            exact (congrArg (letB q) hsb).trans hl
        clear hl hsb
        go_wp2_with fail
        go_roundw
        case rel => exact ⟨k + 1, by omega, by go_num, HL2, trivial⟩
        case measure => simp [intOf]; omega
      | false =>
        have e : Hid (lettB q (sb s) = false) := Lib.hid (by
          cases h : lettB q (sb s) with
          | false => rfl
          | true =>
            unfold lettB at h
            rw [List.all_eq_true] at h
            have := h _ (List.getElem_mem hkl)
            exact absurd ((congrArg (letB q) hsb).symm.trans this) (by rw [hl]; simp))
        by_cases h97 : (b.toNat : Int) < 97
        · clear hl hsb
          go_wp2_with fail
          go_ret
          exact ⟨by rw [e.out]; rfl, rfl⟩
        · have hq' : (q : Int) ≤ ((b.toNat : Int) - 97) % 256 := by
            have := b.toNat_lt
            unfold letB at hl; simp at hl; omega
          have h97' : (97 : Int) ≤ (b.toNat : Int) := by omega
          have hq2 : ¬ (((b.toNat : Int) - 97) % 256 < (q : Int)) := by omega
          clear hl hsb
          go_wp2_with fail
          go_ret
          exact ⟨by rw [e.out]; rfl, rfl⟩
    · have e : Hid (lettB q (sb s) = true) := Lib.hid (by
        unfold lettB
        rw [List.all_eq_true]
        intro b hb
        obtain ⟨j, hj, rfl⟩ := List.mem_iff_getElem.1 hb
        exact HL.out j hj (by have h := hj; rw [sb_size] at h; omega))
      go_wp2_with fail
      go_ret
      exact ⟨by rw [e.out]; rfl, rfl⟩
theorem quiet_left {P : Program} {f : FuncId} {args : Array Value} {w : World} {n : Nat} {v : Value}
    (h : Calls P f args (w.drewN n) fun e w' => e = .returned v ∧ w.drewN n = w') : Calls P f args (w.drewN n) fun e w'' => e = .returned v ∧ ∃ m, w'' = w.drewN m :=
  h.mono fun _ _ ⟨he, hm⟩ => ⟨he, n, hm.symm⟩
set_option maxRecDepth 100000 in
set_option maxHeartbeats 4000000 in
theorem Set_any (q : Int) (v : Value) (ss : List ByteArray) (w : World) (hv : StrsAt w v ss) (hz : ∀ s ∈ ss, s.size ≤ 140737488351232) :
    Calls Try.prog 12 #[.int .i64 q, v] w fun e w' => e = .returned (.bool (setB q ss)) ∧ Below w.heap.size w w' := by
  have LT := Lib.hid fun (q : Nat) (hq : q ≤ 3) s W h => Letters_any q hq s W h
  obtain ⟨A, c, rfl, hlc, hcm, hA⟩ := hv
  by_cases hq1 : q < 1
  · have e : setB q ss = false := by unfold setB; simp; omega
    rw [e]
    clear e LT hA
    go_enter Try.func12, Try.ntmps12
    go_wp2_with fail
    go_ret
    exact ⟨rfl, bl_refl _⟩
  by_cases hq3 : 3 < q
  · have e : setB q ss = false := by unfold setB; simp; omega
    rw [e]
    clear e LT hA
    go_enter Try.func12, Try.ntmps12
    go_wp2_with fail
    go_ret
    exact ⟨rfl, bl_refl _⟩
  by_cases hl : 12 < ss.length
  · have e : setB q ss = false := by unfold setB; simp; omega
    rw [e]
    have hl' : (12 : Int) < (ss.length : Int) := by omega
    clear e LT hA
    go_enter Try.func12, Try.ntmps12
    go_wp2_with fail
    go_ret
    exact ⟨rfl, bl_refl _⟩
  obtain ⟨p, rfl⟩ : ∃ p : Nat, q = p := ⟨q.toNat, by omega⟩
  have HQ : Hid (1 ≤ p ∧ p ≤ 3) := Lib.hid (by omega)
  have hp1 : ¬ ((p : Int) < 1) := hq1
  have hp3 : ¬ (3 : Int) < (p : Int) := hq3
  have LT1 := Lib.hid fun s W h => LT.out p HQ.out.2 s W h
  obtain ⟨N, hN⟩ : ∃ N, N = ss.length := ⟨_, rfl⟩
  have HN := Lib.hid hN
  obtain ⟨R, hR⟩ : ∃ R, R = setB p ss := ⟨_, rfl⟩
  have HR := Lib.hid hR
  rw [← hR]
  rw [← hN] at hl hlc hA ⊢
  have HA := Lib.hid hA
  have HB := Lib.hid (bl_refl w)
  have HZ0 := Lib.hid hz
  have hl' : ¬ (12 : Int) < (N : Int) := by omega
  clear hN hR hA LT hz hq1 hq3
  go_enter Try.func12, Try.ntmps12
  go_wp2_with fail
  go_loopw [5] (fun i wr => ∃ k : Nat, k ≤ N ∧ i = .int .i64 k ∧ Hid (∀ j, j < k → goodB p ss j = true) ∧ Hid (Below w.heap.size w wr)) (fun i _ => N - (intOf i).toNat)
  case atStart => exact ⟨0, Nat.zero_le _, rfl, fun j h => absurd h (Nat.not_lt_zero _), HB⟩
  case round =>
    obtain ⟨k, hk, rfl, HG, Hb⟩ := hrel
    by_cases hlt : k < N
    · obtain ⟨g, off, rfl, hg, hc⟩ := HA.out (by omega)
      have hg' : g < wr.heap.size := Nat.lt_of_lt_of_le hg Hb.out.size
      have hk0 : wr.cell? ⟨g, off + k, none⟩ = some (.string (ss.getD k ByteArray.empty)) := (Hb.out.cell (p := ⟨g, off + k, none⟩) hg).trans (hc k hlt)
      have hkl : k < ss.length := by have := HN.out; omega
      have NO : Hid (goodB p ss k = false → R = false) := fun h => HR.out.trans (setB_no hkl h)
      obtain ⟨s, hs⟩ : ∃ s, s = ss.getD k ByteArray.empty := ⟨_, rfl⟩
      have HS := Lib.hid hs
      have hss : s.size ≤ 140737488351232 := by
        rw [hs, List.getD_eq_getElem?_getD, List.getElem?_eq_getElem hkl]
        exact HZ0.out _ (List.getElem_mem hkl)
      rw [← hs] at hk0
      have LTS := Lib.hid fun W => LT1.out s W hss
      clear hs hkl
      by_cases hs1 : s.size < 1
      · have e := Lib.hid (NO.out (by unfold goodB; rw [← HS.out]; simp; omega))
        have d1 : decide ((s.size : Int) < 1) = true := by simp; omega
        have d1' : (s.size : Int) < 1 := by omega
        clear hc
        go_wp2_with fail
        go_quiet (fail)
        have HB2 := Lib.hid (bl_drewN Hb.out nq)
        go_wp2_with fail
        go_ret
        exact ⟨ret_bool e.out.symm, HB2.out⟩
      have d1 : decide ((s.size : Int) < 1) = false := by simp; omega
      by_cases hs5 : 5 < s.size
      · have e := Lib.hid (NO.out (by unfold goodB; rw [← HS.out]; simp; omega))
        have d2 : decide ((5 : Int) < (s.size : Int)) = true := by simp; omega
        clear hc
        go_wp2_with fail
        go_quiet (fail)
        have HB2 := Lib.hid (bl_drewN Hb.out nq)
        go_wp2_with fail
        go_ret
        exact ⟨ret_bool e.out.symm, HB2.out⟩
      have d2 : decide ((5 : Int) < (s.size : Int)) = false := by simp; omega
      have HSZ : Hid (1 ≤ s.size ∧ s.size ≤ 5) := Lib.hid (by omega)
      cases hl2 : lettB p (sb s) with
      | false =>
        have e := Lib.hid (NO.out (by unfold goodB; rw [← HS.out, hl2]; simp))
        have W1 : Hid (∀ W, Calls Try.prog 17 #[.int .i64 (p : Int), .string s] W fun e w' => e = .returned (.bool false) ∧ W = w') := fun W => by
          have := LTS.out W
          rw [hl2] at this
          exact this
        clear hl2 hc
        go_wp2_with fail
        go_quiet ((go_at_call 17; exact quiet_left (W1.out _)))
        have HB2 := Lib.hid (bl_drewN Hb.out nq)
        go_wp2_with fail
        go_ret
        exact ⟨ret_bool e.out.symm, HB2.out⟩
      | true =>
        have W1 : Hid (∀ W, Calls Try.prog 17 #[.int .i64 (p : Int), .string s] W fun e w' => e = .returned (.bool true) ∧ W = w') := fun W => by
          have := LTS.out W
          rw [hl2] at this
          exact this
        have HL := Lib.hid hl2
        clear hl2
        by_cases hk1 : k = 0
        · have HG2 : Hid (∀ j, j < k + 1 → goodB p ss j = true) := by
            intro j hj
            obtain rfl : j = k := by omega
            unfold goodB
            rw [← HS.out, HL.out]
            simp [hk1, HSZ.out.1, HSZ.out.2]
          subst hk1
          rw [Nat.add_zero] at hk0
          clear hc
          go_wp2_with fail
          go_quiet ((go_at_call 17; exact quiet_left (W1.out _)))
          have HB2 := Lib.hid (bl_drewN Hb.out nq)
          go_wp2_with fail
          go_roundw
          case rel => exact ⟨1, by omega, rfl, HG2, HB2⟩
          case measure => simp [intOf]; omega
        · obtain ⟨m, rfl⟩ : ∃ m, k = m + 1 := ⟨k - 1, by omega⟩
          have hm0 : wr.cell? ⟨g, off + m, none⟩ = some (.string (ss.getD m ByteArray.empty)) := (Hb.out.cell (p := ⟨g, off + m, none⟩) hg).trans (hc m (by omega))
          obtain ⟨t, ht⟩ : ∃ t, t = ss.getD m ByteArray.empty := ⟨_, rfl⟩
          have HT := Lib.hid ht
          rw [← ht] at hm0
          have dk : decide ((0 : Int) < ((m + 1 : Nat) : Int)) = true := by simp <;> omega
          have dk2 : decide ((0 : Int) < (m : Int) + 1) = true := by simp <;> omega
          have em : ((m + 1 : Nat) : Int) - 1 = (m : Int) := by omega
          have em2 : (m : Int) + 1 - 1 = (m : Int) := by omega
          clear ht hk1 hc
          cases hbl : Op.bytesLess t.toList s.toList with
          | false =>
            have e := Lib.hid (NO.out (by unfold goodB; rw [← HS.out, show m + 1 - 1 = m from rfl, ← HT.out, hbl]; simp))
            go_wp2_with fail
            go_quiet ((go_at_call 17; exact quiet_left (W1.out _)))
            have HB2 := Lib.hid (bl_drewN Hb.out nq)
            go_wp2_with fail
            go_ret
            exact ⟨ret_bool e.out.symm, HB2.out⟩
          | true =>
            have HG2 : Hid (∀ j, j < m + 1 + 1 → goodB p ss j = true) := by
              intro j hj
              rcases Nat.lt_or_ge j (m + 1) with h | h
              · exact HG.out j h
              · obtain rfl : j = m + 1 := by omega
                unfold goodB
                rw [← HS.out, HL.out, show m + 1 - 1 = m from rfl, ← HT.out, hbl]
                simp [HSZ.out.1, HSZ.out.2]
            go_wp2_with fail
            go_quiet ((go_at_call 17; exact quiet_left (W1.out _)))
            have HB2 := Lib.hid (bl_drewN Hb.out nq)
            go_wp2_with fail
            go_roundw
            case rel => exact ⟨m + 1 + 1, by omega, by go_num, HG2, HB2⟩
            case measure => simp [intOf]; omega
    · have ek : k = N := by omega
      have e : Hid (R = true) := by
        show _ = _
        rw [HR.out]
        exact setB_yes (by have := HQ.out.1; omega) (by have := HQ.out.2; omega) (by have := HN.out; omega) (fun j hj => HG.out j (by have := HN.out; omega))
      clear ek
      go_wp2_with fail
      go_ret
      exact ⟨ret_bool e.out.symm, Hb.out⟩
end Go.Proofs.Ytnamafakjkcmjaa

namespace Go.Proofs.Ytnamafakjkcmjaa
open Go.RowKit Go.Shelf
set_option linter.unusedVariables false
set_option linter.unusedSimpArgs false

theorem wrapN {D : Nat} (h : D ≤ 1000000) : IntKind.i64.wrap (D : Int) = (D : Int) := wrapI (by omega)
theorem wrapN64 {D : Nat} (h : D ≤ 1000000) : wrap64 (D : Int) = (D : Int) := by unfold wrap64; omega
def ovB (u w : ByteArray) (k : Nat) : Bool := (u.extract (u.size - k) u.size).toList == (w.extract 0 k).toList
def ovF (u w : ByteArray) : Nat → List Int
  | 0 => []
  | k + 1 => if ovB u w (k + 1) then ovF u w k ++ [((k + 1 : Nat) : Int)] else ovF u w k
theorem ovF_len (u w : ByteArray) : ∀ k, (ovF u w k).length ≤ k
  | 0 => Nat.le_refl _
  | k + 1 => by
    have := ovF_len u w k
    unfold ovF
    split
    · simp; omega
    · omega
theorem ovF_no {u w : ByteArray} {k : Nat} (h : ovB u w (k + 1) = false) : ovF u w (k + 1) = ovF u w k := if_neg (by rw [h]; simp)
theorem ovF_yes {u w : ByteArray} {k : Nat} (h : ovB u w (k + 1) = true) : ovF u w (k + 1) = ovF u w k ++ [((k + 1 : Nat) : Int)] := if_pos h
theorem ov_suffix {u w : ByteArray} {k : Nat} (h1 : k ≤ u.size) (h2 : k ≤ w.size) : Lib.hasSuffix u.data.toList (w.extract 0 k).data.toList = ovB u w k := by
  have hz : (w.extract 0 k).size = k := by rw [ByteArray.size_extract]; omega
  rw [← Lib.hasSuffix_raw, hz, decide_eq_true h1, Bool.true_and]
  rfl
/-- A list of numbers that can be read. -/
def IntsAt (w : World) (v : Value) (L : List Int) : Prop := ∃ A c, v = .slice A L.length c ∧ (0 < L.length → ∃ g, A = some ⟨g, 0, none⟩ ∧ g < w.heap.size ∧ ∀ i, i < L.length → w.cell? ⟨g, i, none⟩ = some (.int .i64 (L.getD i 0)))
theorem ints_at {w : World} {base : Nat} {v : Value} {L : List Int} (h : w.ownsRow base 3 1 v L.length (encI L)) : IntsAt w v L := by
  obtain ⟨A, c, e, hA⟩ := own_any h
  refine ⟨A, c, e, fun h0 => ?_⟩
  obtain ⟨g, e2, hg⟩ := hA h0
  refine ⟨g, e2, hg, fun i hi => ?_⟩
  rw [e, e2] at h
  rw [h.cellAt i (by omega)]
  unfold encI
  rw [List.getElem?_map, List.getElem?_eq_getElem hi, List.getD_eq_getElem?_getD, List.getElem?_eq_getElem hi]
  rfl
theorem IntsAt.kept {w w' : World} {v : Value} {L : List Int} (h : IntsAt w v L) (hb : Below w.heap.size w w') : IntsAt w' v L := by
  obtain ⟨A, c, e, hA⟩ := h
  refine ⟨A, c, e, fun h0 => ?_⟩
  obtain ⟨g, e2, hg, hc⟩ := hA h0
  exact ⟨g, e2, Nat.lt_of_lt_of_le hg hb.size, fun i hi => (hb.cell (p := ⟨g, i, none⟩) hg).trans (hc i hi)⟩
end Go.Proofs.Ytnamafakjkcmjaa

namespace Go.Proofs.Ytnamafakjkcmjaa
open Go.RowKit Go.Shelf
set_option linter.unusedVariables false
set_option linter.unusedSimpArgs false

def occB (s t : ByteArray) (i : Nat) : Bool := (t.extract i (i + s.size)).toList == s.toList
theorem occB_iff (s t : ByteArray) (i : Nat) : occB s t i = true ↔ ((sb t).drop i).take s.size = sb s := by
  unfold occB
  rw [beq_iff_eq, Lib.extract_toList, Lib.toList_data, Nat.add_sub_cancel_left]
  exact Iff.rfl
theorem occB_yes {s t : ByteArray} {i : Nat} (h : occB s t i = true) : Lib.contains (sb t) (sb s) = true := by
  rw [contains_iff, ← (occB_iff s t i).1 h]
  exact ((List.take_prefix _ _).isInfix).trans (List.drop_suffix _ _).isInfix
theorem occB_no {s t : ByteArray} (h : ∀ i, i + s.size ≤ t.size → occB s t i = false) : Lib.contains (sb t) (sb s) = false := by
  cases hc : Lib.contains (sb t) (sb s) with
  | false => rfl
  | true =>
    obtain ⟨a, b, e⟩ := (contains_iff _ _).1 hc
    have hl := congrArg List.length e
    simp only [List.length_append, sb_size] at hl
    have := h a.length (by omega)
    rw [(occB_iff s t a.length).2 (by rw [← e, List.append_assoc, List.drop_left, ← sb_size s, List.take_left])] at this
    cases this
set_option maxRecDepth 100000 in
set_option maxHeartbeats 4000000 in
theorem occurs_any (s t : ByteArray) (w : World) (hs : s.size ≤ 1000) (ht : t.size ≤ 1000000) :
    Calls Try.prog 43 #[.string s, .string t] w fun e w' => e = .returned (.bool (Lib.contains (sb t) (sb s))) ∧ w = w' := by
  obtain ⟨A, hA⟩ : ∃ A, A = s.size := ⟨_, rfl⟩
  obtain ⟨B, hB⟩ : ∃ B, B = t.size := ⟨_, rfl⟩
  obtain ⟨R, hR⟩ : ∃ R, R = Lib.contains (sb t) (sb s) := ⟨_, rfl⟩
  have hY : Hid (∀ i, occB s t i = true → R = true) := Lib.hid fun i h => hR.trans (occB_yes h)
  have hN : Hid ((∀ i, i + A ≤ B → occB s t i = false) → R = false) := Lib.hid fun h => hR.trans (occB_no (by rw [← hA, ← hB]; exact h))
  have hO : Hid (∀ i, occB s t i = ((t.extract i (i + A)).toList == s.toList)) := Lib.hid fun i => by unfold occB; rw [← hA]
  rw [← hR]
  rw [← hA] at hs
  rw [← hB] at ht
  have hsA : s.size = A := hA.symm
  have htB : t.size = B := hB.symm
  clear hA hB hR
  go_enter Try.func43, Try.ntmps43
  go_wp2_with fail
  go_loopw [5] (fun i wr => ∃ k : Nat, k ≤ B + 1 ∧ i = .int .i64 k ∧ Hid (∀ j, j < k → j + A ≤ B → occB s t j = false) ∧ w = wr) (fun i _ => B + 1 - (intOf i).toNat)
  case atStart => exact ⟨0, Nat.zero_le _, rfl, Lib.hid (fun j h => by omega), rfl⟩
  case round =>
    obtain ⟨k, hk, rfl, HL, rfl⟩ := hrel
    by_cases hlt : k + A ≤ B
    · have h1 : (k : Int) + (A : Int) ≤ (B : Int) := by omega
      have h2 : (k : Int) ≤ (k : Int) + (A : Int) := by omega
      have h3 : (0 : Int) ≤ (k : Int) := Int.natCast_nonneg k
      have hOk := hO.out k
      cases hoc : occB s t k with
      | true =>
        rw [hoc] at hOk
        have hOk' := hOk.symm
        have e := Lib.hid (hY.out k hoc)
        clear hOk hoc
        go_wp2_with fail
        go_ret
        exact ⟨by rw [e.out]; rfl, rfl⟩
      | false =>
        rw [hoc] at hOk
        have hOk' := hOk.symm
        have HL2 : Hid (∀ j, j < k + 1 → j + A ≤ B → occB s t j = false) := Lib.hid fun j h h' => by
          rcases Nat.lt_or_ge j k with h1 | h1
          · exact HL.out j h1 h'
          · obtain rfl : j = k := by omega
            exact hoc
        clear hOk hoc
        go_wp2_with fail
        go_roundw
        case rel => exact ⟨k + 1, by omega, by go_num, HL2, trivial⟩
        case measure => simp [intOf]; omega
    · have h1 : ¬ (k : Int) + (A : Int) ≤ (B : Int) := by omega
      have h1' : (B : Int) < (k : Int) + (A : Int) := by omega
      have e := Lib.hid (hN.out fun i hi => HL.out i (by omega) hi)
      go_wp2_with fail
      go_ret
      exact ⟨by rw [e.out]; rfl, rfl⟩
theorem okL_false {set : List ByteArray} {s : Str} {k : Nat} (hk : k < set.length) (h : Lib.contains s (sb (set.getD k ByteArray.empty)) = true) : okL (pats set) s = false := by
  unfold okL pats
  rw [Bool.not_eq_false', List.any_map, List.any_eq_true]
  rw [List.getD_eq_getElem?_getD, List.getElem?_eq_getElem hk] at h
  exact ⟨set[k], List.getElem_mem hk, h⟩
theorem okL_true {set : List ByteArray} {s : Str} (h : ∀ k, k < set.length → Lib.contains s (sb (set.getD k ByteArray.empty)) = false) : okL (pats set) s = true := by
  unfold okL pats
  rw [Bool.not_eq_true', List.any_map, List.any_eq_false]
  intro x hx
  obtain ⟨k, hk, rfl⟩ := List.mem_iff_getElem.1 hx
  have := h k hk
  rw [List.getD_eq_getElem?_getD, List.getElem?_eq_getElem hk] at this
  simpa using this
set_option maxRecDepth 100000 in
set_option maxHeartbeats 4000000 in
theorem Avoids_any (v : Value) (ss : List ByteArray) (s : ByteArray) (w : World) (hv : StrsAt w v ss) (hz : ∀ p ∈ ss, p.size ≤ 1000) (hl : ss.length ≤ 1000) (hs : s.size ≤ 1000000) :
    Calls Try.prog 19 #[v, .string s] w fun e w' => e = .returned (.bool (okL (pats ss) (sb s))) ∧ w = w' := by
  have OC := Lib.hid fun p W h => occurs_any p s W h hs
  obtain ⟨A, c, rfl, hlc, hcm, hA⟩ := hv
  obtain ⟨N, hN⟩ : ∃ N, N = ss.length := ⟨_, rfl⟩
  obtain ⟨R, hR⟩ : ∃ R, R = okL (pats ss) (sb s) := ⟨_, rfl⟩
  have hF : Hid (∀ k, k < N → Lib.contains (sb s) (sb (ss.getD k ByteArray.empty)) = true → R = false) := Lib.hid fun k hk h => hR.trans (okL_false (by omega) h)
  have hT : Hid ((∀ k, k < N → Lib.contains (sb s) (sb (ss.getD k ByteArray.empty)) = false) → R = true) := Lib.hid fun h => hR.trans (okL_true (by rw [← hN]; exact h))
  have hZ : Hid (∀ k, k < N → (ss.getD k ByteArray.empty).size ≤ 1000) := Lib.hid fun k hk => by
    rw [List.getD_eq_getElem?_getD, List.getElem?_eq_getElem (by omega)]
    exact hz _ (List.getElem_mem _)
  rw [← hR]
  rw [← hN] at hA hl hlc ⊢
  have HA := Lib.hid hA
  clear hA hN hR hz
  go_enter Try.func19, Try.ntmps19
  go_wp2_with fail
  go_loopw [5] (fun i wr => ∃ k : Nat, k ≤ N ∧ i = .int .i64 k ∧ Hid (∀ j, j < k → Lib.contains (sb s) (sb (ss.getD j ByteArray.empty)) = false) ∧ w = wr) (fun i _ => N - (intOf i).toNat)
  case atStart => exact ⟨0, Nat.zero_le _, rfl, Lib.hid (fun j h => by omega), rfl⟩
  case round =>
    obtain ⟨k, hk, rfl, HL, rfl⟩ := hrel
    by_cases hlt : k < N
    · obtain ⟨g, off, rfl, hg, hc⟩ := HA.out (by omega)
      have hc1 := hc k hlt
      have hpz := hZ.out k hlt
      obtain ⟨p, hp⟩ : ∃ p, p = ss.getD k ByteArray.empty := ⟨_, rfl⟩
      have HP := Lib.hid hp
      rw [← hp] at hc1 hpz
      have OCP := Lib.hid fun W => OC.out p W hpz
      clear hc hp
      cases hcc : Lib.contains (sb s) (sb p) with
      | true =>
        rw [hcc] at OCP
        have e := Lib.hid (hF.out k hlt (by rw [← HP.out, hcc]))
        clear hcc
        go_wp2_with fail
        refine (OCP.out _).mono ?_
        rintro e2 w2 ⟨rfl, rfl⟩
        go_wp2_with fail
        go_ret
        exact ⟨by rw [e.out]; rfl, rfl⟩
      | false =>
        rw [hcc] at OCP
        have HL2 : Hid (∀ j, j < k + 1 → Lib.contains (sb s) (sb (ss.getD j ByteArray.empty)) = false) := Lib.hid fun j h => by
          rcases Nat.lt_or_ge j k with h1 | h1
          · exact HL.out j h1
          · obtain rfl : j = k := by omega
            rw [← HP.out, hcc]
        clear hcc
        go_wp2_with fail
        refine (OCP.out _).mono ?_
        rintro e2 w2 ⟨rfl, rfl⟩
        go_wp2_with fail
        go_roundw
        case rel => exact ⟨k + 1, by omega, by go_num, HL2, trivial⟩
        case measure => simp [intOf]; omega
    · have e := Lib.hid (hT.out fun k hk => HL.out k (by omega))
      go_wp2_with fail
      go_ret
      exact ⟨by rw [e.out]; rfl, rfl⟩
/-- find, of a string that is in the list. -/
theorem bs_toList (s : Str) : (bs s).toList = s := by rw [Lib.toList_data]; rfl
set_option maxRecDepth 100000 in
set_option maxHeartbeats 4000000 in
theorem find_any (v : Value) (L : List Str) (s : Str) (w : World) (base : Nat) (hv : w.ownsRow base 9 1 v L.length (encS L)) (hl : L.length ≤ 1000) (hs : s ∈ L) :
    Calls Try.prog 57 #[v, .string (bs s)] w fun e w' => e = .returned (.int .i64 (L.idxOf s)) ∧ w = w' := by
  have hix := List.idxOf_lt_length_of_mem hs
  have hat : Hid (∀ j, ∀ h : j < L.length, j ≤ L.idxOf s → (L[j] = s ↔ j = L.idxOf s)) := Lib.hid fun j h hj => by
    constructor
    · intro e
      rcases Nat.lt_or_eq_of_le hj with h1 | h1
      · exact absurd e (by simpa using List.not_of_lt_findIdx (p := (· == s)) h1)
      · exact h1
    · intro e
      subst e
      exact List.getElem_idxOf hix
  obtain ⟨N, hN⟩ : ∃ N, N = L.length := ⟨_, rfl⟩
  have HN := Lib.hid hN
  have hpos : 0 < N := by omega
  obtain ⟨I, hI⟩ : ∃ I, I = L.idxOf s := ⟨_, rfl⟩
  rw [← hI] at hat hix ⊢
  rw [← hN] at hv hl hix
  obtain ⟨g, c, rfl, hg, hg2⟩ := own_form hv hpos
  have hc : Hid (∀ j, ∀ h : j < L.length, w.cell? ⟨g, j, none⟩ = some (.string (bs L[j]))) := Lib.hid fun j h => by
    rw [hv.cellAt j (by omega)]
    unfold encS
    rw [List.getElem?_map, List.getElem?_eq_getElem h]
    rfl
  clear hv hN hI hs hg
  go_enter Try.func57, Try.ntmps57
  go_wp2_with fail
  go_loopw [5] (fun i wr => ∃ k : Nat, k ≤ I ∧ i = .int .i64 k ∧ w = wr) (fun i _ => I + 1 - (intOf i).toNat)
  case atStart => exact ⟨0, Nat.zero_le _, rfl, rfl⟩
  case round =>
    obtain ⟨k, hk, rfl, rfl⟩ := hrel
    have hkN : k < N := by omega
    have hkL : k < L.length := by have := HN.out; omega
    have hc1 := hc.out k hkL
    have hat1 := hat.out k hkL hk
    obtain ⟨t, ht⟩ : ∃ t, t = L[k] := ⟨_, rfl⟩
    rw [← ht] at hc1 hat1
    clear ht
    by_cases e : k = I
    · have e2 := hat1.2 e
      have e3 : ((bs t).toList == (bs s).toList) = true := by rw [e2]; simp
      have HE := Lib.hid e
      clear e e2 hat1
      go_wp2_with fail
      go_ret
      exact ⟨by rw [← HE.out]; rfl, rfl⟩
    · have e3 : ((bs t).toList == (bs s).toList) = false := by
        rw [bs_toList, bs_toList]
        simp only [beq_eq_false_iff_ne]
        exact fun h => e (hat1.1 h)
      have hk2 : k + 1 ≤ I := by omega
      clear e hat1
      go_wp2_with fail
      go_roundw
      case rel => exact ⟨k + 1, hk2, by go_num, trivial⟩
      case measure => simp [intOf]; omega
end Go.Proofs.Ytnamafakjkcmjaa

namespace Go.Proofs.Ytnamafakjkcmjaa
open Go.RowKit Go.Shelf
set_option linter.unusedVariables false
set_option linter.unusedSimpArgs false

def cut6 (s : ByteArray) : ByteArray := s.extract 0 (min s.size 6)
theorem cut6_size (s : ByteArray) : (cut6 s).size ≤ 6 := by unfold cut6; rw [ByteArray.size_extract]; omega
def patC (ss : List ByteArray) : List ByteArray := (ss.take 13).map cut6
theorem patC_len (ss : List ByteArray) : (patC ss).length ≤ 13 := by unfold patC; simp; omega
theorem patC_size (ss : List ByteArray) : ∀ s ∈ patC ss, s.size ≤ 6 := by
  intro s h
  obtain ⟨t, _, rfl⟩ := List.mem_map.1 h
  exact cut6_size t
def encB (L : List ByteArray) : List Value := L.map Value.string
theorem strs_own {w : World} {base : Nat} {v : Value} {L : List ByteArray} (h : w.ownsRow base 9 1 v L.length (encB L)) (hL : L.length ≤ 1000000) : StrsAt w v L := by
  rcases h.2 with ⟨rfl, h0⟩ | ⟨g, cap, cur, rfl, hb, hg, h3, h4, h5, h6⟩
  · have : L = [] := List.eq_nil_of_length_eq_zero h0
    subst this
    exact StrsAt.nil w
  · refine ⟨some ⟨g, 0, none⟩, cap, rfl, h3, by unfold maxLen at h4; omega, fun _ => ⟨g, 0, rfl, (Array.getElem?_eq_some_iff.1 hg).1, fun i hi => ?_⟩⟩
    rw [Nat.zero_add, h.cellAt i (by omega)]
    unfold encB
    rw [List.getElem?_map, List.getElem?_eq_getElem hi, List.getD_eq_getElem?_getD, List.getElem?_eq_getElem hi]
    rfl
set_option maxRecDepth 100000 in
set_option maxHeartbeats 4000000 in
theorem patterns_any (v : Value) (ss : List ByteArray) (w : World) (hv : StrsAt w v ss) (hz : ∀ s ∈ ss, s.size ≤ maxLen) :
    Calls Try.prog 10 #[v] w fun e w' => ∃ v', e = .returned v' ∧ w'.ownsRow w.heap.size 9 1 v' (patC ss).length (encB (patC ss)) ∧ Below w.heap.size w w' := by
  obtain ⟨i0, hi, hz0, hz1, hz2⟩ := info_parts infoS
  obtain ⟨A, c, rfl, hlc, hcm, hA⟩ := hv
  obtain ⟨N, hN⟩ : ∃ N, N = ss.length := ⟨_, rfl⟩
  have HN := Lib.hid hN
  rw [← hN] at hA hlc ⊢
  have HA := Lib.hid hA
  have HZ := Lib.hid hz
  have hN63 : (N : Int) ≤ 9223372036854775807 := by omega
  have HP : Hid (patC ss = (ss.take (min N 13)).map cut6) := Lib.hid (by
    unfold patC
    rw [hN, Nat.min_comm, ← List.take_take, List.take_length])
  clear hA hN hz
  obtain ⟨M, hM⟩ : ∃ M, M = min N 13 := ⟨_, rfl⟩
  rw [← hM] at HP
  have HM := Lib.hid (show M ≤ N ∧ M ≤ 13 ∧ (M = N ∨ M = 13) by omega)
  have hM13 : M ≤ 13 := HM.out.2.1
  clear hM
  go_enter Try.func10, Try.ntmps10
  go_wp2_with fail
  go_loopw [3, 4] (fun v i wr => ∃ k : Nat, k ≤ M ∧ i = .int .i64 k ∧ wr.ownsRow w.heap.size 9 1 v k (encB ((ss.take k).map cut6)) ∧ Hid (Below w.heap.size w wr)) (fun _ i _ => M - (intOf i).toNat)
  case atStart => exact ⟨0, Nat.zero_le _, rfl, World.ownsRow_nil _ _ _ _, Lib.hid (bl_refl w)⟩
  case round =>
    obtain ⟨k, hk, rfl, ho, HB⟩ := hrel
    by_cases hlt : k < M
    · have hkN : (k : Int) < (N : Int) := by have := HM.out; omega
      have hk12 : (k : Int) ≤ 12 := by omega
      have hk0 : (0 : Int) ≤ (k : Int) := Int.natCast_nonneg k
      have hkl : k < ss.length := by have := HN.out; have := HM.out; omega
      obtain ⟨g, off, rfl, hg, hc⟩ := HA.out (by omega)
      have ce := (HB.out.cell (p := ⟨g, off + k, none⟩) hg).trans (hc k (by omega))
      obtain ⟨s, hs⟩ : ∃ s, s = ss.getD k ByteArray.empty := ⟨_, rfl⟩
      have hsk : s = ss[k] := by rw [hs, List.getD_eq_getElem?_getD, List.getElem?_eq_getElem hkl]; rfl
      have hsz := HZ.out s (by rw [hsk]; exact List.getElem_mem hkl)
      rw [← hs] at ce
      have lg := Nat.lt_of_lt_of_le hg HB.out.size
      have hzw := HB.out.size
      obtain ⟨SZ, hSZ⟩ : ∃ SZ, SZ = s.size := ⟨_, rfl⟩
      have hss : s.size = SZ := hSZ.symm
      obtain ⟨D, hD⟩ : ∃ D : Nat, D = min SZ 6 := ⟨_, rfl⟩
      have hmin : min (SZ : Int) 6 = (D : Int) := by omega
      have hd1 : (D : Int) ≤ (SZ : Int) := by omega
      have hd0 : (0 : Int) ≤ (D : Int) := Int.natCast_nonneg D
      have hcut : s.extract 0 D = cut6 s := by unfold cut6; rw [hD, hSZ]
      obtain ⟨B, hB⟩ : ∃ B, B = cut6 s := ⟨_, rfl⟩
      rw [← hB] at hcut
      have HBQ := Lib.hid hB
      have HSK := Lib.hid hsk
      obtain ⟨A2, ca, rfl, _⟩ := own_any ho
      have ag : ∀ cap, (Value.slice A2 k cap).ownBlock ≠ some g := fun cap h => by
        have := (ho.lt g (by cases A2 <;> simp_all [Value.ownBlock])).1
        omega
      clear hc hs hsk hB hD hSZ hsz
      go_wp2_with fail
      go_region_held3 (fun w' => w'.cell? ⟨g, off + k, none⟩ = some (.string s))
        (first
          | go_keep
          | (rw [hgrow.cell_far _ (by simp; omega) (Ne.symm (ag _))]; assumption))
        ((refine step_append_lies _ (by rfl) _ _ _ (by rfl) w.heap.size 9 i0 _ 1 16 Try.underlying22 hi hz0 hz1 hz2 rfl (by omega) (.slice A2 k ca) k _ (by rfl) ((ho.alloc _).drew)
            ⟨wr.heap.size, 0, none⟩ 1 1 [.string B] (by rfl) (by rfl) (World.news_of_block (cs := #[.string B]) (t := 9) (fr := (0, 0)) (heap_alloc_new wr _)) (by simp [Value.oneCell'])
            (by omega) (by unfold maxLen; omega) (by omega) (by simp; omega) (wr.heap.size + 1) (by simp) ?_; intro gg cap w1 hown1 hgrow hat hlt))
      have e : encB ((ss.take (k + 1)).map cut6) = encB ((ss.take k).map cut6) ++ [.string B] := by
        rw [List.take_succ_eq_append_getElem hkl, List.map_append, HBQ.out, HSK.out]
        unfold encB
        rw [List.map_append]
        rfl
      rw [← e] at hown1
      have HB6 := Lib.hid (HB.out.grown (((grown_alloc wr (.cells #[.string B] 9) _).trans (grown_drew _ 1 |>.but _)).trans hgrow) HB.out.size (fun k e => (ho.lt k e).1))
      have HO6 := Lib.hid hown1
      clear hown1 hgrow hat hlt ho HB ce lg hmin hd1 hd0 hcut e
      go_wp2_with fail
      go_roundw
      case rel => exact ⟨k + 1, by omega, by go_num, HO6.out, HB6⟩
      case measure => simp [intOf]; omega
    · have ek : k = M := by omega
      subst ek
      have hlen : (patC ss).length = k := by rw [HP.out, List.length_map, List.length_take]; have := HM.out; have := HN.out; omega
      have HO : Hid (wr.ownsRow w.heap.size 9 1 u3 (patC ss).length (encB (patC ss))) := Lib.hid (by rw [hlen, HP.out]; exact ho)
      clear ho hlen
      by_cases hkN : k = N
      · have h1 : ¬ (k : Int) < (N : Int) := by omega
        clear hkN
        go_wp2_with fail
        go_ret
        exact ⟨_, rfl, HO.out, HB.out⟩
      · have h1 : (k : Int) < (N : Int) := by have := HM.out; omega
        have h2 : ¬ (k : Int) ≤ 12 := by have := HM.out; omega
        clear hkN
        go_wp2_with fail
        go_ret
        exact ⟨_, rfl, HO.out, HB.out⟩
end Go.Proofs.Ytnamafakjkcmjaa

namespace Go.Proofs.Ytnamafakjkcmjaa
open Go.RowKit Go.Shelf
set_option linter.unusedVariables false
set_option linter.unusedSimpArgs false

set_option maxRecDepth 100000 in
set_option maxHeartbeats 4000000 in
theorem mod_any (x : Int) (n : Nat) (w : World) (hn : 1 ≤ n ∧ n ≤ 1000000) :
    Calls Try.prog 24 #[.int .i64 x, .int .i64 n] w fun e w' => (∃ r : Nat, r < n ∧ e = .returned (.int .i64 r)) ∧ w = w' := by
  go_enter Try.func24, Try.ntmps24
  go_wp2_with fail
  have h0 : 0 ≤ IntKind.u64.wrap x := wrap_u64_nonneg x
  have h1 : (IntKind.u64.wrap x).tmod (n : Int) = IntKind.u64.wrap x % (n : Int) := Int.tmod_eq_emod_of_nonneg h0
  have h2 := Int.emod_nonneg (IntKind.u64.wrap x) (show (n : Int) ≠ 0 by omega)
  have h3 := Int.emod_lt_of_pos (IntKind.u64.wrap x) (show (0 : Int) < (n : Int) by omega)
  rw [h1]
  obtain ⟨r, hr⟩ : ∃ r : Nat, IntKind.u64.wrap x % (n : Int) = r := ⟨(IntKind.u64.wrap x % (n : Int)).toNat, by omega⟩
  rw [hr] at h2 h3 ⊢
  have h4 : wrap64 (r : Int) = (r : Int) := by unfold wrap64; omega
  rw [h4]
  clear h0 h1 h2 hr h4
  go_ret
  exact ⟨⟨r, by omega, rfl⟩, rfl⟩
end Go.Proofs.Ytnamafakjkcmjaa
