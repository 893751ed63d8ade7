/-
  The reference: occurs, Avoids, find.
-/
import Derived.Test.YtpclkocfbkjabaaT27
namespace Go.Proofs.Ytpclkocfbkjabaa
open Go.RowKit Go.Shelf
set_option linter.unusedVariables false
set_option linter.unusedSimpArgs false

def occB (s t : ByteArray) (i : Nat) : Bool := (t.extract i (i + s.size)).toList == s.toList
theorem occB_iff (s t : ByteArray) (i : Nat) : occB s t i = true ↔ ((sb t).drop i).take s.size = sb s := by
  unfold occB
  rw [beq_iff_eq, Lib.extract_toList, Lib.toList_data, Nat.add_sub_cancel_left]
  exact Iff.rfl
theorem occB_yes {s t : ByteArray} {i : Nat} (h : occB s t i = true) : Lib.contains (sb t) (sb s) = true := by
  rw [contains_iff, ← (occB_iff s t i).1 h]
  exact ((List.take_prefix _ _).isInfix).trans (List.drop_suffix _ _).isInfix
theorem occB_no {s t : ByteArray} (h : ∀ i, i + s.size ≤ t.size → occB s t i = false) : Lib.contains (sb t) (sb s) = false := by
  cases hc : Lib.contains (sb t) (sb s) with
  | false => rfl
  | true =>
    obtain ⟨a, b, e⟩ := (contains_iff _ _).1 hc
    have hl := congrArg List.length e
    simp only [List.length_append, sb_size] at hl
    have := h a.length (by omega)
    rw [(occB_iff s t a.length).2 (by rw [← e, List.append_assoc, List.drop_left, ← sb_size s, List.take_left])] at this
    cases this
set_option maxRecDepth 100000 in
set_option maxHeartbeats 4000000 in
theorem occurs_any (s t : ByteArray) (w : World) (hs : s.size ≤ 1000) (ht : t.size ≤ 1000000) :
    Calls Try.prog 88 #[.string s, .string t] w fun e w' => e = .returned (.bool (Lib.contains (sb t) (sb s))) ∧ w = w' := by
  obtain ⟨A, hA⟩ : ∃ A, A = s.size := ⟨_, rfl⟩
  obtain ⟨B, hB⟩ : ∃ B, B = t.size := ⟨_, rfl⟩
  obtain ⟨R, hR⟩ : ∃ R, R = Lib.contains (sb t) (sb s) := ⟨_, rfl⟩
  have hY : Hid (∀ i, occB s t i = true → R = true) := Lib.hid fun i h => hR.trans (occB_yes h)
  have hN : Hid ((∀ i, i + A ≤ B → occB s t i = false) → R = false) := Lib.hid fun h => hR.trans (occB_no (by rw [← hA, ← hB]; exact h))
  have hO : Hid (∀ i, occB s t i = ((t.extract i (i + A)).toList == s.toList)) := Lib.hid fun i => by unfold occB; rw [← hA]
  rw [← hR]
  rw [← hA] at hs
  rw [← hB] at ht
  have hsA : s.size = A := hA.symm
  have htB : t.size = B := hB.symm
  clear hA hB hR
  go_enter Try.func88, Try.ntmps88
  go_wp2_with fail
  go_loopw [5] (fun i wr => ∃ k : Nat, k ≤ B + 1 ∧ i = .int .i64 k ∧ Hid (∀ j, j < k → j + A ≤ B → occB s t j = false) ∧ w = wr) (fun i _ => B + 1 - (intOf i).toNat)
  case atStart => exact ⟨0, Nat.zero_le _, rfl, Lib.hid (fun j h => by omega), rfl⟩
  case round =>
    obtain ⟨k, hk, rfl, HL, rfl⟩ := hrel
    by_cases hlt : k + A ≤ B
    · have h1 : (k : Int) + (A : Int) ≤ (B : Int) := by omega
      have h2 : (k : Int) ≤ (k : Int) + (A : Int) := by omega
      have h3 : (0 : Int) ≤ (k : Int) := Int.natCast_nonneg k
      have hOk := hO.out k
      cases hoc : occB s t k with
      | true =>
        rw [hoc] at hOk
        have hOk' := hOk.symm
        have e := Lib.hid (hY.out k hoc)
        clear hOk hoc
        go_wp2_with fail
        go_ret
        exact ⟨by rw [e.out]; rfl, rfl⟩
      | false =>
        rw [hoc] at hOk
        have hOk' := hOk.symm
        have HL2 : Hid (∀ j, j < k + 1 → j + A ≤ B → occB s t j = false) := Lib.hid fun j h h' => by
          rcases Nat.lt_or_ge j k with h1 | h1
          · exact HL.out j h1 h'
          · obtain rfl : j = k := by omega
            exact hoc
        clear hOk hoc
        go_wp2_with fail
        go_roundw
        case rel => exact ⟨k + 1, by omega, by go_num, HL2, trivial⟩
        case measure => simp [intOf]; omega
    · have h1 : ¬ (k : Int) + (A : Int) ≤ (B : Int) := by omega
      have h1' : (B : Int) < (k : Int) + (A : Int) := by omega
      have e := Lib.hid (hN.out fun i hi => HL.out i (by omega) hi)
      go_wp2_with fail
      go_ret
      exact ⟨by rw [e.out]; rfl, rfl⟩
theorem okL_false {set : List ByteArray} {s : Str} {k : Nat} (hk : k < set.length) (h : Lib.contains s (sb (set.getD k ByteArray.empty)) = true) : okL (pats set) s = false := by
  unfold okL pats
  rw [Bool.not_eq_false', List.any_map, List.any_eq_true]
  rw [List.getD_eq_getElem?_getD, List.getElem?_eq_getElem hk] at h
  exact ⟨set[k], List.getElem_mem hk, h⟩
theorem okL_true {set : List ByteArray} {s : Str} (h : ∀ k, k < set.length → Lib.contains s (sb (set.getD k ByteArray.empty)) = false) : okL (pats set) s = true := by
  unfold okL pats
  rw [Bool.not_eq_true', List.any_map, List.any_eq_false]
  intro x hx
  obtain ⟨k, hk, rfl⟩ := List.mem_iff_getElem.1 hx
  have := h k hk
  rw [List.getD_eq_getElem?_getD, List.getElem?_eq_getElem hk] at this
  simpa using this
set_option maxRecDepth 100000 in
set_option maxHeartbeats 4000000 in
theorem Avoids_any (v : Value) (ss : List ByteArray) (s : ByteArray) (w : World) (hv : StrsAt w v ss) (hz : ∀ p ∈ ss, p.size ≤ 1000) (hl : ss.length ≤ 1000) (hs : s.size ≤ 1000000) :
    Calls Try.prog 70 #[v, .string s] w fun e w' => e = .returned (.bool (okL (pats ss) (sb s))) ∧ w = w' := by
  have OC := Lib.hid fun p W h => occurs_any p s W h hs
  obtain ⟨A, c, rfl, hlc, hcm, hA⟩ := hv
  obtain ⟨N, hN⟩ : ∃ N, N = ss.length := ⟨_, rfl⟩
  obtain ⟨R, hR⟩ : ∃ R, R = okL (pats ss) (sb s) := ⟨_, rfl⟩
  have hF : Hid (∀ k, k < N → Lib.contains (sb s) (sb (ss.getD k ByteArray.empty)) = true → R = false) := Lib.hid fun k hk h => hR.trans (okL_false (by omega) h)
  have hT : Hid ((∀ k, k < N → Lib.contains (sb s) (sb (ss.getD k ByteArray.empty)) = false) → R = true) := Lib.hid fun h => hR.trans (okL_true (by rw [← hN]; exact h))
  have hZ : Hid (∀ k, k < N → (ss.getD k ByteArray.empty).size ≤ 1000) := Lib.hid fun k hk => by
    rw [List.getD_eq_getElem?_getD, List.getElem?_eq_getElem (by omega)]
    exact hz _ (List.getElem_mem _)
  rw [← hR]
  rw [← hN] at hA hl hlc ⊢
  have HA := Lib.hid hA
  clear hA hN hR hz
  go_enter Try.func70, Try.ntmps70
  go_wp2_with fail
  go_loopw [5] (fun i wr => ∃ k : Nat, k ≤ N ∧ i = .int .i64 k ∧ Hid (∀ j, j < k → Lib.contains (sb s) (sb (ss.getD j ByteArray.empty)) = false) ∧ w = wr) (fun i _ => N - (intOf i).toNat)
  case atStart => exact ⟨0, Nat.zero_le _, rfl, Lib.hid (fun j h => by omega), rfl⟩
  case round =>
    obtain ⟨k, hk, rfl, HL, rfl⟩ := hrel
    by_cases hlt : k < N
    · obtain ⟨g, off, rfl, hg, hc⟩ := HA.out (by omega)
      have hc1 := hc k hlt
      have hpz := hZ.out k hlt
      obtain ⟨p, hp⟩ : ∃ p, p = ss.getD k ByteArray.empty := ⟨_, rfl⟩
      have HP := Lib.hid hp
      rw [← hp] at hc1 hpz
      have OCP := Lib.hid fun W => OC.out p W hpz
      clear hc hp
      cases hcc : Lib.contains (sb s) (sb p) with
      | true =>
        rw [hcc] at OCP
        have e := Lib.hid (hF.out k hlt (by rw [← HP.out, hcc]))
        clear hcc
        go_wp2_with fail
        refine (OCP.out _).mono ?_
        rintro e2 w2 ⟨rfl, rfl⟩
        go_wp2_with fail
        go_ret
        exact ⟨by rw [e.out]; rfl, rfl⟩
      | false =>
        rw [hcc] at OCP
        have HL2 : Hid (∀ j, j < k + 1 → Lib.contains (sb s) (sb (ss.getD j ByteArray.empty)) = false) := Lib.hid fun j h => by
          rcases Nat.lt_or_ge j k with h1 | h1
          · exact HL.out j h1
          · obtain rfl : j = k := by omega
            rw [← HP.out, hcc]
        clear hcc
        go_wp2_with fail
        refine (OCP.out _).mono ?_
        rintro e2 w2 ⟨rfl, rfl⟩
        go_wp2_with fail
        go_roundw
        case rel => exact ⟨k + 1, by omega, by go_num, HL2, trivial⟩
        case measure => simp [intOf]; omega
    · have e := Lib.hid (hT.out fun k hk => HL.out k (by omega))
      go_wp2_with fail
      go_ret
      exact ⟨by rw [e.out]; rfl, rfl⟩
/-- find, of a string that is in the list. -/
theorem bs_toList (s : Str) : (bs s).toList = s := by rw [Lib.toList_data]; rfl
set_option maxRecDepth 100000 in
set_option maxHeartbeats 4000000 in
theorem find_any (v : Value) (L : List Str) (s : Str) (w : World) (base : Nat) (hv : w.ownsRow base 9 1 v L.length (encS L)) (hl : L.length ≤ 1000) (hs : s ∈ L) :
    Calls Try.prog 81 #[v, .string (bs s)] w fun e w' => e = .returned (.int .i64 (L.idxOf s)) ∧ w = w' := by
  have hix := List.idxOf_lt_length_of_mem hs
  have hat : Hid (∀ j, ∀ h : j < L.length, j ≤ L.idxOf s → (L[j] = s ↔ j = L.idxOf s)) := Lib.hid fun j h hj => by
    constructor
    · intro e
      rcases Nat.lt_or_eq_of_le hj with h1 | h1
      · exact absurd e (by simpa using List.not_of_lt_findIdx (p := (· == s)) h1)
      · exact h1
    · intro e
      subst e
      exact List.getElem_idxOf hix
  obtain ⟨N, hN⟩ : ∃ N, N = L.length := ⟨_, rfl⟩
  have HN := Lib.hid hN
  have hpos : 0 < N := by omega
  obtain ⟨I, hI⟩ : ∃ I, I = L.idxOf s := ⟨_, rfl⟩
  rw [← hI] at hat hix ⊢
  rw [← hN] at hv hl hix
  obtain ⟨g, c, rfl, hg, hg2⟩ := own_form hv hpos
  have hc : Hid (∀ j, ∀ h : j < L.length, w.cell? ⟨g, j, none⟩ = some (.string (bs L[j]))) := Lib.hid fun j h => by
    rw [hv.cellAt j (by omega)]
    unfold encS
    rw [List.getElem?_map, List.getElem?_eq_getElem h]
    rfl
  clear hv hN hI hs hg
  go_enter Try.func81, Try.ntmps81
  go_wp2_with fail
  go_loopw [5] (fun i wr => ∃ k : Nat, k ≤ I ∧ i = .int .i64 k ∧ w = wr) (fun i _ => I + 1 - (intOf i).toNat)
  case atStart => exact ⟨0, Nat.zero_le _, rfl, rfl⟩
  case round =>
    obtain ⟨k, hk, rfl, rfl⟩ := hrel
    have hkN : k < N := by omega
    have hkL : k < L.length := by have := HN.out; omega
    have hc1 := hc.out k hkL
    have hat1 := hat.out k hkL hk
    obtain ⟨t, ht⟩ : ∃ t, t = L[k] := ⟨_, rfl⟩
    rw [← ht] at hc1 hat1
    clear ht
    by_cases e : k = I
    · have e2 := hat1.2 e
      have e3 : ((bs t).toList == (bs s).toList) = true := by rw [e2]; simp
      have HE := Lib.hid e
      clear e e2 hat1
      go_wp2_with fail
      go_ret
      exact ⟨by rw [← HE.out]; rfl, rfl⟩
    · have e3 : ((bs t).toList == (bs s).toList) = false := by
        rw [bs_toList, bs_toList]
        simp only [beq_eq_false_iff_ne]
        exact fun h => e (hat1.1 h)
      have hk2 : k + 1 ≤ I := by omega
      clear e hat1
      go_wp2_with fail
      go_roundw
      case rel => exact ⟨k + 1, hk2, by go_num, trivial⟩
      case measure => simp [intOf]; omega
end Go.Proofs.Ytpclkocfbkjabaa
