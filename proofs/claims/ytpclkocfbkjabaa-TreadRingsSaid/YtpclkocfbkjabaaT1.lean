/-
  Words and sets of patterns: isWord, isSet, avoids.
-/
import Derived.Test.YtpclkocfbkjabaaA4
import Derived.Test.YtpclkocfbkjabaaShelf
import Derived.WalkKit
import Derived.WalkLawsBesides
import Derived.WalkSpells
import Derived.Deep.QuietTactic
import Derived.BigQuiet
import Derived.Outline
import Derived.IntWalk
namespace Go.Proofs.Ytpclkocfbkjabaa
open Go.RowKit Go.Shelf
set_option linter.unusedVariables false
set_option linter.unusedSimpArgs false

theorem Lib.hid {p : Prop} (h : p) : Hid p := h
theorem ret_bool {a b : Bool} (h : a = b) : Ending.returned (.bool a) = .returned (.bool b) := by rw [h]
theorem bl_refl (w : World) : Below w.heap.size w w := Below.refl _ _
theorem bl_drewN {B : Nat} {a w : World} (h : Below B a w) (n : Nat) : Below B a (w.drewN n) := ⟨h.os, h.tape, h.output, h.size, h.block⟩
theorem bl_alloc {a w : World} (h : Below a.heap.size a w) (o : Obj) : Below a.heap.size a (w.alloc o) := h.alloc h.size o
/-- One step more: what a callee, which left all that lay in w1, has made of w1. -/
theorem bl_then {a w w' : World} (h : Below a.heap.size a w) (h' : Below w.heap.size w w') : Below a.heap.size a w' := h.trans (h'.mono h.size)
/-- The library's one variable holds some number. -/
def HasG (w : World) : Prop := 0 < w.heap.size ∧ ∃ m : Int, w.cell? ⟨0, 0, none⟩ = some (.int .i64 m)
theorem HasG.kept {w w' : World} (h : HasG w) (hb : Below w.heap.size w w') : HasG w' := by
  obtain ⟨h0, m, hm⟩ := h
  exact ⟨Nat.lt_of_lt_of_le h0 hb.size, m, (hb.cell (p := ⟨0, 0, none⟩) h0).trans hm⟩
/-- A slice that reads as a list of strings. -/
def StrsAt (w : World) (v : Value) (ss : List ByteArray) : Prop := ∃ A c, v = .slice A ss.length c ∧ ss.length ≤ c ∧ c ≤ 9223372036854775807 ∧
  (0 < ss.length → ∃ g off, A = some ⟨g, off, none⟩ ∧ g < w.heap.size ∧ ∀ i, i < ss.length → w.cell? ⟨g, off + i, none⟩ = some (.string (ss.getD i ByteArray.empty)))
theorem StrsAt.kept {w w' : World} {v : Value} {ss : List ByteArray} (h : StrsAt w v ss) (hb : Below w.heap.size w w') : StrsAt w' v ss := by
  obtain ⟨A, c, e, h1, h2, h3⟩ := h
  refine ⟨A, c, e, h1, h2, fun h0 => ?_⟩
  obtain ⟨g, off, ea, hg, hc⟩ := h3 h0
  exact ⟨g, off, ea, Nat.lt_of_lt_of_le hg hb.size, fun i hi => (hb.cell (p := ⟨g, off + i, none⟩) hg).trans (hc i hi)⟩
theorem StrsAt.nil (w : World) : StrsAt w (.slice none 0 0) [] := ⟨none, 0, rfl, Nat.le_refl _, by omega, fun h => absurd h (by simp)⟩

theorem within_any (n lo hi : Int) (w : World) :
    Calls Try.prog 55 #[.int .i64 n, .int .i64 lo, .int .i64 hi] w fun e w' => e = .returned (.bool (decide (lo ≤ n) && decide (n ≤ hi))) ∧ w = w' := by
  by_cases h1 : lo ≤ n
  · by_cases h2 : n ≤ hi
    · go_enter Try.func55, Try.ntmps55
      go_wp2
      go_ret
      exact ⟨ret_bool (by simp [h1, h2]), rfl⟩
    · go_enter Try.func55, Try.ntmps55
      go_wp2
      go_ret
      exact ⟨ret_bool (by simp [h1, h2] <;> omega), rfl⟩
  · go_enter Try.func55, Try.ntmps55
    go_wp2
    go_ret
    exact ⟨ret_bool (by simp <;> omega), rfl⟩

theorem rune_pred (q B : Nat) (hq : q ≤ 3) (w : World) (hB : B < w.heap.size) (hc : w.cell? ⟨B, 0, none⟩ = some (.int .i64 q)) :
    PredAtRunes Try.prog 87 #[.pointer (some ⟨B, 0, none⟩)] (badR q) w := by
  intro W x hx hb
  unfold FnGives
  have hc' : W.cell? ⟨B, 0, none⟩ = some (.int .i64 q) := (hb.cell (p := ⟨B, 0, none⟩) hB).trans hc
  clear hc hb
  by_cases h1 : x < 97
  · have e : badR q x = true := by unfold badR; simp [h1]
    rw [e]
    clear e
    have h1' : (x : Int) < 97 := by omega
    go_enter Try.func87, Try.ntmps87
    go_wp2
    go_ret
    exact ⟨rfl, 0, rfl⟩
  · have h1' : (97 : Int) ≤ x := by omega
    by_cases h2 : 97 + q ≤ x
    · have e : badR q x = true := by unfold badR; simp [h2]
      rw [e]
      clear e
      go_enter Try.func87, Try.ntmps87
      go_wp2
      go_ret
      exact ⟨ret_bool (by simp; omega), 0, rfl⟩
    · have e : badR q x = false := by unfold badR; simp; omega
      rw [e]
      clear e
      go_enter Try.func87, Try.ntmps87
      go_wp2
      go_ret
      exact ⟨ret_bool (by simp; omega), 0, rfl⟩
theorem isWord_any (q : Nat) (hq : q ≤ 3) (s : ByteArray) (w : World) :
    Calls Try.prog 64 #[.int .i64 q, .string s] w fun e w' => e = .returned (.bool (lettB q (sb s))) ∧ Below w.heap.size w w' := by
  have C := Lib.hid fun B W h1 h2 => Try.strings_ContainsFunc_runes 87 #[.pointer (some ⟨B, 0, none⟩)] (enters_of Try.func87 (by kernel_rfl) rfl) (badR q) s W (rune_pred q B hq W h1 h2)
  rw [idx_letters hq] at C
  go_enter Try.func64, Try.ntmps64
  go_wp2_with fail
  refine (C.out w.heap.size _ (by simp) (by simp)).mono ?_
  rintro e w1 ⟨rfl, hb⟩
  have hB := bl_then (bl_alloc (bl_refl w) _) hb
  clear hb
  go_wp2_with fail
  go_ret
  exact ⟨ret_bool (by simp), hB⟩
theorem len_words (ss : List ByteArray) : 0 ≤ (ss.length : Int) := by omega
theorem isSet_any (q : Int) (v : Value) (ss : List ByteArray) (w : World) (hv : StrsAt w v ss) :
    Calls Try.prog 45 #[.int .i64 q, v] w fun e w' => e = .returned (.bool (setB q ss)) ∧ Below w.heap.size w w' := by
  have K := Lib.hid fun n lo hi W => within_any n lo hi W
  have IW := Lib.hid fun (q : Nat) (hq : q ≤ 3) s W => isWord_any q hq s W
  obtain ⟨A, c, rfl, hlc, hcm, hA⟩ := hv
  by_cases hq : 1 ≤ q ∧ q ≤ 3
  · obtain ⟨p, rfl⟩ : ∃ p : Nat, q = p := ⟨q.toNat, by omega⟩
    have HQ := Lib.hid hq
    have K1 : Hid (∀ W, Calls Try.prog 55 #[.int .i64 (p : Int), .int .i64 1, .int .i64 3] W fun e w' => e = .returned (.bool true) ∧ W = w') := fun W => by
      have := K.out p 1 3 W
      rw [show (decide ((1 : Int) ≤ p) && decide ((p : Int) ≤ 3)) = true by simp; omega] at this
      exact this
    have IW1 := Lib.hid fun s W => IW.out p (by omega) s W
    by_cases hl : ss.length ≤ 12
    · obtain ⟨N, hN⟩ : ∃ N, N = ss.length := ⟨_, rfl⟩
      have HN := Lib.hid hN
      obtain ⟨R, hR⟩ : ∃ R, R = setB p ss := ⟨_, rfl⟩
      have HR := Lib.hid hR
      rw [← hR]
      rw [← hN] at hl hlc hA ⊢
      have HA := Lib.hid hA
      have HB := Lib.hid (bl_refl w)
      have KK := K
      clear hN hR hA hq IW K
      go_enter Try.func45, Try.ntmps45
      go_wp2_with fail
      refine (K1.out _).mono ?_
      rintro e w1 ⟨rfl, rfl⟩
      go_wp2_with fail
      go_loopw [17] (fun i wr => ∃ k : Nat, k ≤ N ∧ i = .int .i64 k ∧ Hid (∀ j, j < k → goodB p ss j = true) ∧ Hid (Below w.heap.size w wr)) (fun i _ => N - (intOf i).toNat)
      case atStart => exact ⟨0, Nat.zero_le _, rfl, fun j h => absurd h (Nat.not_lt_zero _), HB⟩
      case round =>
        obtain ⟨k, hk, rfl, HG, Hb⟩ := hrel
        by_cases hlt : k < N
        · obtain ⟨g, off, rfl, hg, hc⟩ := HA.out (by omega)
          have hg' : g < wr.heap.size := Nat.lt_of_lt_of_le hg Hb.out.size
          have hk0 : wr.cell? ⟨g, off + k, none⟩ = some (.string (ss.getD k ByteArray.empty)) := (Hb.out.cell (p := ⟨g, off + k, none⟩) hg).trans (hc k hlt)
          have hkl : k < ss.length := by have := HN.out; omega
          have NO : Hid (goodB p ss k = false → R = false) := fun h => HR.out.trans (setB_no hkl h)
          obtain ⟨s, hs⟩ : ∃ s, s = ss.getD k ByteArray.empty := ⟨_, rfl⟩
          have HS := Lib.hid hs
          rw [← hs] at hk0
          clear hs hkl
          by_cases hsz : 1 ≤ s.size ∧ s.size ≤ 5
          · have K2 : Hid (∀ W, Calls Try.prog 55 #[.int .i64 (s.size : Int), .int .i64 1, .int .i64 5] W fun e w' => e = .returned (.bool true) ∧ W = w') := fun W => by
              have := KK.out s.size 1 5 W
              rw [show (decide ((1 : Int) ≤ s.size) && decide ((s.size : Int) ≤ 5)) = true by simp; omega] at this
              exact this
            have HZ := Lib.hid hsz
            clear hsz
            cases hl : lettB p (sb s) with
            | false =>
              have e := Lib.hid (NO.out (by unfold goodB; rw [← HS.out, hl]; simp))
              have W1 : Hid (∀ W, Calls Try.prog 64 #[.int .i64 (p : Int), .string s] W fun e w' => e = .returned (.bool false) ∧ Below W.heap.size W w') := fun W => by
                have := IW1.out s W
                rw [hl] at this
                exact this
              clear hl hc
              go_wp2_with fail
              refine (K2.out _).mono ?_
              rintro e w2 ⟨rfl, rfl⟩
              go_wp2_with fail
              refine (W1.out _).mono ?_
              rintro e w2 ⟨rfl, hb2⟩
              go_wp2_with fail
              go_ret
              exact ⟨ret_bool e.out.symm, bl_then Hb.out hb2⟩
            | true =>
              have W1 : Hid (∀ W, Calls Try.prog 64 #[.int .i64 (p : Int), .string s] W fun e w' => e = .returned (.bool true) ∧ Below W.heap.size W w') := fun W => by
                have := IW1.out s W
                rw [hl] at this
                exact this
              have HL := Lib.hid hl
              clear hl
              by_cases hk1 : k = 0
              · have HG2 : Hid (∀ j, j < k + 1 → goodB p ss j = true) := by
                  intro j hj
                  obtain rfl : j = k := by omega
                  unfold goodB
                  rw [← HS.out, HL.out]
                  simp [hk1, HZ.out.1, HZ.out.2]
                subst hk1
                rw [Nat.add_zero] at hk0
                clear hc
                go_wp2_with fail
                refine (K2.out _).mono ?_
                rintro e w2 ⟨rfl, rfl⟩
                go_wp2_with fail
                refine (W1.out _).mono ?_
                rintro e w2 ⟨rfl, hb2⟩
                have HB2 := Lib.hid (bl_then Hb.out hb2)
                clear hb2
                go_wp2_with fail
                go_roundw
                case rel => exact ⟨1, by omega, rfl, HG2, HB2⟩
                case measure => simp [intOf]; omega
              · obtain ⟨m, rfl⟩ : ∃ m, k = m + 1 := ⟨k - 1, by omega⟩
                have hm0 : wr.cell? ⟨g, off + m, none⟩ = some (.string (ss.getD m ByteArray.empty)) := (Hb.out.cell (p := ⟨g, off + m, none⟩) hg).trans (hc m (by omega))
                obtain ⟨t, ht⟩ : ∃ t, t = ss.getD m ByteArray.empty := ⟨_, rfl⟩
                have HT := Lib.hid ht
                rw [← ht] at hm0
                clear ht hk1 hc
                cases hbl : Op.bytesLess t.toList s.toList with
                | false =>
                  have e := Lib.hid (NO.out (by unfold goodB; rw [← HS.out, show m + 1 - 1 = m from rfl, ← HT.out, hbl]; simp))
                  go_wp2_with fail
                  refine (K2.out _).mono ?_
                  rintro e w2 ⟨rfl, rfl⟩
                  go_wp2_with fail
                  refine (W1.out _).mono ?_
                  rintro e w2 ⟨rfl, hb2⟩
                  have hm2 := (hb2.cell (p := ⟨g, off + m, none⟩) hg').trans hm0
                  go_wp2_with fail
                  go_ret
                  exact ⟨ret_bool e.out.symm, bl_then Hb.out hb2⟩
                | true =>
                  have HG2 : Hid (∀ j, j < m + 1 + 1 → goodB p ss j = true) := by
                    intro j hj
                    rcases Nat.lt_or_ge j (m + 1) with h | h
                    · exact HG.out j h
                    · obtain rfl : j = m + 1 := by omega
                      unfold goodB
                      rw [← HS.out, HL.out, show m + 1 - 1 = m from rfl, ← HT.out, hbl]
                      simp [HZ.out.1, HZ.out.2]
                  go_wp2_with fail
                  refine (K2.out _).mono ?_
                  rintro e w2 ⟨rfl, rfl⟩
                  go_wp2_with fail
                  refine (W1.out _).mono ?_
                  rintro e w2 ⟨rfl, hb2⟩
                  have hm2 := (hb2.cell (p := ⟨g, off + m, none⟩) hg').trans hm0
                  have HB2 := Lib.hid (bl_then Hb.out hb2)
                  clear hb2 hm0 hk0
                  go_wp2_with fail
                  go_roundw
                  case rel => exact ⟨m + 1 + 1, by omega, by go_num, HG2, HB2⟩
                  case measure => simp [intOf]; omega
          · have e := Lib.hid (NO.out (by unfold goodB; rw [← HS.out]; simp; omega))
            have K2 : Hid (∀ W, Calls Try.prog 55 #[.int .i64 (s.size : Int), .int .i64 1, .int .i64 5] W fun e w' => e = .returned (.bool false) ∧ W = w') := fun W => by
              have := KK.out s.size 1 5 W
              rw [show (decide ((1 : Int) ≤ s.size) && decide ((s.size : Int) ≤ 5)) = false by simp; omega] at this
              exact this
            clear hsz hc
            go_wp2_with fail
            refine (K2.out _).mono ?_
            rintro e w2 ⟨rfl, rfl⟩
            go_wp2_with fail
            go_ret
            exact ⟨ret_bool e.out.symm, Hb.out⟩
        · have ek : k = N := by omega
          have e : Hid (R = true) := by
            show _ = _
            rw [HR.out]
            exact setB_yes HQ.out.1 HQ.out.2 (by have := HN.out; omega) (fun j hj => HG.out j (by have := HN.out; omega))
          clear ek
          go_wp2_with fail
          go_ret
          exact ⟨ret_bool e.out.symm, Hb.out⟩
    · have e : setB p ss = false := by unfold setB; simp; omega
      rw [e]
      clear e IW IW1 hA K HQ hq
      go_enter Try.func45, Try.ntmps45
      go_wp2_with fail
      refine (K1.out _).mono ?_
      rintro e w1 ⟨rfl, rfl⟩
      go_wp2_with fail
      go_ret
      exact ⟨rfl, bl_refl _⟩
  · have e : setB q ss = false := by unfold setB; simp; omega
    rw [e]
    clear e IW hA
    have K1 : Hid (∀ W, Calls Try.prog 55 #[.int .i64 q, .int .i64 1, .int .i64 3] W fun e w' => e = .returned (.bool false) ∧ W = w') := fun W => by
      have := K.out q 1 3 W
      rw [show (decide (1 ≤ q) && decide (q ≤ 3)) = false by simp; omega] at this
      exact this
    clear K hq
    go_enter Try.func45, Try.ntmps45
    go_wp2_with fail
    refine (K1.out _).mono ?_
    rintro e w1 ⟨rfl, rfl⟩
    go_wp2_with fail
    go_ret
    exact ⟨rfl, bl_refl _⟩
theorem avoid_pred (s : ByteArray) (hs : s.size < 4294967281) (B : Nat) (w : World) (hG : HasG w) (hB : B < w.heap.size) (hc : w.cell? ⟨B, 0, none⟩ = some (.string s)) :
    PredAt Try.prog 94 #[.pointer (some ⟨B, 0, none⟩)] Value.string (fun p => Lib.contains (sb s) (sb p)) w := by
  intro W p hb
  unfold FnGives
  have hc' : W.cell? ⟨B, 0, none⟩ = some (.string s) := (hb.cell (p := ⟨B, 0, none⟩) hB).trans hc
  obtain ⟨_, m, hm⟩ := hG.kept hb
  have C := Lib.hid (Try.strings_Contains s p m W hs hm)
  clear hc hm
  go_enter Try.func94, Try.ntmps94
  go_wp2_with fail
  refine C.out.mono ?_
  rintro e w1 ⟨rfl, rfl⟩
  go_wp2_with fail
  go_ret
  exact ⟨rfl, 0, rfl⟩
theorem any_pats (s : ByteArray) (ss : List ByteArray) : (ss.take ss.length).any (fun p => Lib.contains (sb s) (sb p)) = !okL (pats ss) (sb s) := by
  unfold okL pats
  rw [List.take_length, List.any_map, Bool.not_not]
  rfl
theorem avoids_any (v : Value) (ss : List ByteArray) (s : ByteArray) (w : World) (hv : StrsAt w v ss) (hs : s.size < 4294967281) (hG : HasG w) :
    Calls Try.prog 78 #[v, .string s] w fun e w' => e = .returned (.bool (okL (pats ss) (sb s))) ∧ Below w.heap.size w w' := by
  obtain ⟨A, c, rfl, hlc, hcm, hA⟩ := hv
  by_cases h0 : ss.length = 0
  · have e1 : ss = [] := List.eq_nil_of_length_eq_zero h0
    subst e1
    have C := Lib.hid fun W fv => AnyE.slices_ContainsFunc_empty Try.laysCF A c fv W
    rw [show okL (pats []) (sb s) = true from rfl]
    clear hA h0
    simp only [List.length_nil]
    go_enter Try.func78, Try.ntmps78
    go_wp2_with fail
    refine (C.out _ _).mono ?_
    rintro e w1 ⟨rfl, rfl⟩
    go_wp2_with fail
    go_ret
    exact ⟨rfl, bl_alloc (bl_refl w) _⟩
  · obtain ⟨g, off, rfl, hg, hc⟩ := hA (by omega)
    obtain ⟨W0, hW0⟩ : ∃ W0, W0 = w.alloc (.cells #[.string s] 9) := ⟨_, rfl⟩
    have hb0 : Below w.heap.size w W0 := by rw [hW0]; exact bl_alloc (bl_refl w) _
    have C := Lib.hid (AnyE.slices_ContainsFunc Try.laysCF Value.string (fun p => Lib.contains (sb s) (sb p)) 94 #[.pointer (some ⟨w.heap.size, 0, none⟩)] (enters_of Try.func94 (by kernel_rfl) rfl) g off ss.length c ss W0
      (avoid_pred s hs w.heap.size W0 (hG.kept hb0) (by rw [hW0]; simp) (by rw [hW0]; simp)) (Nat.le_refl _) (by omega) (fun j hj => by
        rw [(hb0.cell (p := ⟨g, off + j, none⟩) hg), hc j hj, getElem!_pos ss j hj, List.getD_eq_getElem?_getD, List.getElem?_eq_getElem hj]; rfl))
    rw [any_pats, hW0] at C
    obtain ⟨N, hN⟩ : ∃ N, N = ss.length := ⟨_, rfl⟩
    rw [← hN] at C ⊢
    clear hc hA h0 hlc hW0 hb0 hN
    generalize okL (pats ss) (sb s) = r at *
    go_enter Try.func78, Try.ntmps78
    go_wp2_with fail
    refine C.out.mono ?_
    rintro e w1 ⟨rfl, nq, rfl⟩
    have hB := bl_drewN (bl_alloc (bl_refl w) (.cells #[.string s] 9)) nq
    go_wp2_with fail
    go_ret
    exact ⟨ret_bool (by simp), hB⟩
end Go.Proofs.Ytpclkocfbkjabaa
