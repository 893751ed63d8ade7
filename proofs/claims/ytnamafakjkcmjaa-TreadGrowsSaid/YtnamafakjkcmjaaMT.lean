/-
  Several texts in one: XT1, XT2, XT3.
-/
import Derived.Test.YtnamafakjkcmjaaMA
import Derived.Test.YtnamafakjkcmjaaShelf
import Derived.WalkKit
import Derived.WalkLawsBesides
import Derived.WalkSpells
import Derived.Deep.QuietTactic
import Derived.BigQuiet
import Derived.Outline
import Derived.IntWalk
import Derived.Maps.OwnSet
import Derived.Maps.OwnOps
import Derived.Lib.OthersKept
import Derived.Maps.AppendAt
set_option linter.unusedVariables false
set_option linter.unusedSimpArgs false
namespace Go.Proofs.Ytnamafakjkcmjaa
open Go.RowKit Go.Shelf
set_option linter.unusedVariables false
set_option linter.unusedSimpArgs false

theorem Lib.hid {p : Prop} (h : p) : Hid p := h
theorem ret_bool {a b : Bool} (h : a = b) : Ending.returned (.bool a) = .returned (.bool b) := by rw [h]
theorem bl_refl (w : World) : Below w.heap.size w w := Below.refl _ _
theorem bl_drewN {B : Nat} {a w : World} (h : Below B a w) (n : Nat) : Below B a (w.drewN n) := ⟨h.os, h.tape, h.output, h.size, h.block⟩
theorem bl_alloc {a w : World} (h : Below a.heap.size a w) (o : Obj) : Below a.heap.size a (w.alloc o) := h.alloc h.size o
/-- One step more: what a callee, which left all that lay in w1, has made of w1. -/
theorem bl_then {a w w' : World} (h : Below a.heap.size a w) (h' : Below w.heap.size w w') : Below a.heap.size a w' := h.trans (h'.mono h.size)
/-- The library's one variable holds some number. -/
def HasG (w : World) : Prop := 0 < w.heap.size ∧ ∃ m : Int, w.cell? ⟨0, 0, none⟩ = some (.int .i64 m)
theorem HasG.kept {w w' : World} (h : HasG w) (hb : Below w.heap.size w w') : HasG w' := by
  obtain ⟨h0, m, hm⟩ := h
  exact ⟨Nat.lt_of_lt_of_le h0 hb.size, m, (hb.cell (p := ⟨0, 0, none⟩) h0).trans hm⟩
/-- A slice that reads as a list of strings. -/
def StrsAt (w : World) (v : Value) (ss : List ByteArray) : Prop := ∃ A c, v = .slice A ss.length c ∧ ss.length ≤ c ∧ c ≤ 9223372036854775807 ∧
  (0 < ss.length → ∃ g off, A = some ⟨g, off, none⟩ ∧ g < w.heap.size ∧ ∀ i, i < ss.length → w.cell? ⟨g, off + i, none⟩ = some (.string (ss.getD i ByteArray.empty)))
theorem StrsAt.kept {w w' : World} {v : Value} {ss : List ByteArray} (h : StrsAt w v ss) (hb : Below w.heap.size w w') : StrsAt w' v ss := by
  obtain ⟨A, c, e, h1, h2, h3⟩ := h
  refine ⟨A, c, e, h1, h2, fun h0 => ?_⟩
  obtain ⟨g, off, ea, hg, hc⟩ := h3 h0
  exact ⟨g, off, ea, Nat.lt_of_lt_of_le hg hb.size, fun i hi => (hb.cell (p := ⟨g, off + i, none⟩) hg).trans (hc i hi)⟩
theorem StrsAt.nil (w : World) : StrsAt w (.slice none 0 0) [] := ⟨none, 0, rfl, Nat.le_refl _, by omega, fun h => absurd h (by simp)⟩

theorem within_any (n lo hi : Int) (w : World) :
    Calls Try.prog 44 #[.int .i64 n, .int .i64 lo, .int .i64 hi] w fun e w' => e = .returned (.bool (decide (lo ≤ n) && decide (n ≤ hi))) ∧ w = w' := by
  by_cases h1 : lo ≤ n
  · by_cases h2 : n ≤ hi
    · go_enter Try.func44, Try.ntmps44
      go_wp2
      go_ret
      exact ⟨ret_bool (by simp [h1, h2]), rfl⟩
    · go_enter Try.func44, Try.ntmps44
      go_wp2
      go_ret
      exact ⟨ret_bool (by simp [h1, h2] <;> omega), rfl⟩
  · go_enter Try.func44, Try.ntmps44
    go_wp2
    go_ret
    exact ⟨ret_bool (by simp <;> omega), rfl⟩

theorem rune_pred (q B : Nat) (hq : q ≤ 3) (w : World) (hB : B < w.heap.size) (hc : w.cell? ⟨B, 0, none⟩ = some (.int .i64 q)) :
    PredAtRunes Try.prog 59 #[.pointer (some ⟨B, 0, none⟩)] (badR q) w := by
  intro W x hx hb
  unfold FnGives
  have hc' : W.cell? ⟨B, 0, none⟩ = some (.int .i64 q) := (hb.cell (p := ⟨B, 0, none⟩) hB).trans hc
  clear hc hb
  by_cases h1 : x < 97
  · have e : badR q x = true := by unfold badR; simp [h1]
    rw [e]
    clear e
    have h1' : (x : Int) < 97 := by omega
    go_enter Try.func59, Try.ntmps59
    go_wp2
    go_ret
    exact ⟨rfl, 0, rfl⟩
  · have h1' : (97 : Int) ≤ x := by omega
    by_cases h2 : 97 + q ≤ x
    · have e : badR q x = true := by unfold badR; simp [h2]
      rw [e]
      clear e
      go_enter Try.func59, Try.ntmps59
      go_wp2
      go_ret
      exact ⟨ret_bool (by simp; omega), 0, rfl⟩
    · have e : badR q x = false := by unfold badR; simp; omega
      rw [e]
      clear e
      go_enter Try.func59, Try.ntmps59
      go_wp2
      go_ret
      exact ⟨ret_bool (by simp; omega), 0, rfl⟩
theorem isWord_any (q : Nat) (hq : q ≤ 3) (s : ByteArray) (w : World) :
    Calls Try.prog 39 #[.int .i64 q, .string s] w fun e w' => e = .returned (.bool (lettB q (sb s))) ∧ Below w.heap.size w w' := by
  have C := Lib.hid fun B W h1 h2 => Try.strings_ContainsFunc_runes 59 #[.pointer (some ⟨B, 0, none⟩)] (enters_of Try.func59 (by kernel_rfl) rfl) (badR q) s W (rune_pred q B hq W h1 h2)
  rw [idx_letters hq] at C
  go_enter Try.func39, Try.ntmps39
  go_wp2_with fail
  refine (C.out w.heap.size _ (by simp) (by simp)).mono ?_
  rintro e w1 ⟨rfl, hb⟩
  have hB := bl_then (bl_alloc (bl_refl w) _) hb
  clear hb
  go_wp2_with fail
  go_ret
  exact ⟨ret_bool (by simp), hB⟩
theorem len_words (ss : List ByteArray) : 0 ≤ (ss.length : Int) := by omega
theorem isSet_any (q : Int) (v : Value) (ss : List ByteArray) (w : World) (hv : StrsAt w v ss) :
    Calls Try.prog 32 #[.int .i64 q, v] w fun e w' => e = .returned (.bool (setB q ss)) ∧ Below w.heap.size w w' := by
  have K := Lib.hid fun n lo hi W => within_any n lo hi W
  have IW := Lib.hid fun (q : Nat) (hq : q ≤ 3) s W => isWord_any q hq s W
  obtain ⟨A, c, rfl, hlc, hcm, hA⟩ := hv
  by_cases hq : 1 ≤ q ∧ q ≤ 3
  · obtain ⟨p, rfl⟩ : ∃ p : Nat, q = p := ⟨q.toNat, by omega⟩
    have HQ := Lib.hid hq
    have K1 : Hid (∀ W, Calls Try.prog 44 #[.int .i64 (p : Int), .int .i64 1, .int .i64 3] W fun e w' => e = .returned (.bool true) ∧ W = w') := fun W => by
      have := K.out p 1 3 W
      rw [show (decide ((1 : Int) ≤ p) && decide ((p : Int) ≤ 3)) = true by simp; omega] at this
      exact this
    have IW1 := Lib.hid fun s W => IW.out p (by omega) s W
    by_cases hl : ss.length ≤ 12
    · obtain ⟨N, hN⟩ : ∃ N, N = ss.length := ⟨_, rfl⟩
      have HN := Lib.hid hN
      obtain ⟨R, hR⟩ : ∃ R, R = setB p ss := ⟨_, rfl⟩
      have HR := Lib.hid hR
      rw [← hR]
      rw [← hN] at hl hlc hA ⊢
      have HA := Lib.hid hA
      have HB := Lib.hid (bl_refl w)
      have KK := K
      clear hN hR hA hq IW K
      go_enter Try.func32, Try.ntmps32
      go_wp2_with fail
      refine (K1.out _).mono ?_
      rintro e w1 ⟨rfl, rfl⟩
      go_wp2_with fail
      go_loopw [17] (fun i wr => ∃ k : Nat, k ≤ N ∧ i = .int .i64 k ∧ Hid (∀ j, j < k → goodB p ss j = true) ∧ Hid (Below w.heap.size w wr)) (fun i _ => N - (intOf i).toNat)
      case atStart => exact ⟨0, Nat.zero_le _, rfl, fun j h => absurd h (Nat.not_lt_zero _), HB⟩
      case round =>
        obtain ⟨k, hk, rfl, HG, Hb⟩ := hrel
        by_cases hlt : k < N
        · obtain ⟨g, off, rfl, hg, hc⟩ := HA.out (by omega)
          have hg' : g < wr.heap.size := Nat.lt_of_lt_of_le hg Hb.out.size
          have hk0 : wr.cell? ⟨g, off + k, none⟩ = some (.string (ss.getD k ByteArray.empty)) := (Hb.out.cell (p := ⟨g, off + k, none⟩) hg).trans (hc k hlt)
          have hkl : k < ss.length := by have := HN.out; omega
          have NO : Hid (goodB p ss k = false → R = false) := fun h => HR.out.trans (setB_no hkl h)
          obtain ⟨s, hs⟩ : ∃ s, s = ss.getD k ByteArray.empty := ⟨_, rfl⟩
          have HS := Lib.hid hs
          rw [← hs] at hk0
          clear hs hkl
          by_cases hsz : 1 ≤ s.size ∧ s.size ≤ 5
          · have K2 : Hid (∀ W, Calls Try.prog 44 #[.int .i64 (s.size : Int), .int .i64 1, .int .i64 5] W fun e w' => e = .returned (.bool true) ∧ W = w') := fun W => by
              have := KK.out s.size 1 5 W
              rw [show (decide ((1 : Int) ≤ s.size) && decide ((s.size : Int) ≤ 5)) = true by simp; omega] at this
              exact this
            have HZ := Lib.hid hsz
            clear hsz
            cases hl : lettB p (sb s) with
            | false =>
              have e := Lib.hid (NO.out (by unfold goodB; rw [← HS.out, hl]; simp))
              have W1 : Hid (∀ W, Calls Try.prog 39 #[.int .i64 (p : Int), .string s] W fun e w' => e = .returned (.bool false) ∧ Below W.heap.size W w') := fun W => by
                have := IW1.out s W
                rw [hl] at this
                exact this
              clear hl hc
              go_wp2_with fail
              refine (K2.out _).mono ?_
              rintro e w2 ⟨rfl, rfl⟩
              go_wp2_with fail
              refine (W1.out _).mono ?_
              rintro e w2 ⟨rfl, hb2⟩
              go_wp2_with fail
              go_ret
              exact ⟨ret_bool e.out.symm, bl_then Hb.out hb2⟩
            | true =>
              have W1 : Hid (∀ W, Calls Try.prog 39 #[.int .i64 (p : Int), .string s] W fun e w' => e = .returned (.bool true) ∧ Below W.heap.size W w') := fun W => by
                have := IW1.out s W
                rw [hl] at this
                exact this
              have HL := Lib.hid hl
              clear hl
              by_cases hk1 : k = 0
              · have HG2 : Hid (∀ j, j < k + 1 → goodB p ss j = true) := by
                  intro j hj
                  obtain rfl : j = k := by omega
                  unfold goodB
                  rw [← HS.out, HL.out]
                  simp [hk1, HZ.out.1, HZ.out.2]
                subst hk1
                rw [Nat.add_zero] at hk0
                clear hc
                go_wp2_with fail
                refine (K2.out _).mono ?_
                rintro e w2 ⟨rfl, rfl⟩
                go_wp2_with fail
                refine (W1.out _).mono ?_
                rintro e w2 ⟨rfl, hb2⟩
                have HB2 := Lib.hid (bl_then Hb.out hb2)
                clear hb2
                go_wp2_with fail
                go_roundw
                case rel => exact ⟨1, by omega, rfl, HG2, HB2⟩
                case measure => simp [intOf]; omega
              · obtain ⟨m, rfl⟩ : ∃ m, k = m + 1 := ⟨k - 1, by omega⟩
                have hm0 : wr.cell? ⟨g, off + m, none⟩ = some (.string (ss.getD m ByteArray.empty)) := (Hb.out.cell (p := ⟨g, off + m, none⟩) hg).trans (hc m (by omega))
                obtain ⟨t, ht⟩ : ∃ t, t = ss.getD m ByteArray.empty := ⟨_, rfl⟩
                have HT := Lib.hid ht
                rw [← ht] at hm0
                clear ht hk1 hc
                cases hbl : Op.bytesLess t.toList s.toList with
                | false =>
                  have e := Lib.hid (NO.out (by unfold goodB; rw [← HS.out, show m + 1 - 1 = m from rfl, ← HT.out, hbl]; simp))
                  go_wp2_with fail
                  refine (K2.out _).mono ?_
                  rintro e w2 ⟨rfl, rfl⟩
                  go_wp2_with fail
                  refine (W1.out _).mono ?_
                  rintro e w2 ⟨rfl, hb2⟩
                  have hm2 := (hb2.cell (p := ⟨g, off + m, none⟩) hg').trans hm0
                  go_wp2_with fail
                  go_ret
                  exact ⟨ret_bool e.out.symm, bl_then Hb.out hb2⟩
                | true =>
                  have HG2 : Hid (∀ j, j < m + 1 + 1 → goodB p ss j = true) := by
                    intro j hj
                    rcases Nat.lt_or_ge j (m + 1) with h | h
                    · exact HG.out j h
                    · obtain rfl : j = m + 1 := by omega
                      unfold goodB
                      rw [← HS.out, HL.out, show m + 1 - 1 = m from rfl, ← HT.out, hbl]
                      simp [HZ.out.1, HZ.out.2]
                  go_wp2_with fail
                  refine (K2.out _).mono ?_
                  rintro e w2 ⟨rfl, rfl⟩
                  go_wp2_with fail
                  refine (W1.out _).mono ?_
                  rintro e w2 ⟨rfl, hb2⟩
                  have hm2 := (hb2.cell (p := ⟨g, off + m, none⟩) hg').trans hm0
                  have HB2 := Lib.hid (bl_then Hb.out hb2)
                  clear hb2 hm0 hk0
                  go_wp2_with fail
                  go_roundw
                  case rel => exact ⟨m + 1 + 1, by omega, by go_num, HG2, HB2⟩
                  case measure => simp [intOf]; omega
          · have e := Lib.hid (NO.out (by unfold goodB; rw [← HS.out]; simp; omega))
            have K2 : Hid (∀ W, Calls Try.prog 44 #[.int .i64 (s.size : Int), .int .i64 1, .int .i64 5] W fun e w' => e = .returned (.bool false) ∧ W = w') := fun W => by
              have := KK.out s.size 1 5 W
              rw [show (decide ((1 : Int) ≤ s.size) && decide ((s.size : Int) ≤ 5)) = false by simp; omega] at this
              exact this
            clear hsz hc
            go_wp2_with fail
            refine (K2.out _).mono ?_
            rintro e w2 ⟨rfl, rfl⟩
            go_wp2_with fail
            go_ret
            exact ⟨ret_bool e.out.symm, Hb.out⟩
        · have ek : k = N := by omega
          have e : Hid (R = true) := by
            show _ = _
            rw [HR.out]
            exact setB_yes HQ.out.1 HQ.out.2 (by have := HN.out; omega) (fun j hj => HG.out j (by have := HN.out; omega))
          clear ek
          go_wp2_with fail
          go_ret
          exact ⟨ret_bool e.out.symm, Hb.out⟩
    · have e : setB p ss = false := by unfold setB; simp; omega
      rw [e]
      clear e IW IW1 hA K HQ hq
      go_enter Try.func32, Try.ntmps32
      go_wp2_with fail
      refine (K1.out _).mono ?_
      rintro e w1 ⟨rfl, rfl⟩
      go_wp2_with fail
      go_ret
      exact ⟨rfl, bl_refl _⟩
  · have e : setB q ss = false := by unfold setB; simp; omega
    rw [e]
    clear e IW hA
    have K1 : Hid (∀ W, Calls Try.prog 44 #[.int .i64 q, .int .i64 1, .int .i64 3] W fun e w' => e = .returned (.bool false) ∧ W = w') := fun W => by
      have := K.out q 1 3 W
      rw [show (decide (1 ≤ q) && decide (q ≤ 3)) = false by simp; omega] at this
      exact this
    clear K hq
    go_enter Try.func32, Try.ntmps32
    go_wp2_with fail
    refine (K1.out _).mono ?_
    rintro e w1 ⟨rfl, rfl⟩
    go_wp2_with fail
    go_ret
    exact ⟨rfl, bl_refl _⟩
theorem avoid_pred (s : ByteArray) (hs : s.size < 4294967281) (B : Nat) (w : World) (hG : HasG w) (hB : B < w.heap.size) (hc : w.cell? ⟨B, 0, none⟩ = some (.string s)) :
    PredAt Try.prog 64 #[.pointer (some ⟨B, 0, none⟩)] Value.string (fun p => Lib.contains (sb s) (sb p)) w := by
  intro W p hb
  unfold FnGives
  have hc' : W.cell? ⟨B, 0, none⟩ = some (.string s) := (hb.cell (p := ⟨B, 0, none⟩) hB).trans hc
  obtain ⟨_, m, hm⟩ := hG.kept hb
  have C := Lib.hid (Try.strings_Contains s p m W hs hm)
  clear hc hm
  go_enter Try.func64, Try.ntmps64
  go_wp2_with fail
  refine C.out.mono ?_
  rintro e w1 ⟨rfl, rfl⟩
  go_wp2_with fail
  go_ret
  exact ⟨rfl, 0, rfl⟩
theorem any_pats (s : ByteArray) (ss : List ByteArray) : (ss.take ss.length).any (fun p => Lib.contains (sb s) (sb p)) = !okL (pats ss) (sb s) := by
  unfold okL pats
  rw [List.take_length, List.any_map, Bool.not_not]
  rfl
theorem avoids_any (v : Value) (ss : List ByteArray) (s : ByteArray) (w : World) (hv : StrsAt w v ss) (hs : s.size < 4294967281) (hG : HasG w) :
    Calls Try.prog 41 #[v, .string s] w fun e w' => e = .returned (.bool (okL (pats ss) (sb s))) ∧ Below w.heap.size w w' := by
  obtain ⟨A, c, rfl, hlc, hcm, hA⟩ := hv
  by_cases h0 : ss.length = 0
  · have e1 : ss = [] := List.eq_nil_of_length_eq_zero h0
    subst e1
    have C := Lib.hid fun W fv => AnyE.slices_ContainsFunc_empty Try.laysCF A c fv W
    rw [show okL (pats []) (sb s) = true from rfl]
    clear hA h0
    simp only [List.length_nil]
    go_enter Try.func41, Try.ntmps41
    go_wp2_with fail
    refine (C.out _ _).mono ?_
    rintro e w1 ⟨rfl, rfl⟩
    go_wp2_with fail
    go_ret
    exact ⟨rfl, bl_alloc (bl_refl w) _⟩
  · obtain ⟨g, off, rfl, hg, hc⟩ := hA (by omega)
    obtain ⟨W0, hW0⟩ : ∃ W0, W0 = w.alloc (.cells #[.string s] 9) := ⟨_, rfl⟩
    have hb0 : Below w.heap.size w W0 := by rw [hW0]; exact bl_alloc (bl_refl w) _
    have C := Lib.hid (AnyE.slices_ContainsFunc Try.laysCF Value.string (fun p => Lib.contains (sb s) (sb p)) 64 #[.pointer (some ⟨w.heap.size, 0, none⟩)] (enters_of Try.func64 (by kernel_rfl) rfl) g off ss.length c ss W0
      (avoid_pred s hs w.heap.size W0 (hG.kept hb0) (by rw [hW0]; simp) (by rw [hW0]; simp)) (Nat.le_refl _) (by omega) (fun j hj => by
        rw [(hb0.cell (p := ⟨g, off + j, none⟩) hg), hc j hj, getElem!_pos ss j hj, List.getD_eq_getElem?_getD, List.getElem?_eq_getElem hj]; rfl))
    rw [any_pats, hW0] at C
    obtain ⟨N, hN⟩ : ∃ N, N = ss.length := ⟨_, rfl⟩
    rw [← hN] at C ⊢
    clear hc hA h0 hlc hW0 hb0 hN
    generalize okL (pats ss) (sb s) = r at *
    go_enter Try.func41, Try.ntmps41
    go_wp2_with fail
    refine C.out.mono ?_
    rintro e w1 ⟨rfl, nq, rfl⟩
    have hB := bl_drewN (bl_alloc (bl_refl w) (.cells #[.string s] 9)) nq
    go_wp2_with fail
    go_ret
    exact ⟨ret_bool (by simp), hB⟩
end Go.Proofs.Ytnamafakjkcmjaa

namespace Go.Proofs.Ytnamafakjkcmjaa
open Go.RowKit Go.Shelf
open Go.Maps (Keyed string_keyed int_keyed)
set_option linter.unusedVariables false
set_option linter.unusedSimpArgs false

structure MapKind (P : Program) (α β : Type) where
  mt : TypeId
  kt : TypeId
  et : TypeId
  ke : α → Value
  ve : β → Value
  R : Value → Option (DataW Unit × List MemPlace)
  dv : β → DataW Unit
  z : β
  okK : α → Prop
  okV : β → Prop
  keyed : Keyed P kt
  under : P.underlying mt = some (.map kt et)
  zero : ∀ w, (zeroValue et).run P w = .ok (ve z) w
  key : ∀ x, okK x → ∃ kl, keyOf P kt (ke x) = some kl
  inj : ∀ x y, ke x = ke y → x = y
  rd : ∀ y, okV y → R (ve y) = some (dv y, [])
  rd_inv : ∀ v y ps, okV y → R v = some (dv y, ps) → v = ve y
  okz : okV z
variable {P : Program} {α β : Type} {k : MapKind P α β} {w w' : World} {b n : Nat} {f : α → Option β}
/-- Block b is a map of at most n entries: the function f. -/
def MapF (k : MapKind P α β) (w : World) (b n : Nat) (f : α → Option β) : Prop :=
  ∃ D : DataW Unit, w.ownsMap P k.kt k.R b n D ∧ (∀ x y, f x = some y → k.okV y) ∧ ∀ x kl, k.okK x → keyOf P k.kt (k.ke x) = some kl → Maps.has D kl = (f x).isSome ∧ D.atKey kl (k.dv k.z) = k.dv ((f x).getD k.z)
theorem MapF.made (k : MapKind P α β) (w : World) : MapF k (w.alloc (.map #[] 0)) w.heap.size 0 fun _ => none :=
  ⟨.map [], World.ownsMap_made w _ _ _, (fun x y h => by simp at h), (fun x kl _ _ => ⟨rfl, by rw [WideAt.atKey_none _ (by simp)]; rfl⟩)⟩
theorem MapF.lt (h : MapF k w b n f) : b < w.heap.size := by
  obtain ⟨D, h, _⟩ := h; exact h.lt
theorem MapF.kept {row : Option Nat} (h : MapF k w b n f) (hg : w.grownBy w' row) (hne : some b ≠ row) : MapF k w' b n f := by
  obtain ⟨D, h, k1⟩ := h; exact ⟨D, h.kept hg hne, k1⟩
theorem MapF.below (h : MapF k w b n f) (hb : Below w.heap.size w w') : MapF k w' b n f :=
  h.kept (row := none) ⟨hb.os, hb.tape, hb.output, hb.size, fun k hk _ => hb.block k hk⟩ (by simp)
theorem MapF.block (h : MapF k w b n f) : ∃ es clock, w.heap[b]? = some (.map es clock) := by
  obtain ⟨D, ⟨es, clock, h, _⟩, _⟩ := h; exact ⟨es, clock, h⟩
theorem MapF.mono {n' : Nat} (h : MapF k w b n f) (hn : n ≤ n') : MapF k w b n' f := by
  obtain ⟨D, h, k1⟩ := h; exact ⟨D, h.mono hn, k1⟩
theorem MapF.okV (h : MapF k w b n f) (x : α) : k.okV ((f x).getD k.z) := by
  obtain ⟨D, _, h, _⟩ := h
  cases hx : f x with
  | none => exact k.okz
  | some y => exact h x y hx
theorem MapF.look (h : MapF k w b n f) {x : α} (hx : k.okK x) : (Instr.lookup k.mt (.map (some b)) (k.ke x) false).run P w = .ok (k.ve ((f x).getD k.z)) w := by
  have hv := h.okV x
  obtain ⟨D, h, _, k1⟩ := h
  obtain ⟨kl, hk⟩ := k.key x hx
  obtain ⟨v, ps, hr, hR⟩ := h.lookup k.keyed k.under (k.zero w) (k.rd k.z k.okz) hk
  rw [(k1 x kl hx hk).2] at hR
  rw [hr, k.rd_inv v _ ps hv hR]
theorem MapF.look_ok (h : MapF k w b n f) {x : α} (hx : k.okK x) : (Instr.lookup k.mt (.map (some b)) (k.ke x) true).run P w = .ok (.tuple #[k.ve ((f x).getD k.z), .bool (f x).isSome]) w := by
  have hv := h.okV x
  obtain ⟨D, h, _, k1⟩ := h
  obtain ⟨kl, hk⟩ := k.key x hx
  obtain ⟨v, ps, hr, hR⟩ := h.look_ok k.keyed k.under (k.zero w) (k.rd k.z k.okz) hk
  rw [(k1 x kl hx hk).2] at hR
  rw [hr, k.rd_inv v _ ps hv hR, (k1 x kl hx hk).1]
theorem MapF.store [DecidableEq α] (h : MapF k w b n f) {x : α} {y : β} (hx : k.okK x) (hy : k.okV y) (hn : n < maxLen) :
    ∃ w', (Instr.mapUpdate k.mt (.map (some b)) (k.ke x) (k.ve y)).run P w = .ok () w' ∧ MapF k w' b (n + 1) (fun u => if u = x then some y else f u) ∧ w.grownBy w' (some b) := by
  obtain ⟨D, h, hv, k1⟩ := h
  obtain ⟨kl, hk⟩ := k.key x hx
  obtain ⟨w', hr, ho, hg⟩ := h.update k.keyed k.under hn hk (k.rd y hy)
  refine ⟨w', hr, ⟨_, ho, fun u v hu => ?_, fun u ku hu hku => ?_⟩, hg⟩ <;> dsimp only at *
  · by_cases e : u = x
    · rw [if_pos e] at hu; injection hu with hu; rw [← hu]; exact hy
    · rw [if_neg e] at hu; exact hv u v hu
  · by_cases e : u = x
    · subst e
      have e2 : ku = kl := Option.some.inj (hku.symm.trans hk)
      subst e2
      rw [if_pos rfl]
      exact ⟨Maps.has_put_same h.isMap (k.keyed.key hk) _, Maps.atKey_put_same h.isMap (k.keyed.key hk) _ _⟩
    · have e2 : ku ≠ kl := by
        rintro rfl
        exact e (k.inj u x (k.keyed.inj hku hk))
      rw [if_neg e, Maps.has_put_other e2, Maps.atKey_put_other e2]
      exact k1 u ku hu hku
theorem MapF.drop [DecidableEq α] (h : MapF k w b n f) {x : α} (hx : k.okK x) (ty : TypeId) :
    ∃ w', (Builtin.delete_ #[k.mt, k.kt] ty #[.map (some b), k.ke x]).run P w = .ok (.tuple #[]) w' ∧ MapF k w' b n (fun u => if u = x then none else f u) ∧ w.grownBy w' (some b) := by
  obtain ⟨D, h, hv, k1⟩ := h
  obtain ⟨kl, hk⟩ := k.key x hx
  obtain ⟨w', hr, ho, hg⟩ := h.drop k.keyed k.under hk ty
  refine ⟨w', hr, ⟨_, ho, fun u v hu => ?_, fun u ku hu hku => ?_⟩, hg.grown⟩ <;> dsimp only at *
  · by_cases e : u = x
    · rw [if_pos e] at hu; cases hu
    · rw [if_neg e] at hu; exact hv u v hu
  · by_cases e : u = x
    · subst e
      have e2 : ku = kl := Option.some.inj (hku.symm.trans hk)
      subst e2
      rw [if_pos rfl]
      exact ⟨Maps.has_del_same, Maps.atKey_del_same _⟩
    · have e2 : ku ≠ kl := by
        rintro rfl
        exact e (k.inj u x (k.keyed.inj hku hk))
      rw [if_neg e, Maps.has_del_other e2, Maps.atKey_del_other e2]
      exact k1 u ku hu hku
theorem MapF.same {g : α → Option β} (h : MapF k w b n f) (e : ∀ x, f x = g x) : MapF k w b n g := by
  have : f = g := funext e
  rw [← this]; exact h

set_option maxRecDepth 100000 in
theorem plain_bool_inv {H : Type} {v : Value} {c : Bool} {ps : List MemPlace} (h : plainElem (H := H) Try.prog 4 v = some (.lit (.bool c), ps)) : v = .bool c := by
  unfold plainElem at h
  rw [Try.underlying4] at h
  cases v with
  | bool x => simp only [Option.some.injEq, Prod.mk.injEq, DataW.lit.injEq, Lit.bool.injEq] at h; rw [h.1]
  | _ => cases h
theorem plain_int_inv {H : Type} {v : Value} {c : Int} {ps : List MemPlace} (h : plainElem (H := H) Try.prog 3 v = some (.lit (.int .i64 c), ps)) : v = .int .i64 c := by
  obtain ⟨a, rfl, h2, _⟩ := plainElem_int_inv Try.underlying3 h
  simp only [Prod.mk.injEq, DataW.lit.injEq, Lit.int.injEq, true_and] at h2
  rw [h2.1]
noncomputable def kindSI : MapKind Try.prog ByteArray Int where
  mt := 87
  kt := 9
  et := 3
  ke := Value.string
  ve := Value.int .i64
  R := plainElem Try.prog 3
  dv := fun a => .lit (.int .i64 a)
  z := 0
  okK := fun s => s.size ≤ maxLen
  okV := fun a => (Lit.int .i64 a).wf = true
  keyed := string_keyed Try.underlying9
  under := Try.underlying87
  zero := fun w => by kernel_rfl
  key := fun s hs => ⟨_, WideMaps.keyOf_string_mk Try.underlying9 hs⟩
  inj := fun s t h => by injection h
  rd := fun a ha => plainElem_int Try.underlying3 ha
  rd_inv := fun v a ps _ h => plain_int_inv h
  okz := by decide
noncomputable def kindII : MapKind Try.prog Int Int where
  mt := 67
  kt := 3
  et := 3
  ke := Value.int .i64
  ve := Value.int .i64
  R := plainElem Try.prog 3
  dv := fun a => .lit (.int .i64 a)
  z := 0
  okK := fun a => (Lit.int .i64 a).wf = true
  okV := fun a => (Lit.int .i64 a).wf = true
  keyed := int_keyed Try.underlying3
  under := Try.underlying67
  zero := fun w => by kernel_rfl
  key := fun s hs => ⟨_, Maps.keyOf_int_mk Try.underlying3 hs⟩
  inj := fun s t h => by injection h
  rd := fun a ha => plainElem_int Try.underlying3 ha
  rd_inv := fun v a ps _ h => plain_int_inv h
  okz := by decide
noncomputable def kindIB : MapKind Try.prog Int Bool where
  mt := 66
  kt := 3
  et := 4
  ke := Value.int .i64
  ve := Value.bool
  R := plainElem Try.prog 4
  dv := fun a => .lit (.bool a)
  z := false
  okK := fun a => (Lit.int .i64 a).wf = true
  okV := fun _ => True
  keyed := int_keyed Try.underlying3
  under := Try.underlying66
  zero := fun w => by kernel_rfl
  key := fun s hs => ⟨_, Maps.keyOf_int_mk Try.underlying3 hs⟩
  inj := fun s t h => by injection h
  rd := fun a _ => plainElem_bool Try.underlying4 a
  rd_inv := fun v a ps _ h => plain_bool_inv h
  okz := trivial
noncomputable def kindSB : MapKind Try.prog ByteArray Bool where
  mt := 116
  kt := 9
  et := 4
  ke := Value.string
  ve := Value.bool
  R := plainElem Try.prog 4
  dv := fun a => .lit (.bool a)
  z := false
  okK := fun s => s.size ≤ maxLen
  okV := fun _ => True
  keyed := string_keyed Try.underlying9
  under := Try.underlying116
  zero := fun w => by kernel_rfl
  key := fun s hs => ⟨_, WideMaps.keyOf_string_mk Try.underlying9 hs⟩
  inj := fun s t h => by injection h
  rd := fun a _ => plainElem_bool Try.underlying4 a
  rd_inv := fun v a ps _ h => plain_bool_inv h
  okz := trivial
end Go.Proofs.Ytnamafakjkcmjaa

namespace Go.Proofs.Ytnamafakjkcmjaa
open Go.RowKit Go.Shelf
open Go.Maps (Keyed string_keyed int_keyed)
set_option linter.unusedVariables false
set_option linter.unusedSimpArgs false

/-- Block g holds just these cells, none frozen. -/
def Whole (w : World) (g : Nat) (t : TypeId) (cs : Array Value) : Prop := w.heap[g]? = some (.cells cs t (0, 0))
section
variable {w w' : World} {g : Nat} {t : TypeId} {cs : Array Value}
theorem Whole.lt (h : Whole w g t cs) : g < w.heap.size := by
  unfold Whole at h
  exact (Array.getElem?_eq_some_iff.1 h).1
theorem Whole.cell (h : Whole w g t cs) (i : Nat) : w.cell? ⟨g, i, none⟩ = cs[i]? := cell_of_row w g i cs t (0, 0) h
theorem Whole.frozen (h : Whole w g t cs) (i : Nat) : w.frozen? ⟨g, i, none⟩ = false := by
  unfold Whole at h
  simp [World.frozen?, h]
theorem Whole.new (w : World) (t : TypeId) (cs : Array Value) : Whole (w.alloc (.cells cs t)) w.heap.size t cs := heap_alloc_new w _
theorem Whole.new2 (w : World) (o : Obj) (t : TypeId) (cs : Array Value) : Whole ((w.alloc o).alloc (.cells cs t)) (w.heap.size + 1) t cs := heap_alloc2_new _ _ _
theorem Whole.drewN (h : Whole w g t cs) (n : Nat) : Whole (w.drewN n) g t cs := h
theorem Whole.alloc (h : Whole w g t cs) (o : Obj) : Whole (w.alloc o) g t cs := (Below.heap_alloc w o g h.lt).trans h
theorem Whole.set (h : Whole w g t cs) (i : Nat) (u : Value) : Whole (w.setCell ⟨g, i, none⟩ u) g t (cs.setIfInBounds i u) := by
  unfold Whole at h ⊢
  simp [World.setCell, Array.getElem?_modify, h]
theorem Whole.far (h : Whole w g t cs) {p : Addr} (hp : g ≠ p.block) (u : Value) : Whole (w.setCell p u) g t cs := (Below.heap_setCell w p u g hp).trans h
theorem Whole.below {B : Nat} (h : Whole w g t cs) (hb : Below B w w') (hg : g < B) : Whole w' g t cs := (hb.block g hg).trans h
theorem Whole.kept (h : Whole w g t cs) (hb : Below w.heap.size w w') : Whole w' g t cs := h.below hb h.lt
theorem Whole.grown {row : Option Nat} (h : Whole w g t cs) (hg : w.grownBy w' row) (hne : some g ≠ row) : Whole w' g t cs := (hg.block g h.lt hne).trans h
theorem Whole.ne_own {e : TypeId} {base size n : Nat} {v : Value} {xs : List Value} (h : Whole w g t cs) (h' : w.ownsRow base e size v n xs) (hne : t ≠ e) : some g ≠ v.ownBlock := by
  rcases h'.2 with ⟨rfl, _⟩ | ⟨g', cap', cur', rfl, _, hg', _⟩
  · simp [Value.ownBlock]
  · intro hq
    have : g = g' := by simpa [Value.ownBlock] using hq
    subst this
    unfold Whole at h
    rw [h] at hg'
    injection hg' with hg'
    injection hg' with _ ht
    exact hne ht
end
theorem own_kept {W W' : World} {base : Nat} {e : TypeId} {size : Nat} {v : Value} {n : Nat} {xs : List Value} (h : W.ownsRow base e size v n xs) (hb : Below W.heap.size W W') : W'.ownsRow base e size v n xs :=
  h.kept (row := none) ⟨hb.os, hb.tape, hb.output, hb.size, fun k hk _ => hb.block k hk⟩ (by cases h : v.ownBlock <;> simp)
theorem own_form {w : World} {base : Nat} {e : TypeId} {size : Nat} {v : Value} {n : Nat} {xs : List Value} (h : w.ownsRow base e size v n xs) (hn : 0 < n) : ∃ g cap, v = .slice (some ⟨g, 0, none⟩) n cap ∧ base ≤ g ∧ g < w.heap.size := by
  rcases h.2 with ⟨_, h0⟩ | ⟨g, cap, cur, rfl, hb, hg, _⟩
  · omega
  · exact ⟨g, cap, rfl, hb, (Array.getElem?_eq_some_iff.1 hg).1⟩
theorem bl_grown {a W W' : World} {base : Nat} {e : TypeId} {size : Nat} {v : Value} {n : Nat} {xs : List Value} (hb : Below a.heap.size a W) (h : W.ownsRow base e size v n xs) (hbase : a.heap.size ≤ base) (hg : W.grownBy W' v.ownBlock) : Below a.heap.size a W' :=
  hb.grown hg hb.size fun k e => Nat.le_trans hbase (h.lt k e).1
theorem bl_set {a w : World} (h : Below a.heap.size a w) {p : Addr} (hp : a.heap.size ≤ p.block) (v : Value) : Below a.heap.size a (w.setCell p v) := h.setCell hp v

def encS (L : List Str) : List Value := L.map fun s => .string (bs s)
def encI (row : List Int) : List Value := row.map (Value.int .i64)
def idxF (L : List Str) : ByteArray → Option Int := fun s => if sb s ∈ L then some (L.idxOf (sb s) : Int) else none

/-- The rows of a table, each in a block of its own below B. -/
def RowsAt (w : World) (B : Nat) (hdrs : List Value) (T : Tab) : Prop := hdrs.length = T.length ∧ ∀ i, i < T.length → ∃ b c cur, hdrs[i]? = some (.slice (some ⟨b, 0, none⟩) (T.getD i []).length c) ∧ b < B ∧
  w.heap[b]? = some (.cells cur 3 (0, 0)) ∧ (T.getD i []).length ≤ c ∧ c ≤ maxLen ∧ ∀ j, j < (T.getD i []).length → cur[j]? = some (.int .i64 ((T.getD i []).getD j 0))
theorem RowsAt.nil (w : World) (B : Nat) : RowsAt w B [] [] := ⟨rfl, fun i h => absurd h (Nat.not_lt_zero _)⟩
theorem RowsAt.mono {w : World} {B B' : Nat} {hdrs : List Value} {T : Tab} (h : RowsAt w B hdrs T) (hb : B ≤ B') : RowsAt w B' hdrs T := by
  refine ⟨h.1, fun i hi => ?_⟩
  obtain ⟨b, c, cur, h1, h2, h3⟩ := h.2 i hi
  exact ⟨b, c, cur, h1, by omega, h3⟩
theorem RowsAt.moved {w w' : World} {B : Nat} {hdrs : List Value} {T : Tab} (h : RowsAt w B hdrs T) (hm : ∀ b cur, b < B → w.heap[b]? = some (.cells cur 3 (0, 0)) → w'.heap[b]? = w.heap[b]?) : RowsAt w' B hdrs T := by
  refine ⟨h.1, fun i hi => ?_⟩
  obtain ⟨b, c, cur, h1, h2, h3, h4⟩ := h.2 i hi
  exact ⟨b, c, cur, h1, h2, (hm b cur h2 h3).trans h3, h4⟩
theorem RowsAt.kept {w w' : World} {B : Nat} {hdrs : List Value} {T : Tab} (h : RowsAt w B hdrs T) (hb : Below w.heap.size w w') : RowsAt w' B hdrs T :=
  h.moved fun b cur _ h3 => hb.block b (Array.getElem?_eq_some_iff.1 h3).1
theorem RowsAt.alloc {w : World} {B : Nat} {hdrs : List Value} {T : Tab} (h : RowsAt w B hdrs T) (o : Obj) : RowsAt (w.alloc o) B hdrs T := h.kept (bl_alloc (bl_refl w) o)
/-- Over a change of one block, which is of another type, or a new one. -/
theorem RowsAt.grown {w w' : World} {B : Nat} {hdrs : List Value} {T : Tab} {row : Option Nat} (h : RowsAt w B hdrs T) (hg : w.grownBy w' row) (hne : ∀ r, row = some r → B ≤ r ∨ ∀ cur, w.heap[r]? ≠ some (.cells cur 3 (0, 0))) : RowsAt w' B hdrs T :=
  h.moved fun b cur hlt h3 => hg.block b (Array.getElem?_eq_some_iff.1 h3).1 (fun e => by
    rcases hne b e.symm with h5 | h5
    · omega
    · exact h5 cur h3)
theorem RowsAt.far {w : World} {B : Nat} {hdrs : List Value} {T : Tab} {g : Nat} {t : TypeId} {cs : Array Value} (h : RowsAt w B hdrs T) (hg : Whole w g t cs) (ht : t ≠ 3) (i : Nat) (u : Value) : RowsAt (w.setCell ⟨g, i, none⟩ u) B hdrs T :=
  h.moved fun b cur _ h3 => Below.heap_setCell w ⟨g, i, none⟩ u b (by
    rintro rfl
    unfold Whole at hg
    rw [hg] at h3
    injection h3 with h3
    injection h3 with _ h4
    exact ht h4)
theorem own_not_int {w : World} {base : Nat} {e : TypeId} {size : Nat} {v : Value} {n : Nat} {xs : List Value} (h : w.ownsRow base e size v n xs) (he : e ≠ 3) : ∀ r, v.ownBlock = some r → ∀ B : Nat, B ≤ r ∨ ∀ cur, w.heap[r]? ≠ some (.cells cur 3 (0, 0)) := by
  intro r hr B
  rcases h.2 with ⟨rfl, _⟩ | ⟨g, cap, cur, rfl, _, hg, _⟩
  · simp [Value.ownBlock] at hr
  · have : g = r := by simpa [Value.ownBlock] using hr
    subst this
    refine .inr fun cur' h => ?_
    rw [hg] at h
    injection h with h
    injection h with _ h
    exact he h
theorem RowsAt.snoc {w : World} {B B0 : Nat} {hdrs : List Value} {T : Tab} {v : Value} {row : List Int} {n : Nat} (h : RowsAt w B hdrs T) (hB : B ≤ w.heap.size) (ho : w.ownsRow B0 3 1 v n (encI row)) (hn : n = row.length) (h0 : 0 < n) : RowsAt w w.heap.size (hdrs ++ [v]) (T ++ [row]) := by
  refine ⟨by simp [h.1], fun i hi => ?_⟩
  rcases Nat.lt_or_ge i T.length with h1 | h1
  · have h2 := (h.mono hB).2 i h1
    rw [List.getElem?_append_left (by rw [h.1]; exact h1), show (T ++ [row]).getD i [] = T.getD i [] by rw [List.getD_eq_getElem?_getD, List.getElem?_append_left h1, ← List.getD_eq_getElem?_getD]]
    exact h2
  · have h2 : i = T.length := by simp at hi; omega
    subst h2
    rw [show (T ++ [row]).getD T.length [] = row by simp [List.getD_eq_getElem?_getD], ← h.1]
    rcases ho.2 with ⟨_, hz⟩ | ⟨g, cap, cur, rfl, hb, hh, h3, h4, h5, h6⟩
    · omega
    · refine ⟨g, cap, cur, by simp [hn], (Array.getElem?_eq_some_iff.1 hh).1, hh, by omega, h4, fun j hj => ?_⟩
      have h7 : (cur.toList.take (n * 1))[j]? = (encI row)[j]? := by rw [h6]
      rw [List.getElem?_take_of_lt (by omega), Array.getElem?_toList] at h7
      rw [h7]
      unfold encI
      rw [List.getElem?_map, List.getElem?_eq_getElem hj, List.getD_eq_getElem?_getD, List.getElem?_eq_getElem hj]
      rfl
/-- The machine, as far as it is built: what is known, and k rows. -/
def Built (base gM gP q : Nat) (w : World) (B : Nat) (kn : List Str) (T : Tab) : Prop := ∃ vS vN hdrs, Whole w gM 60 #[.int .i64 q, vS, vN] ∧
  w.ownsRow base 9 1 vS kn.length (encS kn) ∧ w.ownsRow base 74 1 vN T.length hdrs ∧ RowsAt w B hdrs T ∧ MapF kindSI w gP kn.length (idxF kn)
theorem Built.kept {base gM gP q : Nat} {w w' : World} {B : Nat} {kn : List Str} {T : Tab} (h : Built base gM gP q w B kn T) (hb : Below w.heap.size w w') : Built base gM gP q w' B kn T := by
  obtain ⟨vS, vN, hdrs, h1, h2, h3, h4, h5⟩ := h
  exact ⟨vS, vN, hdrs, h1.kept hb, own_kept h2 hb, own_kept h3 hb, h4.kept hb, h5.below hb⟩
/-- Over a write into a row of numbers at or beyond B. -/
theorem Built.grown {base gM gP q : Nat} {w w' : World} {B B' : Nat} {kn : List Str} {T : Tab} {v : Value} {n : Nat} {xs : List Value} (h : Built base gM gP q w B kn T) (ho : w.ownsRow B' 3 1 v n xs) (hB : B ≤ B') (hP : gP < B) (hg : w.grownBy w' v.ownBlock) : Built base gM gP q w' B kn T := by
  obtain ⟨vS, vN, hdrs, h1, h2, h3, h4, h5⟩ := h
  have ne : ∀ {base' e n' v' xs'}, w.ownsRow base' e 1 v' n' xs' → e ≠ 3 → v'.ownBlock = none ∨ v'.ownBlock ≠ v.ownBlock := by
    intro base' e n' v' xs' h' he
    rcases h'.2 with ⟨rfl, _⟩ | ⟨g, cap, cur, rfl, _, hg', _⟩
    · exact .inl rfl
    · refine .inr fun hq => ?_
      rcases ho.2 with ⟨rfl, _⟩ | ⟨g2, cap2, cur2, rfl, _, hg2, _⟩
      · simp [Value.ownBlock] at hq
      · have e2 : g = g2 := by simpa [Value.ownBlock] using hq
        subst e2
        rw [hg'] at hg2
        injection hg2 with hg2
        injection hg2 with _ hg2
        exact he hg2
  exact ⟨vS, vN, hdrs, h1.grown hg (h1.ne_own ho (by decide)), h2.kept hg (ne h2 (by decide)), h3.kept hg (ne h3 (by decide)), h4.grown hg (fun r hr => .inl (by have := (ho.lt r hr).1; omega)), h5.kept hg (fun e => by have := (ho.lt gP e.symm).1; omega)⟩
/-- Over a step of an iterator. -/
theorem Built.iter {base gM gP q : Nat} {w w' : World} {B kI : Nat} {kn : List Str} {T : Tab} {al : ByteArray} {c : Nat} (h : Built base gM gP q w B kn T) (hk : w.heap[kI]? = some (.stringIter al c)) (hP : gP < kI) (hg : w.grownBy w' (some kI)) : Built base gM gP q w' B kn T := by
  obtain ⟨vS, vN, hdrs, h1, h2, h3, h4, h5⟩ := h
  have ne : ∀ {base' e n' v' xs'}, w.ownsRow base' e 1 v' n' xs' → v'.ownBlock = none ∨ v'.ownBlock ≠ some kI := by
    intro base' e n' v' xs' h'
    rcases h'.2 with ⟨rfl, _⟩ | ⟨g, cap, cur, rfl, _, hg', _⟩
    · exact .inl rfl
    · refine .inr fun hq => ?_
      have e2 : g = kI := by simpa [Value.ownBlock] using hq
      subst e2
      rw [hg'] at hk
      cases hk
  exact ⟨vS, vN, hdrs, h1.grown hg (fun e => by cases e; unfold Whole at h1; rw [h1] at hk; cases hk), h2.kept hg (ne h2), h3.kept hg (ne h3), h4.grown hg (fun r hr => .inr (by cases hr; intro cur h6; rw [h6] at hk; cases hk)), h5.kept hg (fun e => by cases e; omega)⟩
theorem own_iter {w w' : World} {kI : Nat} {al : ByteArray} {c : Nat} {base' e n' : Nat} {v' : Value} {xs' : List Value} (h' : w.ownsRow base' e 1 v' n' xs') (hk : w.heap[kI]? = some (.stringIter al c)) (hg : w.grownBy w' (some kI)) : w'.ownsRow base' e 1 v' n' xs' := by
  refine h'.kept hg ?_
  rcases h'.2 with ⟨rfl, _⟩ | ⟨g, cap, cur, rfl, _, hg', _⟩
  · exact .inl rfl
  · refine .inr fun hq => ?_
    have e2 : g = kI := by simpa [Value.ownBlock] using hq
    subst e2
    rw [hg'] at hk
    cases hk
theorem grown_iter (w : World) (k : Nat) (s : ByteArray) (pos : Nat) : w.grownBy (w.iterAt k s pos) (some k) :=
  ⟨rfl, rfl, rfl, by rw [Lib.iterAt_size]; exact Nat.le_refl _, fun j hj hne => Lib.iterAt_other _ _ _ _ _ (fun e => hne (by rw [e]))⟩
theorem own_map {α β : Type} {mk : MapKind Try.prog α β} {b n : Nat} {f : α → Option β} {w w' : World} {base e size n' : Nat} {v : Value} {xs : List Value} (h : w.ownsRow base e size v n' xs) (hm : MapF mk w b n f) (hg : w.grownBy w' (some b)) : w'.ownsRow base e size v n' xs := by
  refine h.kept hg ?_
  obtain ⟨es, clock, hb⟩ := hm.block
  rcases h.2 with ⟨rfl, _⟩ | ⟨g, cap, cur, rfl, _, hg', _⟩
  · exact .inl rfl
  · refine .inr fun hq => ?_
    have e2 : g = b := by simpa [Value.ownBlock] using hq
    subst e2
    rw [hg'] at hb
    cases hb
theorem Whole.map {α β : Type} {mk : MapKind Try.prog α β} {b n : Nat} {f : α → Option β} {w w' : World} {g : Nat} {t : TypeId} {cs : Array Value} (h : Whole w g t cs) (hm : MapF mk w b n f) (hg : w.grownBy w' (some b)) : Whole w' g t cs := by
  refine h.grown hg fun hq => ?_
  obtain ⟨es, clock, hb⟩ := hm.block
  cases hq
  unfold Whole at h
  rw [hb] at h
  cases h
theorem RowsAt.map {α β : Type} {mk : MapKind Try.prog α β} {b n : Nat} {f : α → Option β} {w w' : World} {B : Nat} {hdrs : List Value} {T : Tab} (h : RowsAt w B hdrs T) (hm : MapF mk w b n f) (hg : w.grownBy w' (some b)) : RowsAt w' B hdrs T := by
  obtain ⟨es, clock, hb⟩ := hm.block
  exact h.grown hg fun r hr => .inr (by cases hr; intro cur h6; rw [hb] at h6; cases h6)
theorem MapF.ne_own {α β : Type} {mk : MapKind Try.prog α β} {b n : Nat} {f : α → Option β} {w : World} {base e size n' : Nat} {v : Value} {xs : List Value} (hm : MapF mk w b n f) (h : w.ownsRow base e size v n' xs) : some b ≠ v.ownBlock := by
  obtain ⟨es, clock, hb⟩ := hm.block
  rcases h.2 with ⟨rfl, _⟩ | ⟨g, cap, cur, rfl, _, hg', _⟩
  · simp [Value.ownBlock]
  · intro hq
    have e2 : b = g := by simpa [Value.ownBlock] using hq
    subst e2
    rw [hg'] at hb
    cases hb
theorem MapF.far {α β : Type} {mk : MapKind Try.prog α β} {b n : Nat} {f : α → Option β} {w : World} {g : Nat} {t : TypeId} {cs : Array Value} (hm : MapF mk w b n f) (h : Whole w g t cs) (i : Nat) (u : Value) : MapF mk (w.setCell ⟨g, i, none⟩ u) b n f := by
  have hg : w.grownBy (w.setCell ⟨g, i, none⟩ u) (some g) := ⟨rfl, rfl, rfl, by simp [World.setCell], fun j hj hne => Below.heap_setCell w ⟨g, i, none⟩ u j (fun e => hne (by rw [e]))⟩
  refine hm.kept hg fun e => ?_
  obtain ⟨es, clock, hb⟩ := hm.block
  cases e
  unfold Whole at h
  rw [hb] at h
  cases h
theorem grown_set (w : World) (g i : Nat) (u : Value) : w.grownBy (w.setCell ⟨g, i, none⟩ u) (some g) := ⟨rfl, rfl, rfl, by simp [World.setCell], fun j hj hne => Below.heap_setCell w ⟨g, i, none⟩ u j (fun e => hne (by rw [e]))⟩
theorem own_far {w : World} {base e size n' : Nat} {v : Value} {xs : List Value} {g : Nat} {t : TypeId} {cs : Array Value} (h : w.ownsRow base e size v n' xs) (hw : Whole w g t cs) (ht : t ≠ e) (i : Nat) (u : Value) : (w.setCell ⟨g, i, none⟩ u).ownsRow base e size v n' xs := by
  have hne := hw.ne_own h ht
  refine h.kept (grown_set w g i u) ?_
  cases hq : v.ownBlock with
  | none => exact .inl rfl
  | some r => exact .inr fun e => hne (by rw [hq]; exact e.symm)
theorem own_other {w w' : World} {base e size n : Nat} {v : Value} {xs : List Value} {base' e' size' n' : Nat} {v' : Value} {xs' : List Value} (h : w.ownsRow base e size v n xs) (h' : w.ownsRow base' e' size' v' n' xs') (hne : e ≠ e') (hg : w.grownBy w' v'.ownBlock) : w'.ownsRow base e size v n xs := by
  refine h.kept hg ?_
  rcases h.2 with ⟨rfl, _⟩ | ⟨g, cap, cur, rfl, _, hg1, _⟩
  · exact .inl rfl
  · refine .inr fun hq => ?_
    rcases h'.2 with ⟨rfl, _⟩ | ⟨g', cap', cur', rfl, _, hg', _⟩
    · simp [Value.ownBlock] at hq
    · have e2 : g = g' := by simpa [Value.ownBlock] using hq
      subst e2
      rw [hg1] at hg'
      injection hg' with hg'
      injection hg' with _ ht
      exact hne ht
theorem cells_new (w : World) (t : TypeId) (cs : List Value) : ∀ j u, cs[j]? = some u → (w.alloc (.cells cs.toArray t)).cell? ((⟨w.heap.size, 0, none⟩ : Addr).add j) = some u := by
  intro j u hu
  rw [show (⟨w.heap.size, 0, none⟩ : Addr).add j = ⟨w.heap.size, j, none⟩ by simp [Addr.add] <;> omega, (Whole.new w t cs.toArray).cell j]
  simpa using hu
theorem idxF_snoc {kn : List Str} {tt : Str} (h : tt ∉ kn) (u : ByteArray) : (if u = bs tt then some (kn.length : Int) else idxF kn u) = idxF (kn ++ [tt]) u := by
  unfold idxF
  by_cases e : u = bs tt
  · subst e
    rw [if_pos rfl, sb_bs, if_pos (by simp), List.idxOf_append, if_neg h]
    simp
  · rw [if_neg e]
    have e2 : ¬ sb u = tt := fun h2 => e (by rw [← h2]; rfl)
    by_cases hm : sb u ∈ kn
    · rw [if_pos hm, if_pos (List.mem_append_left _ hm), List.idxOf_append, if_pos hm]
    · rw [if_neg hm, if_neg (by simp [hm, e2])]
/-- A new state: written into the map, put behind the others, the machine's field stored. -/
theorem Built.added {base gM gP q N B : Nat} {kn : List Str} {tt : Str} {T : Tab} {w6 w7 : World} {vS vN v7 : Value} {hdrs : List Value}
    (h1 : Whole w6 gM 60 #[.int .i64 q, vS, vN]) (h2 : w6.ownsRow base 9 1 vS N (encS kn)) (h3 : w6.ownsRow base 74 1 vN T.length hdrs) (h4 : RowsAt w6 B hdrs T)
    (h5 : MapF kindSI w6 gP (N + 1) (fun u => if u = bs tt then some (N : Int) else idxF kn u)) (hN : N = kn.length) (ht : tt ∉ kn)
    (hg : (w6.alloc (.cells #[.string (bs tt)] 9)).grownBy w7 vS.ownBlock) (h7 : w7.ownsRow base 9 1 v7 (N + 1) (encS kn ++ [.string (bs tt)])) :
    Built base gM gP q (w7.setCell ⟨gM, 1, none⟩ v7) B (kn ++ [tt]) T := by
  obtain ⟨o, ho⟩ : ∃ o : Obj, o = .cells #[.string (bs tt)] 9 := ⟨_, rfl⟩
  rw [← ho] at hg
  have a1 := (h1.alloc o).grown hg ((h1.alloc o).ne_own (h2.alloc o) (by decide))
  have a3 := own_other (h3.alloc o) (h2.alloc o) (by decide) hg
  have a4 := (h4.alloc o).grown hg (fun r hr => own_not_int (h2.alloc o) (by decide) r hr B)
  have a5 := (h5.below (bl_alloc (bl_refl w6) o)).kept hg ((h5.below (bl_alloc (bl_refl w6) o)).ne_own (h2.alloc o))
  refine ⟨v7, vN, hdrs, ?_, ?_, own_far a3 a1 (by decide) 1 v7, a4.far a1 (by decide) 1 v7, ?_⟩
  · exact a1.set 1 v7
  · have := own_far h7 a1 (by decide) 1 v7
    rw [show (kn ++ [tt]).length = N + 1 by simp [hN], show encS (kn ++ [tt]) = encS kn ++ [.string (bs tt)] by simp [encS]]
    exact this
  · have := a5.far a1 1 v7
    rw [show (kn ++ [tt]).length = N + 1 by simp [hN]]
    refine this.same fun u => ?_
    rw [hN]
    exact idxF_snoc ht u
/-- A row more. -/
theorem Built.rowed {base gM gP q B B' n : Nat} {kn : List Str} {row : List Int} {T : Tab} {w w7 : World} {vS vN vr v7 : Value} {hdrs : List Value}
    (h1 : Whole w gM 60 #[.int .i64 q, vS, vN]) (h2 : w.ownsRow base 9 1 vS kn.length (encS kn)) (h3 : w.ownsRow base 74 1 vN T.length hdrs) (h4 : RowsAt w B hdrs T)
    (h5 : MapF kindSI w gP kn.length (idxF kn)) (hB : B ≤ w.heap.size) (ho : w.ownsRow B' 3 1 vr n (encI row)) (hn : n = row.length) (h0 : 0 < n)
    (hg : (w.alloc (.cells #[vr] 74)).grownBy w7 vN.ownBlock) (h7 : w7.ownsRow base 74 1 v7 (T.length + 1) (hdrs ++ [vr])) :
    Built base gM gP q (w7.setCell ⟨gM, 2, none⟩ v7) (w7.setCell ⟨gM, 2, none⟩ v7).heap.size kn (T ++ [row]) := by
  have a4' := h4.snoc hB ho hn h0
  obtain ⟨o, hoo⟩ : ∃ o : Obj, o = .cells #[vr] 74 := ⟨_, rfl⟩
  rw [← hoo] at hg
  have a1 := (h1.alloc o).grown hg ((h1.alloc o).ne_own (h3.alloc o) (by decide))
  have a2 := own_other (h2.alloc o) (h3.alloc o) (by decide) hg
  have a4 := (a4'.alloc o).grown hg (fun r hr => own_not_int (h3.alloc o) (by decide) r hr _)
  have a5 := (h5.below (bl_alloc (bl_refl w) o)).kept hg ((h5.below (bl_alloc (bl_refl w) o)).ne_own (h3.alloc o))
  have hs := hg.size
  simp only [World.size_alloc] at hs
  refine ⟨vS, v7, hdrs ++ [vr], a1.set 2 v7, own_far a2 a1 (by decide) 2 v7, ?_, (a4.far a1 (by decide) 2 v7).mono (by simp [World.setCell]; omega), a5.far a1 2 v7⟩
  rw [show (T ++ [row]).length = T.length + 1 by simp]
  exact own_far h7 a1 (by decide) 2 v7
theorem iter_ne {w : World} {kI : Nat} {al : ByteArray} {c : Nat} {base' e n' size : Nat} {v' : Value} {xs' : List Value} (h' : w.ownsRow base' e size v' n' xs') (hk : w.heap[kI]? = some (.stringIter al c)) : some kI ≠ v'.ownBlock := by
  rcases h'.2 with ⟨rfl, _⟩ | ⟨g, cap, cur, rfl, _, hg', _⟩
  · simp [Value.ownBlock]
  · intro hq
    have e2 : kI = g := by simpa [Value.ownBlock] using hq
    subst e2
    rw [hg'] at hk
    cases hk
theorem own_low {w : World} {base base' e size n : Nat} {v : Value} {xs : List Value} (h : w.ownsRow base e size v n xs) (hb : base' ≤ base) : w.ownsRow base' e size v n xs := by
  refine ⟨h.1, h.2.imp id ?_⟩
  rintro ⟨g, cap, cur, h1, h2, h3⟩
  exact ⟨g, cap, cur, h1, Nat.le_trans hb h2, h3⟩
theorem words_len (q : Nat) : ∀ n, (wordsL q n).length = q ^ n
  | 0 => rfl
  | n + 1 => by
    unfold wordsL
    rw [List.length_flatMap]
    have : (wordsL q n).map (fun s => ((List.range q).map fun c => s ++ [ltr c]).length) = List.replicate (wordsL q n).length q := by
      rw [List.eq_replicate_iff]
      refine ⟨by simp, fun b hb => ?_⟩
      obtain ⟨s, _, rfl⟩ := List.mem_map.1 hb
      simp
    rw [this, List.sum_replicate_nat, words_len q n, Nat.pow_succ]
theorem stL_few (set : List Str) {q : Nat} (hq : q ≤ 3) : (stL set q).length ≤ 121 := by
  have h : ∀ d, (lay set q d).length ≤ 3 ^ d := fun d => by
    refine Nat.le_trans (List.length_filter_le _ _) ?_
    rw [words_len]
    exact Nat.pow_le_pow_left hq d
  have h0 := h 0
  have h1 := h 1
  have h2 := h 2
  have h3 := h 3
  have h4 := h 4
  rw [stL_eq]
  simp only [List.length_append]
  omega
theorem infoI : (Try.prog.info? 3).map (fun i => (i.zero, i.size, i.bytes)) = some (some (.int .i64 0), 1, 8) := by kernel_rfl
theorem infoS : (Try.prog.info? 9).map (fun i => (i.zero, i.size, i.bytes)) = some (some (.string ⟨#[]⟩), 1, 16) := by kernel_rfl
theorem infoR : (Try.prog.info? 74).map (fun i => (i.zero, i.size, i.bytes)) = some (some (.slice none 0 0), 1, 24) := by kernel_rfl
theorem takes_row {row : List Int} {c : Nat} {x : Int} (h : row[c]? = some x) : encI (row.take (c + 1)) = encI (row.take c) ++ [.int .i64 x] := by
  unfold encI
  obtain ⟨h1, rfl⟩ := List.getElem?_eq_some_iff.1 h
  rw [List.take_succ_eq_append_getElem h1, List.map_append]
  rfl
end Go.Proofs.Ytnamafakjkcmjaa
