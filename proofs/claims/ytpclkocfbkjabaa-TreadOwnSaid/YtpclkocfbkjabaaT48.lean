/-
  Tidy: the closures, slices.IndexFunc and slices.DeleteFunc with a test that makes memory.
-/
import Derived.Test.YtpclkocfbkjabaaMD
import Derived.Test.YtpclkocfbkjabaaT22
import Derived.Test.YtpclkocfbkjabaaA22
import Derived.Lib.SliceRun
namespace Go.Proofs.Ytpclkocfbkjabaa
open Go.RowKit Go.Shelf
set_option linter.unusedVariables false
set_option linter.unusedSimpArgs false

def oth (s p : ByteArray) : Bool := !decide (p = s) && Lib.contains (sb s) (sb p)
theorem str_beq (a b : ByteArray) : (a.toList == b.toList) = decide (a = b) := by
  rw [Bool.eq_iff_iff]
  simp only [beq_iff_eq, decide_eq_true_eq]
  constructor
  · intro h
    rw [Lib.toList_data, Lib.toList_data] at h
    exact sb_inj h
  · rintro rfl; rfl
theorem oth_pred (s : ByteArray) (hs : s.size < 4294967281) (B : Nat) (w : World) (hG : HasG w) (hB : B < w.heap.size) (hc : w.cell? ⟨B, 0, none⟩ = some (.string s)) :
    PredAt Try.prog 74 #[.pointer (some ⟨B, 0, none⟩)] Value.string (oth s) w := by
  intro W p hb
  unfold FnGives
  have hc' : W.cell? ⟨B, 0, none⟩ = some (.string s) := (hb.cell (p := ⟨B, 0, none⟩) hB).trans hc
  have hB' := Nat.lt_of_lt_of_le hB hb.size
  obtain ⟨_, m, hm⟩ := hG.kept hb
  have C := Lib.hid (Try.strings_Contains s p m W hs hm)
  have hbq := str_beq p s
  clear hc hm hG
  by_cases e : p = s
  · have hd : decide (p = s) = true := by simp [e]
    rw [hd] at hbq
    have hr : oth s p = false := by unfold oth; rw [hd]; rfl
    rw [hr]
    clear hr hd e C
    go_enter Try.func74, Try.ntmps74
    go_wp2_with fail
    go_ret
    exact ⟨rfl, 0, rfl⟩
  · have hd : decide (p = s) = false := by simp [e]
    rw [hd] at hbq
    have hr : oth s p = Lib.contains (sb s) (sb p) := by unfold oth; rw [hd]; rfl
    rw [hr]
    clear hr hd e
    go_enter Try.func74, Try.ntmps74
    go_wp2_with fail
    refine C.out.mono ?_
    rintro e w1 ⟨rfl, rfl⟩
    go_wp2_with fail
    go_ret
    exact ⟨rfl, 0, rfl⟩
/-- Whether another pattern is in this one. -/
def inB (ss : List ByteArray) (s : ByteArray) : Bool := ss.any (oth s)
theorem tidy1_any (Bs : Nat) (v : Value) (ss : List ByteArray) (s : ByteArray) (w : World) (hv : StrsAt w v ss) (hs : s.size < 4294967281) (hG : HasG w) (hB : Bs < w.heap.size) (hc : w.cell? ⟨Bs, 0, none⟩ = some v) :
    Calls Try.prog 72 #[.string s, .pointer (some ⟨Bs, 0, none⟩)] w fun e w' => e = .returned (.bool (inB ss s)) ∧ Below w.heap.size w w' := by
  obtain ⟨A, c, rfl, hlc, hcm, hA⟩ := hv
  by_cases h0 : ss.length = 0
  · have e1 : ss = [] := List.eq_nil_of_length_eq_zero h0
    subst e1
    have C := Lib.hid fun W fv => AnyE.slices_ContainsFunc_empty Try.laysCF A c fv W
    rw [show inB [] s = false from rfl]
    clear hA h0
    simp only [List.length_nil] at hc ⊢
    go_enter Try.func72, Try.ntmps72
    go_wp2_with fail
    refine (C.out _ _).mono ?_
    rintro e w1 ⟨rfl, rfl⟩
    go_wp2_with fail
    go_ret
    exact ⟨rfl, bl_alloc (bl_refl w) _⟩
  · obtain ⟨g, off, rfl, hg, hcc⟩ := hA (by omega)
    obtain ⟨W0, hW0⟩ : ∃ W0, W0 = w.alloc (.cells #[.string s] 9) := ⟨_, rfl⟩
    have hb0 : Below w.heap.size w W0 := by rw [hW0]; exact bl_alloc (bl_refl w) _
    have C := Lib.hid (AnyE.slices_ContainsFunc Try.laysCF Value.string (oth s) 74 #[.pointer (some ⟨w.heap.size, 0, none⟩)] (enters_of Try.func74 (by kernel_rfl) rfl) g off ss.length c ss W0
      (oth_pred s hs w.heap.size W0 (hG.kept hb0) (by rw [hW0]; simp) (by rw [hW0]; simp)) (Nat.le_refl _) (by omega) (fun j hj => by
        rw [(hb0.cell (p := ⟨g, off + j, none⟩) hg), hcc j hj, getElem!_pos ss j hj, List.getD_eq_getElem?_getD, List.getElem?_eq_getElem hj]; rfl))
    rw [List.take_length, show ss.any (oth s) = inB ss s from rfl, hW0] at C
    obtain ⟨N, hN⟩ : ∃ N, N = ss.length := ⟨_, rfl⟩
    rw [← hN] at C hc
    clear hcc hA h0 hlc hW0 hb0 hN
    generalize inB ss s = r at *
    go_enter Try.func72, Try.ntmps72
    go_wp2_with fail
    refine C.out.mono ?_
    rintro e w1 ⟨rfl, nq, rfl⟩
    have hB := bl_drewN (bl_alloc (bl_refl w) (.cells #[.string s] 9)) nq
    go_wp2_with fail
    go_ret
    exact ⟨rfl, hB⟩
/-- A test on strings, as a function that may make memory. -/
def TestAt (F : Nat) (lb : Array Value) (P : ByteArray → Bool) (zs : List ByteArray) (Φ : World → Prop) : Prop := ∀ s ∈ zs, ∀ W, Φ W → Calls Try.prog F (#[.string s] ++ lb) W fun e w' => e = .returned (.bool (P s)) ∧ Below W.heap.size W w'
set_option maxRecDepth 100000 in
set_option maxHeartbeats 4000000 in
theorem index_any (Bs : Nat) (v : Value) (zs : List ByteArray) (P : ByteArray → Bool) (Φ : World → Prop) (w : World) (hv : StrsAt w v zs) (hl : zs.length ≤ 1000) (hΦ : ∀ W W', Φ W → Below W.heap.size W W' → Φ W') (h0 : Φ w)
    (hT : TestAt 72 #[.pointer (some ⟨Bs, 0, none⟩)] P zs Φ) :
    Calls Try.prog 89 #[v, .func (.func 72) #[] #[.pointer (some ⟨Bs, 0, none⟩)]] w fun e w' => Below w.heap.size w w' ∧
      ((e = .returned (.int .i64 (-1)) ∧ ∀ s ∈ zs, P s = false) ∨ (∃ i : Nat, i < zs.length ∧ e = .returned (.int .i64 i) ∧ P (zs.getD i ByteArray.empty) = true ∧ ∀ j, j < i → P (zs.getD j ByteArray.empty) = false)) := by
  obtain ⟨A, c, rfl, hlc, hcm, hA⟩ := hv
  obtain ⟨N, hN⟩ : ∃ N, N = zs.length := ⟨_, rfl⟩
  have HN := Lib.hid hN
  have HA := Lib.hid hA
  have HT := Lib.hid hT
  have HP := Lib.hid hΦ
  have H0 := Lib.hid h0
  rw [← hN] at hl hlc ⊢
  clear hN hA hT hΦ h0
  go_enter Try.func89, Try.ntmps89
  go_wp2_with fail
  go_loopw [8] (fun i wr => ∃ k : Nat, k ≤ N ∧ i = .int .i64 k ∧ Hid (∀ j, j < k → P (zs.getD j ByteArray.empty) = false) ∧ Hid (Φ wr) ∧ Hid (Below w.heap.size w wr)) (fun i _ => N - (intOf i).toNat)
  case atStart => exact ⟨0, Nat.zero_le _, rfl, Lib.hid (fun j h => absurd h (Nat.not_lt_zero _)), H0, Lib.hid (bl_refl w)⟩
  case round =>
    obtain ⟨k, hk, rfl, HK, HF, HB⟩ := hrel
    by_cases hlt : k < N
    · obtain ⟨g, off, rfl, hg, hc⟩ := HA.out (by have := HN.out; omega)
      have hkl : k < zs.length := by have := HN.out; omega
      have hkc : wr.cell? ⟨g, off + k, none⟩ = some (.string (zs.getD k ByteArray.empty)) := (HB.out.cell (p := ⟨g, off + k, none⟩) hg).trans (hc k hkl)
      have hgw := Nat.lt_of_lt_of_le hg HB.out.size
      have hmem : zs.getD k ByteArray.empty ∈ zs := by
        rw [List.getD_eq_getElem?_getD, List.getElem?_eq_getElem hkl]
        exact List.getElem_mem hkl
      obtain ⟨s, hs⟩ : ∃ s, s = zs.getD k ByteArray.empty := ⟨_, rfl⟩
      have HS := Lib.hid hs
      rw [← hs] at hkc hmem
      have TT := Lib.hid (HT.out s hmem wr HF.out)
      have hklt : (k : Int) < (N : Int) := by omega
      clear hc hs hmem
      go_wp2_with fail
      refine TT.out.mono ?_
      rintro e w2 ⟨rfl, r2⟩
      have HB2 := Lib.hid (bl_then HB.out r2)
      have HF2 := Lib.hid (HP.out _ _ HF.out r2)
      clear r2
      cases hp : P s with
      | true =>
        have HPS := Lib.hid hp
        clear hp
        go_wp2_with fail
        go_ret
        exact ⟨HB2.out, .inr ⟨k, hlt, rfl, by rw [← HS.out]; exact HPS.out, HK.out⟩⟩
      | false =>
        have HK2 : Hid (∀ j, j < k + 1 → P (zs.getD j ByteArray.empty) = false) := Lib.hid fun j hj => by
          rcases Nat.lt_or_ge j k with h | h
          · exact HK.out j h
          · obtain rfl : j = k := by omega
            rw [← HS.out]; exact hp
        clear hp
        go_wp2_with fail
        go_roundw
        case rel => exact ⟨k + 1, by omega, by go_num, HK2, HF2, HB2⟩
        case measure => simp [intOf]; omega
    · have hall : Hid (∀ s ∈ zs, P s = false) := Lib.hid fun s hs => by
        obtain ⟨j, hj, rfl⟩ := List.mem_iff_getElem.1 hs
        have h := HK.out j (by have := HN.out; omega)
        rw [List.getD_eq_getElem?_getD, List.getElem?_eq_getElem hj] at h
        exact h
      go_wp2_with fail
      go_ret
      exact ⟨HB.out, .inl ⟨rfl, hall.out⟩⟩
end Go.Proofs.Ytpclkocfbkjabaa
