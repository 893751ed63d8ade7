/-
  Several texts in one: XT48, XT49, XT50, XT51, XT52, XT53.
-/
import Derived.Test.YtpclkocfbkjababMD
import Derived.Test.YtpclkocfbkjababT22
import Derived.Test.YtpclkocfbkjababME
import Derived.Lib.SliceRun
import Derived.Test.YtpclkocfbkjababT34
import Derived.Lib.RowBridge
import Derived.Deep.RegionHeld3
namespace Go.Proofs.Ytpclkocfbkjabab
open Go.RowKit Go.Shelf
set_option linter.unusedVariables false
set_option linter.unusedSimpArgs false

def oth (s p : ByteArray) : Bool := !decide (p = s) && Lib.contains (sb s) (sb p)
theorem str_beq (a b : ByteArray) : (a.toList == b.toList) = decide (a = b) := by
  rw [Bool.eq_iff_iff]
  simp only [beq_iff_eq, decide_eq_true_eq]
  constructor
  · intro h
    rw [Lib.toList_data, Lib.toList_data] at h
    exact sb_inj h
  · rintro rfl; rfl
theorem oth_pred (s : ByteArray) (hs : s.size < 4294967281) (B : Nat) (w : World) (hG : HasG w) (hB : B < w.heap.size) (hc : w.cell? ⟨B, 0, none⟩ = some (.string s)) :
    PredAt Try.prog 59 #[.pointer (some ⟨B, 0, none⟩)] Value.string (oth s) w := by
  intro W p hb
  unfold FnGives
  have hc' : W.cell? ⟨B, 0, none⟩ = some (.string s) := (hb.cell (p := ⟨B, 0, none⟩) hB).trans hc
  have hB' := Nat.lt_of_lt_of_le hB hb.size
  obtain ⟨_, m, hm⟩ := hG.kept hb
  have C := Lib.hid (Try.strings_Contains s p m W hs hm)
  have hbq := str_beq p s
  clear hc hm hG
  by_cases e : p = s
  · have hd : decide (p = s) = true := by simp [e]
    rw [hd] at hbq
    have hr : oth s p = false := by unfold oth; rw [hd]; rfl
    rw [hr]
    clear hr hd e C
    go_enter Try.func59, Try.ntmps59
    go_wp2_with fail
    go_ret
    exact ⟨rfl, 0, rfl⟩
  · have hd : decide (p = s) = false := by simp [e]
    rw [hd] at hbq
    have hr : oth s p = Lib.contains (sb s) (sb p) := by unfold oth; rw [hd]; rfl
    rw [hr]
    clear hr hd e
    go_enter Try.func59, Try.ntmps59
    go_wp2_with fail
    refine C.out.mono ?_
    rintro e w1 ⟨rfl, rfl⟩
    go_wp2_with fail
    go_ret
    exact ⟨rfl, 0, rfl⟩
/-- Whether another pattern is in this one. -/
def inB (ss : List ByteArray) (s : ByteArray) : Bool := ss.any (oth s)
theorem tidy1_any (Bs : Nat) (v : Value) (ss : List ByteArray) (s : ByteArray) (w : World) (hv : StrsAt w v ss) (hs : s.size < 4294967281) (hG : HasG w) (hB : Bs < w.heap.size) (hc : w.cell? ⟨Bs, 0, none⟩ = some v) :
    Calls Try.prog 57 #[.string s, .pointer (some ⟨Bs, 0, none⟩)] w fun e w' => e = .returned (.bool (inB ss s)) ∧ Below w.heap.size w w' := by
  obtain ⟨A, c, rfl, hlc, hcm, hA⟩ := hv
  by_cases h0 : ss.length = 0
  · have e1 : ss = [] := List.eq_nil_of_length_eq_zero h0
    subst e1
    have C := Lib.hid fun W fv => AnyE.slices_ContainsFunc_empty Try.laysCF A c fv W
    rw [show inB [] s = false from rfl]
    clear hA h0
    simp only [List.length_nil] at hc ⊢
    go_enter Try.func57, Try.ntmps57
    go_wp2_with fail
    refine (C.out _ _).mono ?_
    rintro e w1 ⟨rfl, rfl⟩
    go_wp2_with fail
    go_ret
    exact ⟨rfl, bl_alloc (bl_refl w) _⟩
  · obtain ⟨g, off, rfl, hg, hcc⟩ := hA (by omega)
    obtain ⟨W0, hW0⟩ : ∃ W0, W0 = w.alloc (.cells #[.string s] 9) := ⟨_, rfl⟩
    have hb0 : Below w.heap.size w W0 := by rw [hW0]; exact bl_alloc (bl_refl w) _
    have C := Lib.hid (AnyE.slices_ContainsFunc Try.laysCF Value.string (oth s) 59 #[.pointer (some ⟨w.heap.size, 0, none⟩)] (enters_of Try.func59 (by kernel_rfl) rfl) g off ss.length c ss W0
      (oth_pred s hs w.heap.size W0 (hG.kept hb0) (by rw [hW0]; simp) (by rw [hW0]; simp)) (Nat.le_refl _) (by omega) (fun j hj => by
        rw [(hb0.cell (p := ⟨g, off + j, none⟩) hg), hcc j hj, getElem!_pos ss j hj, List.getD_eq_getElem?_getD, List.getElem?_eq_getElem hj]; rfl))
    rw [List.take_length, show ss.any (oth s) = inB ss s from rfl, hW0] at C
    obtain ⟨N, hN⟩ : ∃ N, N = ss.length := ⟨_, rfl⟩
    rw [← hN] at C hc
    clear hcc hA h0 hlc hW0 hb0 hN
    generalize inB ss s = r at *
    go_enter Try.func57, Try.ntmps57
    go_wp2_with fail
    refine C.out.mono ?_
    rintro e w1 ⟨rfl, nq, rfl⟩
    have hB := bl_drewN (bl_alloc (bl_refl w) (.cells #[.string s] 9)) nq
    go_wp2_with fail
    go_ret
    exact ⟨rfl, hB⟩
/-- A test on strings, as a function that may make memory. -/
def TestAt (F : Nat) (lb : Array Value) (P : ByteArray → Bool) (zs : List ByteArray) (Φ : World → Prop) : Prop := ∀ s ∈ zs, ∀ W, Φ W → Calls Try.prog F (#[.string s] ++ lb) W fun e w' => e = .returned (.bool (P s)) ∧ Below W.heap.size W w'
set_option maxRecDepth 100000 in
set_option maxHeartbeats 4000000 in
theorem index_any (Bs : Nat) (v : Value) (zs : List ByteArray) (P : ByteArray → Bool) (Φ : World → Prop) (w : World) (hv : StrsAt w v zs) (hl : zs.length ≤ 1000) (hΦ : ∀ W W', Φ W → Below W.heap.size W W' → Φ W') (h0 : Φ w)
    (hT : TestAt 57 #[.pointer (some ⟨Bs, 0, none⟩)] P zs Φ) :
    Calls Try.prog 78 #[v, .func (.func 57) #[] #[.pointer (some ⟨Bs, 0, none⟩)]] w fun e w' => Below w.heap.size w w' ∧
      ((e = .returned (.int .i64 (-1)) ∧ ∀ s ∈ zs, P s = false) ∨ (∃ i : Nat, i < zs.length ∧ e = .returned (.int .i64 i) ∧ P (zs.getD i ByteArray.empty) = true ∧ ∀ j, j < i → P (zs.getD j ByteArray.empty) = false)) := by
  obtain ⟨A, c, rfl, hlc, hcm, hA⟩ := hv
  obtain ⟨N, hN⟩ : ∃ N, N = zs.length := ⟨_, rfl⟩
  have HN := Lib.hid hN
  have HA := Lib.hid hA
  have HT := Lib.hid hT
  have HP := Lib.hid hΦ
  have H0 := Lib.hid h0
  rw [← hN] at hl hlc ⊢
  clear hN hA hT hΦ h0
  go_enter Try.func78, Try.ntmps78
  go_wp2_with fail
  go_loopw [8] (fun i wr => ∃ k : Nat, k ≤ N ∧ i = .int .i64 k ∧ Hid (∀ j, j < k → P (zs.getD j ByteArray.empty) = false) ∧ Hid (Φ wr) ∧ Hid (Below w.heap.size w wr)) (fun i _ => N - (intOf i).toNat)
  case atStart => exact ⟨0, Nat.zero_le _, rfl, Lib.hid (fun j h => absurd h (Nat.not_lt_zero _)), H0, Lib.hid (bl_refl w)⟩
  case round =>
    obtain ⟨k, hk, rfl, HK, HF, HB⟩ := hrel
    by_cases hlt : k < N
    · obtain ⟨g, off, rfl, hg, hc⟩ := HA.out (by have := HN.out; omega)
      have hkl : k < zs.length := by have := HN.out; omega
      have hkc : wr.cell? ⟨g, off + k, none⟩ = some (.string (zs.getD k ByteArray.empty)) := (HB.out.cell (p := ⟨g, off + k, none⟩) hg).trans (hc k hkl)
      have hgw := Nat.lt_of_lt_of_le hg HB.out.size
      have hmem : zs.getD k ByteArray.empty ∈ zs := by
        rw [List.getD_eq_getElem?_getD, List.getElem?_eq_getElem hkl]
        exact List.getElem_mem hkl
      obtain ⟨s, hs⟩ : ∃ s, s = zs.getD k ByteArray.empty := ⟨_, rfl⟩
      have HS := Lib.hid hs
      rw [← hs] at hkc hmem
      have TT := Lib.hid (HT.out s hmem wr HF.out)
      have hklt : (k : Int) < (N : Int) := by omega
      clear hc hs hmem
      go_wp2_with fail
      refine TT.out.mono ?_
      rintro e w2 ⟨rfl, r2⟩
      have HB2 := Lib.hid (bl_then HB.out r2)
      have HF2 := Lib.hid (HP.out _ _ HF.out r2)
      clear r2
      cases hp : P s with
      | true =>
        have HPS := Lib.hid hp
        clear hp
        go_wp2_with fail
        go_ret
        exact ⟨HB2.out, .inr ⟨k, hlt, rfl, by rw [← HS.out]; exact HPS.out, HK.out⟩⟩
      | false =>
        have HK2 : Hid (∀ j, j < k + 1 → P (zs.getD j ByteArray.empty) = false) := Lib.hid fun j hj => by
          rcases Nat.lt_or_ge j k with h | h
          · exact HK.out j h
          · obtain rfl : j = k := by omega
            rw [← HS.out]; exact hp
        clear hp
        go_wp2_with fail
        go_roundw
        case rel => exact ⟨k + 1, by omega, by go_num, HK2, HF2, HB2⟩
        case measure => simp [intOf]; omega
    · have hall : Hid (∀ s ∈ zs, P s = false) := Lib.hid fun s hs => by
        obtain ⟨j, hj, rfl⟩ := List.mem_iff_getElem.1 hs
        have h := HK.out j (by have := HN.out; omega)
        rw [List.getD_eq_getElem?_getD, List.getElem?_eq_getElem hj] at h
        exact h
      go_wp2_with fail
      go_ret
      exact ⟨HB.out, .inl ⟨rfl, hall.out⟩⟩
end Go.Proofs.Ytpclkocfbkjabab

namespace Go.Proofs.Ytpclkocfbkjabab
open Go.RowKit Go.Shelf
set_option linter.unusedVariables false
set_option linter.unusedSimpArgs false

theorem own_setCells {base e g n cap : Nat} : ∀ (vs : List Value) (o : Nat) (W : World) (xs : List Value), W.ownsRow base e 1 (.slice (some ⟨g, 0, none⟩) n cap) n xs →
    ∃ xs', (W.setCells g o vs).ownsRow base e 1 (.slice (some ⟨g, 0, none⟩) n cap) n xs' ∧ (∀ t, t < o → xs'[t]? = xs[t]?) ∧ W.grownBy (W.setCells g o vs) (some g)
  | [], o, W, xs, h => ⟨xs, h, fun t _ => rfl, grown_refl W _⟩
  | v :: vs, o, W, xs, h => by
    obtain ⟨h1, h2⟩ := h.stored o v
    obtain ⟨xs', h3, h4, h5⟩ := own_setCells vs (o + 1) _ _ h1
    refine ⟨xs', h3, fun t ht => ?_, grown_trans h2 h5 fun r e => .inl (by cases e; rfl)⟩
    rw [h4 t (by omega), List.getElem?_set_ne (by omega)]
theorem own_take {W : World} {base e g n cap i : Nat} {xs : List Value} (h : W.ownsRow base e 1 (.slice (some ⟨g, 0, none⟩) n cap) n xs) (hi : i ≤ n) : W.ownsRow base e 1 (.slice (some ⟨g, 0, none⟩) i cap) i (xs.take i) := by
  have hl := h.1
  rcases h.2 with ⟨h', _⟩ | ⟨g', cap', cur, h', hb, hg, h3, h4, h5, h6⟩
  · simp at h'
  · simp only [Value.slice.injEq, Option.some.injEq, Addr.mk.injEq, and_true, true_and] at h'
    obtain ⟨rfl, rfl⟩ := h'
    refine ⟨by rw [List.length_take]; omega, .inr ⟨g, cap, cur, rfl, hb, hg, by omega, h4, h5, ?_⟩⟩
    rw [← h6, List.take_take]
    congr 1
    omega
/-- What is kept of the first j. -/
def kpB (P : ByteArray → Bool) (zs : List ByteArray) (j : Nat) : List ByteArray := (zs.take j).filter fun s => !P s
theorem kp_succ {P : ByteArray → Bool} {zs : List ByteArray} {j : Nat} (h : j < zs.length) : kpB P zs (j + 1) = kpB P zs j ++ (if P (zs.getD j ByteArray.empty) = true then [] else [zs.getD j ByteArray.empty]) := by
  unfold kpB
  rw [List.take_succ_eq_append_getElem h, List.filter_append, List.getD_eq_getElem?_getD, List.getElem?_eq_getElem h]
  simp only [Option.getD_some]
  cases hp : P zs[j] <;> simp [hp]
theorem kp_len (P : ByteArray → Bool) (zs : List ByteArray) (j : Nat) : (kpB P zs j).length ≤ j := by
  unfold kpB
  refine Nat.le_trans (List.length_filter_le _ _) ?_
  simp; omega
theorem kp_first {P : ByteArray → Bool} {zs : List ByteArray} : ∀ {i : Nat}, i ≤ zs.length → (∀ j, j < i → P (zs.getD j ByteArray.empty) = false) → kpB P zs i = zs.take i
  | 0, _, _ => by simp [kpB]
  | i + 1, hi, h => by
    rw [kp_succ (by omega), kp_first (by omega) (fun j hj => h j (by omega)), h i (by omega), List.take_succ_eq_append_getElem (by omega), List.getD_eq_getElem?_getD, List.getElem?_eq_getElem (by omega)]
    rfl
theorem encB_at {zs : List ByteArray} {j : Nat} (h : j < zs.length) : (encB zs)[j]? = some (.string (zs.getD j ByteArray.empty)) := by
  unfold encB
  rw [List.getElem?_map, List.getElem?_eq_getElem h, List.getD_eq_getElem?_getD, List.getElem?_eq_getElem h]
  rfl
set_option maxRecDepth 100000 in
set_option maxHeartbeats 4000000 in
theorem delete_any (Bs base : Nat) (v : Value) (zs : List ByteArray) (P : ByteArray → Bool) (w : World) (hb0 : base ≤ w.heap.size) (ho : w.ownsRow base 9 1 v zs.length (encB zs)) (hl : zs.length ≤ 1000)
    (hT : TestAt 57 #[.pointer (some ⟨Bs, 0, none⟩)] P zs (fun W => Below base w W)) :
    Calls Try.prog 55 #[v, .func (.func 57) #[] #[.pointer (some ⟨Bs, 0, none⟩)]] w fun e w' => ∃ v', e = .returned v' ∧ w'.ownsRow base 9 1 v' (zs.filter fun s => !P s).length (encB (zs.filter fun s => !P s)) ∧ Below base w w' := by
  have IX := Lib.hid (index_any Bs v zs P (fun W => Below base w W) w (strs_own ho (by omega)) hl (fun W W' h1 h2 => h1.trans (h2.mono (Nat.le_trans hb0 h1.size))) (Below.refl base w) hT)
  obtain ⟨N, hN⟩ : ∃ N, N = zs.length := ⟨_, rfl⟩
  have HN := Lib.hid hN
  have HT := Lib.hid hT
  obtain ⟨A, c, rfl, hA⟩ := own_any ho
  rw [← hN] at ho hl hA IX ⊢
  have HO := Lib.hid ho
  clear hT hN ho
  go_enter Try.func55, Try.ntmps55
  go_wp2_with fail
  refine IX.out.mono ?_
  rintro e w1 ⟨r1, hr⟩
  have HB1 := Lib.hid (r1.mono hb0)
  have HO1 := Lib.hid (own_kept HO.out r1)
  rcases hr with ⟨rfl, hall⟩ | ⟨i0, hi0, rfl, hp0, hno⟩
  · have hf : (zs.filter fun s => !P s) = zs := List.filter_eq_self.2 fun s hs => by rw [hall s hs]; rfl
    have HF := Lib.hid hf
    clear hall hf r1
    go_wp2_with fail
    go_ret
    refine ⟨_, rfl, ?_, HB1.out⟩
    rw [HF.out, ← HN.out]
    exact HO1.out
  · obtain ⟨g, rfl, hg⟩ := hA (by omega)
    have hgb : base ≤ g ∧ g < w1.heap.size := (HO1.out.lt g rfl)
    have hcN : N ≤ c := by
      rcases HO1.out.2 with ⟨h, _⟩ | ⟨g', cap', cur, h, _, _, h3, _⟩
      · simp at h
      · simp only [Value.slice.injEq, Option.some.injEq, Addr.mk.injEq, and_true, true_and] at h
        obtain ⟨rfl, rfl⟩ := h
        exact h3
    have hcM : c ≤ 9223372036854775807 := by
      rcases HO1.out.2 with ⟨h, _⟩ | ⟨g', cap', cur, h, _, _, h3, h4, _⟩
      · simp at h
      · simp only [Value.slice.injEq, Option.some.injEq, Addr.mk.injEq, and_true, true_and] at h
        obtain ⟨rfl, rfl⟩ := h
        unfold maxLen at h4; omega
    have hk0 : kpB P zs (i0 + 1) = zs.take i0 := by
      rw [kp_succ (by have := HN.out; omega), hp0, if_pos rfl, List.append_nil, kp_first (by have := HN.out; omega) hno]
    have hst : Hid (∃ cur : List ByteArray, cur.length = N ∧ w1.ownsRow base 9 1 (.slice (some ⟨g, 0, none⟩) N c) N (encB cur) ∧ (∀ t, t < i0 → cur[t]? = (kpB P zs (i0 + 1))[t]?) ∧ ∀ t, i0 + 1 ≤ t → cur[t]? = zs[t]?) := Lib.hid
      ⟨zs, HN.out.symm, HO1.out, fun t ht => by rw [hk0, List.getElem?_take_of_lt ht], fun t _ => rfl⟩
    have hkl : Hid ((kpB P zs (i0 + 1)).length = i0) := Lib.hid (by rw [hk0]; simp; have := HN.out; omega)
    have hw0 : IntKind.i64.wrap ((i0 : Int) + 1) = ((i0 + 1 : Nat) : Int) := by rw [show (i0 : Int) + 1 = ((i0 + 1 : Nat) : Int) by omega]; exact wrapI (by omega)
    have hm1 : ((i0 : Int) == -1) = false := by rw [beq_eq_false_iff_ne]; omega
    clear hk0 hno hp0 r1 HO1 HO IX
    go_wp2_with fail
    go_loopw [5, 6] (fun iv jv wr => ∃ i j : Nat, i < j ∧ j ≤ N ∧ iv = .int .i64 i ∧ jv = .int .i64 j ∧ Hid ((kpB P zs j).length = i) ∧
      Hid (∃ cur : List ByteArray, cur.length = N ∧ wr.ownsRow base 9 1 (.slice (some ⟨g, 0, none⟩) N c) N (encB cur) ∧ (∀ t, t < i → cur[t]? = (kpB P zs j)[t]?) ∧ ∀ t, j ≤ t → cur[t]? = zs[t]?) ∧ Hid (Below base w wr)) (fun _ jv _ => N - (intOf jv).toNat)
    case atStart => exact ⟨i0, i0 + 1, by omega, by omega, by first | rfl | go_num, by first | rfl | go_num, hkl, hst, HB1⟩
    case round =>
      obtain ⟨i, j, hij, hj, rfl, rfl, HL, HC, HB⟩ := hrel
      clear hkl hst HB1
      obtain ⟨cur, hcl, hoc, hlow, hhigh⟩ := HC.out
      by_cases hlt : j < N
      · have hjl : j < zs.length := by have := HN.out; omega
        have hjc : wr.cell? ⟨g, j, none⟩ = some (.string (zs.getD j ByteArray.empty)) := by
          rw [hoc.cellAt j (by omega), encB_at (by omega), List.getD_eq_getElem?_getD, hhigh j (Nat.le_refl j), ← List.getD_eq_getElem?_getD]
        have hgw := (hoc.lt g rfl).2
        have hmem : zs.getD j ByteArray.empty ∈ zs := by
          rw [List.getD_eq_getElem?_getD, List.getElem?_eq_getElem hjl]
          exact List.getElem_mem hjl
        have hks := kp_succ (P := P) hjl
        obtain ⟨s, hs⟩ : ∃ s, s = zs.getD j ByteArray.empty := ⟨_, rfl⟩
        rw [← hs] at hjc hmem hks
        have HS := Lib.hid hs
        have HKS := Lib.hid hks
        have TT := Lib.hid (HT.out s hmem wr HB.out)
        have hjN : (j : Int) < (N : Int) := by omega
        have HOC := Lib.hid hoc
        have HLOW := Lib.hid hlow
        have HHIGH := Lib.hid hhigh
        clear hs hmem hks hoc hlow hhigh
        go_wp2_with fail
        refine TT.out.mono ?_
        rintro e w2 ⟨rfl, r2⟩
        have HB2 := Lib.hid (HB.out.trans (r2.mono (Nat.le_trans hb0 HB.out.size)))
        have HO2 := Lib.hid (own_kept HOC.out r2)
        clear r2
        cases hp : P s with
        | true =>
          have hks := HKS.out
          rw [if_pos hp, List.append_nil] at hks
          have HL2 : Hid ((kpB P zs (j + 1)).length = i) := Lib.hid (by rw [hks]; exact HL.out)
          have HC2 : Hid (∃ cur : List ByteArray, cur.length = N ∧ w2.ownsRow base 9 1 (.slice (some ⟨g, 0, none⟩) N c) N (encB cur) ∧ (∀ t, t < i → cur[t]? = (kpB P zs (j + 1))[t]?) ∧ ∀ t, j + 1 ≤ t → cur[t]? = zs[t]?) := Lib.hid
            ⟨cur, hcl, HO2.out, fun t ht => by rw [hks]; exact HLOW.out t ht, fun t ht => HHIGH.out t (by omega)⟩
          clear hks hp
          go_wp2_with fail
          go_roundw
          case rel => exact ⟨i, j + 1, by omega, by omega, by first | rfl | go_num, by go_num, HL2, HC2, HB2⟩
          case measure => simp [intOf]; omega
        | false =>
          have hks := HKS.out
          rw [if_neg (by rw [hp]; simp)] at hks
          have hcell := HO2.out.cellAt i (by omega)
          rw [encB_at (by omega)] at hcell
          have hfro := HO2.out.frozenAt i
          obtain ⟨so1, so2⟩ := HO2.out.stored i (.string s)
          have HL2 : Hid ((kpB P zs (j + 1)).length = i + 1) := Lib.hid (by rw [hks, List.length_append, HL.out]; rfl)
          have HC2 : Hid (∃ cur : List ByteArray, cur.length = N ∧ (w2.setCell ⟨g, i, none⟩ (.string s)).ownsRow base 9 1 (.slice (some ⟨g, 0, none⟩) N c) N (encB cur) ∧ (∀ t, t < i + 1 → cur[t]? = (kpB P zs (j + 1))[t]?) ∧ ∀ t, j + 1 ≤ t → cur[t]? = zs[t]?) := Lib.hid
            ⟨cur.set i s, by simp [hcl], by
              have e : encB (cur.set i s) = (encB cur).set i (.string s) := by unfold encB; rw [List.map_set]
              rw [e]; exact so1, fun t ht => by
              rw [hks]
              rcases Nat.lt_or_ge t i with h | h
              · rw [List.getElem?_set_ne (by omega), HLOW.out t h, List.getElem?_append_left (by rw [HL.out]; exact h)]
              · obtain rfl : t = i := by omega
                rw [List.getElem?_set_self (by omega), List.getElem?_append_right (by rw [HL.out]; exact Nat.le_refl _), HL.out, Nat.sub_self]
                rfl, fun t ht => by rw [List.getElem?_set_ne (by omega)]; exact HHIGH.out t (by omega)⟩
          have HB3 := Lib.hid (HB2.out.grown so2 (Nat.le_trans hb0 HB2.out.size) fun k e => by cases e; exact hgb.1)
          have hgw2 := (HO2.out.lt g rfl).2
          have hiN : (i : Int) < (N : Int) := by omega
          have hi0' : (0 : Int) ≤ (i : Int) := by omega
          clear hks hp so1 so2
          go_wp2_with fail
          go_roundw
          case rel => exact ⟨i + 1, j + 1, by omega, by omega, by go_num, by go_num, HL2, HC2, HB3⟩
          case measure => simp [intOf]; omega
      · have ej : j = N := by omega
        have hz9 : ∀ w, (zeroValue 9).run Try.prog w = .ok (.string ⟨#[]⟩) w := fun w => by kernel_rfl
        have hcl2 : ∀ ty, (Builtin.clear_ #[22] ty #[.slice (some ⟨g, i, none⟩) (N - i) (c - i)]).run Try.prog wr = .ok (.tuple #[]) (wr.setCells g i (List.replicate (N - i) (.string ⟨#[]⟩))) :=
          fun ty => Lib.run_clear_slice wr _ _ ty _ Try.underlying22 hz9 rfl rfl g i _ _ (by omega) (fun t ht => by rw [hoc.cellAt (i + t) (by omega), encB_at (by omega)]; rfl) (fun t ht => hoc.frozenAt (i + t))
        obtain ⟨xs', q1, q2, q3⟩ := own_setCells (List.replicate (N - i) (.string ⟨#[]⟩)) i wr _ hoc
        have q4 := own_take (i := i) q1 (by omega)
        have hfin : xs'.take i = encB (zs.filter fun s => !P s) := by
          have hk := HL.out
          rw [ej, show kpB P zs N = zs.filter fun s => !P s by unfold kpB; rw [List.take_of_length_le (by rw [HN.out]; exact Nat.le_refl _)]] at hk
          rw [ej, show kpB P zs N = zs.filter fun s => !P s by unfold kpB; rw [List.take_of_length_le (by rw [HN.out]; exact Nat.le_refl _)]] at hlow
          apply List.ext_getElem?
          intro t
          by_cases ht : t < i
          · rw [List.getElem?_take_of_lt ht, q2 t ht, encB_at (by omega), encB_at (by omega), List.getD_eq_getElem?_getD, List.getD_eq_getElem?_getD, hlow t ht]
          · rw [List.getElem?_eq_none (by simp; omega), List.getElem?_eq_none (by simp [encB, hk]; omega)]
        rw [hfin] at q4
        have hlen : (zs.filter fun s => !P s).length = i := by
          have hk := HL.out
          rw [ej, show kpB P zs N = zs.filter fun s => !P s by unfold kpB; rw [List.take_of_length_le (by rw [HN.out]; exact Nat.le_refl _)]] at hk
          exact hk
        have HFIN : Hid ((wr.setCells g i (List.replicate (N - i) (.string ⟨#[]⟩))).ownsRow base 9 1 (.slice (some ⟨g, 0, none⟩) i c) (zs.filter fun s => !P s).length (encB (zs.filter fun s => !P s))) := Lib.hid (by rw [hlen]; exact q4)
        have HB3 := Lib.hid (HB.out.grown q3 (Nat.le_trans hb0 HB.out.size) fun k e => by cases e; exact hgb.1)
        have hic : ¬ c = i := by omega
        have hiN : (i : Int) ≤ (N : Int) := by omega
        have hi0' : (0 : Int) ≤ (i : Int) := by omega
        have hic2 : (i : Int) ≤ (c : Int) := by omega
        subst ej
        clear q1 q2 q3 q4 hfin hlen hlow hhigh hoc HC
        go_wp2_with fail
        go_ret
        exact ⟨_, rfl, HFIN.out, HB3.out⟩
end Go.Proofs.Ytpclkocfbkjabab

namespace Go.Proofs.Ytpclkocfbkjabab
open Go.RowKit Go.Shelf Go.Sort
set_option linter.unusedVariables false
set_option linter.unusedSimpArgs false

theorem cloneB_any (v : Value) (ss : List ByteArray) (w : World) (hv : StrsAt w v ss) (hl : ss.length ≤ 1000) :
    Calls Try.prog 56 #[v] w fun e w' => ∃ v', e = .returned v' ∧ w'.ownsRow w.heap.size 9 1 v' ss.length (encB ss) ∧ Below w.heap.size w w' := by
  obtain ⟨A, c, rfl, hlc, hcm, hA⟩ := hv
  by_cases h0 : ss.length = 0
  · have e1 : ss = [] := List.eq_nil_of_length_eq_zero h0
    subst e1
    cases A with
    | none =>
      refine (Try.slices_Clone_string_nil 0 c w).mono ?_
      rintro e w' ⟨rfl, rfl⟩
      exact ⟨_, rfl, World.ownsRow_nil _ _ _ _, bl_refl _⟩
    | some a =>
      refine (Try.slices_Clone_string_zero a c w).mono ?_
      rintro e w' ⟨v', rfl, h1, _, h2⟩
      exact ⟨v', rfl, h1, h2⟩
  · obtain ⟨g, off, rfl, hg, hc⟩ := hA (by omega)
    refine (Try.slices_Clone_string g off ss.length c ss w (Nat.le_refl _) (by omega) hc).mono ?_
    rintro e w' ⟨v', rfl, h1, _, h2⟩
    rw [List.take_length] at h1
    exact ⟨v', rfl, h1, h2⟩
/-- What is left when the patterns that hold another one are left out. -/
def tidB (ss : List ByteArray) : List ByteArray := ss.filter fun s => !inB ss s
theorem Tidy_no (q : Int) (v : Value) (ss : List ByteArray) (w : World) (hv : StrsAt w v ss) (hset : setB q ss = false) :
    Calls Try.prog 31 #[.int .i64 q, v] w fun e w' => e = .returned (.tuple #[.slice none 0 0, .int .i64 2]) ∧ Below w.heap.size w w' := by
  obtain ⟨A, cA, rfl, _, _, _⟩ := id hv
  obtain ⟨W0, hW0⟩ : ∃ W0, W0 = w.alloc (.cells #[.slice A ss.length cA] 22) := ⟨_, rfl⟩
  have hb0 : Below w.heap.size w W0 := by rw [hW0]; exact bl_alloc (bl_refl w) _
  have IS := Lib.hid fun W h => isSet_any q (.slice A ss.length cA) ss W h
  rw [hset] at IS
  have HV := Lib.hid (hv.kept hb0)
  have HB := Lib.hid hb0
  have HW0 := Lib.hid hW0
  clear hv hset hb0 hW0
  go_enter Try.func31, Try.ntmps31
  go_wp2_with fail
  rw [← HW0.out]
  refine (IS.out _ HV.out).mono ?_
  rintro e w1 ⟨rfl, r1⟩
  have HB1 := Lib.hid (bl_then HB.out r1)
  clear r1
  go_wp2_with fail
  go_ret2
  exact ⟨rfl, HB1.out⟩
set_option maxRecDepth 100000 in
set_option maxHeartbeats 4000000 in
theorem Tidy_any (q : Int) (v : Value) (ss : List ByteArray) (w : World) (hv : StrsAt w v ss) (hset : setB q ss = true) (hG : HasG w) :
    Calls Try.prog 31 #[.int .i64 q, v] w fun e w' => ∃ v', e = .returned (.tuple #[v', .int .i64 0]) ∧ w'.ownsRow w.heap.size 9 1 v' (tidB ss).length (encB (tidB ss)) ∧ Below w.heap.size w w' := by
  obtain ⟨A, cA, rfl, _, _, _⟩ := id hv
  obtain ⟨W0, hW0⟩ : ∃ W0, W0 = w.alloc (.cells #[.slice A ss.length cA] 22) := ⟨_, rfl⟩
  have hb0 : Below w.heap.size w W0 := by rw [hW0]; exact bl_alloc (bl_refl w) _
  have hx : Boxed W0 w.heap.size 22 (.slice A ss.length cA) := by rw [hW0]; exact Boxed.new w _ _
  have IS := Lib.hid fun W h => isSet_any q (.slice A ss.length cA) ss W h
  rw [hset] at IS
  have h12 := (setB_parts hset).2.1
  have h5 : ∀ s ∈ ss, s.size < 4294967281 := fun s hs => by
    obtain ⟨j, hj, rfl⟩ := List.mem_iff_getElem.1 hs
    have := (setB_parts hset).2.2 j hj
    unfold goodB at this
    simp only [Bool.and_eq_true, decide_eq_true_iff] at this
    have h1 := this.1.2
    rw [List.getD_eq_getElem?_getD, List.getElem?_eq_getElem hj] at h1
    simp only [Option.getD_some] at h1
    omega
  have CL := Lib.hid fun W h => cloneB_any (.slice A ss.length cA) ss W h (by omega)
  have HV := Lib.hid (hv.kept hb0)
  have HG := Lib.hid (hG.kept hb0)
  have HB := Lib.hid hb0
  have HW0 := Lib.hid hW0
  have HX : Hid (∀ W', Below W0.heap.size W0 W' → W'.cell? ⟨w.heap.size, 0, none⟩ = some (.slice A ss.length cA) ∧ w.heap.size < W'.heap.size) := Lib.hid fun W' hb => ⟨(hb.cell (p := ⟨w.heap.size, 0, none⟩) hx.lt).trans hx.cell, Nat.lt_of_lt_of_le hx.lt hb.size⟩
  have H5 := Lib.hid h5
  clear hv hset hb0 hW0 hx hG h5
  go_enter Try.func31, Try.ntmps31
  go_wp2_with fail
  rw [← HW0.out]
  refine (IS.out _ HV.out).mono ?_
  rintro e w1 ⟨rfl, r1⟩
  have HB1 := Lib.hid (bl_then HB.out r1)
  have HV1 := Lib.hid (HV.out.kept r1)
  have HG1 := Lib.hid (HG.out.kept r1)
  have c1 := (HX.out _ r1).1
  have l1 := (HX.out _ r1).2
  have R1 := Lib.hid r1
  clear r1 HV HG
  go_wp2_with fail
  refine (CL.out _ HV1.out).mono ?_
  rintro e w2 ⟨v2, rfl, ho, r2⟩
  have DL := Lib.hid (delete_any w.heap.size w1.heap.size v2 ss (inB ss) w2 r2.size ho (by omega) (fun s hs W hW => by
    have hW1 : Below w1.heap.size w1 W := r2.trans hW
    exact tidy1_any w.heap.size (.slice A ss.length cA) ss s W (HV1.out.kept hW1) (H5.out s hs) (HG1.out.kept hW1) (Nat.lt_of_lt_of_le l1 hW1.size) ((hW1.cell (p := ⟨w.heap.size, 0, none⟩) l1).trans c1)))
  have hz : w.heap.size ≤ w1.heap.size := HB1.out.size
  have HZ := Lib.hid hz
  have HB2 := Lib.hid (bl_then HB1.out r2)
  clear ho hz r2
  go_wp2_with fail
  refine DL.out.mono ?_
  rintro e w3 ⟨v3, rfl, ho3, r3⟩
  have HO3 := Lib.hid (own_low ho3 HZ.out)
  have HB3 := Lib.hid (HB2.out.trans (r3.mono HZ.out))
  clear ho3 r3
  go_wp2_with fail
  go_ret2
  exact ⟨v3, rfl, HO3.out, HB3.out⟩
/-- A list without one. -/
def dropB (ss : List ByteArray) (i : Nat) : List ByteArray := ss.take i ++ ss.drop (i + 1)
theorem drop_len {ss : List ByteArray} {i : Nat} (h : i < ss.length) : (dropB ss i).length = ss.length - 1 := by unfold dropB; simp; omega
theorem drop_sub (ss : List ByteArray) (i : Nat) : ∀ s ∈ dropB ss i, s ∈ ss := fun s hs => by
  unfold dropB at hs
  rcases List.mem_append.1 hs with h | h
  · exact List.mem_of_mem_take h
  · exact List.mem_of_mem_drop h
theorem drop_ok {ss : List ByteArray} {i : Nat} {t : Str} (h : okL (pats ss) t = true) : okL (pats (dropB ss i)) t = true := by
  refine ok_sub (fun p hp => ?_) h
  unfold pats at hp ⊢
  obtain ⟨s, hs, rfl⟩ := List.mem_map.1 hp
  exact List.mem_map.2 ⟨s, drop_sub ss i s hs, rfl⟩
theorem size_setCells' (b : Nat) : ∀ (vs : List Value) (o : Nat) (W : World), (W.setCells b o vs).heap.size = W.heap.size
  | [], _, _ => rfl
  | v :: vs, o, W => by
    rw [World.setCells, size_setCells' b vs (o + 1) _]
    simp [World.setCell]
theorem bl_setCells {B b : Nat} (hb : B ≤ b) {a : World} : ∀ (vs : List Value) (o : Nat) (W : World), Below B a W → Below B a (W.setCells b o vs)
  | [], _, _, h => h
  | v :: vs, o, W, h => by
    rw [World.setCells]
    exact bl_setCells hb vs (o + 1) _ (h.setCell hb v)
/-- slices.Delete of one, from a list of one's own. -/
theorem del_any (v : Value) (ss : List ByteArray) (i : Nat) (base : Nat) (w : World) (hi : i < ss.length) (hl : ss.length ≤ 1000) (ho : w.ownsRow base 9 1 v ss.length (encB ss)) :
    Calls Try.prog 61 #[v, .int .i64 i, .int .i64 ((i : Int) + 1)] w fun e w' => ∃ v', e = .returned v' ∧ StrsAt w' v' (dropB ss i) ∧ Below base w w' := by
  obtain ⟨g, c, rfl, hg1, hg2⟩ := own_form ho (by omega)
  have hc : ∀ t, t < ss.length → w.cell? ⟨g, 0 + t, none⟩ = some (.string (ss.getD t ByteArray.empty)) := fun t ht => by
    rw [Nat.zero_add, ho.cellAt t (by omega), encB_at ht]
  have hcN : ss.length ≤ c ∧ c ≤ 9223372036854775807 := by
    rcases ho.2 with ⟨h, _⟩ | ⟨g', cap', cur, h, _, _, h3, h4, _⟩
    · simp at h
    · simp only [Value.slice.injEq, Option.some.injEq, Addr.mk.injEq, and_true, true_and] at h
      obtain ⟨rfl, rfl⟩ := h
      exact ⟨h3, by unfold maxLen at h4; omega⟩
  have C := Try.slices_Delete_string_cells g 0 ss.length c i (i + 1) (fun t => ss.getD t ByteArray.empty) w hcN.1 hcN.2 (by omega) (by omega) hc (fun j _ => ho.frozenAt (0 + j))
  rw [show ((i + 1 : Nat) : Int) = (i : Int) + 1 by omega] at C
  refine C.mono ?_
  rintro e w' ⟨rfl, nq, rfl⟩
  refine ⟨_, rfl, ?_, ?_⟩
  · have hs : Lib.strsOf (fun t => ss.getD t ByteArray.empty) ss.length = ss.map sb := by
      apply List.ext_getElem
      · simp [Lib.strsOf]
      · intro t h1 h2
        simp only [Lib.strsOf, List.getElem_map, List.getElem_range]
        rw [List.getD_eq_getElem?_getD, List.getElem?_eq_getElem (by simpa using h2)]
        rfl
    rw [hs]
    refine ⟨some ⟨g, 0, none⟩, c, by rw [drop_len hi, show i + 1 - i = 1 by omega], by rw [drop_len hi]; omega, hcN.2, fun h => ⟨g, 0, rfl, ?_, fun t ht => ?_⟩⟩
    · rw [size_setCells']; exact hg2
    · rw [drop_len hi] at ht
      have hin := World.cell?_setCells_in g ((((ss.map sb).take i ++ (ss.map sb).drop (i + 1) ++ List.replicate (i + 1 - i) []).map encStr)) 0 (w.drewN nq) (fun j hj => by
        have hj' : j < ss.length := by simp at hj; omega
        have := hc j hj'
        rw [show (w.drewN nq).cell? ⟨g, 0 + j, none⟩ = w.cell? ⟨g, 0 + j, none⟩ from rfl, this]; rfl) t (by simp; omega)
      rw [hin]
      congr 1
      have he : ((ss.map sb).take i ++ (ss.map sb).drop (i + 1) ++ List.replicate (i + 1 - i) []).map encStr = (dropB ss i).map (fun s => Value.string s) ++ (List.replicate (i + 1 - i) []).map encStr := by
        rw [List.map_append]
        congr 1
        unfold dropB
        rw [← List.map_take, ← List.map_drop, ← List.map_append, List.map_map]
        rfl
      simp only [he]
      rw [List.getElem_append_left (by rw [List.length_map, drop_len hi]; exact ht), List.getElem_map, List.getD_eq_getElem?_getD, List.getElem?_eq_getElem (by rw [drop_len hi]; exact ht)]
      rfl
  · exact bl_setCells hg1 _ _ _ (Below.refl base w |>.grown (grown_drew w nq) (by omega) (fun r e => by cases e))
end Go.Proofs.Ytpclkocfbkjabab

namespace Go.Proofs.Ytpclkocfbkjabab
open Go.RowKit Go.Shelf
set_option linter.unusedVariables false
set_option linter.unusedSimpArgs false

theorem unav_any (q : Nat) (v : Value) (ss : List ByteArray) (w : World) (hv : StrsAt w v ss) (hq : 1 ≤ q ∧ q ≤ 3) (h0 : okL (pats ss) [] = true) (hG : HasG w) :
    Calls Try.prog 48 #[.int .i64 q, v] w fun e w' => e = .returned (.bool (endsB (tabL (pats ss) q))) ∧ Below w.heap.size w w' := by
  have hT := tab_ok (q := q) h0
  have hS := stL_few (pats ss) hq.2
  have hN : 0 < (stL (pats ss) q).length := by rw [stL_fix h0]; simp
  refine (isUnavoidable_any q v ss w hv hq h0 hG).mono ?_
  rintro e w' ⟨⟨l, hl, rfl⟩, hb⟩
  refine ⟨?_, hb⟩
  congr 2
  rcases hl with ⟨rfl, h⟩ | ⟨m, rfl, h1, h2⟩
  · unfold endsB
    rw [h 1000]
    rfl
  · rw [ends_iff hT hN hS (.inr ⟨m, rfl, h1, h2⟩)]
    simp
/-- Is the pattern at this place needed? -/
def ndB (q : Nat) (ss : List ByteArray) (i : Nat) : Bool := !endsB (tabL (pats (dropB ss i)) q)
def ndTo (q : Nat) (ss : List ByteArray) (k : Nat) : List ByteArray := ((List.range k).filter (ndB q ss)).map fun i => ss.getD i ByteArray.empty
theorem nd_succ (q : Nat) (ss : List ByteArray) (k : Nat) : ndTo q ss (k + 1) = ndTo q ss k ++ (if ndB q ss k = true then [ss.getD k ByteArray.empty] else []) := by
  unfold ndTo
  rw [List.range_succ, List.filter_append, List.map_append]
  cases h : ndB q ss k <;> simp [h]
theorem nd_len (q : Nat) (ss : List ByteArray) (k : Nat) : (ndTo q ss k).length ≤ k := by
  unfold ndTo
  rw [List.length_map]
  refine Nat.le_trans (List.length_filter_le _ _) ?_
  simp
theorem encB_snoc (L : List ByteArray) (s : ByteArray) : encB (L ++ [s]) = encB L ++ [.string s] := by simp [encB]
theorem Needed_no (q : Int) (v : Value) (ss : List ByteArray) (w : World) (hv : StrsAt w v ss) (hset : setB q ss = false) :
    Calls Try.prog 33 #[.int .i64 q, v] w fun e w' => e = .returned (.tuple #[.slice none 0 0, .int .i64 2]) ∧ Below w.heap.size w w' := by
  have IS := Lib.hid (isSet_any q v ss w hv)
  rw [hset] at IS
  clear hv hset
  go_enter Try.func33, Try.ntmps33
  go_wp2_with fail
  refine IS.out.mono ?_
  rintro e w1 ⟨rfl, r1⟩
  go_wp2_with fail
  go_ret2
  exact ⟨rfl, r1⟩
theorem Needed_none (q : Nat) (v : Value) (ss : List ByteArray) (w : World) (hv : StrsAt w v ss) (hset : setB q ss = true) (hG : HasG w) (he : endsB (tabL (pats ss) q) = false) :
    Calls Try.prog 33 #[.int .i64 q, v] w fun e w' => e = .returned (.tuple #[.slice none 0 0, .int .i64 6]) ∧ Below w.heap.size w w' := by
  have hq : 1 ≤ q ∧ q ≤ 3 := by have := (setB_parts hset).1; omega
  have h0 := ok_nil (pats_some hset)
  have IS := Lib.hid (isSet_any q v ss w hv)
  rw [hset] at IS
  have UN := Lib.hid fun W h1 h2 => unav_any q v ss W h1 hq h0 h2
  rw [he] at UN
  have HV := Lib.hid hv
  have HG := Lib.hid hG
  clear hv hset hG he h0
  go_enter Try.func33, Try.ntmps33
  go_wp2_with fail
  refine IS.out.mono ?_
  rintro e w1 ⟨rfl, r1⟩
  go_wp2_with fail
  refine (UN.out _ (HV.out.kept r1) (HG.out.kept r1)).mono ?_
  rintro e w2 ⟨rfl, r2⟩
  have HB := Lib.hid (bl_then r1 r2)
  clear r1 r2
  go_wp2_with fail
  go_ret2
  exact ⟨rfl, HB.out⟩
set_option maxRecDepth 100000 in
set_option maxHeartbeats 4000000 in
theorem Needed_any (q : Nat) (v : Value) (ss : List ByteArray) (w : World) (hv : StrsAt w v ss) (hset : setB q ss = true) (hG : HasG w) (he : endsB (tabL (pats ss) q) = true) :
    Calls Try.prog 33 #[.int .i64 q, v] w fun e w' => ∃ v', e = .returned (.tuple #[v', .int .i64 0]) ∧ w'.ownsRow w.heap.size 9 1 v' (ndTo q ss ss.length).length (encB (ndTo q ss ss.length)) ∧ Below w.heap.size w w' := by
  have hq : 1 ≤ q ∧ q ≤ 3 := by have := (setB_parts hset).1; omega
  have h0 := ok_nil (pats_some hset)
  have h12 := (setB_parts hset).2.1
  obtain ⟨j0, hj, jz0, jz1, jz2⟩ := info_parts infoS
  have IS := Lib.hid (isSet_any q v ss w hv)
  rw [hset] at IS
  have UN := Lib.hid fun W h1 h2 => unav_any q v ss W h1 hq h0 h2
  rw [he] at UN
  have CL := Lib.hid fun W h => cloneB_any v ss W h (by omega)
  have DE := Lib.hid fun i v base W h1 h2 => del_any v ss i base W h1 (by omega) h2
  have UD := Lib.hid fun i v W h1 h2 => unav_any q v (dropB ss i) W h1 hq (drop_ok h0) h2
  have HV := Lib.hid hv
  have HG := Lib.hid hG
  obtain ⟨N, hN⟩ : ∃ N, N = ss.length := ⟨_, rfl⟩
  have HN := Lib.hid hN
  obtain ⟨A, cA, rfl, _, _, hA⟩ := id hv
  rw [← hN] at HV h12 UN CL hA IS DE ⊢
  have HA := Lib.hid hA
  clear hv hset hG he h0 hN hA
  go_enter Try.func33, Try.ntmps33
  go_wp2_with fail
  refine IS.out.mono ?_
  rintro e w1 ⟨rfl, r1⟩
  go_wp2_with fail
  refine (UN.out _ (HV.out.kept r1) (HG.out.kept r1)).mono ?_
  rintro e w2 ⟨rfl, r2⟩
  have HB := Lib.hid (bl_then r1 r2)
  clear r1 r2
  go_wp2_with fail
  go_loopw [6, 19] (fun ov iv wr => ∃ k : Nat, k ≤ N ∧ iv = .int .i64 k ∧ Hid (wr.ownsRow w.heap.size 9 1 ov (ndTo q ss k).length (encB (ndTo q ss k))) ∧ Hid (Below w.heap.size w wr)) (fun _ iv _ => N - (intOf iv).toNat)
  case atStart => exact ⟨0, Nat.zero_le _, rfl, Lib.hid (World.ownsRow_nil _ _ _ _), HB⟩
  case round =>
    obtain ⟨k, hk, rfl, HO, HBk⟩ := hrel
    clear HB
    by_cases hlt : k < N
    · obtain ⟨g, off, rfl, hg, hc⟩ := HA.out (by omega)
      have hkl : k < ss.length := by have := HN.out; omega
      have hkc := (HBk.out.cell (p := ⟨g, off + k, none⟩) hg).trans (hc k hlt)
      have hgw := Nat.lt_of_lt_of_le hg HBk.out.size
      obtain ⟨s, hs⟩ : ∃ s, s = ss.getD k ByteArray.empty := ⟨_, rfl⟩
      rw [← hs] at hkc
      have hnd := nd_succ q ss k
      rw [← hs] at hnd
      have HND := Lib.hid hnd
      have hkN : (k : Int) < (N : Int) := by omega
      have hw1 : IntKind.i64.wrap ((k : Int) + 1) = ((k + 1 : Nat) : Int) := by rw [show (k : Int) + 1 = ((k + 1 : Nat) : Int) by omega]; exact wrapI (by omega)
      have HVk := Lib.hid (HV.out.kept HBk.out)
      have HGk := Lib.hid (HG.out.kept HBk.out)
      clear hc hs hnd
      go_wp2_with fail
      refine (CL.out wr HVk.out).mono ?_
      rintro e w3 ⟨v3, rfl, ho3, r3⟩
      have HO3 := Lib.hid ho3
      have HR3 := Lib.hid r3
      clear ho3 r3
      go_wp2_with fail
      refine (DE.out k v3 wr.heap.size w3 (by omega) HO3.out).mono ?_
      rintro e w4 ⟨v4, rfl, hs4, r4⟩
      have hr34 : Below wr.heap.size wr w4 := HR3.out.trans r4
      have HS4 := Lib.hid hs4
      have HR4 := Lib.hid hr34
      clear hs4 r4 hr34
      go_wp2_with fail
      refine (UD.out k v4 w4 HS4.out (HGk.out.kept HR4.out)).mono ?_
      rintro e w5 ⟨rfl, r5⟩
      have hr5 := bl_then HR4.out r5
      have HB5 := Lib.hid (bl_then HBk.out hr5)
      have ho5 := own_kept HO.out hr5
      have hz5 := HB5.out.size
      have hnl := nd_len q ss k
      clear HR3 HR4 HO3 HS4 HVk r5
      cases hend : endsB (tabL (pats (dropB ss k)) q) with
      | true =>
        have hno : ndB q ss k = false := by unfold ndB; rw [hend]; rfl
        have HO6 : Hid (w5.ownsRow w.heap.size 9 1 _ (ndTo q ss (k + 1)).length (encB (ndTo q ss (k + 1)))) := Lib.hid (by rw [HND.out, hno, if_neg (by simp), List.append_nil]; exact ho5)
        clear hend hno ho5 hr5
        go_wp2_with fail
        go_roundw
        case rel => exact ⟨k + 1, by omega, by go_num, HO6, HB5⟩
        case measure => simp [intOf]; omega
      | false =>
        have hyes : ndB q ss k = true := by unfold ndB; rw [hend]; rfl
        have hnd2 := HND.out
        rw [hyes, if_pos rfl] at hnd2
        have HND2 := Lib.hid hnd2
        clear hend hyes hr5 hnd2
        go_wp2_with (at_builtin; refine wpList_append_own _ rfl (.tmp 33) (.tmp 35) _ rfl w.heap.size 9 j0 _ 1 16 Try.underlying22 hj jz0 jz1 jz2 rfl (by decide) _ (ndTo q ss k).length (encB (ndTo q ss k)) rfl (ho5.alloc _) ⟨w5.heap.size, 0, none⟩ 1 1 [.string s] rfl rfl (cells_new _ _ _) (by intro u hu; rw [List.mem_singleton.1 hu]; rfl) (by unfold maxLen; omega) (by omega) (by simp; omega) ?_; intro v6 w6 hown6 hg6 _)
        have hoA := ho5.alloc (.cells #[.string s] 9)
        have HB6 := Lib.hid (bl_grown (bl_alloc HB5.out (.cells #[.string s] 9)) hoA (Nat.le_refl _) hg6)
        have HO6 : Hid (w6.ownsRow w.heap.size 9 1 v6 (ndTo q ss (k + 1)).length (encB (ndTo q ss (k + 1)))) := Lib.hid (by rw [HND2.out, encB_snoc, List.length_append]; exact hown6)
        clear hg6 hoA hown6 ho5
        go_wp2_with fail
        go_roundw
        case rel => exact ⟨k + 1, by omega, by go_num, HO6, HB6⟩
        case measure => simp [intOf]; omega
    · have ek : N = k := by omega
      subst ek
      go_wp2_with fail
      go_ret2
      exact ⟨_, rfl, HO.out, HBk.out⟩
end Go.Proofs.Ytpclkocfbkjabab

namespace Go.Proofs.Ytpclkocfbkjabab
open Go.RowKit Go.Shelf
set_option linter.unusedVariables false
set_option linter.unusedSimpArgs false

theorem src_cells {w W : World} {g off n : Nat} {ss : List ByteArray} (hg : g < w.heap.size) (hc : ∀ j, j < ss.length → w.cell? ⟨g, off + j, none⟩ = some (.string (ss.getD j ByteArray.empty))) (hb : Below w.heap.size w W) (o : Nat) (L : List ByteArray)
    (hL : ∀ j, j < L.length → o + j < ss.length ∧ L.getD j ByteArray.empty = ss.getD (o + j) ByteArray.empty) : ∀ (j : Nat) u, (encB L)[j]? = some u → W.cell? ((⟨g, off + o, none⟩ : Addr).add j) = some u := by
  intro j u hu
  have hj : j < L.length := by
    rcases Nat.lt_or_ge j L.length with h | h
    · exact h
    · rw [List.getElem?_eq_none (by simp [encB]; omega)] at hu; cases hu
  rw [encB_at hj] at hu
  injection hu with hu
  obtain ⟨h1, h2⟩ := hL j hj
  rw [show (⟨g, off + o, none⟩ : Addr).add j = ⟨g, off + o + j, none⟩ by unfold Addr.add; split <;> simp_all, ← hu, h2, hb.cell (p := ⟨g, off + o + j, none⟩) hg, Nat.add_assoc]
  exact hc _ h1
theorem encB_one (L : List ByteArray) : ∀ u ∈ encB L, u.oneCell' = true := by
  intro u hu
  unfold encB at hu
  obtain ⟨s, _, rfl⟩ := List.mem_map.1 hu
  rfl
theorem encB_len (L : List ByteArray) : (encB L).length = L.length := by simp [encB]
end Go.Proofs.Ytpclkocfbkjabab

namespace Go.Proofs.Ytpclkocfbkjabab
open Go.RowKit Go.Shelf
set_option linter.unusedVariables false
set_option linter.unusedSimpArgs false

/-- Is no other pattern in the one at this place? -/
def rtB (ss : List ByteArray) (i : Nat) : Bool := okL (pats (dropB ss i)) (sb (ss.getD i ByteArray.empty))
def selTo (f : Nat → Bool) (ss : List ByteArray) (k : Nat) : List ByteArray := ((List.range k).filter f).map fun i => ss.getD i ByteArray.empty
theorem sel_succ (f : Nat → Bool) (ss : List ByteArray) (k : Nat) : selTo f ss (k + 1) = selTo f ss k ++ (if f k = true then [ss.getD k ByteArray.empty] else []) := by
  unfold selTo
  rw [List.range_succ, List.filter_append, List.map_append]
  cases h : f k <;> simp [h]
theorem sel_len (f : Nat → Bool) (ss : List ByteArray) (k : Nat) : (selTo f ss k).length ≤ k := by
  unfold selTo
  rw [List.length_map]
  refine Nat.le_trans (List.length_filter_le _ _) ?_
  simp
end Go.Proofs.Ytpclkocfbkjabab
