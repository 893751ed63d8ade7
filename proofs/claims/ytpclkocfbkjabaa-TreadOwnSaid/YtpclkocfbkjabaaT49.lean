/-
  slices.DeleteFunc of a fresh list; Tidy.
-/
import Derived.Test.YtpclkocfbkjabaaT48
namespace Go.Proofs.Ytpclkocfbkjabaa
open Go.RowKit Go.Shelf
set_option linter.unusedVariables false
set_option linter.unusedSimpArgs false

theorem own_setCells {base e g n cap : Nat} : ∀ (vs : List Value) (o : Nat) (W : World) (xs : List Value), W.ownsRow base e 1 (.slice (some ⟨g, 0, none⟩) n cap) n xs →
    ∃ xs', (W.setCells g o vs).ownsRow base e 1 (.slice (some ⟨g, 0, none⟩) n cap) n xs' ∧ (∀ t, t < o → xs'[t]? = xs[t]?) ∧ W.grownBy (W.setCells g o vs) (some g)
  | [], o, W, xs, h => ⟨xs, h, fun t _ => rfl, grown_refl W _⟩
  | v :: vs, o, W, xs, h => by
    obtain ⟨h1, h2⟩ := h.stored o v
    obtain ⟨xs', h3, h4, h5⟩ := own_setCells vs (o + 1) _ _ h1
    refine ⟨xs', h3, fun t ht => ?_, grown_trans h2 h5 fun r e => .inl (by cases e; rfl)⟩
    rw [h4 t (by omega), List.getElem?_set_ne (by omega)]
theorem own_take {W : World} {base e g n cap i : Nat} {xs : List Value} (h : W.ownsRow base e 1 (.slice (some ⟨g, 0, none⟩) n cap) n xs) (hi : i ≤ n) : W.ownsRow base e 1 (.slice (some ⟨g, 0, none⟩) i cap) i (xs.take i) := by
  have hl := h.1
  rcases h.2 with ⟨h', _⟩ | ⟨g', cap', cur, h', hb, hg, h3, h4, h5, h6⟩
  · simp at h'
  · simp only [Value.slice.injEq, Option.some.injEq, Addr.mk.injEq, and_true, true_and] at h'
    obtain ⟨rfl, rfl⟩ := h'
    refine ⟨by rw [List.length_take]; omega, .inr ⟨g, cap, cur, rfl, hb, hg, by omega, h4, h5, ?_⟩⟩
    rw [← h6, List.take_take]
    congr 1
    omega
/-- What is kept of the first j. -/
def kpB (P : ByteArray → Bool) (zs : List ByteArray) (j : Nat) : List ByteArray := (zs.take j).filter fun s => !P s
theorem kp_succ {P : ByteArray → Bool} {zs : List ByteArray} {j : Nat} (h : j < zs.length) : kpB P zs (j + 1) = kpB P zs j ++ (if P (zs.getD j ByteArray.empty) = true then [] else [zs.getD j ByteArray.empty]) := by
  unfold kpB
  rw [List.take_succ_eq_append_getElem h, List.filter_append, List.getD_eq_getElem?_getD, List.getElem?_eq_getElem h]
  simp only [Option.getD_some]
  cases hp : P zs[j] <;> simp [hp]
theorem kp_len (P : ByteArray → Bool) (zs : List ByteArray) (j : Nat) : (kpB P zs j).length ≤ j := by
  unfold kpB
  refine Nat.le_trans (List.length_filter_le _ _) ?_
  simp; omega
theorem kp_first {P : ByteArray → Bool} {zs : List ByteArray} : ∀ {i : Nat}, i ≤ zs.length → (∀ j, j < i → P (zs.getD j ByteArray.empty) = false) → kpB P zs i = zs.take i
  | 0, _, _ => by simp [kpB]
  | i + 1, hi, h => by
    rw [kp_succ (by omega), kp_first (by omega) (fun j hj => h j (by omega)), h i (by omega), List.take_succ_eq_append_getElem (by omega), List.getD_eq_getElem?_getD, List.getElem?_eq_getElem (by omega)]
    rfl
theorem encB_at {zs : List ByteArray} {j : Nat} (h : j < zs.length) : (encB zs)[j]? = some (.string (zs.getD j ByteArray.empty)) := by
  unfold encB
  rw [List.getElem?_map, List.getElem?_eq_getElem h, List.getD_eq_getElem?_getD, List.getElem?_eq_getElem h]
  rfl
set_option maxRecDepth 100000 in
set_option maxHeartbeats 4000000 in
theorem delete_any (Bs base : Nat) (v : Value) (zs : List ByteArray) (P : ByteArray → Bool) (w : World) (hb0 : base ≤ w.heap.size) (ho : w.ownsRow base 9 1 v zs.length (encB zs)) (hl : zs.length ≤ 1000)
    (hT : TestAt 72 #[.pointer (some ⟨Bs, 0, none⟩)] P zs (fun W => Below base w W)) :
    Calls Try.prog 71 #[v, .func (.func 72) #[] #[.pointer (some ⟨Bs, 0, none⟩)]] w fun e w' => ∃ v', e = .returned v' ∧ w'.ownsRow base 9 1 v' (zs.filter fun s => !P s).length (encB (zs.filter fun s => !P s)) ∧ Below base w w' := by
  have IX := Lib.hid (index_any Bs v zs P (fun W => Below base w W) w (strs_own ho (by omega)) hl (fun W W' h1 h2 => h1.trans (h2.mono (Nat.le_trans hb0 h1.size))) (Below.refl base w) hT)
  obtain ⟨N, hN⟩ : ∃ N, N = zs.length := ⟨_, rfl⟩
  have HN := Lib.hid hN
  have HT := Lib.hid hT
  obtain ⟨A, c, rfl, hA⟩ := own_any ho
  rw [← hN] at ho hl hA IX ⊢
  have HO := Lib.hid ho
  clear hT hN ho
  go_enter Try.func71, Try.ntmps71
  go_wp2_with fail
  refine IX.out.mono ?_
  rintro e w1 ⟨r1, hr⟩
  have HB1 := Lib.hid (r1.mono hb0)
  have HO1 := Lib.hid (own_kept HO.out r1)
  rcases hr with ⟨rfl, hall⟩ | ⟨i0, hi0, rfl, hp0, hno⟩
  · have hf : (zs.filter fun s => !P s) = zs := List.filter_eq_self.2 fun s hs => by rw [hall s hs]; rfl
    have HF := Lib.hid hf
    clear hall hf r1
    go_wp2_with fail
    go_ret
    refine ⟨_, rfl, ?_, HB1.out⟩
    rw [HF.out, ← HN.out]
    exact HO1.out
  · obtain ⟨g, rfl, hg⟩ := hA (by omega)
    have hgb : base ≤ g ∧ g < w1.heap.size := (HO1.out.lt g rfl)
    have hcN : N ≤ c := by
      rcases HO1.out.2 with ⟨h, _⟩ | ⟨g', cap', cur, h, _, _, h3, _⟩
      · simp at h
      · simp only [Value.slice.injEq, Option.some.injEq, Addr.mk.injEq, and_true, true_and] at h
        obtain ⟨rfl, rfl⟩ := h
        exact h3
    have hcM : c ≤ 9223372036854775807 := by
      rcases HO1.out.2 with ⟨h, _⟩ | ⟨g', cap', cur, h, _, _, h3, h4, _⟩
      · simp at h
      · simp only [Value.slice.injEq, Option.some.injEq, Addr.mk.injEq, and_true, true_and] at h
        obtain ⟨rfl, rfl⟩ := h
        unfold maxLen at h4; omega
    have hk0 : kpB P zs (i0 + 1) = zs.take i0 := by
      rw [kp_succ (by have := HN.out; omega), hp0, if_pos rfl, List.append_nil, kp_first (by have := HN.out; omega) hno]
    have hst : Hid (∃ cur : List ByteArray, cur.length = N ∧ w1.ownsRow base 9 1 (.slice (some ⟨g, 0, none⟩) N c) N (encB cur) ∧ (∀ t, t < i0 → cur[t]? = (kpB P zs (i0 + 1))[t]?) ∧ ∀ t, i0 + 1 ≤ t → cur[t]? = zs[t]?) := Lib.hid
      ⟨zs, HN.out.symm, HO1.out, fun t ht => by rw [hk0, List.getElem?_take_of_lt ht], fun t _ => rfl⟩
    have hkl : Hid ((kpB P zs (i0 + 1)).length = i0) := Lib.hid (by rw [hk0]; simp; have := HN.out; omega)
    have hw0 : IntKind.i64.wrap ((i0 : Int) + 1) = ((i0 + 1 : Nat) : Int) := by rw [show (i0 : Int) + 1 = ((i0 + 1 : Nat) : Int) by omega]; exact wrapI (by omega)
    have hm1 : ((i0 : Int) == -1) = false := by rw [beq_eq_false_iff_ne]; omega
    clear hk0 hno hp0 r1 HO1 HO IX
    go_wp2_with fail
    go_loopw [5, 6] (fun iv jv wr => ∃ i j : Nat, i < j ∧ j ≤ N ∧ iv = .int .i64 i ∧ jv = .int .i64 j ∧ Hid ((kpB P zs j).length = i) ∧
      Hid (∃ cur : List ByteArray, cur.length = N ∧ wr.ownsRow base 9 1 (.slice (some ⟨g, 0, none⟩) N c) N (encB cur) ∧ (∀ t, t < i → cur[t]? = (kpB P zs j)[t]?) ∧ ∀ t, j ≤ t → cur[t]? = zs[t]?) ∧ Hid (Below base w wr)) (fun _ jv _ => N - (intOf jv).toNat)
    case atStart => exact ⟨i0, i0 + 1, by omega, by omega, by first | rfl | go_num, by first | rfl | go_num, hkl, hst, HB1⟩
    case round =>
      obtain ⟨i, j, hij, hj, rfl, rfl, HL, HC, HB⟩ := hrel
      clear hkl hst HB1
      obtain ⟨cur, hcl, hoc, hlow, hhigh⟩ := HC.out
      by_cases hlt : j < N
      · have hjl : j < zs.length := by have := HN.out; omega
        have hjc : wr.cell? ⟨g, j, none⟩ = some (.string (zs.getD j ByteArray.empty)) := by
          rw [hoc.cellAt j (by omega), encB_at (by omega), List.getD_eq_getElem?_getD, hhigh j (Nat.le_refl j), ← List.getD_eq_getElem?_getD]
        have hgw := (hoc.lt g rfl).2
        have hmem : zs.getD j ByteArray.empty ∈ zs := by
          rw [List.getD_eq_getElem?_getD, List.getElem?_eq_getElem hjl]
          exact List.getElem_mem hjl
        have hks := kp_succ (P := P) hjl
        obtain ⟨s, hs⟩ : ∃ s, s = zs.getD j ByteArray.empty := ⟨_, rfl⟩
        rw [← hs] at hjc hmem hks
        have HS := Lib.hid hs
        have HKS := Lib.hid hks
        have TT := Lib.hid (HT.out s hmem wr HB.out)
        have hjN : (j : Int) < (N : Int) := by omega
        have HOC := Lib.hid hoc
        have HLOW := Lib.hid hlow
        have HHIGH := Lib.hid hhigh
        clear hs hmem hks hoc hlow hhigh
        go_wp2_with fail
        refine TT.out.mono ?_
        rintro e w2 ⟨rfl, r2⟩
        have HB2 := Lib.hid (HB.out.trans (r2.mono (Nat.le_trans hb0 HB.out.size)))
        have HO2 := Lib.hid (own_kept HOC.out r2)
        clear r2
        cases hp : P s with
        | true =>
          have hks := HKS.out
          rw [if_pos hp, List.append_nil] at hks
          have HL2 : Hid ((kpB P zs (j + 1)).length = i) := Lib.hid (by rw [hks]; exact HL.out)
          have HC2 : Hid (∃ cur : List ByteArray, cur.length = N ∧ w2.ownsRow base 9 1 (.slice (some ⟨g, 0, none⟩) N c) N (encB cur) ∧ (∀ t, t < i → cur[t]? = (kpB P zs (j + 1))[t]?) ∧ ∀ t, j + 1 ≤ t → cur[t]? = zs[t]?) := Lib.hid
            ⟨cur, hcl, HO2.out, fun t ht => by rw [hks]; exact HLOW.out t ht, fun t ht => HHIGH.out t (by omega)⟩
          clear hks hp
          go_wp2_with fail
          go_roundw
          case rel => exact ⟨i, j + 1, by omega, by omega, by first | rfl | go_num, by go_num, HL2, HC2, HB2⟩
          case measure => simp [intOf]; omega
        | false =>
          have hks := HKS.out
          rw [if_neg (by rw [hp]; simp)] at hks
          have hcell := HO2.out.cellAt i (by omega)
          rw [encB_at (by omega)] at hcell
          have hfro := HO2.out.frozenAt i
          obtain ⟨so1, so2⟩ := HO2.out.stored i (.string s)
          have HL2 : Hid ((kpB P zs (j + 1)).length = i + 1) := Lib.hid (by rw [hks, List.length_append, HL.out]; rfl)
          have HC2 : Hid (∃ cur : List ByteArray, cur.length = N ∧ (w2.setCell ⟨g, i, none⟩ (.string s)).ownsRow base 9 1 (.slice (some ⟨g, 0, none⟩) N c) N (encB cur) ∧ (∀ t, t < i + 1 → cur[t]? = (kpB P zs (j + 1))[t]?) ∧ ∀ t, j + 1 ≤ t → cur[t]? = zs[t]?) := Lib.hid
            ⟨cur.set i s, by simp [hcl], by
              have e : encB (cur.set i s) = (encB cur).set i (.string s) := by unfold encB; rw [List.map_set]
              rw [e]; exact so1, fun t ht => by
              rw [hks]
              rcases Nat.lt_or_ge t i with h | h
              · rw [List.getElem?_set_ne (by omega), HLOW.out t h, List.getElem?_append_left (by rw [HL.out]; exact h)]
              · obtain rfl : t = i := by omega
                rw [List.getElem?_set_self (by omega), List.getElem?_append_right (by rw [HL.out]; exact Nat.le_refl _), HL.out, Nat.sub_self]
                rfl, fun t ht => by rw [List.getElem?_set_ne (by omega)]; exact HHIGH.out t (by omega)⟩
          have HB3 := Lib.hid (HB2.out.grown so2 (Nat.le_trans hb0 HB2.out.size) fun k e => by cases e; exact hgb.1)
          have hgw2 := (HO2.out.lt g rfl).2
          have hiN : (i : Int) < (N : Int) := by omega
          have hi0' : (0 : Int) ≤ (i : Int) := by omega
          clear hks hp so1 so2
          go_wp2_with fail
          go_roundw
          case rel => exact ⟨i + 1, j + 1, by omega, by omega, by go_num, by go_num, HL2, HC2, HB3⟩
          case measure => simp [intOf]; omega
      · have ej : j = N := by omega
        have hz9 : ∀ w, (zeroValue 9).run Try.prog w = .ok (.string ⟨#[]⟩) w := fun w => by kernel_rfl
        have hcl2 : ∀ ty, (Builtin.clear_ #[22] ty #[.slice (some ⟨g, i, none⟩) (N - i) (c - i)]).run Try.prog wr = .ok (.tuple #[]) (wr.setCells g i (List.replicate (N - i) (.string ⟨#[]⟩))) :=
          fun ty => Lib.run_clear_slice wr _ _ ty _ Try.underlying22 hz9 rfl rfl g i _ _ (by omega) (fun t ht => by rw [hoc.cellAt (i + t) (by omega), encB_at (by omega)]; rfl) (fun t ht => hoc.frozenAt (i + t))
        obtain ⟨xs', q1, q2, q3⟩ := own_setCells (List.replicate (N - i) (.string ⟨#[]⟩)) i wr _ hoc
        have q4 := own_take (i := i) q1 (by omega)
        have hfin : xs'.take i = encB (zs.filter fun s => !P s) := by
          have hk := HL.out
          rw [ej, show kpB P zs N = zs.filter fun s => !P s by unfold kpB; rw [List.take_of_length_le (by rw [HN.out]; exact Nat.le_refl _)]] at hk
          rw [ej, show kpB P zs N = zs.filter fun s => !P s by unfold kpB; rw [List.take_of_length_le (by rw [HN.out]; exact Nat.le_refl _)]] at hlow
          apply List.ext_getElem?
          intro t
          by_cases ht : t < i
          · rw [List.getElem?_take_of_lt ht, q2 t ht, encB_at (by omega), encB_at (by omega), List.getD_eq_getElem?_getD, List.getD_eq_getElem?_getD, hlow t ht]
          · rw [List.getElem?_eq_none (by simp; omega), List.getElem?_eq_none (by simp [encB, hk]; omega)]
        rw [hfin] at q4
        have hlen : (zs.filter fun s => !P s).length = i := by
          have hk := HL.out
          rw [ej, show kpB P zs N = zs.filter fun s => !P s by unfold kpB; rw [List.take_of_length_le (by rw [HN.out]; exact Nat.le_refl _)]] at hk
          exact hk
        have HFIN : Hid ((wr.setCells g i (List.replicate (N - i) (.string ⟨#[]⟩))).ownsRow base 9 1 (.slice (some ⟨g, 0, none⟩) i c) (zs.filter fun s => !P s).length (encB (zs.filter fun s => !P s))) := Lib.hid (by rw [hlen]; exact q4)
        have HB3 := Lib.hid (HB.out.grown q3 (Nat.le_trans hb0 HB.out.size) fun k e => by cases e; exact hgb.1)
        have hic : ¬ c = i := by omega
        have hiN : (i : Int) ≤ (N : Int) := by omega
        have hi0' : (0 : Int) ≤ (i : Int) := by omega
        have hic2 : (i : Int) ≤ (c : Int) := by omega
        subst ej
        clear q1 q2 q3 q4 hfin hlen hlow hhigh hoc HC
        go_wp2_with fail
        go_ret
        exact ⟨_, rfl, HFIN.out, HB3.out⟩
end Go.Proofs.Ytpclkocfbkjabaa
