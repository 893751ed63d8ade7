/-
  The reference: First.
-/
import Derived.Test.YtpclkocfbkjabaaT32
namespace Go.Proofs.Ytpclkocfbkjabaa
open Go.RowKit Go.Shelf
set_option linter.unusedVariables false
set_option linter.unusedSimpArgs false

/-- Where the test holds, a letter leads to where the test holds for one letter less. -/
def Keeps (P : Nat → Nat → Bool) (T : Tab) (N n : Nat) : Prop := ∀ m i, m < n → i < N → P (m + 1) i = true → ∃ c j, (c, j) ∈ stp T i ∧ P m j = true
theorem wayG_len' {P : Nat → Nat → Bool} {T : Tab} {N q n : Nat} (hT : TabOk T N q) (hK : Keeps P T N n) : ∀ (m i : Nat), m ≤ n → i < N → P m i = true → (wayG P T m i).length = m
  | 0, _, _, _, _ => rfl
  | m + 1, i, hm, hi, h => by
    obtain ⟨c, j, h1, h2, h3⟩ := firstG_some (hK m i (by omega) hi h)
    rw [wayG_succ h1, List.length_cons, wayG_len' hT hK m j (by omega) (hT.stp hi h2).2 h3]
set_option maxRecDepth 100000 in
set_option maxHeartbeats 8000000 in
theorem First_any (q n base base2 K i0 : Nat) (hq : 1 ≤ q ∧ q ≤ 3) (hn : n ≤ 1000) (hnK : n ≤ K) (g cv : Value) (S : List Str) (T C : Tab) (chdrs : List Value) (P : Nat → Nat → Bool) (w : World) (hg : GraphV w base g S T) (hT : TabOk T S.length q) (hS : S.length ≤ 121) (hi0 : i0 < S.length)
    (hc1 : w.ownsRow base2 45 1 cv K chdrs) (hc2 : RowsAt w w.heap.size chdrs C) (hcK : C.length = K) (hcl : ∀ m, m < n → (C.getD m []).length = S.length)
    (hP : ∀ m j, m < n → j < S.length → ((C.getD m []).getD j 0 ≠ 0 ↔ P m j = true)) (hKP : Keeps P T S.length n) (hPn : P n i0 = true) :
    Calls Try.prog 51 #[g, .int .i64 i0, .int .i64 n, cv] w fun e w' => e = .returned (.string (bs (wayG P T n i0))) ∧ Below w.heap.size w w' := by
  have hmix : Try.prog.follows .mixedOrders = true := by kernel_rfl
  obtain ⟨vS, vT, thdrs, rfl, g1, g2, g3⟩ := hg
  obtain ⟨N, hN⟩ : ∃ N, N = S.length := ⟨_, rfl⟩
  rw [← hN] at hT hS hi0 g1 hcl hP hKP
  have hTl := hT.len
  rw [hTl] at g2
  have hS0 : 0 < N := by omega
  clear hN
  obtain ⟨gS, cS, rfl, _, _⟩ := own_form g1 hS0
  obtain ⟨gT, cT, rfl, _, hgT2⟩ := own_form g2 hS0
  obtain ⟨AC, cC, rfl, hAC⟩ := own_any hc1
  obtain ⟨B, hB⟩ : ∃ B, B = w.heap.size := ⟨_, rfl⟩
  obtain ⟨W1, hW1⟩ : ∃ W1, W1 = w.alloc (.cells #[.slice (some ⟨gS, 0, none⟩) N cS, .slice (some ⟨gT, 0, none⟩) N cT] 71) := ⟨_, rfl⟩
  have hb1 : Below w.heap.size w W1 := by rw [hW1]; exact bl_alloc (bl_refl w) _
  have hx1 : Whole W1 B 71 #[.slice (some ⟨gS, 0, none⟩) N cS, .slice (some ⟨gT, 0, none⟩) N cT] := by rw [hW1, hB]; exact Whole.new w _ _
  have HROW : Hid (∀ i, i < N → ∃ b c, b < W1.heap.size ∧ gT < W1.heap.size ∧ B < W1.heap.size ∧ ∀ W', Below W1.heap.size W1 W' → W'.cell? ⟨gT, i, none⟩ = some (.slice (some ⟨b, 0, none⟩) q c) ∧ ∀ j, j < q → W'.cell? ⟨b, j, none⟩ = some (.int .i64 ((T.getD i []).getD j 0))) := Lib.hid fun i hi => by
    obtain ⟨b, c, e1, e2, e3⟩ := g3.row (W := w) (i := i) (by omega)
    rw [(hT.at hi).1] at e1 e3
    refine ⟨b, c, Nat.lt_of_lt_of_le e2 hb1.size, Nat.lt_of_lt_of_le hgT2 hb1.size, hx1.lt, fun W' hb => ⟨?_, fun j hjq => ?_⟩⟩
    · have hb' := hb1.trans (hb.mono hb1.size)
      exact (hb'.cell (p := ⟨gT, i, none⟩) hgT2).trans ((g2.cellAt i (by omega)).trans e1)
    · have hb' := hb1.trans (hb.mono hb1.size)
      exact (hb'.cell (p := ⟨b, j, none⟩) e2).trans (e3 j hjq)
  have HCR : Hid (∀ m, m < n → ∃ gC b c, AC = some ⟨gC, 0, none⟩ ∧ gC < W1.heap.size ∧ b < W1.heap.size ∧ ∀ W', Below W1.heap.size W1 W' → W'.cell? ⟨gC, m, none⟩ = some (.slice (some ⟨b, 0, none⟩) N c) ∧ ∀ j, j < N → W'.cell? ⟨b, j, none⟩ = some (.int .i64 ((C.getD m []).getD j 0))) := Lib.hid fun m hm => by
    obtain ⟨gC, rfl, hgC⟩ := hAC (by omega)
    obtain ⟨b, c, e1, e2, e3⟩ := hc2.row (W := w) (i := m) (by omega)
    rw [hcl m hm] at e1 e3
    refine ⟨gC, b, c, rfl, Nat.lt_of_lt_of_le hgC hb1.size, Nat.lt_of_lt_of_le e2 hb1.size, fun W' hb => ⟨?_, fun j hjq => ?_⟩⟩
    · have hb' := hb1.trans (hb.mono hb1.size)
      exact (hb'.cell (p := ⟨gC, m, none⟩) hgC).trans ((hc1.cellAt m (by omega)).trans e1)
    · have hb' := hb1.trans (hb.mono hb1.size)
      exact (hb'.cell (p := ⟨b, j, none⟩) e2).trans (e3 j hjq)
  have HX : Hid (∀ W', Below W1.heap.size W1 W' → W'.cell? ⟨B, 0, none⟩ = some (.slice (some ⟨gS, 0, none⟩) N cS) ∧ W'.cell? ⟨B, 1, none⟩ = some (.slice (some ⟨gT, 0, none⟩) N cT) ∧ B < W'.heap.size) := Lib.hid fun W' hb => by
    have := hx1.kept hb
    exact ⟨(this.cell 0).trans rfl, (this.cell 1).trans rfl, this.lt⟩
  have HT := Lib.hid hT
  have HB1 := Lib.hid hb1
  have HP := Lib.hid hP
  have HKP := Lib.hid hKP
  have HPn := Lib.hid hPn
  have hB' := hB
  clear g1 g2 g3 hb1 hx1 hT hgT2 hTl hB hc1 hc2 hcl hP hKP hPn hAC
  go_enter Try.func51, Try.ntmps51
  go_wp2_with fail
  rw [← hW1, ← hB']
  clear hW1 hB'
  go_loopw [1, 2, 9] (fun av nv sv wr => ∃ (m i : Nat) (out : Str), m ≤ n ∧ i < N ∧ out.length + m = n ∧ av = .int .i64 i ∧ nv = .int .i64 m ∧ sv = .string (bs out) ∧ Hid (out ++ wayG P T m i = wayG P T n i0) ∧ Hid (P m i = true) ∧ Hid (Below W1.heap.size W1 wr)) (fun _ nv _ _ => (intOf nv).toNat)
  case atStart => exact ⟨n, i0, [], Nat.le_refl _, hi0, by simp, rfl, rfl, rfl, Lib.hid rfl, HPn, Lib.hid (bl_refl W1)⟩
  case round =>
    obtain ⟨m, i, out, hm, hi, hol, rfl, rfl, rfl, HW, HPm, HB⟩ := hrel
    by_cases hm0 : m = 0
    · subst hm0
      have e : Hid (wayG P T n i0 = out) := Lib.hid (by rw [← HW.out]; simp [wayG])
      have HF := Lib.hid (bl_then HB1.out HB.out)
      go_wp2_with fail
      go_ret
      exact ⟨by rw [e.out]; rfl, HF.out⟩
    · obtain ⟨p, hp⟩ : ∃ p, m = p + 1 := ⟨m - 1, by omega⟩
      have hpm : (m : Int) - 1 = (p : Int) := by omega
      have hm1 : (0 : Int) < (m : Int) := by omega
      have hp1 : p < n := by omega
      obtain ⟨b, c, lb, lT, lB, hrow⟩ := HROW.out i hi
      obtain ⟨gC, bc, cc, rfl, lgC, lbc, hcrow⟩ := HCR.out p hp1
      have HRW := Lib.hid hrow
      have HCW := Lib.hid hcrow
      have hex := HKP.out p i hp1 hi (by rw [← hp]; exact HPm.out)
      have hTr := HT.out.at hi
      have HEX := Lib.hid hex
      have HTR := Lib.hid hTr
      have HPP := Lib.hid hp
      have hpK : (p : Int) < (K : Int) := by omega
      clear hrow hcrow hex hTr hp hm0
      go_wp2_with fail
      obtain ⟨W3, hW3⟩ : ∃ W3, W3 = wr := ⟨_, rfl⟩
      rw [← hW3] at HB ⊢
      clear hW3
      simp only [show 0 < m by omega, decide_true]
      go_loopw [10] (fun cv wx => ∃ c : Nat, c ≤ q ∧ cv = .int .i64 c ∧ Hid (∀ y ∈ stepsL ((T.getD i []).take c), P p y.2 = false) ∧ Hid (Below W3.heap.size W3 wx)) (fun cv _ => q - (intOf cv).toNat)
      case atStart => exact ⟨0, Nat.zero_le _, rfl, Lib.hid (by intro y hy; simp [stepsL] at hy), Lib.hid (bl_refl W3)⟩
      case round =>
        obtain ⟨ci, hci, rfl, HNO, HBy⟩ := hrel
        have hcq : ci < q := by
          apply Nat.lt_of_le_of_ne hci
          intro e
          obtain ⟨c', j', e1, e2⟩ := HEX.out
          have h := HNO.out
          rw [e, List.take_of_length_le (by rw [HTR.out.1]; exact Nat.le_refl _)] at h
          rw [h _ e1] at e2
          cases e2
        have HB3 := Lib.hid (bl_then HB.out HBy.out)
        obtain ⟨x1, x2, x3⟩ := HX.out wr HB3.out
        obtain ⟨y1, y2⟩ := HRW.out wr HB3.out
        obtain ⟨z1, z2⟩ := HCW.out wr HB3.out
        have lT' := Nat.lt_of_lt_of_le lT HB3.out.size
        have lb' := Nat.lt_of_lt_of_le lb HB3.out.size
        have lgC' := Nat.lt_of_lt_of_le lgC HB3.out.size
        have lbc' := Nat.lt_of_lt_of_le lbc HB3.out.size
        have hcq' : (ci : Int) < (q : Int) := by omega
        have y3 := y2 ci hcq
        have hsn := steps_snoc (row := T.getD i []) (k := ci) (by rw [HTR.out.1]; exact hcq)
        have hxr0 : (T.getD i []).getD ci 0 = -1 ∨ (0 ≤ (T.getD i []).getD ci 0 ∧ (T.getD i []).getD ci 0 < N) := by
          have hl := HTR.out.1
          rw [List.getD_eq_getElem?_getD, List.getElem?_eq_getElem (by omega)]
          exact HTR.out.2 _ (List.getElem_mem _)
        obtain ⟨x, hx⟩ : ∃ x, x = (T.getD i []).getD ci 0 := ⟨_, rfl⟩
        rw [← hx] at y3 hsn hxr0
        by_cases hx0 : 0 ≤ x
        · obtain ⟨j, rfl⟩ : ∃ j : Nat, x = j := ⟨x.toNat, by omega⟩
          have hjN : j < N := by omega
          have hjN' : (j : Int) < (N : Int) := by omega
          have hj0 : ¬ (j : Int) < (0 : Int) := by omega
          have z3 := z2 j hjN
          have hiff := HP.out p j hp1 hjN
          obtain ⟨Cx, hCx⟩ : ∃ Cx, Cx = (C.getD p []).getD j 0 := ⟨_, rfl⟩
          rw [← hCx] at z3 hiff
          rw [if_pos (by omega), Int.toNat_natCast] at hsn
          have HSN := Lib.hid hsn
          by_cases hc0 : Cx = 0
          · have HNO2 : Hid (∀ y ∈ stepsL ((T.getD i []).take (ci + 1)), P p y.2 = false) := Lib.hid (by
              rw [hsn]
              intro y hy
              rcases List.mem_append.1 hy with h | h
              · exact HNO.out y h
              · rw [List.mem_singleton.1 h]
                cases hb : P p j with
                | true => exact absurd (hiff.2 hb) (by simp [hc0])
                | false => rfl)
            clear hiff hx hsn hCx hxr0 y2 z2 hx0
            go_wp2_with fail
            have hw1 := wrapN (D := p) (by omega)
            have hw2 : IntKind.i64.wrap (p : Int) = (p : Int) := hw1
            go_quiet (fail)
            have HB4 := Lib.hid (bl_drewN HBy.out nq)
            clear hw1 hw2 z1 z3 y1 y3 x1 x2 x3 HB3
            go_wp2_with fail
            go_roundw
            case rel => exact ⟨ci + 1, by omega, by go_num, HNO2, HB4⟩
            case measure => simp [intOf]; omega
          · have hPj : P p j = true := hiff.1 hc0
            have hF : Hid (firstG (P p) (stp T i) = some (ci, j)) := Lib.hid (firstG_found (ps := stepsL ((T.getD i []).take ci)) (by rw [← hsn]; exact steps_prefix _ _) HNO.out hPj)
            have HPj := Lib.hid hPj
            have hcb : (Cx == 0) = false := beq_false_of_ne hc0
            clear hiff hx hsn hCx hxr0 y2 z2 hx0 hPj
            go_wp2_with fail
            have hw1 := wrapN (D := p) (by omega)
            go_quiet (fail)
            have HB4 := Lib.hid (bl_drewN HBy.out nq)
            clear hw1 z1 z3 HB3
            obtain ⟨tt, htt⟩ : ∃ tt, tt = out ++ [ltr ci] := ⟨_, rfl⟩
            have happ : bs out ++ bs [ltr ci] = bs tt := by rw [htt]; exact bs_append _ _
            have habc := abc_at hcq hq.2
            have HTT := Lib.hid htt
            have zs1 : (bs out).size ≤ 1000 := by show out.length ≤ 1000; omega
            have zs2 : (bs [ltr ci]).size ≤ 1 := Nat.le_refl _
            obtain ⟨D, hD⟩ : ∃ D, D = ci + 1 := ⟨_, rfl⟩
            have hw1 : IntKind.i64.wrap ((ci : Int) + 1) = (D : Int) := by rw [show (ci : Int) + 1 = (D : Int) by omega]; exact wrapN (by omega)
            have hc3 : (D : Int) ≤ 3 := by omega
            have hc4 : (ci : Int) ≤ (D : Int) := by omega
            rw [← hD] at habc
            clear hD
            have hc5 : (0 : Int) ≤ (ci : Int) := Int.natCast_nonneg ci
            have hsum : ¬ 9223372036854775807 < (bs out).size + (bs [ltr ci]).size := by omega
            have hwp := wrapN (D := p) (by omega)
            clear htt
            go_wp2_with fail
            go_roundw
            case rel =>
              refine ⟨p, j, tt, by omega, by omega, by rw [HTT.out, List.length_append]; simp; have := HPP.out; omega, by first | rfl | go_num, by first | rfl | go_num, ?_, ?_, HPj, Lib.hid (bl_then HB.out HB4.out)⟩
              · first | rfl | simp [happ, habc]
              · exact Lib.hid (by rw [HTT.out, ← HW.out, HPP.out, wayG_succ hF.out]; simp)
            case measure => simp [intOf]; have := HPP.out; omega
        · have hx1 : x = -1 := by omega
          subst hx1
          have HNO2 : Hid (∀ y ∈ stepsL ((T.getD i []).take (ci + 1)), P p y.2 = false) := Lib.hid (by
            rw [hsn, if_neg (by omega), List.append_nil]
            exact HNO.out)
          clear hx hsn hxr0 y2 z2 hx0
          go_wp2_with fail
          go_quiet (fail)
          have HB4 := Lib.hid (bl_drewN HBy.out nq)
          clear z1 y1 y3 x1 x2 x3 HB3
          go_wp2_with fail
          go_roundw
          case rel => exact ⟨ci + 1, by omega, by go_num, HNO2, HB4⟩
          case measure => simp [intOf]; omega
end Go.Proofs.Ytpclkocfbkjabaa
