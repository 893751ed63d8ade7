/-
  The reference: Counts.
-/
import Derived.Test.YtnamafakjkcmjaaT30
import Derived.Test.YtnamafakjkcmjaaMB
namespace Go.Proofs.Ytnamafakjkcmjaa
open Go.RowKit Go.Shelf
set_option linter.unusedVariables false
set_option linter.unusedSimpArgs false

theorem RowsAt.row {w W : World} {B : Nat} {hdrs : List Value} {T : Tab} {i : Nat} (h : RowsAt w B hdrs T) (hi : i < T.length) : ∃ b c, hdrs[i]? = some (.slice (some ⟨b, 0, none⟩) (T.getD i []).length c) ∧ b < w.heap.size ∧ ∀ j, j < (T.getD i []).length → w.cell? ⟨b, j, none⟩ = some (.int .i64 ((T.getD i []).getD j 0)) := by
  obtain ⟨b, c, cur, e1, e2, e3, e4, e5, e6⟩ := h.2 i hi
  exact ⟨b, c, e1, (Array.getElem?_eq_some_iff.1 e3).1, fun j hj => (cell_of_row w b j cur _ (0, 0) e3).trans (e6 j hj)⟩
set_option maxRecDepth 100000 in
set_option maxHeartbeats 8000000 in
theorem Counts_any (q n base : Nat) (hq : 1 ≤ q ∧ q ≤ 3) (hn : n ≤ 1000) (g : Value) (S : List Str) (T : Tab) (w : World) (hg : GraphV w base g S T) (hT : TabOk T S.length q) (hS : S.length ≤ 121) (hS0 : 0 < S.length) :
    Calls Try.prog 42 #[g, .int .i64 n] w fun e w' => ∃ v hdrs, e = .returned v ∧ w'.ownsRow w.heap.size 74 1 v (n + 1) hdrs ∧ RowsAt w' w'.heap.size hdrs (cntRows T S.length (n + 1)) ∧ Below w.heap.size w w' := by
  obtain ⟨j0, hj, jz0, jz1, jz2⟩ := info_parts infoI
  obtain ⟨r0, hr, rz0, rz1, rz2⟩ := info_parts infoR
  obtain ⟨vS, vT, thdrs, rfl, g1, g2, g3⟩ := hg
  obtain ⟨N, hN⟩ : ∃ N, N = S.length := ⟨_, rfl⟩
  rw [← hN] at hT hS hS0 g1 ⊢
  have hTl := hT.len
  rw [hTl] at g2
  clear hN
  obtain ⟨gS, cS, rfl, _, hgS2⟩ := own_form g1 hS0
  obtain ⟨gT, cT, rfl, _, hgT2⟩ := own_form g2 hS0
  obtain ⟨B, hB⟩ : ∃ B, B = w.heap.size := ⟨_, rfl⟩
  obtain ⟨W1, hW1⟩ : ∃ W1, W1 = w.alloc (.cells #[.slice (some ⟨gS, 0, none⟩) N cS, .slice (some ⟨gT, 0, none⟩) N cT] 72) := ⟨_, rfl⟩
  have hb1 : Below w.heap.size w W1 := by rw [hW1]; exact bl_alloc (bl_refl w) _
  have hx1 : Whole W1 B 72 #[.slice (some ⟨gS, 0, none⟩) N cS, .slice (some ⟨gT, 0, none⟩) N cT] := by rw [hW1, hB]; exact Whole.new w _ _
  -- the rows of the graph
  have HROW : Hid (∀ i, i < N → ∃ b c, b < W1.heap.size ∧ gT < W1.heap.size ∧ B < W1.heap.size ∧ ∀ W', Below W1.heap.size W1 W' → W'.cell? ⟨gT, i, none⟩ = some (.slice (some ⟨b, 0, none⟩) q c) ∧ ∀ j, j < q → W'.cell? ⟨b, j, none⟩ = some (.int .i64 ((T.getD i []).getD j 0))) := Lib.hid fun i hi => by
    obtain ⟨b, c, e1, e2, e3⟩ := g3.row (W := w) (i := i) (by omega)
    rw [(hT.at hi).1] at e1 e3
    refine ⟨b, c, Nat.lt_of_lt_of_le e2 hb1.size, Nat.lt_of_lt_of_le hgT2 hb1.size, hx1.lt, fun W' hb => ⟨?_, fun j hjq => ?_⟩⟩
    · have hb' := hb1.trans (hb.mono hb1.size)
      exact (hb'.cell (p := ⟨gT, i, none⟩) hgT2).trans ((g2.cellAt i (by omega)).trans e1)
    · have hb' := hb1.trans (hb.mono hb1.size)
      exact (hb'.cell (p := ⟨b, j, none⟩) e2).trans (e3 j hjq)
  have HX : Hid (∀ W', Below W1.heap.size W1 W' → W'.cell? ⟨B, 0, none⟩ = some (.slice (some ⟨gS, 0, none⟩) N cS) ∧ W'.cell? ⟨B, 1, none⟩ = some (.slice (some ⟨gT, 0, none⟩) N cT) ∧ B < W'.heap.size) := Lib.hid fun W' hb => by
    have := hx1.kept hb
    exact ⟨(this.cell 0).trans rfl, (this.cell 1).trans rfl, this.lt⟩
  have HT := Lib.hid hT
  have HB1 := Lib.hid hb1
  have HBB := Lib.hid hB
  have hzB : B ≤ W1.heap.size := Nat.le_of_lt hx1.lt
  have hB' := hB
  clear g1 g2 g3 hb1 hx1 hT hgS2 hgT2 hTl hB
  go_enter Try.func42, Try.ntmps42
  go_wp2_with fail
  rw [← hW1, ← hB']
  clear hW1 hB'
  go_loopw [5, 6] (fun v i wr => ∃ (k : Nat) (hdrs : List Value), k ≤ n + 1 ∧ i = .int .i64 k ∧ Hid (wr.ownsRow W1.heap.size 74 1 v k hdrs) ∧ Hid (RowsAt wr wr.heap.size hdrs (cntRows T N k)) ∧ Hid (Below W1.heap.size W1 wr)) (fun _ i _ => n + 1 - (intOf i).toNat)
  case atStart => exact ⟨0, [], Nat.zero_le _, rfl, Lib.hid (World.ownsRow_nil _ _ _ _), Lib.hid (RowsAt.nil _ _), Lib.hid (bl_refl W1)⟩
  case round =>
    obtain ⟨k, hdrs, hk, rfl, HO, HR, HB⟩ := hrel
    by_cases hkn : k ≤ n
    · have hkn' : (k : Int) ≤ (n : Int) := by omega
      go_wp2_with fail
      obtain ⟨W2, hW2⟩ : ∃ W2, W2 = wr := ⟨_, rfl⟩
      rw [← hW2] at HO HR HB ⊢
      clear hW2
      obtain ⟨A5, c5, rfl, hA5⟩ := own_any HO.out
      have hz12 := HB.out.size
      go_loopw [7, 8] (fun v i wx => ∃ m : Nat, m ≤ N ∧ i = .int .i64 m ∧ Hid (wx.ownsRow W2.heap.size 3 1 v m (encI (cntRow T m k))) ∧ Hid (Below W2.heap.size W2 wx)) (fun _ i _ => N - (intOf i).toNat)
      case atStart => exact ⟨0, Nat.zero_le _, rfl, Lib.hid (World.ownsRow_nil _ _ _ _), Lib.hid (bl_refl W2)⟩
      case round =>
        obtain ⟨m, hm, rfl, HM, HBx⟩ := hrel
        obtain ⟨x1, x2, x3⟩ := HX.out wr (bl_then HB.out HBx.out)
        by_cases hmN : m < N
        · have hmN' : (m : Int) < (N : Int) := by omega
          obtain ⟨b, c, lb, lT, lB, hrow⟩ := HROW.out m hmN
          have HRW := Lib.hid hrow
          clear hrow
          by_cases hk0 : k = 0
          · have hd0 : ¬ (0 : Int) < (k : Int) := by omega
            have HK0 := Lib.hid hk0
            clear hk0
            have HO7 := HM.out
            have hz2 := HBx.out.size
            go_wp2_with (at_builtin; refine wpList_append_own _ rfl (.tmp 62) (.tmp 64) _ rfl W2.heap.size 3 j0 _ 1 8 Try.underlying74 hj jz0 jz1 jz2 rfl (by decide) _ m (encI (cntRow T m k)) rfl (HO7.alloc _) ⟨wr.heap.size, 0, none⟩ 1 1 [.int .i64 1] rfl rfl (cells_new _ _ _) (by intro u hu; rw [List.mem_singleton.1 hu]; rfl) (by unfold maxLen; omega) (by omega) (by simp; omega) ?_; intro v6 w6 hown6 hg6 _)
            have hoA := HO7.alloc (.cells #[.int .i64 1] 3)
            have HB6 := Lib.hid (bl_grown (bl_alloc HBx.out (.cells #[.int .i64 1] 3)) hoA (Nat.le_refl _) hg6)
            have HO6 : Hid (w6.ownsRow W2.heap.size 3 1 v6 (m + 1) (encI (cntRow T (m + 1) k))) := Lib.hid (by rw [cntRow_snoc, encI_snoc, show cntT T k m = 1 by rw [HK0.out]; rfl]; exact hown6)
            clear hg6 hoA hown6 HO7 HM HBx
            go_wp2_with fail
            go_roundw
            case rel => exact ⟨m + 1, by omega, by go_num, HO6, HB6⟩
            case measure => simp [intOf]; omega
          · have hd0 : (0 : Int) < (k : Int) := by omega
            obtain ⟨p, hp⟩ : ∃ p, k = p + 1 := ⟨k - 1, by omega⟩
            have HP := Lib.hid hp
            have hpk : (k : Int) - 1 = (p : Int) := by omega
            have hpk2 : p ≤ 1000 := by omega
            -- the row of counts ahead
            have hcr : Hid (∃ bc cc, (∃ g5, A5 = some ⟨g5, 0, none⟩ ∧ g5 < W2.heap.size ∧ bc < W2.heap.size ∧ ∀ W', Below W2.heap.size W2 W' → W'.cell? ⟨g5, p, none⟩ = some (.slice (some ⟨bc, 0, none⟩) N cc) ∧ ∀ j, j < N → W'.cell? ⟨bc, j, none⟩ = some (.int .i64 (cntT T p j)))) := Lib.hid (by
              obtain ⟨g5, hg5, hg52⟩ := hA5 (by omega)
              obtain ⟨bc, cc, e1, e2, e3⟩ := HR.out.row (W := W2) (i := p) (by rw [cntRows_len]; omega)
              rw [cntRows_at (by omega), cntRow_len] at e1 e3
              refine ⟨bc, cc, g5, hg5, hg52, e2, fun W' hb => ⟨?_, fun j hjN => ?_⟩⟩
              · have ho := HO.out
                rw [hg5] at ho
                exact (hb.cell (p := ⟨g5, p, none⟩) hg52).trans ((ho.cellAt p (by omega)).trans e1)
              · rw [(hb.cell (p := ⟨bc, j, none⟩) e2).trans (e3 j hjN), cntRow_at hjN])
            obtain ⟨bc, cc, g5, rfl, lg5, lbc, hcr2⟩ := hcr.out
            have HCR := Lib.hid hcr2
            clear hk0 hp hcr hcr2
            go_wp2_with fail
            obtain ⟨W3, hW3⟩ : ∃ W3, W3 = wr := ⟨_, rfl⟩
            rw [← hW3] at HM HBx x1 x2 x3 ⊢
            clear hW3 x1 x2 x3
            go_loopw [9, 10] (fun sv i wx => ∃ c : Nat, c ≤ q ∧ i = .int .i64 c ∧ sv = .int .i64 (sumTo T p m c) ∧ Hid (Below W3.heap.size W3 wx)) (fun _ i _ => q - (intOf i).toNat)
            case atStart => exact ⟨0, Nat.zero_le _, rfl, rfl, Lib.hid (bl_refl W3)⟩
            case round =>
              obtain ⟨ci, hci, rfl, rfl, HBy⟩ := hrel
              have HB3 := Lib.hid (bl_then (bl_then HB.out HBx.out) HBy.out)
              have HB2 := Lib.hid (bl_then HBx.out HBy.out)
              obtain ⟨x1, x2, x3⟩ := HX.out wr HB3.out
              obtain ⟨y1, y2⟩ := HRW.out wr HB3.out
              have lT' := Nat.lt_of_lt_of_le lT HB3.out.size
              have lb' := Nat.lt_of_lt_of_le lb HB3.out.size
              by_cases hcq : ci < q
              · have hcq' : (ci : Int) < (q : Int) := by omega
                have y3 := y2 ci hcq
                have hTr := HT.out.at hmN
                obtain ⟨x, hx⟩ : ∃ x, x = (T.getD m []).getD ci 0 := ⟨_, rfl⟩
                have hxr : x = -1 ∨ (0 ≤ x ∧ x < N) := by
                  rw [hx, List.getD_eq_getElem?_getD, List.getElem?_eq_getElem (by omega)]
                  exact hTr.2 _ (List.getElem_mem _)
                rw [← hx] at y3
                by_cases hx0 : 0 ≤ x
                · obtain ⟨j, rfl⟩ : ∃ j : Nat, x = j := ⟨x.toNat, by omega⟩
                  have hjN : j < N := by omega
                  have hjN' : (j : Int) < (N : Int) := by omega
                  have hj0 : (0 : Int) ≤ (j : Int) := by omega
                  obtain ⟨z1, z2⟩ := HCR.out wr HB2.out
                  have z3 := z2 j hjN
                  have lg5' := Nat.lt_of_lt_of_le lg5 HB2.out.size
                  have lbc' := Nat.lt_of_lt_of_le lbc HB2.out.size
                  have hsy := sumTo_yes (T := T) (m := p) (i := m) (c := ci) (j := j) (by rw [hTr.1]; exact hcq) hx.symm
                  have hb1 := sumTo_bound T p m ci
                  have hb2 := cnt_bound T p j
                  obtain ⟨sv, hsv⟩ : ∃ sv, sv = sumTo T p m ci := ⟨_, rfl⟩
                  obtain ⟨cv, hcv⟩ : ∃ cv, cv = cntT T p j := ⟨_, rfl⟩
                  rw [← hsv, ← hcv] at hsy
                  rw [← hsv] at hb1
                  rw [← hcv] at hb2 z3
                  obtain ⟨Y, hY⟩ : ∃ Y, Y = sv + cv := ⟨_, rfl⟩
                  obtain ⟨Z, hZ⟩ : ∃ Z, Z = min Y most1 := ⟨_, rfl⟩
                  have hYb : 0 ≤ Y ∧ Y ≤ 4000000000000000000 := by unfold most1 at hb1 hb2; omega
                  have hZs : Hid (sumTo T p m (ci + 1) = Z) := Lib.hid (by rw [hsy, hZ, hY])
                  have hmin : min Y 1152921504606846977 = Z := by rw [hZ]; rfl
                  have hYY : sv + cv = Y := hY.symm
                  rw [← hsv]
                  clear hsy hsv hcv hY hZ hx hxr hTr z2 y2 hx0
                  go_wp2_with fail
                  have hw1 := wrapN (D := p) (by omega)
                  have hw3 : IntKind.i64.wrap Y = Y := wrapI (by omega)
                  go_quiet (fail)
                  have HB4 := Lib.hid (bl_drewN HBy.out nq)
                  clear hw1 hw3 z1 z3 y1 y3 x1 x2 x3 HB2 HB3 hmin hYY
                  go_wp2_with fail
                  go_roundw
                  case rel => exact ⟨ci + 1, by omega, by go_num, by rw [hZs.out], HB4⟩
                  case measure => simp [intOf]; omega
                · have hx1 : x = -1 := by omega
                  subst hx1
                  have hsy : Hid (sumTo T p m (ci + 1) = sumTo T p m ci) := Lib.hid (sumTo_no (by rw [hTr.1]; exact hcq) (by rw [← hx]; omega))
                  clear hx hxr hTr y2 hx0
                  go_wp2_with fail
                  go_roundw
                  case rel => exact ⟨ci + 1, by omega, by go_num, by rw [hsy.out], HBy⟩
                  case measure => simp [intOf]; omega
              · have ec : Hid (sumTo T p m ci = cntT T k m) := Lib.hid (by rw [HP.out]; exact sumTo_all (by rw [(HT.out.at hmN).1]; omega))
                have hci2 : ¬ (ci : Int) < (q : Int) := by omega
                obtain ⟨sv, hsv⟩ : ∃ sv, sv = sumTo T p m ci := ⟨_, rfl⟩
                have hsv2 : Hid (sv = cntT T k m) := Lib.hid (hsv.trans ec.out)
                rw [← hsv]
                have HM3 := own_kept HM.out HBy.out
                have HB4 := Lib.hid (bl_then HBx.out HBy.out)
                have hz4 := HB4.out.size
                clear hsv ec HBy HB2 HB3
                go_wp2_with (at_builtin; refine wpList_append_own _ rfl (.tmp 62) (.tmp 64) _ rfl W2.heap.size 3 j0 _ 1 8 Try.underlying74 hj jz0 jz1 jz2 rfl (by decide) _ m (encI (cntRow T m k)) rfl (HM3.alloc _) ⟨wr.heap.size, 0, none⟩ 1 1 [.int .i64 sv] rfl rfl (cells_new _ _ _) (by intro u hu; rw [List.mem_singleton.1 hu]; rfl) (by unfold maxLen; omega) (by omega) (by simp; omega) ?_; intro v6 w6 hown6 hg6 _)
                have hoA := HM3.alloc (.cells #[.int .i64 sv] 3)
                have HB6 := Lib.hid (bl_grown (bl_alloc HB4.out (.cells #[.int .i64 sv] 3)) hoA (Nat.le_refl _) hg6)
                have HO6 : Hid (w6.ownsRow W2.heap.size 3 1 v6 (m + 1) (encI (cntRow T (m + 1) k))) := Lib.hid (by rw [cntRow_snoc, encI_snoc, ← hsv2.out]; exact hown6)
                clear hg6 hoA hown6 HM3 HB4 x1 x2 x3 y1 y2
                go_wp2_with fail
                go_roundw
                case rel => exact ⟨m + 1, by omega, by go_num, HO6, HB6⟩
                case measure => simp [intOf]; omega
        · have em : N = m := by omega
          subst em
          have hM := HM.out
          obtain ⟨g7, c7, rfl, _, _⟩ := own_form hM hS0
          have hR2 := HR.out.kept HBx.out
          have hR3 := Lib.hid (hR2.snoc HBx.out.size hM (cntRow_len T N k).symm hS0)
          have ho2 := own_kept HO.out HBx.out
          have HB3 := Lib.hid (bl_then HB.out HBx.out)
          have hz3 := HB3.out.size
          clear hM hR2 HM HBx
          go_wp2_with (at_builtin; refine wpList_append_own _ rfl (.tmp 66) (.tmp 68) _ rfl W1.heap.size 74 r0 _ 1 24 Try.underlying58 hr rz0 rz1 rz2 rfl (by decide) _ k hdrs rfl (ho2.alloc _) ⟨wr.heap.size, 0, none⟩ 1 1 [.slice (some ⟨g7, 0, none⟩) N c7] rfl rfl (cells_new _ _ _) (by intro u hu; rw [List.mem_singleton.1 hu]; rfl) (by unfold maxLen; omega) (by omega) (by simp; omega) ?_; intro v6 w6 hown6 hg6 _)
          have hoA := ho2.alloc (.cells #[.slice (some ⟨g7, 0, none⟩) N c7] 74)
          have HB6 := Lib.hid (bl_grown (bl_alloc HB3.out (.cells #[.slice (some ⟨g7, 0, none⟩) N c7] 74)) hoA (Nat.le_refl _) hg6)
          have hs6 := hg6.size
          simp only [World.size_alloc] at hs6
          have HR6 : Hid (RowsAt w6 w6.heap.size (hdrs ++ [.slice (some ⟨g7, 0, none⟩) N c7]) (cntRows T N (k + 1))) := Lib.hid (by
            rw [cntRows_succ]
            exact ((hR3.out.alloc (.cells #[.slice (some ⟨g7, 0, none⟩) N c7] 74)).grown hg6 (fun r hr => own_not_int hoA (by decide) r hr _)).mono (by omega))
          have HO6 := Lib.hid hown6
          clear hg6 hoA hown6 ho2 hR3 x1 x2 x3
          go_wp2_with fail
          go_roundw
          case rel => exact ⟨k + 1, _, by omega, by go_num, HO6, HR6, HB6⟩
          case measure => simp [intOf]; omega
    · have ek : n + 1 = k := by omega
      have hkn' : ¬ (k : Int) ≤ (n : Int) := by omega
      rw [← ek] at HO HR
      have HF : Hid (Below w.heap.size w wr) := Lib.hid (bl_then HB1.out HB.out)
      have HZ := Lib.hid hzB
      clear ek
      go_wp2_with fail
      go_ret
      exact ⟨_, rfl, hdrs, own_low HO.out (by have := HZ.out; have := HBB.out; omega), HR.out, HF.out⟩
end Go.Proofs.Ytnamafakjkcmjaa
