/-
  The reference: Longest, Unavoidable.
-/
import Derived.Test.YtpclkocfbkjabaaT33
namespace Go.Proofs.Ytpclkocfbkjabaa
open Go.RowKit Go.Shelf
set_option linter.unusedVariables false
set_option linter.unusedSimpArgs false

theorem wayG_can (T : Tab) : ∀ m i, wayG (can T) T m i = wayL T m i
  | 0, _ => rfl
  | m + 1, i => by
    unfold wayG wayL
    cases firstG (can T m) (stp T i) with
    | none => rfl
    | some p => obtain ⟨c, j⟩ := p; simp [wayG_can T m j]
theorem keeps_can (T : Tab) (N n : Nat) : Keeps (can T) T N n := fun m i _ _ h => can_succ.1 h
theorem GraphV.kept {w W : World} {base : Nat} {g : Value} {S : List Str} {T : Tab} (h : GraphV w base g S T) (hb : Below w.heap.size w W) : GraphV W base g S T := by
  obtain ⟨vS, vT, hdrs, e, h1, h2, h3⟩ := h
  exact ⟨vS, vT, hdrs, e, own_kept h1 hb, own_kept h2 hb, (h3.kept hb).mono hb.size⟩
set_option maxRecDepth 100000 in
set_option maxHeartbeats 8000000 in
theorem RLongest_any (q : Nat) (hq : 1 ≤ q ∧ q ≤ 3) (v : Value) (ss : List ByteArray) (w : World) (hv : StrsAt w v ss) (hz : ∀ p ∈ ss, p.size ≤ 1000) (hl : ss.length ≤ 1000) (h0 : okL (pats ss) [] = true) :
    Calls Try.prog 18 #[.int .i64 q, v] w fun e w' => ((can (tabL (pats ss) q) 1000 0 = true ∧ e = .returned (.tuple #[.string ⟨#[]⟩, .bool false])) ∨
      (∃ m : Nat, Lng (tabL (pats ss) q) 0 m ∧ e = .returned (.tuple #[.string (bs (wayL (tabL (pats ss) q) m 0)), .bool true]))) ∧ Below w.heap.size w w' := by
  have OF := Lib.hid fun W h => Of_any q hq v ss W h hz hl h0
  have hT := tab_ok (q := q) h0
  have hSf : (stL (pats ss) q).length ≤ 121 := stL_few _ hq.2
  have hS0 : 0 < (stL (pats ss) q).length := by rw [stL_fix h0]; simp
  have HV := Lib.hid hv
  obtain ⟨T, hTT⟩ : ∃ T, T = tabL (pats ss) q := ⟨_, rfl⟩
  obtain ⟨S, hSS⟩ : ∃ S, S = stL (pats ss) q := ⟨_, rfl⟩
  obtain ⟨N, hN⟩ : ∃ N, N = S.length := ⟨_, rfl⟩
  rw [← hTT, ← hSS] at OF hT
  rw [← hSS, ← hN] at hSf hS0
  rw [← hN] at hT
  rw [← hTT]
  have HT2 := Lib.hid hT
  have HN := Lib.hid hN
  have hTl := hT.len
  clear hv hz hl h0 hT hTT hSS hN
  go_enter Try.func18, Try.ntmps18
  go_wp2_with fail
  refine (OF.out _ HV.out).mono ?_
  rintro e w1 ⟨g, rfl, hG, r1⟩
  obtain ⟨vS, vT, thdrs, rfl, g1, g2, g3⟩ := hG
  rw [hTl] at g2
  rw [← HN.out] at g1
  obtain ⟨gS, cS, rfl, _, hgS2⟩ := own_form g1 hS0
  obtain ⟨gT, cT, rfl, _, hgT2⟩ := own_form g2 hS0
  have HG := Lib.hid (show GraphV w1 w.heap.size (.agg #[.slice (some ⟨gS, 0, none⟩) N cS, .slice (some ⟨gT, 0, none⟩) N cT]) S T from ⟨_, _, thdrs, rfl, by rw [← HN.out]; exact g1, by rw [hTl]; exact g2, g3⟩)
  clear g1 g2 g3 HV OF hTl
  go_wp2_with fail
  obtain ⟨w2, hw2⟩ : ∃ w2, w2 = w1.alloc (.cells #[.slice (some ⟨gS, 0, none⟩) N cS, .slice (some ⟨gT, 0, none⟩) N cT] 71) := ⟨_, rfl⟩
  have b12 : Below w1.heap.size w1 w2 := by rw [hw2]; exact bl_alloc (bl_refl w1) _
  have hx : Whole w2 w1.heap.size 71 #[.slice (some ⟨gS, 0, none⟩) N cS, .slice (some ⟨gT, 0, none⟩) N cT] := by rw [hw2]; exact Whole.new w1 _ _
  have HG2 := Lib.hid (HG.out.kept b12)
  rw [← hw2]
  refine (Counts_any q (N + 1) w.heap.size hq (by omega) _ S T w2 HG2.out (HN.out ▸ HT2.out) (HN.out ▸ hSf) (HN.out ▸ hS0)).mono ?_
  rintro e w3 ⟨vc, chdrs, rfl, c1, c2, r2⟩
  rw [← HN.out] at c2
  obtain ⟨gC, cC, rfl, _, hgC2⟩ := own_form c1 (by omega)
  have HCR : Hid (∀ m, m ≤ N + 1 → ∃ b c, b < w3.heap.size ∧ gC < w3.heap.size ∧ ∀ W', Below w3.heap.size w3 W' → W'.cell? ⟨gC, m, none⟩ = some (.slice (some ⟨b, 0, none⟩) N c) ∧ W'.cell? ⟨b, 0, none⟩ = some (.int .i64 (cntT T m 0))) := Lib.hid fun m hm => by
    obtain ⟨b, c, e1, e2, e3⟩ := c2.row (W := w3) (i := m) (by rw [cntRows_len]; omega)
    rw [cntRows_at (by omega), cntRow_len] at e1 e3
    refine ⟨b, c, e2, hgC2, fun W' hb => ⟨?_, ?_⟩⟩
    · exact (hb.cell (p := ⟨gC, m, none⟩) hgC2).trans ((c1.cellAt m (by omega)).trans e1)
    · rw [(hb.cell (p := ⟨b, 0, none⟩) e2).trans (e3 0 hS0), cntRow_at hS0]
  have HC1 := Lib.hid c1
  have HC2 := Lib.hid c2
  have HX := Lib.hid (hx.kept r2)
  have HG3 := Lib.hid (HG2.out.kept r2)
  have HB3 := Lib.hid (bl_then r1 (bl_then b12 r2))
  have x3 := HX.out.lt
  have x1 : w3.cell? ⟨w1.heap.size, 0, none⟩ = some (.slice (some ⟨gS, 0, none⟩) N cS) := (HX.out.cell 0).trans rfl
  have x2 : w3.cell? ⟨w1.heap.size, 1, none⟩ = some (.slice (some ⟨gT, 0, none⟩) N cT) := (HX.out.cell 1).trans rfl
  clear c1 c2 hx HG HG2 b12 r2 hw2 r1
  obtain ⟨b0, cb0, lb0, lg0, hr0⟩ := HCR.out (N + 1) (Nat.le_refl _)
  obtain ⟨y1, y2⟩ := hr0 w3 (bl_refl w3)
  obtain ⟨k0, hk0⟩ : ∃ k0, k0 = cntT T (N + 1) 0 := ⟨_, rfl⟩
  rw [← hk0] at y2
  have HK0 := Lib.hid hk0
  clear hr0 hk0
  by_cases hk : 0 < k0
  · have HF := Lib.hid (show can T 1000 0 = true from can_ever HT2.out hS0 (can_le (Nat.le_succ N) ((cnt_pos T _ _).1 (by rw [← HK0.out]; exact hk))) _)
    go_wp2_with fail
    go_ret2
    exact ⟨.inl ⟨HF.out, rfl⟩, HB3.out⟩
  · have HN1 : Hid (can T (N + 1 + 1) 0 = false) := Lib.hid (by
      cases hc : can T (N + 1 + 1) 0 with
      | false => rfl
      | true => exact absurd ((cnt_pos T _ _).2 (can_less hc)) (by rw [← HK0.out]; exact hk))
    clear HK0
    go_wp2_with fail
    clear y1 y2 lb0 lg0
    go_loopw [8] (fun nv wr => ∃ m : Nat, m ≤ N + 1 ∧ nv = .int .i64 m ∧ Hid (can T (m + 1) 0 = false) ∧ wr = w3) (fun nv _ => (intOf nv).toNat)
    case atStart => exact ⟨N + 1, Nat.le_refl _, rfl, HN1, rfl⟩
    case round =>
      obtain ⟨m, hm, rfl, HC, rfl⟩ := hrel
      obtain ⟨b, c, lb, lg, hr⟩ := HCR.out m hm
      obtain ⟨y1, y2⟩ := hr wr (bl_refl wr)
      obtain ⟨k, hkm⟩ : ∃ k, k = cntT T m 0 := ⟨_, rfl⟩
      rw [← hkm] at y2
      have hm2 : (m : Int) < (N : Int) + 1 + 1 := by omega
      clear hr
      by_cases hk0 : k = 0
      · have hz := cnt_zero.1 (hkm.symm.trans hk0)
        obtain ⟨p, rfl⟩ : ∃ p, m = p + 1 := ⟨m - 1, by
          have : m ≠ 0 := by rintro rfl; rw [can_zero] at hz; cases hz
          omega⟩
        have HZ := Lib.hid hz
        clear hkm hz
        go_wp2_with fail
        go_roundw
        case rel => exact ⟨p, by omega, by go_num, HZ, by first | rfl | trivial⟩
        case measure => first | done | (simp [intOf]; done) | (simp [intOf]; omega)
      · have hcan : can T m 0 = true := by
          cases hc : can T m 0 with
          | true => rfl
          | false => exact absurd (hkm.trans (cnt_zero.2 hc)) hk0
        have HL := Lib.hid (show Lng T 0 m from .inr ⟨m, rfl, hcan, HC.out⟩)
        have HCN := Lib.hid hcan
        have hkb : (k == 0) = false := beq_false_of_ne hk0
        clear hkm hcan
        go_wp2_with fail
        refine (First_any q m w.heap.size w2.heap.size (N + 1 + 1) 0 hq (by omega) (by omega) _ _ S T (cntRows T N (N + 1 + 1)) chdrs (can T) wr HG3.out (HN.out ▸ HT2.out) (HN.out ▸ hSf) (HN.out ▸ hS0) HC1.out HC2.out (cntRows_len _ _ _)
          (fun i hi => by rw [cntRows_at (by omega), cntRow_len]; exact HN.out) (fun i j hi hj => by rw [cntRows_at (by omega), cntRow_at (by rw [HN.out]; exact hj), Ne, cnt_zero]; cases can T i j <;> simp) (keeps_can _ _ _) HCN.out).mono ?_
        rintro e w4 ⟨rfl, r4⟩
        rw [wayG_can]
        have HB4 := Lib.hid (bl_then HB3.out r4)
        clear r4
        go_wp2_with fail
        go_ret2
        exact ⟨.inr ⟨m, HL.out, rfl⟩, HB4.out⟩
/-- Whether words end. -/
def endsB (T : Tab) : Bool := !can T 1000 0
theorem ends_iff {T : Tab} {m : Nat} {N q : Nat} (hT : TabOk T N q) (hN : 0 < N) (hS : N ≤ 121) (h : Lng T 0 m) : endsB T = true := by
  have := h.few hT hN
  unfold endsB
  cases hc : can T 1000 0 with
  | false => rfl
  | true => have := (h.can_iff _).1 hc; omega
set_option maxRecDepth 100000 in
set_option maxHeartbeats 4000000 in
theorem Unav_any (q : Nat) (hq : 1 ≤ q ∧ q ≤ 3) (v : Value) (ss : List ByteArray) (w : World) (hv : StrsAt w v ss) (hz : ∀ p ∈ ss, p.size ≤ 1000) (hl : ss.length ≤ 1000) (h0 : okL (pats ss) [] = true) :
    Calls Try.prog 27 #[.int .i64 q, v] w fun e w' => e = .returned (.bool (endsB (tabL (pats ss) q))) ∧ Below w.heap.size w w' := by
  have RL := Lib.hid (RLongest_any q hq v ss w hv hz hl h0)
  have HE := Lib.hid fun m h => ends_iff (m := m) (tab_ok (q := q) h0) (by rw [stL_fix h0]; simp) (stL_few _ hq.2) h
  clear hv hz hl h0
  go_enter Try.func27, Try.ntmps27
  go_wp2_with fail
  refine RL.out.mono ?_
  rintro e w1 ⟨h, r1⟩
  have HB := Lib.hid r1
  clear r1
  rcases h with ⟨hc, rfl⟩ | ⟨m, hL, rfl⟩
  · have HR := Lib.hid (show endsB (tabL (pats ss) q) = false by unfold endsB; rw [hc]; rfl)
    clear hc
    go_wp2_with fail
    go_ret
    exact ⟨by rw [HR.out]; rfl, HB.out⟩
  · have HR := Lib.hid (HE.out m hL)
    clear hL
    go_wp2_with fail
    go_ret
    exact ⟨by rw [HR.out]; rfl, HB.out⟩
end Go.Proofs.Ytpclkocfbkjabaa
