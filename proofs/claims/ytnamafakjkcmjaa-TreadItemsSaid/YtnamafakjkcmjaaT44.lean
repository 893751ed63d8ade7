/-
  The reference: Count.
-/
import Derived.Test.YtnamafakjkcmjaaT34
import Derived.Test.YtnamafakjkcmjaaME
namespace Go.Proofs.Ytnamafakjkcmjaa
open Go.RowKit Go.Shelf
set_option linter.unusedVariables false
set_option linter.unusedSimpArgs false

/-- The rows of counts, as the reference has made them. -/
def CntAt (gC n N : Nat) (T : Tab) (w : World) : Prop := gC < w.heap.size ∧ ∀ m, m ≤ n → ∃ b c, b < w.heap.size ∧ ∀ W', Below w.heap.size w W' → W'.cell? ⟨gC, m, none⟩ = some (.slice (some ⟨b, 0, none⟩) N c) ∧ ∀ j, j < N → W'.cell? ⟨b, j, none⟩ = some (.int .i64 (cntT T m j))
theorem CntAt.kept {gC n N : Nat} {T : Tab} {w w' : World} (h : CntAt gC n N T w) (hb : Below w.heap.size w w') : CntAt gC n N T w' := by
  refine ⟨Nat.lt_of_lt_of_le h.1 hb.size, fun m hm => ?_⟩
  obtain ⟨b, c, h1, h2⟩ := h.2 m hm
  exact ⟨b, c, Nat.lt_of_lt_of_le h1 hb.size, fun W' hb' => h2 W' (bl_then hb hb')⟩
theorem cntAt_of {w : World} {base gC n N cC : Nat} {T : Tab} {chdrs : List Value} (c1 : w.ownsRow base 74 1 (.slice (some ⟨gC, 0, none⟩) (n + 1) cC) (n + 1) chdrs) (c2 : RowsAt w w.heap.size chdrs (cntRows T N (n + 1))) : CntAt gC n N T w := by
  have hg := (c1.lt _ rfl).2
  refine ⟨hg, fun m hm => ?_⟩
  obtain ⟨b, c, e1, e2, e3⟩ := c2.row (W := w) (i := m) (by rw [cntRows_len]; omega)
  rw [cntRows_at (by omega), cntRow_len] at e1 e3
  refine ⟨b, c, e2, fun W' hb => ⟨(hb.cell (p := ⟨gC, m, none⟩) hg).trans ((c1.cellAt m (by omega)).trans e1), fun j hj => ?_⟩⟩
  rw [(hb.cell (p := ⟨b, j, none⟩) e2).trans (e3 j hj), cntRow_at hj]
set_option maxRecDepth 100000 in
set_option maxHeartbeats 4000000 in
theorem RCount_any (q n : Nat) (hq : 1 ≤ q ∧ q ≤ 3) (hn : n ≤ 60) (v : Value) (ss : List ByteArray) (w : World) (T : Tab) (hTd : T = tabL (pats ss) q) (hv : StrsAt w v ss) (hz : ∀ p ∈ ss, p.size ≤ 1000) (hl : ss.length ≤ 1000) (h0 : okL (pats ss) [] = true) :
    Calls Try.prog 18 #[.int .i64 q, v, .int .i64 n] w fun e w' => ((fewB T n = false ∧ e = .returned (.tuple #[.int .i64 0, .bool false])) ∨ (fewB T n = true ∧ e = .returned (.tuple #[.int .i64 (cntT T n 0), .bool true]))) ∧ Below w.heap.size w w' := by
  have hT := tab_ok (q := q) h0
  have hS := stL_few (pats ss) hq.2
  have hS0 : 0 < (stL (pats ss) q).length := by rw [stL_fix h0]; simp
  have OF := Lib.hid (Of_any q hq v ss w hv hz hl h0)
  rw [← hTd] at OF hT
  obtain ⟨S, hSd⟩ : ∃ S, S = stL (pats ss) q := ⟨_, rfl⟩
  rw [← hSd] at OF hT hS hS0
  have CN := Lib.hid fun g W base h => Counts_any q n base hq (by omega) g S T W h hT hS hS0
  obtain ⟨N, hN⟩ : ∃ N, N = S.length := ⟨_, rfl⟩
  rw [← hN] at CN hS0
  clear hv hz hl h0 hTd hSd hT hS hN
  go_enter Try.func18, Try.ntmps18
  go_wp2_with fail
  refine OF.out.mono ?_
  rintro e w1 ⟨g, rfl, hg, r1⟩
  go_wp2_with fail
  refine (CN.out g _ _ hg).mono ?_
  rintro e w2 ⟨cv, chdrs, rfl, c1, c2, r2⟩
  obtain ⟨gC, cC, rfl, _, _⟩ := own_form c1 (by omega)
  have HC := Lib.hid (cntAt_of c1 c2)
  have HB := Lib.hid (bl_then r1 r2)
  have lC := HC.out.1
  clear c1 c2 hg r1 r2
  go_wp2_with fail
  go_loopw [9] (fun v wr => ∃ m : Nat, m ≤ n + 1 ∧ v = .int .i64 m ∧ Hid (∀ k, k < m → cntT T k 0 < most1) ∧ wr = w2) (fun v _ => n + 1 - (intOf v).toNat)
  case atStart => exact ⟨0, Nat.zero_le _, rfl, Lib.hid (fun k h => absurd h (Nat.not_lt_zero k)), rfl⟩
  case round =>
    obtain ⟨m, hm, rfl, HK, rfl⟩ := hrel
    by_cases hmn : m ≤ n
    · have hmn' : (m : Int) ≤ (n : Int) := by omega
      have hmn2 : (m : Int) < (n : Int) + 1 := by omega
      obtain ⟨b, c, lb, hr⟩ := HC.out.2 m hmn
      obtain ⟨y1, y2'⟩ := hr wr (bl_refl wr)
      have y2 := y2' 0 hS0
      obtain ⟨x, hx⟩ : ∃ x, x = cntT T m 0 := ⟨_, rfl⟩
      rw [← hx] at y2
      have hN1 : (0 : Int) < (N : Int) := by omega
      clear hr y2'
      by_cases hxm : 1152921504606846976 < x
      · have HF := Lib.hid (few_no hmn (by rw [← hx]; unfold most1; omega))
        clear hx
        go_wp2_with fail
        go_ret2
        exact ⟨.inl ⟨HF.out, rfl⟩, HB.out⟩
      · have HK2 : Hid (∀ k, k < m + 1 → cntT T k 0 < most1) := Lib.hid fun k hk => by
          rcases Nat.lt_or_ge k m with h | h
          · exact HK.out k h
          · obtain rfl : k = m := by omega
            rw [← hx]; unfold most1; omega
        clear hx
        go_wp2_with fail
        go_roundw
        case rel => exact ⟨m + 1, by omega, by go_num, HK2, by first | rfl | trivial⟩
        case measure => simp [intOf]; omega
    · have em : m = n + 1 := by omega
      have hmn' : ¬ (m : Int) ≤ (n : Int) := by omega
      have HF := Lib.hid (few_all (T := T) (n := n) fun k hk => HK.out k (by omega))
      obtain ⟨b, c, lb, hr⟩ := HC.out.2 n (Nat.le_refl n)
      obtain ⟨y1, y2'⟩ := hr wr (bl_refl wr)
      have y2 := y2' 0 hS0
      obtain ⟨x, hx⟩ : ∃ x, x = cntT T n 0 := ⟨_, rfl⟩
      rw [← hx] at y2
      have HX := Lib.hid hx
      have hN1 : (0 : Int) < (N : Int) := by omega
      have hnn : (n : Int) < (n : Int) + 1 := by omega
      clear hr y2' hx em
      go_wp2_with fail
      go_ret2
      exact ⟨.inr ⟨HF.out, by rw [← HX.out]; rfl⟩, HB.out⟩
end Go.Proofs.Ytnamafakjkcmjaa
