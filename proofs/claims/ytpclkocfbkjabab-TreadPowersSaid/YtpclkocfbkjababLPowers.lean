/-
  The law TreadPowers: the walk. (Printed by tools/genLPowers.py.)
-/
import Derived.Test.YtpclkocfbkjababA31
import Derived.Test.YtpclkocfbkjababMI
import Derived.Test.YtpclkocfbkjababMJ
import Derived.Test.YtpclkocfbkjababT25
namespace Go.Proofs.Ytpclkocfbkjabab
open Go.RowKit Go.Shelf
set_option linter.unusedVariables false
set_option linter.unusedSimpArgs false

theorem lng_of {T : Tab} (h : ∃ m, can T m 0 = false) : ∃ m : Nat, Lng T 0 m := by
  obtain ⟨m, hm⟩ := h
  induction m with
  | zero => cases hm
  | succ m ih =>
    cases h : can T m 0 with
    | false => exact ih h
    | true => exact ⟨m, .inr ⟨m, rfl, h, hm⟩⟩
set_option maxRecDepth 100000 in
set_option maxHeartbeats 4000000 in
theorem TreadPowers_walk (x : Int) (v : Value) (ss : List ByteArray) (xn : Int) (W : World) (hx : (Lit.int .i64 x).wf = true) (hv : StrsAt W v ss) (hl : ss.length * 16 ≤ 140737488351232) (hz : ∀ s ∈ ss, s.size ≤ maxLen) (hxn : (Lit.int .i64 xn).wf = true) (hG : HasG W) :
    Calls Try.prog 4 #[.int .i64 x, v, .int .i64 xn] W fun e w' => e = .returned (.bool true) ∧ Below W.heap.size W w' := by
  have TM := Lib.hid fun W h => tame_any x v ss 12 W h hl hz (by omega)
  have HV := Lib.hid hv
  have AW := Lib.hid fun W h => awake_any W h
  have HG := Lib.hid hG
  have MD := Lib.hid fun W => mod_any xn 61 W (by omega)
  clear hG hv hz hl hx hxn
  go_enter Try.func4, Try.ntmps4
  go_wp2_with fail
  refine (TM.out _ HV.out).mono ?_
  rintro e w1 ⟨q, v1, rfl, hq, ⟨L, hs1, hset, hL12, _⟩, hb1⟩
  have HB1 := Lib.hid hb1
  have HS1 := Lib.hid hs1
  have h0 := ok_nil (pats_some hset)
  have hp := pats_five hset
  have hTT := tab_ok (q := q) h0
  have hN0 : 0 < (stL (pats L) q).length := by rw [stL_fix h0]; simp
  have hN121 := stL_few (pats L) hq.2
  have hpl : (pats L).length ≤ 12 := by unfold pats; rw [List.length_map]; exact hL12
  have EI := Lib.hid fun (m : Nat) (h : Lng (tabL (pats L) q) 0 m) => ends_iff hTT hN0 hN121 h
  have GR := Lib.hid fun w h h2 => (Growth_any q _ v1 L w _ _ rfl rfl rfl h hset h2).mono (R' := fun e w' => (∃ g, GrowIs (tabL (pats L) q) (stL (pats L) q).length g ∧ e = .returned (.tuple #[.int .i64 g, .int .i64 0])) ∧ Below w.heap.size w w') fun e w' h => by
    obtain ⟨⟨M, hM, h1⟩, h2⟩ := h
    rcases h1 with ⟨h3, rfl⟩ | ⟨h3, rfl⟩
    · exact ⟨⟨_, ⟨M, hM, .inl ⟨h3, rfl⟩⟩, rfl⟩, h2⟩
    · exact ⟨⟨_, ⟨M, hM, .inr ⟨h3, rfl⟩⟩, rfl⟩, h2⟩
  have CN := Lib.hid fun k (hk : k ≤ 60) w h h2 => Count_any q k v1 L w (tabL (pats L) q) rfl h hset hk h2
  clear hs1 hb1
  go_wp2_with fail
  refine (MD.out _).mono ?_
  rintro e w2 ⟨⟨n, hn, rfl⟩, rfl⟩
  have C1 := Lib.hid (CN.out n (by omega))
  cases he : endsB (tabL (pats L) q) with
  | true =>
    have hc : can (tabL (pats L) q) 1000 0 = false := by
      unfold endsB at he
      simpa using he
    have hf := fin_fewB h0 hp hpl hq.2 ⟨1000, hc⟩ n
    have GR1 := Lib.hid fun w h h2 => (GR.out w h h2).mono (R' := fun e w' => e = .returned (.tuple #[.int .i64 (-1), .int .i64 0]) ∧ Below w.heap.size w w') fun e w' h => by
      obtain ⟨⟨g, hg, h1⟩, h2⟩ := h
      rw [grow_ends h0 hp hq.2 ⟨1000, hc⟩ hg] at h1
      exact ⟨h1, h2⟩
    have LG := Lib.hid fun W h h2 => (Longest_any q v1 L W h hset h2).mono (R' := fun e w' => (∃ (m : Nat) (s : ByteArray), s.size = m ∧ m ≤ 1000 ∧ decide (0 < cntT (tabL (pats L) q) n 0) = decide ((n : Int) ≤ (m : Int)) ∧ e = .returned (.tuple #[.string s, .int .i64 0])) ∧ Below W.heap.size W w') fun e w' h => by
      obtain ⟨h1, h2⟩ := h
      rcases h1 with ⟨h3, _⟩ | ⟨m, hm, h3⟩
      · rw [hc] at h3; cases h3
      · refine ⟨⟨m, _, ?_, ?_, ?_, h3⟩, h2⟩
        · exact wayL_len _ m 0 ((hm.can_iff m).2 (.inr (Int.le_refl _)))
        · have := hm.few hTT hN0; omega
        · rw [decide_eq_decide, cnt_pos, hm.can_iff n]
          constructor
          · rintro (h | h)
            · omega
            · exact h
          · exact .inr
    have C2 := Lib.hid fun w h h2 => (C1.out w h h2).mono (R' := fun e w' => e = .returned (.tuple #[.int .i64 (cntT (tabL (pats L) q) n 0), .int .i64 0]) ∧ Below w.heap.size w w') fun e w' h => by
      obtain ⟨h1, h2⟩ := h
      rcases h1 with ⟨h3, _⟩ | ⟨_, h3⟩
      · rw [hf] at h3; cases h3
      · exact ⟨h3, h2⟩
    obtain ⟨c, hcd⟩ : ∃ c, c = cntT (tabL (pats L) q) n 0 := ⟨_, rfl⟩
    rw [← hcd] at C2 LG
    clear h0 hp hTT hN0 hN121 hpl EI GR CN C1 he hc hf hcd hset
    go_wp2_with fail
    refine (GR1.out _ HS1.out (HG.out.kept HB1.out)).mono ?_
    rintro e w2 ⟨rfl, hb2⟩
    have HB2 := Lib.hid (bl_then HB1.out hb2)
    have HS2 := Lib.hid (HS1.out.kept hb2)
    clear hb2
    go_wp2_with fail
    refine (C2.out _ HS2.out (HG.out.kept HB2.out)).mono ?_
    rintro e w3 ⟨rfl, hb3⟩
    have HB3 := Lib.hid (bl_then HB2.out hb3)
    have HS3 := Lib.hid (HS2.out.kept hb3)
    clear hb3
    go_wp2_with fail
    refine (LG.out _ HS3.out (HG.out.kept HB3.out)).mono ?_
    rintro e w4 ⟨⟨m, s, hsz, hm, hcm, rfl⟩, hb4⟩
    have HB4 := Lib.hid (bl_then HB3.out hb4)
    have HS4 := Lib.hid (HS3.out.kept hb4)
    clear hb4
    by_cases hnm : (n : Int) ≤ (m : Int)
    · have d1 : decide ((n : Int) ≤ (m : Int)) = true := decide_eq_true hnm
      rw [d1] at hcm
      have hc0 : (0 : Int) < c := of_decide_eq_true hcm
      go_wp2_with fail
      refine (AW.out _ (HG.out.kept HB4.out)).mono ?_
      rintro e w99 ⟨rfl, hb99⟩
      have HB99 := Lib.hid (bl_then HB4.out hb99)
      clear hb99
      go_wp2_with fail
      go_ret
      exact ⟨rfl, HB99.out⟩
    · have d1 : decide ((n : Int) ≤ (m : Int)) = false := decide_eq_false hnm
      rw [d1] at hcm
      have hc0 : ¬ (0 : Int) < c := of_decide_eq_false hcm
      have d2 : ¬ n ≤ m := by omega
      have d3 : decide (n ≤ m) = false := decide_eq_false d2
      go_wp2_with fail
      refine (AW.out _ (HG.out.kept HB4.out)).mono ?_
      rintro e w99 ⟨rfl, hb99⟩
      have HB99 := Lib.hid (bl_then HB4.out hb99)
      clear hb99
      go_wp2_with fail
      go_ret
      exact ⟨rfl, HB99.out⟩
  | false =>
    have hc : can (tabL (pats L) q) 1000 0 = true := by
      unfold endsB at he
      simpa using he
    have hinf : ∀ m, can (tabL (pats L) q) m 0 = true := fun m => by
      refine Classical.byContradiction fun hn => ?_
      have hfin : ∃ m, can (tabL (pats L) q) m 0 = false := ⟨m, by simpa using hn⟩
      obtain ⟨m, hm⟩ := lng_of hfin
      rw [EI.out m hm] at he
      cases he
    have LO := Lib.hid fun W h h2 => (Loop_any q _ v1 L W _ _ rfl rfl rfl h hset h2).mono (R' := fun e w' => (∃ s : ByteArray, e = .returned (.tuple #[.string s, .int .i64 0])) ∧ Below W.heap.size W w') fun e w' h => by
      obtain ⟨h1, h2⟩ := h
      rcases h1 with ⟨m, hm, _⟩ | ⟨_, n, _, _, _, _, h3⟩
      · rw [EI.out m hm] at he; cases he
      · exact ⟨⟨_, h3⟩, h2⟩
    by_cases hq1 : q = 1
    · have hLn : L = [] := one_letter (by rw [← hq1]; exact hset) (by rw [← hq1]; exact hinf 5)
      have e1 : tabL (pats L) q = tabL (pats []) 1 := by rw [hLn, hq1]
      have e2 : stL (pats L) q = stL (pats []) 1 := by rw [hLn, hq1]
      have GR1 := Lib.hid fun w h h2 => (GR.out w h h2).mono (R' := fun e w' => e = .returned (.tuple #[.int .i64 0, .int .i64 0]) ∧ Below w.heap.size w w') fun e w' h => by
        obtain ⟨⟨g, hg, h1⟩, h2⟩ := h
        rw [e1, e2] at hg
        rw [one_grow hg] at h1
        exact ⟨h1, h2⟩
      have C2 := Lib.hid fun w h h2 => (C1.out w h h2).mono (R' := fun e w' => e = .returned (.tuple #[.int .i64 1, .int .i64 0]) ∧ Below w.heap.size w w') fun e w' h => by
        obtain ⟨h1, h2⟩ := h
        rw [e1, one_cnt] at h1
        rcases h1 with ⟨h3, _⟩ | ⟨_, h3⟩
        · rw [few_all fun m _ => by rw [one_cnt]; decide] at h3; cases h3
        · exact ⟨h3, h2⟩
      have d1 : decide ((1 : Int) < (q : Int)) = false := decide_eq_false (by omega)
      have d2 : ¬ (1 : Int) < (q : Int) := by omega
      clear h0 hp hTT hN0 hN121 hpl EI GR CN C1 he hc hset hinf hLn e1 e2 hq1
      go_wp2_with fail
      refine (GR1.out _ HS1.out (HG.out.kept HB1.out)).mono ?_
      rintro e w2 ⟨rfl, hb2⟩
      have HB2 := Lib.hid (bl_then HB1.out hb2)
      have HS2 := Lib.hid (HS1.out.kept hb2)
      clear hb2
      go_wp2_with fail
      refine (C2.out _ HS2.out (HG.out.kept HB2.out)).mono ?_
      rintro e w3 ⟨rfl, hb3⟩
      have HB3 := Lib.hid (bl_then HB2.out hb3)
      have HS3 := Lib.hid (HS2.out.kept hb3)
      clear hb3
      go_wp2_with fail
      refine (LO.out _ HS3.out (HG.out.kept HB3.out)).mono ?_
      rintro e w4 ⟨⟨s, rfl⟩, hb4⟩
      have HB4 := Lib.hid (bl_then HB3.out hb4)
      have HS4 := Lib.hid (HS3.out.kept hb4)
      clear hb4
      go_wp2_with fail
      refine (AW.out _ (HG.out.kept HB4.out)).mono ?_
      rintro e w99 ⟨rfl, hb99⟩
      have HB99 := Lib.hid (bl_then HB4.out hb99)
      clear hb99
      go_wp2_with fail
      go_ret
      exact ⟨rfl, HB99.out⟩
    · have d1 : decide ((1 : Int) < (q : Int)) = true := decide_eq_true (by omega)
      have d2 : (1 : Int) < (q : Int) := by omega
      have GS := Lib.hid fun g h => grow_on (g := g) h0 hp hq.2 hinf h
      have hcp : 0 < cntT (tabL (pats L) q) n 0 := (cnt_pos _ n 0).2 (hinf n)
      obtain ⟨c, hcd⟩ : ∃ c, c = cntT (tabL (pats L) q) n 0 := ⟨_, rfl⟩
      rw [← hcd] at C1 hcp
      clear h0 hp hTT hN0 hN121 hpl EI CN he hc hset hinf hq1 hcd
      go_wp2_with fail
      refine (GR.out _ HS1.out (HG.out.kept HB1.out)).mono ?_
      rintro e w2 ⟨⟨g, hg, rfl⟩, hb2⟩
      have HB2 := Lib.hid (bl_then HB1.out hb2)
      have HS2 := Lib.hid (HS1.out.kept hb2)
      clear hb2
      obtain ⟨g1, g2⟩ := GS.out g hg
      have g3 : (g == -1) = false := by rw [beq_eq_false_iff_ne]; exact g2
      have g4 : decide (-2 ≤ g) = true := decide_eq_true g1
      have c1 : 1 ≤ c := by omega
      have c2 : decide (1 ≤ c) = true := decide_eq_true c1
      clear hg
      go_wp2_with fail
      refine (C1.out _ HS2.out (HG.out.kept HB2.out)).mono ?_
      rintro e w3 ⟨hr, hb3⟩
      have HB3 := Lib.hid (bl_then HB2.out hb3)
      have HS3 := Lib.hid (HS2.out.kept hb3)
      clear hb3
      rcases hr with ⟨_, rfl⟩ | ⟨_, rfl⟩
      · go_wp2_with fail
        refine (LO.out _ HS3.out (HG.out.kept HB3.out)).mono ?_
        rintro e w4 ⟨⟨s, rfl⟩, hb4⟩
        have HB4 := Lib.hid (bl_then HB3.out hb4)
        have HS4 := Lib.hid (HS3.out.kept hb4)
        clear hb4
        go_wp2_with fail
        refine (AW.out _ (HG.out.kept HB4.out)).mono ?_
        rintro e w99 ⟨rfl, hb99⟩
        have HB99 := Lib.hid (bl_then HB4.out hb99)
        clear hb99
        go_wp2_with fail
        go_ret
        exact ⟨rfl, HB99.out⟩
      · go_wp2_with fail
        refine (LO.out _ HS3.out (HG.out.kept HB3.out)).mono ?_
        rintro e w4 ⟨⟨s, rfl⟩, hb4⟩
        have HB4 := Lib.hid (bl_then HB3.out hb4)
        have HS4 := Lib.hid (HS3.out.kept hb4)
        clear hb4
        go_wp2_with fail
        refine (AW.out _ (HG.out.kept HB4.out)).mono ?_
        rintro e w99 ⟨rfl, hb99⟩
        have HB99 := Lib.hid (bl_then HB4.out hb99)
        clear hb99
        go_wp2_with fail
        go_ret
        exact ⟨rfl, HB99.out⟩
end Go.Proofs.Ytpclkocfbkjabab
