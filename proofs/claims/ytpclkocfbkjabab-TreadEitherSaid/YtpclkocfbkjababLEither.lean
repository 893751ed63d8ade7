/-
  The law TreadEither: the walk. (Printed by tools/genLEither.py.)
-/
import Derived.Test.YtpclkocfbkjababA29
import Derived.Test.YtpclkocfbkjababT60
import Derived.Test.YtpclkocfbkjababT46
import Derived.Test.YtpclkocfbkjababMJ
import Derived.Test.YtpclkocfbkjababT25
import Derived.Test.YtpclkocfbkjababMD
namespace Go.Proofs.Ytpclkocfbkjabab
open Go.RowKit Go.Shelf
set_option linter.unusedVariables false
set_option linter.unusedSimpArgs false

/-- What Loop's word is. -/
def LoopW (q : Nat) (L : List ByteArray) (wd : Str) : Prop := wd.length ≤ q ^ 4 ∧ chkV q L (bs wd) = 0 ∧ chkV q L (bs wd ++ bs wd) = 0
theorem loopw_of {q n : Nat} {L : List ByteArray} (hset : setB q L = true) (hn1 : 1 ≤ n) (hno : ∀ m, 1 ≤ m → m < n → ∀ i, i < (stL (pats L) q).length → rc (tabL (pats L) q) i m i = false)
    (hex : ∃ i, i < (stL (pats L) q).length ∧ rc (tabL (pats L) q) i n i = true) : LoopW q L (bestN (tabL (pats L) q) n (stL (pats L) q).length) := by
  have hq : 1 ≤ q ∧ q ≤ 3 := by have := (setB_parts hset).1; omega
  have h0 := ok_nil (pats_some hset)
  have hp := pats_five hset
  obtain ⟨g1, g2, g3⟩ := best_loop h0 hp hq.2 hn1 hex
  have g4 := loop_short hq.2 h0 hn1 hno hex
  obtain ⟨w, hw⟩ : ∃ w, w = bestN (tabL (pats L) q) n (stL (pats L) q).length := ⟨_, rfl⟩
  rw [← hw] at g1 g2 g3 ⊢
  have h81 : q ^ 4 ≤ 81 := Nat.le_trans (Nat.pow_le_pow_left hq.2 4) (by decide)
  have hl := (lettB_iff hq.2 w).2 g2
  have hl2 : lettB q (w ++ w) = true := (lettB_iff hq.2 _).2 (lett_app.2 ⟨g2, g2⟩)
  have hw0 : 0 < w.length := by omega
  have lb1 : loopB (pats L) w = true := by
    rw [loop_any hw0 hp (n' := 6 * w.length) (loop_six hw0)]; exact g3 _
  have lb2 : loopB (pats L) (w ++ w) = true := by
    have h2 : 0 < (w ++ w).length := by rw [List.length_append]; omega
    rw [loop_any h2 hp (n' := 6 * (w ++ w).length) (loop_six h2), repN_twice hw0]; exact g3 _
  have hs1 : (bs w).size = w.length := rfl
  have hs2 : (bs w ++ bs w).size = w.length + w.length := by rw [ByteArray.size_append, hs1]
  have hsb : sb (bs w ++ bs w) = w ++ w := by rw [sb_append]; rfl
  refine ⟨by omega, ?_, ?_⟩
  · unfold chkV
    rw [hset, hs1, show decide (w.length ≤ 300) = true by simp; omega, Int.toNat_natCast, show sb (bs w) = w from rfl, hl, lb1]
    rfl
  · unfold chkV
    rw [hset, hs2, show decide (w.length + w.length ≤ 300) = true by simp; omega, Int.toNat_natCast, hsb, hl2, lb2]
    rfl
set_option maxRecDepth 100000 in
set_option maxHeartbeats 4000000 in
theorem TreadEither_walk (x : Int) (v : Value) (ss : List ByteArray) (W : World) (hx : (Lit.int .i64 x).wf = true) (hv : StrsAt W v ss) (hl : ss.length * 16 ≤ 140737488351232) (hz : ∀ s ∈ ss, s.size ≤ maxLen) (hG : HasG W) :
    Calls Try.prog 12 #[.int .i64 x, v] W fun e w' => e = .returned (.bool true) ∧ Below W.heap.size W w' := by
  have TM := Lib.hid fun W h => tame_any x v ss 12 W h hl hz (by omega)
  have HV := Lib.hid hv
  have AW := Lib.hid fun W h => awake_any W h
  have HG := Lib.hid hG
  clear hG hv hz hl hx
  go_enter Try.func12, Try.ntmps12
  go_wp2_with fail
  refine (TM.out _ HV.out).mono ?_
  rintro e w1 ⟨q, v1, rfl, hq, ⟨L, hs1, hset, hL12, _⟩, hb1⟩
  have HB1 := Lib.hid hb1
  have HS1 := Lib.hid hs1
  have hq' : 1 ≤ q ∧ q ≤ 3 := hq
  have h0 := ok_nil (pats_some hset)
  have hp := pats_five hset
  have hTT := tab_ok (q := q) h0
  have hN0 : 0 < (stL (pats L) q).length := by rw [stL_fix h0]; simp
  have hN121 := stL_few (pats L) hq.2
  have EI := Lib.hid fun (m : Nat) (h : Lng (tabL (pats L) q) 0 m) => ends_iff hTT hN0 hN121 h
  obtain ⟨T, hT⟩ : ∃ T, T = tabL (pats L) q := ⟨_, rfl⟩
  cases he : endsB (tabL (pats L) q) with
  | false =>
    have LG := Lib.hid fun W h h2 => (Longest_any q v1 L W h hset h2).mono (R' := fun e w' => e = .returned (.tuple #[.string ⟨#[]⟩, .int .i64 6]) ∧ Below W.heap.size W w') fun e w' h => by
      obtain ⟨h1, h2⟩ := h
      rcases h1 with ⟨_, h3⟩ | ⟨m, hm, _⟩
      · exact ⟨h3, h2⟩
      · rw [EI.out m hm] at he; cases he
    have LO := Lib.hid fun W h h2 => (Loop_any q _ v1 L W _ _ rfl rfl rfl h hset h2).mono (R' := fun e w' => (∃ wd, LoopW q L wd ∧ e = .returned (.tuple #[.string (bs wd), .int .i64 0])) ∧ Below W.heap.size W w') fun e w' h => by
      obtain ⟨h1, h2⟩ := h
      rcases h1 with ⟨m, hm, _⟩ | ⟨_, n, hn1, _, hno, hex, h3⟩
      · rw [EI.out m hm] at he; cases he
      · exact ⟨⟨_, loopw_of hset hn1 hno hex, h3⟩, h2⟩
    have CH := Lib.hid fun s W h h2 h3 => Check_any q v1 L s W h h2 h3
    obtain ⟨q2, h2⟩ : ∃ q2, q2 = q * q := ⟨_, rfl⟩
    obtain ⟨q3, h3⟩ : ∃ q3, q3 = q2 * q := ⟨_, rfl⟩
    obtain ⟨q4, h4⟩ : ∃ q4, q4 = q3 * q := ⟨_, rfl⟩
    have hq9 : q2 ≤ 9 := by rw [h2]; exact Nat.mul_le_mul hq.2 hq.2
    have hq27 : q3 ≤ 27 := by rw [h3]; exact Nat.mul_le_mul hq9 hq.2
    have hq81 : q4 ≤ 81 := by rw [h4]; exact Nat.mul_le_mul hq27 hq.2
    have hpow : q ^ 4 = q4 := by rw [h4, h3, h2]; simp [Nat.pow_succ]
    have f1 : (q : Int) * (q : Int) = (q2 : Int) := by rw [h2, Int.natCast_mul]
    have f2 : (q2 : Int) * (q : Int) = (q3 : Int) := by rw [h3, Int.natCast_mul]
    have f3 : (q3 : Int) * (q : Int) = (q4 : Int) := by rw [h4, Int.natCast_mul]
    have f1w := wrapN (D := q2) (by omega)
    have f2w := wrapN (D := q3) (by omega)
    have f3w := wrapN (D := q4) (by omega)
    clear hs1 hb1 hset h0 hp hTT hN0 hN121 EI hT h2 h3 h4 he
    go_wp2_with fail
    refine (LG.out _ HS1.out (HG.out.kept HB1.out)).mono ?_
    rintro e w2 ⟨rfl, hb2⟩
    have HB2 := Lib.hid (bl_then HB1.out hb2)
    have HS2 := Lib.hid (HS1.out.kept hb2)
    clear hb2
    go_wp2_with fail
    refine (LO.out _ HS2.out (HG.out.kept HB2.out)).mono ?_
    rintro e w3 ⟨⟨wd, hwd, rfl⟩, hb3⟩
    have HB3 := Lib.hid (bl_then HB2.out hb3)
    have HS3 := Lib.hid (HS2.out.kept hb3)
    clear hb3
    obtain ⟨g1, g2, g3⟩ := hwd
    rw [hpow] at g1
    obtain ⟨n, hn⟩ : ∃ n, n = wd.length := ⟨_, rfl⟩
    rw [← hn] at g1
    have hwz : (bs wd).size = n := hn.symm
    obtain ⟨s, hs⟩ : ∃ s, s = bs wd := ⟨_, rfl⟩
    rw [← hs] at hwz g2 g3 ⊢
    have C1 := Lib.hid fun W h h3 => CH.out s W h (by omega) h3
    have C2 := Lib.hid fun W h h3 => CH.out (s ++ s) W h (by rw [ByteArray.size_append]; omega) h3
    rw [g2] at C1
    rw [g3] at C2
    have k1 : (n : Int) ≤ (q4 : Int) := by omega
    have hno : ¬ 9223372036854775807 < n + n := by omega
    clear hn hs g1 g2 g3 hpow CH
    go_wp2_with fail
    refine (C1.out _ HS3.out (HG.out.kept HB3.out)).mono ?_
    rintro e w4 ⟨rfl, hb4⟩
    have HB4 := Lib.hid (bl_then HB3.out hb4)
    have HS4 := Lib.hid (HS3.out.kept hb4)
    clear hb4
    go_wp2_with fail
    refine (C2.out _ HS4.out (HG.out.kept HB4.out)).mono ?_
    rintro e w5 ⟨rfl, hb5⟩
    have HB5 := Lib.hid (bl_then HB4.out hb5)
    have HS5 := Lib.hid (HS4.out.kept hb5)
    clear hb5
    go_wp2_with fail
    refine (AW.out _ (HG.out.kept HB5.out)).mono ?_
    rintro e w99 ⟨rfl, hb99⟩
    have HB99 := Lib.hid (bl_then HB5.out hb99)
    clear hb99
    go_wp2_with fail
    go_ret
    exact ⟨rfl, HB99.out⟩
  | true =>
    have hc : can (tabL (pats L) q) 1000 0 = false := by
      unfold endsB at he
      simpa using he
    have LG := Lib.hid fun W h h2 => (Longest_any q v1 L W h hset h2).mono (R' := fun e w' => (∃ m : Nat, Lng (tabL (pats L) q) 0 m ∧ e = .returned (.tuple #[.string (bs (wayL (tabL (pats L) q) m 0)), .int .i64 0])) ∧ Below W.heap.size W w') fun e w' h => by
      obtain ⟨h1, h2⟩ := h
      rcases h1 with ⟨h3, _⟩ | ⟨m, hm, h3⟩
      · rw [hc] at h3; cases h3
      · exact ⟨⟨m, hm, h3⟩, h2⟩
    have LO := Lib.hid fun W h h2 => (Loop_any q _ v1 L W _ _ rfl rfl rfl h hset h2).mono (R' := fun e w' => e = .returned (.tuple #[.string ⟨#[]⟩, .int .i64 6]) ∧ Below W.heap.size W w') fun e w' h => by
      obtain ⟨h1, h2⟩ := h
      rcases h1 with ⟨m, hm, h3⟩ | ⟨h4, _⟩
      · exact ⟨h3, h2⟩
      · rw [(h4.can_iff 1000).2 (.inl (by decide))] at hc; cases hc
    have LT := Lib.hid fun s W h => Letters_any q hq.2 s W h
    have AV := Lib.hid fun s W h h2 => Avoids_any v1 L s W h (fun p hp => by have := ((setB_iff.1 hset).2.2.1 p hp).2.1; omega) (by omega) h2
    have WI := Lib.hid fun m h => way_in (m := m) h0 hp hq.2 h
    have EX := Lib.hid fun n W h1 h2 h3 => Extend_any q n v1 L [] W (tabL (pats L) q) rfl h1 hset h2 (Nat.zero_le _) rfl h3
    have FW := Lib.hid fun (m : Nat) (h : Lng (tabL (pats L) q) 0 m) => h.few hTT hN0
    have hN121' := Lib.hid hN121
    clear hs1 hb1 hset h0 hp hTT hN0 hN121 EI hT he hc
    go_wp2_with fail
    refine (LG.out _ HS1.out (HG.out.kept HB1.out)).mono ?_
    rintro e w2 ⟨⟨m, hm, rfl⟩, hb2⟩
    have HB2 := Lib.hid (bl_then HB1.out hb2)
    have HS2 := Lib.hid (HS1.out.kept hb2)
    clear hb2
    have hcm : can (tabL (pats L) q) m 0 = true := (hm.can_iff m).2 (.inr (Int.le_refl _))
    have hcm1 : can (tabL (pats L) q) (m + 1) 0 = false := by
      cases h : can (tabL (pats L) q) (m + 1) 0 with
      | false => rfl
      | true => rcases (hm.can_iff (m + 1)).1 h with h' | h' <;> omega
    have hm121 : m ≤ 121 := by have := FW.out m hm; have := hN121'.out; omega
    obtain ⟨g1, g2, g3⟩ := WI.out m hcm
    have EX1 := Lib.hid fun W h1 (h2 : m + 1 ≤ 60) h3 => (EX.out (m + 1) W h1 h2 h3).mono (R' := fun e w' => e = .returned (.tuple #[.string ⟨#[]⟩, .int .i64 6]) ∧ Below W.heap.size W w') fun e w' h => by
      obtain ⟨h1, h2⟩ := h
      rcases h1 with ⟨_, h3⟩ | ⟨i, hi, hci, _⟩
      · exact ⟨h3, h2⟩
      · rw [run_nil] at hi
        cases hi
        rw [show m + 1 - List.length ([] : Str) = m + 1 from rfl, hcm1] at hci
        cases hci
    have EX2 := Lib.hid fun W h1 (h2 : m ≤ 60) h3 => (EX.out m W h1 h2 h3).mono (R' := fun e w' => e = .returned (.tuple #[.string (bs (wayL (tabL (pats L) q) m 0)), .int .i64 0]) ∧ Below W.heap.size W w') fun e w' h => by
      obtain ⟨h1, h2⟩ := h
      rcases h1 with ⟨h4, _⟩ | ⟨i, hi, hci, h3⟩
      · rcases h4 with h4 | ⟨i, hi, hci⟩
        · rw [run_nil] at h4; cases h4
        · rw [run_nil] at hi
          cases hi
          rw [show m - List.length ([] : Str) = m from rfl, hcm] at hci
          cases hci
      · rw [run_nil] at hi
        cases hi
        exact ⟨h3, h2⟩
    obtain ⟨u, hu⟩ : ∃ u, u = wayL (tabL (pats L) q) m 0 := ⟨_, rfl⟩
    rw [← hu] at g1 g2 g3 EX2 ⊢
    have hl := (lettB_iff hq'.2 u).2 g2
    obtain ⟨s, hs⟩ : ∃ s, s = bs u := ⟨_, rfl⟩
    have hsz : s.size = m := by rw [hs]; exact g1
    have L1 := Lib.hid fun W => LT.out s W (by omega)
    rw [show lettB q (sb s) = true by rw [hs]; exact hl] at L1
    have A1 := Lib.hid fun W h => AV.out s W h (by omega)
    rw [show okL (pats L) (sb s) = true by rw [hs]; exact g3] at A1
    rw [← hs] at EX2 ⊢
    clear hm hcm hcm1 g1 g2 g3 hu hl hs LT AV WI EX FW hN121'
    go_wp2_with fail
    refine (LO.out _ HS2.out (HG.out.kept HB2.out)).mono ?_
    rintro e w3 ⟨rfl, hb3⟩
    have HB3 := Lib.hid (bl_then HB2.out hb3)
    have HS3 := Lib.hid (HS2.out.kept hb3)
    clear hb3
    go_wp2_with fail
    refine (L1.out _).mono ?_
    rintro e w4 ⟨rfl, rfl⟩
    go_wp2_with fail
    refine (A1.out _ HS3.out).mono ?_
    rintro e w4 ⟨rfl, rfl⟩
    have HB4 := HB3
    have HS4 := HS3
    by_cases hbig : 60 ≤ m
    · have k1 : (60 : Int) ≤ (m : Int) := by omega
      go_wp2_with fail
      refine (AW.out _ (HG.out.kept HB4.out)).mono ?_
      rintro e w99 ⟨rfl, hb99⟩
      have HB99 := Lib.hid (bl_then HB4.out hb99)
      clear hb99
      go_wp2_with fail
      go_ret
      exact ⟨rfl, HB99.out⟩
    · have k1 : ¬ (60 : Int) ≤ (m : Int) := by omega
      obtain ⟨m1, hm1⟩ : ∃ m1, m1 = m + 1 := ⟨_, rfl⟩
      have k2 : (m : Int) + 1 = (m1 : Int) := by omega
      have k2w := wrapN (D := m1) (by omega)
      have EX3 := Lib.hid fun W h1 h3 => EX1.out W h1 (by omega) h3
      have EX4 := Lib.hid fun W h1 h3 => EX2.out W h1 (by omega) h3
      rw [← hm1] at EX3
      clear EX1 EX2 hm1 hbig
      go_wp2_with fail
      refine (EX3.out _ HS4.out (HG.out.kept HB4.out)).mono ?_
      rintro e w5 ⟨rfl, hb5⟩
      have HB5 := Lib.hid (bl_then HB4.out hb5)
      have HS5 := Lib.hid (HS4.out.kept hb5)
      clear hb5
      go_wp2_with fail
      refine (EX4.out _ HS5.out (HG.out.kept HB5.out)).mono ?_
      rintro e w6 ⟨rfl, hb6⟩
      have HB6 := Lib.hid (bl_then HB5.out hb6)
      have HS6 := Lib.hid (HS5.out.kept hb6)
      clear hb6
      go_wp2_with fail
      refine (AW.out _ (HG.out.kept HB6.out)).mono ?_
      rintro e w99 ⟨rfl, hb99⟩
      have HB99 := Lib.hid (bl_then HB6.out hb99)
      clear hb99
      go_wp2_with fail
      go_ret
      exact ⟨rfl, HB99.out⟩
end Go.Proofs.Ytpclkocfbkjabab
