/-
  The law TreadCounts: the walk.
-/
import Derived.Test.YtpclkocfbkjabaaT42
import Derived.Test.YtpclkocfbkjabaaT44
import Derived.Test.YtpclkocfbkjabaaT25
import Derived.Test.YtpclkocfbkjabaaMD
namespace Go.Proofs.Ytpclkocfbkjabaa
open Go.RowKit Go.Shelf
set_option linter.unusedVariables false
set_option linter.unusedSimpArgs false

set_option maxRecDepth 100000 in
set_option maxHeartbeats 4000000 in
theorem TreadCounts_walk (n : Int) (v : Value) (ss : List ByteArray) (k : Int) (W : World) (hn : (Lit.int .i64 n).wf = true) (hv : StrsAt W v ss) (hl : ss.length * 16 ≤ 140737488351232) (hz : ∀ s ∈ ss, s.size ≤ maxLen) (hk : (Lit.int .i64 k).wf = true) (hG : HasG W) :
    Calls Try.prog 13 #[.int .i64 n, v, .int .i64 k] W fun e w' => e = .returned (.bool true) ∧ Below W.heap.size W w' := by
  have PT := Lib.hid fun W h => patterns_any v ss W h hz
  have HV := Lib.hid hv
  obtain ⟨l, hl⟩ : ∃ l, l = patC ss := ⟨_, rfl⟩
  have h13 : l.length ≤ 13 := by rw [hl]; exact patC_len ss
  have h6 : ∀ s ∈ l, s.size ≤ 6 := by rw [hl]; exact patC_size ss
  rw [← hl] at PT
  have AW := Lib.hid fun W h => awake_any W h
  have HG := Lib.hid hG
  have SE := Lib.hid fun v W h => Set_any n v l W h (fun s hs => Nat.le_trans (h6 s hs) (by omega))
  clear hG hv hz hl hn hk
  by_cases hbad : setB n l = false ∨ k < 0 ∨ 60 < k
  · have CO := Lib.hid fun v W h => Count_no n k v l W h hbad
    have HBAD := Lib.hid hbad
    clear hbad
    go_enter Try.func13, Try.ntmps13
    go_wp2_with fail
    refine (PT.out _ HV.out).mono ?_
    rintro e w1 ⟨v1, rfl, ho1, hb1⟩
    have HS1 := Lib.hid (strs_own ho1 (by omega))
    have HB1 := Lib.hid hb1
    clear ho1 hb1
    go_wp2_with fail
    refine (CO.out _ _ HS1.out).mono ?_
    rintro e w2 ⟨rfl, hb2⟩
    have HS2 := Lib.hid (HS1.out.kept hb2)
    have HB2 := Lib.hid (bl_then HB1.out hb2)
    clear hb2
    go_wp2_with fail
    refine (SE.out _ _ HS2.out).mono ?_
    rintro e w3 ⟨rfl, hb3⟩
    have HB3 := Lib.hid (bl_then HB2.out hb3)
    clear hb3
    cases hset : setB n l with
    | false =>
      clear hset
      go_wp2_with fail
      refine (AW.out _ (HG.out.kept HB3.out)).mono ?_
      rintro e w5 ⟨rfl, hb5⟩
      have HB5 := Lib.hid (bl_then HB3.out hb5)
      clear hb5
      go_wp2_with fail
      go_ret
      exact ⟨rfl, HB5.out⟩
    | true =>
      have hk2 : k < 0 ∨ 60 < k := by
        rcases HBAD.out with h | h
        · rw [hset] at h; cases h
        · exact h
      clear hset
      by_cases hk0 : k < 0
      · go_wp2_with fail
        refine (AW.out _ (HG.out.kept HB3.out)).mono ?_
        rintro e w5 ⟨rfl, hb5⟩
        have HB5 := Lib.hid (bl_then HB3.out hb5)
        clear hb5
        go_wp2_with fail
        go_ret
        exact ⟨rfl, HB5.out⟩
      · have hk6 : 60 < k := by omega
        clear hk2
        go_wp2_with fail
        refine (AW.out _ (HG.out.kept HB3.out)).mono ?_
        rintro e w5 ⟨rfl, hb5⟩
        have HB5 := Lib.hid (bl_then HB3.out hb5)
        clear hb5
        go_wp2_with fail
        go_ret
        exact ⟨rfl, HB5.out⟩
  · have hset : setB n l = true := by
      cases h : setB n l with
      | true => rfl
      | false => exact absurd (.inl h) hbad
    have hk : 0 ≤ k ∧ k ≤ 60 := by
      refine ⟨?_, ?_⟩ <;> (apply Int.not_lt.1; intro h)
      · exact hbad (.inr (.inl h))
      · exact hbad (.inr (.inr h))
    clear hbad
    obtain ⟨q, rfl⟩ : ∃ q : Nat, n = q := ⟨n.toNat, by have := (setB_parts hset).1; omega⟩
    obtain ⟨m, rfl⟩ : ∃ m : Nat, k = m := ⟨k.toNat, by omega⟩
    have hq : 1 ≤ q ∧ q ≤ 3 := by have := (setB_parts hset).1; omega
    have h0 := ok_nil (pats_some hset)
    obtain ⟨T, hT⟩ : ∃ T, T = tabL (pats l) q := ⟨_, rfl⟩
    have CO := Lib.hid fun v W h h2 => Count_any q m v l W T hT h hset (by omega) h2
    have RC := Lib.hid fun v W h => RCount_any q m hq (by omega) v l W T hT h (fun s hs => Nat.le_trans (h6 s hs) (by omega)) (by omega) h0
    rw [hset] at SE
    have hm0 : ¬ (m : Int) < 0 := by omega
    have hm6 : ¬ (60 : Int) < (m : Int) := by omega
    clear hset h0 hT hk
    go_enter Try.func13, Try.ntmps13
    go_wp2_with fail
    refine (PT.out _ HV.out).mono ?_
    rintro e w1 ⟨v1, rfl, ho1, hb1⟩
    have HS1 := Lib.hid (strs_own ho1 (by omega))
    have HB1 := Lib.hid hb1
    clear ho1 hb1
    go_wp2_with fail
    refine (CO.out _ _ HS1.out (HG.out.kept HB1.out)).mono ?_
    rintro e w2 ⟨hr, hb2⟩
    have HS2 := Lib.hid (HS1.out.kept hb2)
    have HB2 := Lib.hid (bl_then HB1.out hb2)
    clear hb2
    rcases hr with ⟨hf, rfl⟩ | ⟨hf, rfl⟩
    · have HF := Lib.hid hf
      clear hf
      go_wp2_with fail
      refine (SE.out _ _ HS2.out).mono ?_
      rintro e w3 ⟨rfl, hb3⟩
      have HS3 := Lib.hid (HS2.out.kept hb3)
      have HB3 := Lib.hid (bl_then HB2.out hb3)
      clear hb3
      go_wp2_with fail
      refine (RC.out _ _ HS3.out).mono ?_
      rintro e w4 ⟨hr, hb4⟩
      have HB4 := Lib.hid (bl_then HB3.out hb4)
      clear hb4
      rcases hr with ⟨_, rfl⟩ | ⟨he, _⟩
      · go_wp2_with fail
        refine (AW.out _ (HG.out.kept HB4.out)).mono ?_
        rintro e w5 ⟨rfl, hb5⟩
        have HB5 := Lib.hid (bl_then HB4.out hb5)
        clear hb5
        go_wp2_with fail
        go_ret
        exact ⟨rfl, HB5.out⟩
      · rw [HF.out] at he; cases he
    · have HF := Lib.hid hf
      clear hf
      generalize cntT T m 0 = x at RC ⊢
      go_wp2_with fail
      refine (SE.out _ _ HS2.out).mono ?_
      rintro e w3 ⟨rfl, hb3⟩
      have HS3 := Lib.hid (HS2.out.kept hb3)
      have HB3 := Lib.hid (bl_then HB2.out hb3)
      clear hb3
      go_wp2_with fail
      refine (RC.out _ _ HS3.out).mono ?_
      rintro e w4 ⟨hr, hb4⟩
      have HB4 := Lib.hid (bl_then HB3.out hb4)
      clear hb4
      rcases hr with ⟨he, rfl⟩ | ⟨_, rfl⟩
      · rw [HF.out] at he; cases he
      · go_wp2_with fail
        refine (AW.out _ (HG.out.kept HB4.out)).mono ?_
        rintro e w5 ⟨rfl, hb5⟩
        have HB5 := Lib.hid (bl_then HB4.out hb5)
        clear hb5
        go_wp2_with fail
        go_ret
        exact ⟨rfl, HB5.out⟩
end Go.Proofs.Ytpclkocfbkjabaa
