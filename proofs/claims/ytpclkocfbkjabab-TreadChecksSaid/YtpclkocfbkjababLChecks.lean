/-
  The law TreadChecks: the walk. (Printed by tools/genLChecks.py.)
-/
import Derived.Test.YtpclkocfbkjababT60
import Derived.Test.YtpclkocfbkjababT25
import Derived.Test.YtpclkocfbkjababMD
namespace Go.Proofs.Ytpclkocfbkjabab
open Go.RowKit Go.Shelf
set_option linter.unusedVariables false
set_option linter.unusedSimpArgs false

set_option maxRecDepth 100000 in
set_option maxHeartbeats 4000000 in
theorem TreadChecks_walk (n : Int) (v : Value) (ss : List ByteArray) (wd : ByteArray) (W : World) (hn : (Lit.int .i64 n).wf = true) (hv : StrsAt W v ss) (hl : ss.length * 16 ≤ 140737488351232) (hz : ∀ s ∈ ss, s.size ≤ maxLen) (hwd : wd.size ≤ 140737488351232) (hG : HasG W) :
    Calls Try.prog 10 #[.int .i64 n, v, .string wd] W fun e w' => e = .returned (.bool true) ∧ Below W.heap.size W w' := by
  have PT := Lib.hid fun W h => patterns_any v ss W h hz
  have HV := Lib.hid hv
  obtain ⟨l, hl⟩ : ∃ l, l = patC ss := ⟨_, rfl⟩
  have h13 : l.length ≤ 13 := by rw [hl]; exact patC_len ss
  have h6 : ∀ s ∈ l, s.size ≤ 6 := by rw [hl]; exact patC_size ss
  rw [← hl] at PT
  have AW := Lib.hid fun W h => awake_any W h
  have HG := Lib.hid hG
  have SE := Lib.hid fun v W h => Set_any n v l W h (fun s hs => Nat.le_trans (h6 s hs) (by omega))
  obtain ⟨Z, hZ⟩ : ∃ Z, Z = wd.size := ⟨_, rfl⟩
  have hsz : wd.size = Z := hZ.symm
  obtain ⟨s, hs⟩ : ∃ s, s = wd.extract 0 (min Z 301) := ⟨_, rfl⟩
  have hss : s.size = min Z 301 := by rw [hs, ByteArray.size_extract]; omega
  have CH := Lib.hid fun v W h1 h2 => Check_any n v l s W h1 (by omega) h2
  have LT := Lib.hid fun (q : Nat) (hq : q ≤ 3) W => Letters_any q hq s W (by omega)
  have IL := Lib.hid fun v W h (h5 : ∀ p ∈ l, p.size ≤ 5) => IsLoop_any v l (sb s) W h (by omega) h5 (by rw [sb_size]; omega)
  have e1 : min (Z : Int) 301 = ((min Z 301 : Nat) : Int) := by omega
  have e2 : ((min Z 301 : Nat) : Int) ≤ (Z : Int) := by omega
  have e3 : (0 : Int) ≤ ((min Z 301 : Nat) : Int) := by omega
  clear hG hv hz hl hn hwd hZ
  obtain ⟨Y, hY⟩ : ∃ Y, Y = min Z 301 := ⟨_, rfl⟩
  rw [← hY] at hss hs e1 e2 e3
  have e4 : wd.extract 0 Y = s := hs.symm
  have HY := Lib.hid hY
  have hY301 : Y ≤ 301 := by omega
  clear hY hs
  cases hset : setB n l with
  | false =>
    have ec : chkV n l s = 2 := by unfold chkV; rw [hset]; rfl
    rw [hset] at SE
    rw [ec] at CH
    clear hset ec
    go_enter Try.func10, Try.ntmps10
    go_wp2_with fail
    go_region_with (go_at_call 21; refine (PT.out _ (HV.out.kept (bl_drewN (bl_refl W) _))).mono ?_; rintro e w1 ⟨v1, rfl, ho1, hb1⟩)
    all_goals
      have hb1' := bl_then (bl_drewN (bl_refl W) 1) hb1
      have HS1 := Lib.hid (strs_own ho1 (by omega))
      have HB1 := Lib.hid hb1'
      clear ho1 hb1 hb1'
      go_wp2_with fail
      refine (CH.out _ _ HS1.out (HG.out.kept HB1.out)).mono ?_
      rintro e w2 ⟨rfl, hb2⟩
      have HS2 := Lib.hid (HS1.out.kept hb2)
      have HB2 := Lib.hid (bl_then HB1.out hb2)
      clear hb2
      go_wp2_with fail
      refine (SE.out _ _ HS2.out).mono ?_
      rintro e w3 ⟨rfl, hb3⟩
      have HS3 := Lib.hid (HS2.out.kept hb3)
      have HB3 := Lib.hid (bl_then HB2.out hb3)
      clear hb3
      go_wp2_with fail
      refine (AW.out _ (HG.out.kept HB3.out)).mono ?_
      rintro e w9 ⟨rfl, hb9⟩
      have HB9 := Lib.hid (bl_then HB3.out hb9)
      clear hb9
      go_wp2_with fail
      go_ret
      exact ⟨rfl, HB9.out⟩
  | true =>
    obtain ⟨q, rfl⟩ : ∃ q : Nat, n = q := ⟨n.toNat, by have := (setB_parts hset).1; omega⟩
    have hq : q ≤ 3 := by have := (setB_parts hset).1; omega
    have hp5 : ∀ p ∈ l, p.size ≤ 5 := fun p hp => ((setB_iff.1 hset).2.2.1 p hp).2.1
    have IL2 := Lib.hid fun v W h => IL.out v W h hp5
    have LT2 := Lib.hid fun W => LT.out q hq W
    rw [hset] at SE
    by_cases hbig : 300 < Y
    · have ec : chkV q l s = 2 := by unfold chkV; rw [hset, hss, show decide (Y ≤ 300) = false by simp; omega]; rfl
      rw [ec] at CH
      have hbd : decide ((300 : Int) < (Y : Int)) = true := decide_eq_true (by omega)
      have hb' : (300 : Int) < (Y : Int) := by omega
      clear hset ec hbig LT IL
      go_enter Try.func10, Try.ntmps10
      go_wp2_with fail
      go_region_with (go_at_call 21; refine (PT.out _ (HV.out.kept (bl_drewN (bl_refl W) _))).mono ?_; rintro e w1 ⟨v1, rfl, ho1, hb1⟩)
      all_goals
        have hb1' := bl_then (bl_drewN (bl_refl W) 1) hb1
        have HS1 := Lib.hid (strs_own ho1 (by omega))
        have HB1 := Lib.hid hb1'
        clear ho1 hb1 hb1'
        go_wp2_with fail
        refine (CH.out _ _ HS1.out (HG.out.kept HB1.out)).mono ?_
        rintro e w2 ⟨rfl, hb2⟩
        have HS2 := Lib.hid (HS1.out.kept hb2)
        have HB2 := Lib.hid (bl_then HB1.out hb2)
        clear hb2
        go_wp2_with fail
        refine (SE.out _ _ HS2.out).mono ?_
        rintro e w3 ⟨rfl, hb3⟩
        have HS3 := Lib.hid (HS2.out.kept hb3)
        have HB3 := Lib.hid (bl_then HB2.out hb3)
        clear hb3
        go_wp2_with fail
        refine (AW.out _ (HG.out.kept HB3.out)).mono ?_
        rintro e w9 ⟨rfl, hb9⟩
        have HB9 := Lib.hid (bl_then HB3.out hb9)
        clear hb9
        go_wp2_with fail
        go_ret
        exact ⟨rfl, HB9.out⟩
    · have hbd : decide ((300 : Int) < (Y : Int)) = false := decide_eq_false (by omega)
      have hb' : ¬ (300 : Int) < (Y : Int) := by omega
      cases hlt : lettB q (sb s) with
      | false =>
        have ec : chkV q l s = 2 := by unfold chkV; rw [hset, Int.toNat_natCast, hlt]; simp
        rw [ec] at CH
        rw [hlt] at LT2
        clear hset ec hbig LT IL hlt
        go_enter Try.func10, Try.ntmps10
        go_wp2_with fail
        go_region_with (go_at_call 21; refine (PT.out _ (HV.out.kept (bl_drewN (bl_refl W) _))).mono ?_; rintro e w1 ⟨v1, rfl, ho1, hb1⟩)
        all_goals
          have hb1' := bl_then (bl_drewN (bl_refl W) 1) hb1
          have HS1 := Lib.hid (strs_own ho1 (by omega))
          have HB1 := Lib.hid hb1'
          clear ho1 hb1 hb1'
          go_wp2_with fail
          refine (CH.out _ _ HS1.out (HG.out.kept HB1.out)).mono ?_
          rintro e w2 ⟨rfl, hb2⟩
          have HS2 := Lib.hid (HS1.out.kept hb2)
          have HB2 := Lib.hid (bl_then HB1.out hb2)
          clear hb2
          go_wp2_with fail
          refine (SE.out _ _ HS2.out).mono ?_
          rintro e w3 ⟨rfl, hb3⟩
          have HS3 := Lib.hid (HS2.out.kept hb3)
          have HB3 := Lib.hid (bl_then HB2.out hb3)
          clear hb3
          go_wp2_with fail
          refine (LT2.out _).mono ?_
          rintro e w4 ⟨rfl, rfl⟩
          go_wp2_with fail
          refine (AW.out _ (HG.out.kept HB3.out)).mono ?_
          rintro e w9 ⟨rfl, hb9⟩
          have HB9 := Lib.hid (bl_then HB3.out hb9)
          clear hb9
          go_wp2_with fail
          go_ret
          exact ⟨rfl, HB9.out⟩
      | true =>
        rw [hlt] at LT2
        cases hlb : loopB (pats l) (sb s) with
        | false =>
          have ec : chkV q l s = 10 := by unfold chkV; rw [hset, Int.toNat_natCast, hlt, hss, show decide (Y ≤ 300) = true by simp; omega, hlb]; rfl
          have IL3 := Lib.hid fun v W h => IL2.out v W h
          rw [hlb, show bs (sb s) = s from rfl] at IL3
          rw [ec] at CH
          clear hset ec hbig LT IL hlt hlb
          go_enter Try.func10, Try.ntmps10
          go_wp2_with fail
          go_region_with (go_at_call 21; refine (PT.out _ (HV.out.kept (bl_drewN (bl_refl W) _))).mono ?_; rintro e w1 ⟨v1, rfl, ho1, hb1⟩)
          all_goals
            have hb1' := bl_then (bl_drewN (bl_refl W) 1) hb1
            have HS1 := Lib.hid (strs_own ho1 (by omega))
            have HB1 := Lib.hid hb1'
            clear ho1 hb1 hb1'
            go_wp2_with fail
            refine (CH.out _ _ HS1.out (HG.out.kept HB1.out)).mono ?_
            rintro e w2 ⟨rfl, hb2⟩
            have HS2 := Lib.hid (HS1.out.kept hb2)
            have HB2 := Lib.hid (bl_then HB1.out hb2)
            clear hb2
            go_wp2_with fail
            refine (SE.out _ _ HS2.out).mono ?_
            rintro e w3 ⟨rfl, hb3⟩
            have HS3 := Lib.hid (HS2.out.kept hb3)
            have HB3 := Lib.hid (bl_then HB2.out hb3)
            clear hb3
            go_wp2_with fail
            refine (LT2.out _).mono ?_
            rintro e w4 ⟨rfl, rfl⟩
            go_wp2_with fail
            refine (IL3.out _ _ HS3.out).mono ?_
            rintro e w5 ⟨rfl, hb5⟩
            have HB5 := Lib.hid (bl_then HB3.out hb5)
            clear hb5
            go_wp2_with fail
            refine (AW.out _ (HG.out.kept HB5.out)).mono ?_
            rintro e w9 ⟨rfl, hb9⟩
            have HB9 := Lib.hid (bl_then HB5.out hb9)
            clear hb9
            go_wp2_with fail
            go_ret
            exact ⟨rfl, HB9.out⟩
        | true =>
          have ec : chkV q l s = 0 := by unfold chkV; rw [hset, Int.toNat_natCast, hlt, hss, show decide (Y ≤ 300) = true by simp; omega, hlb]; rfl
          have IL3 := Lib.hid fun v W h => IL2.out v W h
          rw [hlb, show bs (sb s) = s from rfl] at IL3
          rw [ec] at CH
          clear hset ec hbig LT IL hlt hlb
          go_enter Try.func10, Try.ntmps10
          go_wp2_with fail
          go_region_with (go_at_call 21; refine (PT.out _ (HV.out.kept (bl_drewN (bl_refl W) _))).mono ?_; rintro e w1 ⟨v1, rfl, ho1, hb1⟩)
          all_goals
            have hb1' := bl_then (bl_drewN (bl_refl W) 1) hb1
            have HS1 := Lib.hid (strs_own ho1 (by omega))
            have HB1 := Lib.hid hb1'
            clear ho1 hb1 hb1'
            go_wp2_with fail
            refine (CH.out _ _ HS1.out (HG.out.kept HB1.out)).mono ?_
            rintro e w2 ⟨rfl, hb2⟩
            have HS2 := Lib.hid (HS1.out.kept hb2)
            have HB2 := Lib.hid (bl_then HB1.out hb2)
            clear hb2
            go_wp2_with fail
            refine (SE.out _ _ HS2.out).mono ?_
            rintro e w3 ⟨rfl, hb3⟩
            have HS3 := Lib.hid (HS2.out.kept hb3)
            have HB3 := Lib.hid (bl_then HB2.out hb3)
            clear hb3
            go_wp2_with fail
            refine (LT2.out _).mono ?_
            rintro e w4 ⟨rfl, rfl⟩
            go_wp2_with fail
            refine (IL3.out _ _ HS3.out).mono ?_
            rintro e w5 ⟨rfl, hb5⟩
            have HB5 := Lib.hid (bl_then HB3.out hb5)
            clear hb5
            go_wp2_with fail
            refine (AW.out _ (HG.out.kept HB5.out)).mono ?_
            rintro e w9 ⟨rfl, hb9⟩
            have HB9 := Lib.hid (bl_then HB5.out hb9)
            clear hb9
            go_wp2_with fail
            go_ret
            exact ⟨rfl, HB9.out⟩
end Go.Proofs.Ytpclkocfbkjabab
