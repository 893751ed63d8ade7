/-
  Check.
-/
import Derived.Test.YtnamafakjkcmjaaT57
import Derived.Test.YtnamafakjkcmjaaMK
import Derived.Test.YtnamafakjkcmjaaMD
import Derived.Test.YtnamafakjkcmjaaT25
namespace Go.Proofs.Ytnamafakjkcmjaa
open Go.RowKit Go.Shelf
set_option linter.unusedVariables false
set_option linter.unusedSimpArgs false

theorem repeatL_repN (w : Str) (hw : 0 < w.length) : ∀ c, Lib.repeatL w c = repN w (c * w.length)
  | 0 => by simp [Lib.repeatL, repN]
  | c + 1 => by
    rw [Lib.repeatL_add w c 1, repeatL_repN w hw c, ← repN_add hw c]
    congr 1
    simp [Lib.repeatL]
/-- What Check answers. -/
def chkV (q : Int) (L : List ByteArray) (s : ByteArray) : Int := if (setB q L && decide (s.size ≤ 300) && lettB q.toNat (sb s)) = true then (if loopB (pats L) (sb s) = true then 0 else 10) else 2
set_option maxRecDepth 100000 in
set_option maxHeartbeats 4000000 in
theorem Check_any (q : Int) (v : Value) (L : List ByteArray) (s : ByteArray) (w : World) (hv : StrsAt w v L) (hs : s.size ≤ 140737488351232) (hG : HasG w) :
    Calls Try.prog 31 #[.int .i64 q, v, .string s] w fun e w' => e = .returned (.int .i64 (chkV q L s)) ∧ Below w.heap.size w w' := by
  have IS := Lib.hid (isSet_any q v L w hv)
  cases hset : setB q L with
  | false =>
    have e : chkV q L s = 2 := by unfold chkV; rw [hset]; rfl
    rw [hset] at IS
    rw [e]
    clear e hset
    go_enter Try.func31, Try.ntmps31
    go_wp2_with fail
    refine IS.out.mono ?_
    rintro e w1 ⟨rfl, hb1⟩
    have HB1 := Lib.hid hb1
    clear hb1
    go_wp2_with fail
    go_ret
    exact ⟨rfl, HB1.out⟩
  | true =>
    obtain ⟨q, rfl⟩ : ∃ n : Nat, q = n := ⟨q.toNat, by have := (setB_parts hset).1; omega⟩
    have hq : q ≤ 3 := by have := (setB_parts hset).1; omega
    have hp5 := pats_five hset
    have HV := Lib.hid hv
    have HG := Lib.hid hG
    rw [hset] at IS
    obtain ⟨Z, hZ⟩ : ∃ Z, Z = s.size := ⟨_, rfl⟩
    have hsz : s.size = Z := hZ.symm
    clear hZ
    by_cases hbig : 300 < Z
    · have e : chkV q L s = 2 := by unfold chkV; rw [hset, show decide (s.size ≤ 300) = false by simp; omega]; rfl
      rw [e]
      have hb' : (300 : Int) < (Z : Int) := by omega
      clear e hset hp5 hbig
      go_enter Try.func31, Try.ntmps31
      go_wp2_with fail
      refine IS.out.mono ?_
      rintro e w1 ⟨rfl, hb1⟩
      have HB1 := Lib.hid hb1
      clear hb1
      go_wp2_with fail
      go_ret
      exact ⟨rfl, HB1.out⟩
    · have hb' : ¬ (300 : Int) < (Z : Int) := by omega
      have hbd : decide ((300 : Int) < (Z : Int)) = false := decide_eq_false hb'
      have IW := Lib.hid fun W => isWord_any q hq s W
      cases hlt : lettB q (sb s) with
      | false =>
        have e : chkV q L s = 2 := by unfold chkV; rw [hset, Int.toNat_natCast, hlt]; simp
        rw [hlt] at IW
        rw [e]
        clear e hset hp5 hbig hlt
        go_enter Try.func31, Try.ntmps31
        go_wp2_with fail
        refine IS.out.mono ?_
        rintro e w1 ⟨rfl, hb1⟩
        have HB1 := Lib.hid hb1
        clear hb1
        go_wp2_with fail
        refine (IW.out _).mono ?_
        rintro e w2 ⟨rfl, hb2⟩
        have HB2 := Lib.hid (bl_then HB1.out hb2)
        clear hb2
        go_wp2_with fail
        go_ret
        exact ⟨rfl, HB2.out⟩
      | true =>
        have e : chkV q L s = if loopB (pats L) (sb s) = true then 0 else 10 := by
          unfold chkV; rw [hset, Int.toNat_natCast, hlt, show decide (s.size ≤ 300) = true by simp; omega]; rfl
        rw [hlt] at IW
        rw [e]
        have hbq := str_beq s ⟨#[]⟩
        by_cases h0 : s = ⟨#[]⟩
        · have e2 : loopB (pats L) (sb s) = false := by rw [h0]; rfl
          rw [decide_eq_true h0] at hbq
          rw [e2]
          subst h0
          clear e e2 hset hp5 hbig hlt
          go_enter Try.func31, Try.ntmps31
          go_wp2_with fail
          refine IS.out.mono ?_
          rintro e w1 ⟨rfl, hb1⟩
          have HB1 := Lib.hid hb1
          clear hb1
          go_wp2_with fail
          refine (IW.out _).mono ?_
          rintro e w2 ⟨rfl, hb2⟩
          have HB2 := Lib.hid (bl_then HB1.out hb2)
          clear hb2
          go_wp2_with fail
          go_ret
          exact ⟨rfl, HB2.out⟩
        · clear hbq
          have hs0 : 0 < s.size := by
            rcases Nat.eq_zero_or_pos s.size with h | h
            · exact absurd (ByteArray.ext (Array.eq_empty_of_size_eq_zero h)) h0
            · exact h
          have t2 : (⟨#[]⟩ : ByteArray).toList = [] := bs_toList []
          have t3 : List.isEmpty s.toList = false := by
            rw [Lib.toList_data]
            cases h : s.data.toList with
            | nil =>
              have : s.data.size = 0 := by rw [← Array.length_toList, h]; rfl
              have e : s.size = s.data.size := rfl
              omega
            | cons a l => rfl
          have hw0 : 0 < List.length (sb s) := by rw [sb_size]; exact hs0
          have RP := Lib.hid fun W => Try.strings_Repeat s 5 W
          have RM := Lib.hid fun W => Try.strings_Repeat_main s 5 W (by omega) (by omega) (by omega) hs0
          obtain ⟨r5, hr5⟩ : ∃ r5 : ByteArray, r5 = ⟨(Lib.repeatL s.data.toList 5).toArray⟩ := ⟨_, rfl⟩
          rw [← hr5] at RM
          have h5 : sb r5 = repN (sb s) (5 * List.length (sb s)) := by
            rw [hr5, ← repeatL_repN (sb s) hw0 5]
            rfl
          have hall : sb (s ++ r5) = repN (sb s) (6 * List.length (sb s)) := by
            rw [sb_append, h5, ← repeatL_repN (sb s) hw0 5, ← repeatL_repN (sb s) hw0 6, show Lib.repeatL (sb s) 6 = sb s ++ Lib.repeatL (sb s) 5 from rfl]
          have hr5s : r5.size = 5 * Z := by rw [← sb_size, h5, repN_len, sb_size, hsz]
          have hno : ¬ 9223372036854775807 < Z + 5 * Z := by omega
          have AV := Lib.hid fun W h1 h2 => avoids_any v L (s ++ r5) W h1 (by rw [ByteArray.size_append]; omega) h2
          have e3 : okL (pats L) (sb (s ++ r5)) = loopB (pats L) (sb s) := by
            rw [hall, loop_any hw0 hp5 (n' := 6 * List.length (sb s)) (loop_six hw0)]
          rw [e3] at AV
          cases hlb : loopB (pats L) (sb s) with
          | false =>
            rw [hlb] at AV e3
            clear e e3 hlb hset hp5 hbig hlt hall h5 hr5 RP h0 hs0 hw0
            go_enter Try.func31, Try.ntmps31
            go_wp2_with fail
            refine IS.out.mono ?_
            rintro e w1 ⟨rfl, hb1⟩
            have HB1 := Lib.hid hb1
            clear hb1
            go_wp2_with fail
            refine (IW.out _).mono ?_
            rintro e w2 ⟨rfl, hb2⟩
            have HB2 := Lib.hid (bl_then HB1.out hb2)
            clear hb2
            go_wp2_with fail
            refine (RM.out _).mono ?_
            rintro e w3 ⟨rfl, hb3⟩
            have HB3 := Lib.hid (bl_then HB2.out hb3)
            clear hb3
            go_wp2_with fail
            refine (AV.out _ (HV.out.kept HB3.out) (HG.out.kept HB3.out)).mono ?_
            rintro e w4 ⟨rfl, hb4⟩
            have HB4 := Lib.hid (bl_then HB3.out hb4)
            clear hb4
            go_wp2_with fail
            go_ret
            exact ⟨rfl, HB4.out⟩
          | true =>
            rw [hlb] at AV e3
            clear e e3 hlb hset hp5 hbig hlt hall h5 hr5 RP h0 hs0 hw0
            go_enter Try.func31, Try.ntmps31
            go_wp2_with fail
            refine IS.out.mono ?_
            rintro e w1 ⟨rfl, hb1⟩
            have HB1 := Lib.hid hb1
            clear hb1
            go_wp2_with fail
            refine (IW.out _).mono ?_
            rintro e w2 ⟨rfl, hb2⟩
            have HB2 := Lib.hid (bl_then HB1.out hb2)
            clear hb2
            go_wp2_with fail
            refine (RM.out _).mono ?_
            rintro e w3 ⟨rfl, hb3⟩
            have HB3 := Lib.hid (bl_then HB2.out hb3)
            clear hb3
            go_wp2_with fail
            refine (AV.out _ (HV.out.kept HB3.out) (HG.out.kept HB3.out)).mono ?_
            rintro e w4 ⟨rfl, hb4⟩
            have HB4 := Lib.hid (bl_then HB3.out hb4)
            clear hb4
            go_wp2_with fail
            go_ret
            exact ⟨rfl, HB4.out⟩
end Go.Proofs.Ytnamafakjkcmjaa
