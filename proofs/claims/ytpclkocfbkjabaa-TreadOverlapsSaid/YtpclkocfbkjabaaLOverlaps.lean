/-
  The law TreadOverlaps: the walk.
-/
import Derived.Test.YtpclkocfbkjabaaT27
namespace Go.Proofs.Ytpclkocfbkjabaa
open Go.RowKit Go.Shelf
set_option linter.unusedVariables false
set_option linter.unusedSimpArgs false

set_option maxRecDepth 100000 in
set_option maxHeartbeats 4000000 in
theorem TreadOverlaps_walk (u v : ByteArray) (W : World) (hu : u.size ≤ 140737488351232) (hv : v.size ≤ 140737488351232) (hG : HasG W) :
    Calls Try.prog 8 #[.string u, .string v] W fun e w' => e = .returned (.bool true) ∧ Below W.heap.size W w' := by
  have BU := Lib.hid fun W => brief_any u W hu
  have BV := Lib.hid fun W => brief_any v W hv
  obtain ⟨s, hs⟩ : ∃ s, s = u.extract 0 (min u.size 61) := ⟨_, rfl⟩
  obtain ⟨t, ht⟩ : ∃ t, t = v.extract 0 (min v.size 61) := ⟨_, rfl⟩
  have hsz : s.size ≤ 61 := by rw [hs, ByteArray.size_extract]; omega
  have htz : t.size ≤ 61 := by rw [ht, ByteArray.size_extract]; omega
  rw [← hs] at BU
  rw [← ht] at BV
  have AW := Lib.hid fun W h => awake_any W h
  have HG := Lib.hid hG
  clear hs ht hG hu hv
  by_cases h : 60 < s.size ∨ 60 < t.size
  · have OV := Lib.hid fun W => Overlap_no s t W h
    by_cases h1 : 60 < s.size
    · have d1 : (60 : Int) < (s.size : Int) := by omega
      go_enter Try.func8, Try.ntmps8
      go_wp2_with fail
      refine (BU.out _).mono ?_
      rintro e w1 ⟨rfl, rfl⟩
      go_wp2_with fail
      refine (BV.out _).mono ?_
      rintro e w1 ⟨rfl, rfl⟩
      go_wp2_with fail
      refine (OV.out _).mono ?_
      rintro e w1 ⟨rfl, rfl⟩
      go_wp2_with fail
      refine (AW.out _ HG.out).mono ?_
      rintro e w2 ⟨rfl, hb⟩
      have HB := Lib.hid hb
      clear hb
      go_wp2_with fail
      go_ret
      exact ⟨rfl, HB.out⟩
    · have d1 : ¬ (60 : Int) < (s.size : Int) := by omega
      have d2 : (60 : Int) < (t.size : Int) := by omega
      go_enter Try.func8, Try.ntmps8
      go_wp2_with fail
      refine (BU.out _).mono ?_
      rintro e w1 ⟨rfl, rfl⟩
      go_wp2_with fail
      refine (BV.out _).mono ?_
      rintro e w1 ⟨rfl, rfl⟩
      go_wp2_with fail
      refine (OV.out _).mono ?_
      rintro e w1 ⟨rfl, rfl⟩
      go_wp2_with fail
      refine (AW.out _ HG.out).mono ?_
      rintro e w2 ⟨rfl, hb⟩
      have HB := Lib.hid hb
      clear hb
      go_wp2_with fail
      go_ret
      exact ⟨rfl, HB.out⟩
  · have OV := Lib.hid fun W => Overlap_any s t W (by omega) (by omega)
    have OR := Lib.hid fun W => refOverlap_any s t W hsz htz
    have d1 : ¬ (60 : Int) < (s.size : Int) := by omega
    have d2 : ¬ (60 : Int) < (t.size : Int) := by omega
    have hL := ovF_len s t (min s.size t.size)
    obtain ⟨L, hLL⟩ : ∃ L, L = ovF s t (min s.size t.size) := ⟨_, rfl⟩
    rw [← hLL] at OV OR hL
    have IS := Lib.hid fun v v' W h h' => ints_same v v' L W h h' (by omega)
    clear hLL hL h
    go_enter Try.func8, Try.ntmps8
    go_wp2_with fail
    refine (BU.out _).mono ?_
    rintro e w1 ⟨rfl, rfl⟩
    go_wp2_with fail
    refine (BV.out _).mono ?_
    rintro e w1 ⟨rfl, rfl⟩
    go_wp2_with fail
    refine (OV.out _).mono ?_
    rintro e w2 ⟨v2, rfl, ho2, hb2⟩
    have HI2 := Lib.hid (ints_at ho2)
    have HB2 := Lib.hid hb2
    clear ho2 hb2
    go_wp2_with fail
    refine (OR.out _).mono ?_
    rintro e w3 ⟨v3, rfl, ho3, hb3⟩
    have HI3 := Lib.hid (ints_at ho3)
    have HI2' := Lib.hid (HI2.out.kept hb3)
    have HB3 := Lib.hid (bl_then HB2.out hb3)
    clear ho3 hb3
    go_wp2_with fail
    refine (IS.out _ _ _ HI2'.out HI3.out).mono ?_
    rintro e w4 ⟨rfl, hb4⟩
    have HB4 := Lib.hid (bl_then HB3.out hb4)
    clear hb4
    go_wp2_with fail
    refine (AW.out _ (HG.out.kept HB4.out)).mono ?_
    rintro e w5 ⟨rfl, hb5⟩
    have HB5 := Lib.hid (bl_then HB4.out hb5)
    clear hb5
    go_wp2_with fail
    go_ret
    exact ⟨rfl, HB5.out⟩
end Go.Proofs.Ytpclkocfbkjabaa
