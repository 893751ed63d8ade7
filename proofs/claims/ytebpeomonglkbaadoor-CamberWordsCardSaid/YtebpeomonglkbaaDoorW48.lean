/-
  CamberWords: for any string, Word returns the word of a path, and Fraction the fraction of its letters, or the specified error.
-/
import Derived.Test.YtebpeomonglkbaaDoorW46
import Derived.Test.YtebpeomonglkbaaDoorW47
import Derived.Test.YtebpeomonglkbaaDoorW43
namespace Go.Proofs.YtebpeomonglkbaaDoor
open Go.RowKit Go.Sort Cam
set_option linter.unusedVariables false
set_option linter.unusedSimpArgs false

theorem eqFrac (p q a b : Int) (W : World) : (binOp .eql 60 (.agg #[.int .i64 p, .int .i64 q]) (.agg #[.int .i64 a, .int .i64 b])).run Tryd.prog W = .ok (.bool (decide (p = a ∧ q = b))) W := by
  rw [run_eql_struct]
  simp [go_sem]
  by_cases h1 : p = a <;> by_cases h2 : q = b <;> simp [h1, h2]
theorem eqFracSelf (p q : Int) (W : World) : (binOp .eql 60 (.agg #[.int .i64 p, .int .i64 q]) (.agg #[.int .i64 p, .int .i64 q])).run Tryd.prog W = .ok (.bool true) W := by
  rw [eqFrac]; simp
theorem eqStrSelf (x : ByteArray) (W : World) : (binOp .neq 9 (.string x) (.string x)).run Tryd.prog W = .ok (.bool false) W := by
  simp [binOp, Op.stringOp]
theorem frac_yes {t : ByteArray} (hp : isPathB t = true) (h : sumP (cntP t.data.toList) ≤ 1000000000) : fracA t = .agg #[.int .i64 (cntP t.data.toList).2, .int .i64 (cntP t.data.toList).1] ∧ fracE t = 0 := by
  unfold fracA fracE; rw [if_pos hp, if_pos hp, if_pos h, if_pos h]; exact ⟨rfl, rfl⟩
theorem frac_no {t : ByteArray} (hp : isPathB t = true) (h : 1000000000 < sumP (cntP t.data.toList)) : fracA t = .agg #[.int .i64 0, .int .i64 0] ∧ fracE t = 5 := by
  unfold fracA fracE; rw [if_pos hp, if_pos hp, if_neg (by omega), if_neg (by omega)]; exact ⟨rfl, rfl⟩

set_option maxRecDepth 100000 in
set_option maxHeartbeats 2000000 in
theorem CamberWords_walk (s : ByteArray) (w : World) (hs : s.size ≤ 140737488351232) (hF : FirstAt w) :
    Calls Tryd.prog 13 #[.string s] w fun e w' => e = .returned (.bool true) ∧ Below w.heap.size w w' := by
  have AW := Lib.hid fun W h => awake_any W h
  have B := Lib.hid fun W => brief_any s W hs
  have ht := cutB_size s
  generalize cutB s = t at *
  have I := Lib.hid fun W => IsPath_any t W (by omega)
  have WD := Lib.hid fun W => Word_any t W (by omega)
  have FR := Lib.hid fun W => Fraction_any t W (by omega)
  by_cases hw : isPathB t = true
  · have CO := Lib.hid fun W => refCounts_any t W (by omega)
    have hsz := path_size hw
    rw [hw] at I
    have hg := cnt_gcd t.data.toList
    obtain ⟨hpos1, hpos2⟩ := cnt_pos t.data.toList
    by_cases h9 : sumP (cntP t.data.toList) ≤ 1000000000
    · obtain ⟨fa, fe⟩ := frac_yes hw h9
      rw [fa, fe] at FR
      have eS := eqFracSelf (cntP t.data.toList).2 (cntP t.data.toList).1
      have h9' : (cntP t.data.toList).1 + (cntP t.data.toList).2 ≤ 1000000000 := h9
      have RR := Lib.hid fun W => refReduced_any (cntP t.data.toList).2 (cntP t.data.toList).1 W (by omega) (by omega) hg
      by_cases h40 : sumP (cntP t.data.toList) ≤ 40
      · obtain ⟨wa, we⟩ := word_yes hw h40
        rw [wa, we] at WD
        have RW := Lib.hid fun W => refWord_any t W (by omega) h40
        have h40' : (cntP t.data.toList).1 + (cntP t.data.toList).2 ≤ 40 := h40
        have eX := eqStrSelf (wordFull t.data.toList)
        clear fa fe wa we hw hg h9 h40 hsz
        generalize wordFull t.data.toList = X at *
        generalize (cntP t.data.toList).1 = p at *
        generalize (cntP t.data.toList).2 = q at *
        go_enter Tryd.func13, Tryd.ntmps13
        go_wp2_with fail
        refine (B.out _).mono ?_
        rintro e w1 ⟨rfl, rfl⟩
        go_wp2_with fail
        refine (WD.out _).mono ?_
        rintro e w2 ⟨rfl, hb2⟩
        have hF2 := hF.kept hb2
        go_wp2_with fail
        refine (FR.out _).mono ?_
        rintro e w3 ⟨rfl, hb3⟩
        have hF3 := (hF2.kept hb3).kept (bl_alloc (bl_refl _) (.cells #[.int .i64 q, .int .i64 p] 60))
        have hbC := bl_alloc (bl_then hb2 hb3) (.cells #[.int .i64 q, .int .i64 p] 60)
        have W3 := Whole.new w3 60 #[.int .i64 q, .int .i64 p]
        go_wp2_with fail
        refine (I.out _).mono ?_
        rintro e w4 ⟨rfl, rfl⟩
        go_wp2_with fail
        refine (CO.out _).mono ?_
        rintro e w4 ⟨rfl, hb4⟩
        have hF4 := hF3.kept hb4
        have hbD := bl_then hbC hb4
        have W4 := W3.kept hb4
        have k0 : w4.cell? ⟨w3.heap.size, 0, none⟩ = some (.int .i64 q) := (W4.cell 0).trans rfl
        have k1 : w4.cell? ⟨w3.heap.size, 1, none⟩ = some (.int .i64 p) := (W4.cell 1).trans rfl
        have hs4 := W4.lt
        go_wp2_with fail
        refine (RW.out _).mono ?_
        rintro e w5 ⟨rfl, rfl⟩
        go_wp2_with fail
        go_region_with (first
          | (go_at_call 45; refine (RR.out _).mono ?_; rintro e w6 ⟨rfl, hb6⟩; have hF6 := hF4.drew.kept hb6; have hbE := bl_then (bl_drewN hbD 1) hb6; have W6 := (W4.drewN 1).kept hb6; have m0 : w6.cell? ⟨w3.heap.size, 0, none⟩ = some (.int .i64 q) := (W6.cell 0).trans rfl; have m1 : w6.cell? ⟨w3.heap.size, 1, none⟩ = some (.int .i64 p) := (W6.cell 1).trans rfl; have hs6 := W6.lt)
          | (go_at_call 21; refine (AW.out _ hF6).mono ?_; rintro e w7 ⟨rfl, hb7⟩))
        all_goals
          go_wp2_with fail
          go_ret
          exact ⟨rfl, bl_then hbE hb7⟩
      · obtain ⟨wa, we⟩ := word_no hw (by omega)
        rw [wa, we] at WD
        have h40' : 40 < (cntP t.data.toList).1 + (cntP t.data.toList).2 := by
          have : ¬ (cntP t.data.toList).1 + (cntP t.data.toList).2 ≤ 40 := h40
          omega
        have eX := eqStrSelf ⟨#[]⟩
        clear fa fe wa we hw hg h9 h40 hsz
        generalize (cntP t.data.toList).1 = p at *
        generalize (cntP t.data.toList).2 = q at *
        go_enter Tryd.func13, Tryd.ntmps13
        go_wp2_with fail
        refine (B.out _).mono ?_
        rintro e w1 ⟨rfl, rfl⟩
        go_wp2_with fail
        refine (WD.out _).mono ?_
        rintro e w2 ⟨rfl, hb2⟩
        have hF2 := hF.kept hb2
        go_wp2_with fail
        refine (FR.out _).mono ?_
        rintro e w3 ⟨rfl, hb3⟩
        have hF3 := (hF2.kept hb3).kept (bl_alloc (bl_refl _) (.cells #[.int .i64 q, .int .i64 p] 60))
        have hbC := bl_alloc (bl_then hb2 hb3) (.cells #[.int .i64 q, .int .i64 p] 60)
        have W3 := Whole.new w3 60 #[.int .i64 q, .int .i64 p]
        go_wp2_with fail
        refine (I.out _).mono ?_
        rintro e w4 ⟨rfl, rfl⟩
        go_wp2_with fail
        refine (CO.out _).mono ?_
        rintro e w4 ⟨rfl, hb4⟩
        have hF4 := hF3.kept hb4
        have hbD := bl_then hbC hb4
        have W4 := W3.kept hb4
        have k0 : w4.cell? ⟨w3.heap.size, 0, none⟩ = some (.int .i64 q) := (W4.cell 0).trans rfl
        have k1 : w4.cell? ⟨w3.heap.size, 1, none⟩ = some (.int .i64 p) := (W4.cell 1).trans rfl
        have hs4 := W4.lt
        go_wp2_with fail
        go_region_with (first
          | (go_at_call 45; refine (RR.out _).mono ?_; rintro e w6 ⟨rfl, hb6⟩; have hF6 := hF4.drew.kept hb6; have hbE := bl_then (bl_drewN hbD 1) hb6; have W6 := (W4.drewN 1).kept hb6; have m0 : w6.cell? ⟨w3.heap.size, 0, none⟩ = some (.int .i64 q) := (W6.cell 0).trans rfl; have m1 : w6.cell? ⟨w3.heap.size, 1, none⟩ = some (.int .i64 p) := (W6.cell 1).trans rfl; have hs6 := W6.lt)
          | (go_at_call 21; refine (AW.out _ hF6).mono ?_; rintro e w7 ⟨rfl, hb7⟩))
        all_goals
          go_wp2_with fail
          go_ret
          exact ⟨rfl, bl_then hbE hb7⟩
    · obtain ⟨fa, fe⟩ := frac_no hw (by omega)
      rw [fa, fe] at FR
      obtain ⟨wa, we⟩ := word_no hw (by omega)
      rw [wa, we] at WD
      have eS := eqFracSelf 0 0
      have h9' : 1000000000 < (cntP t.data.toList).1 + (cntP t.data.toList).2 := by
        have : ¬ (cntP t.data.toList).1 + (cntP t.data.toList).2 ≤ 1000000000 := h9
        omega
      have hbd : (cntP t.data.toList).1 + (cntP t.data.toList).2 ≤ 2305843009213693952 := by
        have h1 := grG_sum t.data.toList true (1, 0) (0, 1)
        rw [← sum_add] at h1
        have h2 : (2 : Nat) ^ t.data.toList.length ≤ 2 ^ 60 := Nat.pow_le_pow_right (by omega) (by rw [show t.data.toList.length = t.size from Array.length_toList]; omega)
        have h3 : (2 : Nat) ^ 60 = 1152921504606846976 := by decide
        have h4 : sumP (1, 0) + sumP (0, 1) = 2 := rfl
        rw [h4] at h1
        have h5 : (cntP t.data.toList).1 + (cntP t.data.toList).2 ≤ 2 * 2 ^ t.data.toList.length := h1
        omega
      clear fa fe wa we hw hg h9 hsz
      generalize (cntP t.data.toList).1 = p at *
      generalize (cntP t.data.toList).2 = q at *
      go_enter Tryd.func13, Tryd.ntmps13
      go_wp2_with fail
      refine (B.out _).mono ?_
      rintro e w1 ⟨rfl, rfl⟩
      go_wp2_with fail
      refine (WD.out _).mono ?_
      rintro e w2 ⟨rfl, hb2⟩
      have hF2 := hF.kept hb2
      go_wp2_with fail
      refine (FR.out _).mono ?_
      rintro e w3 ⟨rfl, hb3⟩
      have hF3 := (hF2.kept hb3).kept (bl_alloc (bl_refl _) (.cells #[.int .i64 0, .int .i64 0] 60))
      have hbC := bl_alloc (bl_then hb2 hb3) (.cells #[.int .i64 0, .int .i64 0] 60)
      have W3 := Whole.new w3 60 #[.int .i64 0, .int .i64 0]
      go_wp2_with fail
      refine (I.out _).mono ?_
      rintro e w4 ⟨rfl, rfl⟩
      go_wp2_with fail
      refine (CO.out _).mono ?_
      rintro e w4 ⟨rfl, hb4⟩
      have hF4 := hF3.kept hb4
      have hbD := bl_then hbC hb4
      have W4 := W3.kept hb4
      have k0 : w4.cell? ⟨w3.heap.size, 0, none⟩ = some (.int .i64 0) := (W4.cell 0).trans rfl
      have k1 : w4.cell? ⟨w3.heap.size, 1, none⟩ = some (.int .i64 0) := (W4.cell 1).trans rfl
      have hs4 := W4.lt
      go_wp2_with fail
      refine (AW.out _ hF4).mono ?_
      rintro e w5 ⟨rfl, hb5⟩
      go_wp2_with fail
      go_ret
      exact ⟨rfl, bl_then hbD hb5⟩
  · have hw : isPathB t = false := by simpa using hw
    have wa : wordA t = ⟨#[]⟩ := by unfold wordA; rw [hw]; rfl
    have we : wordE t = 2 := by unfold wordE; rw [hw]; rfl
    have fa : fracA t = .agg #[.int .i64 0, .int .i64 0] := by unfold fracA; rw [hw]; rfl
    have fe : fracE t = 2 := by unfold fracE; rw [hw]; rfl
    rw [hw] at I
    rw [wa, we] at WD
    rw [fa, fe] at FR
    have eS := eqFracSelf 0 0
    clear wa we fa fe hw
    go_enter Tryd.func13, Tryd.ntmps13
    go_wp2_with fail
    refine (B.out _).mono ?_
    rintro e w1 ⟨rfl, rfl⟩
    go_wp2_with fail
    refine (WD.out _).mono ?_
    rintro e w2 ⟨rfl, hb2⟩
    have hF2 := hF.kept hb2
    go_wp2_with fail
    refine (FR.out _).mono ?_
    rintro e w3 ⟨rfl, hb3⟩
    have hF3 := (hF2.kept hb3).kept (bl_alloc (bl_refl _) (.cells #[.int .i64 0, .int .i64 0] 60))
    have hbC := bl_alloc (bl_then hb2 hb3) (.cells #[.int .i64 0, .int .i64 0] 60)
    go_wp2_with fail
    refine (I.out _).mono ?_
    rintro e w4 ⟨rfl, rfl⟩
    go_wp2_with fail
    refine (AW.out _ hF3).mono ?_
    rintro e w5 ⟨rfl, hb5⟩
    go_wp2_with fail
    go_ret
    exact ⟨rfl, bl_then hbC hb5⟩
end Go.Proofs.YtebpeomonglkbaaDoor
