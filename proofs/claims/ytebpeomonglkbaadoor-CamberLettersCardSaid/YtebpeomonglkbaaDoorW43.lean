/-
  CamberCohn: the word of a path and the matrix of this word.
-/
import Derived.Test.YtebpeomonglkbaaDoorW42
import Derived.Test.YtebpeomonglkbaaDoorW24
namespace Go.Proofs.YtebpeomonglkbaaDoor
open Go.RowKit Go.Sort Cam
set_option linter.unusedVariables false
set_option linter.unusedSimpArgs false

theorem word_yes {t : ByteArray} (hp : isPathB t = true) (h : sumP (cntP t.data.toList) ≤ 40) : wordA t = wordFull t.data.toList ∧ wordE t = 0 := by
  have e := wordB_few h
  have hs : (wordB t).size ≤ 40 := by rw [e, wordFull_size]; exact h
  unfold wordA wordE
  rw [if_pos hp, if_pos hp, if_pos hs, if_pos hs]
  exact ⟨e, rfl⟩
theorem word_no {t : ByteArray} (hp : isPathB t = true) (h : 40 < sumP (cntP t.data.toList)) : wordA t = ⟨#[]⟩ ∧ wordE t = 5 := by
  have hs : ¬ (wordB t).size ≤ 40 := by have := wordB_many h; omega
  unfold wordA wordE
  rw [if_pos hp, if_pos hp, if_neg hs, if_neg hs]
  exact ⟨rfl, rfl⟩
theorem wordFull_is {l : List UInt8} (h : sumP (cntP l) ≤ 40) : isWordB (wordFull l) = true := by
  unfold isWordB
  rw [Bool.and_eq_true]
  refine ⟨by rw [wordFull_size]; simpa using h, ?_⟩
  rw [List.all_eq_true]
  intro c hc
  have : c ∈ wordsL l := by rw [← wordFull_list]; exact hc
  have := word_ab l c this
  simpa using this
theorem matrix_word {l : List UInt8} (h : sumP (cntP l) ≤ 40) (hb : ¬ (matG (wordsL l)).big) : matA (wordFull l) = .agg (matG (wordsL l)).arr ∧ matE (wordFull l) = 0 := by
  have hw := wordFull_is h
  have e : matF (wordFull l).data.toList ⟨1, 0, 0, 1⟩ = some (matG (wordsL l)) := by
    rw [matF_one]
    have : (wordFull l).data.toList = wordsL l := wordFull_list l
    rw [this, if_neg hb]
  unfold matA matE
  rw [if_pos hw, if_pos hw, e]
  exact ⟨rfl, rfl⟩

set_option maxRecDepth 100000 in
set_option maxHeartbeats 2000000 in
theorem CamberCohn_walk (s : ByteArray) (w : World) (hs : s.size ≤ 140737488351232) (hF : FirstAt w) :
    Calls Tryd.prog 8 #[.string s] w fun e w' => e = .returned (.bool true) ∧ Below w.heap.size w w' := by
  have AW := Lib.hid fun W h => awake_any W h
  have B := Lib.hid fun W => tame_any s W hs
  go_enter Tryd.func8, Tryd.ntmps8
  go_wp2_with fail
  refine (B.out _).mono ?_
  rintro e w1 ⟨t, x, y, z, rfl, ⟨hp, ho⟩, hb1⟩
  have hF1 := (hF.kept hb1).kept (bl_alloc (bl_refl _) (.cells #[.int .i64 x, .int .i64 y, .int .i64 z] 22))
  have hbA := bl_alloc hb1 (.cells #[.int .i64 x, .int .i64 y, .int .i64 z] 22)
  have W1 := Whole.new w1 22 #[.int .i64 x, .int .i64 y, .int .i64 z]
  obtain ⟨h, h4, h5⟩ := followF_tri _ tri125 (by omega) ho
  have hts := path_size hp
  have WD := Lib.hid fun W => Word_any t W (by omega)
  obtain ⟨c1, c2⟩ := cohn_word hp ho
  by_cases h40 : sumP (cntP t.data.toList) ≤ 40
  · obtain ⟨ea, ee⟩ := word_yes hp h40
    rw [ea, ee] at WD
    have hb := cohn_small (matG_pos _) (det_matG _) c1 c2 (by omega) h4
    obtain ⟨ma, me⟩ := matrix_word h40 hb
    have MX := Lib.hid fun W => Matrix_word (wordFull t.data.toList) W (wordFull_is h40)
    rw [ma, me] at MX
    have hps := matG_pos (wordsL t.data.toList)
    clear ma me hb ea ee h40 hp ho h
    generalize matG (wordsL t.data.toList) = m at *
    obtain ⟨a, b, c, d⟩ := m
    simp only [M4.arr, M4.pos] at *
    subst c2
    generalize wordFull t.data.toList = X at *
    unfold trip
    go_wp2_with fail
    refine (WD.out _).mono ?_
    rintro e w2 ⟨rfl, hb2⟩
    have hF2 := hF1.kept hb2
    have hbB := bl_then hbA hb2
    have W1 := W1.kept hb2
    go_wp2_with fail
    refine (MX.out _).mono ?_
    rintro e w3 ⟨rfl, hb3⟩
    have hF3 := (hF2.kept hb3).kept (bl_alloc (bl_refl _) (.cells #[.int .i64 a, .int .i64 b, .int .i64 c, .int .i64 d] 37))
    have hbC := bl_alloc (bl_then hbB hb3) (.cells #[.int .i64 a, .int .i64 b, .int .i64 c, .int .i64 d] 37)
    have W1 := W1.kept hb3
    have k2 : w3.cell? ⟨w1.heap.size, 2, none⟩ = some (.int .i64 b) := (W1.cell 2).trans rfl
    have hs3 := W1.lt
    go_wp2_with fail
    refine (AW.out _ hF3).mono ?_
    rintro e w5 ⟨rfl, hb5⟩
    go_wp2_with fail
    go_ret
    exact ⟨rfl, bl_then hbC hb5⟩
  · obtain ⟨ea, ee⟩ := word_no hp (by omega)
    rw [ea, ee] at WD
    clear ea ee h40 hp ho h c1 c2
    unfold trip
    go_wp2_with fail
    refine (WD.out _).mono ?_
    rintro e w2 ⟨rfl, hb2⟩
    have hF2 := hF1.kept hb2
    have hbB := bl_then hbA hb2
    go_wp2_with fail
    refine (AW.out _ hF2).mono ?_
    rintro e w5 ⟨rfl, hb5⟩
    go_wp2_with fail
    go_ret
    exact ⟨rfl, bl_then hbB hb5⟩
end Go.Proofs.YtebpeomonglkbaaDoor
