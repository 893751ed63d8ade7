import Derived.Test.YtebpeomonglkbaaDoorW25
namespace Go.Proofs.YtebpeomonglkbaaDoor
open Go.RowKit Go.Sort Cam
set_option linter.unusedVariables false
set_option linter.unusedSimpArgs false

theorem eq_items4 {P : Program} (w : World) (d : Nat) (e : TypeId) (he : P.underlying e = some (.int .i64)) (hc : P.cellsOf e = 1) (x y z v : Int) :
    (Op.eqItems (d + 1) e (P.cellsOf e) #[.int .i64 x, .int .i64 y, .int .i64 z, .int .i64 v] #[.int .i64 x, .int .i64 y, .int .i64 z, .int .i64 v] (List.range 4)).run P w = .ok true w := by
  have r : List.range 4 = [0, 1, 2, 3] := rfl
  have h := run_equalIn_int (P := P) w d e .i64 .i64
  rw [r, hc]
  simp [Op.eqItems, part, isAgg, run_underlying he, h _ _ he]
theorem eqM (x y z v : Int) (W : World) : (binOp .eql 37 (.agg #[.int .i64 x, .int .i64 y, .int .i64 z, .int .i64 v]) (.agg #[.int .i64 x, .int .i64 y, .int .i64 z, .int .i64 v])).run Tryd.prog W = .ok (.bool true) W := by
  obtain ⟨i0, hi, _⟩ := info_parts info3
  rw [run_eql_struct, show (10000 : Nat) = 9999 + 1 from rfl, run_equalIn_array W 9999 _ _ Tryd.underlying37 hi, eq_items4 W 9998 3 Tryd.underlying3 cells3]
  rfl
theorem eqM0 (W : World) : (binOp .eql 37 (.agg #[.int .i64 0, .int .i64 0, .int .i64 0, .int .i64 0]) (.agg #[.int .i64 0, .int .i64 0, .int .i64 0, .int .i64 0])).run Tryd.prog W = .ok (.bool true) W := eqM 0 0 0 0 W

set_option maxRecDepth 100000 in
set_option maxHeartbeats 1000000 in
theorem CamberMatrices_walk (s : ByteArray) (w : World) (hs : s.size ≤ 140737488351232) (hF : FirstAt w) :
    Calls Tryd.prog 5 #[.string s] w fun e w' => e = .returned (.bool true) ∧ Below w.heap.size w w' := by
  have AW := Lib.hid fun W h => awake_any W h
  have e0 := eqM0
  have B := Lib.hid fun W => brief_any s W hs
  have ht := cutB_size s
  generalize cutB s = t at *
  have I := Lib.hid fun W => IsWord_any t W (by omega)
  by_cases hw : isWordB t = true
  · rw [hw] at I
    have M := Lib.hid fun W => Matrix_word t W hw
    have R := Lib.hid fun W => refMatrix_word t W hw
    have eA : matA t = refMatA t := by unfold matA refMatA; rw [if_pos hw]; cases matF t.data.toList ⟨1, 0, 0, 1⟩ <;> rfl
    have eE : matE t = if refMatB t = true then 0 else 5 := by
      unfold matE refMatB; rw [if_pos hw]; cases matF t.data.toList ⟨1, 0, 0, 1⟩ <;> rfl
    have eF : refMatB t = false → refMatA t = zeros4 := by
      unfold refMatA refMatB; cases matF t.data.toList ⟨1, 0, 0, 1⟩ <;> simp
    obtain ⟨a, b, c, d, hv⟩ : ∃ a b c d : Int, refMatA t = .agg #[.int .i64 a, .int .i64 b, .int .i64 c, .int .i64 d] := by
      unfold refMatA; cases matF t.data.toList ⟨1, 0, 0, 1⟩ with
      | none => exact ⟨0, 0, 0, 0, rfl⟩
      | some m => exact ⟨m.a, m.b, m.c, m.d, rfl⟩
    rw [eA, eE] at M
    rw [hv] at M R eF
    have e1 := eqM a b c d
    clear eA eE hv hw
    generalize refMatB t = ok at *
    cases ok
    · have ez := eF rfl
      unfold zeros4 at ez
      simp only [Value.agg.injEq, Array.mk.injEq, List.cons.injEq, Value.int.injEq, true_and, and_true] at ez
      obtain ⟨rfl, rfl, rfl, rfl⟩ := ez
      clear eF
      simp only [Bool.false_eq_true, if_false] at M
      go_enter Tryd.func5, Tryd.ntmps5
      go_wp2_with fail
      refine (B.out _).mono ?_
      rintro e w1 ⟨rfl, rfl⟩
      go_wp2_with fail
      refine (M.out _).mono ?_
      rintro e w2 ⟨rfl, hb2⟩
      have hF2 := hF.kept hb2
      go_wp2_with fail
      refine (I.out _).mono ?_
      rintro e w3 ⟨rfl, rfl⟩
      go_wp2_with fail
      refine (R.out _).mono ?_
      rintro e w4 ⟨rfl, hb4⟩
      have hF4 := ((hF2.kept (bl_alloc (bl_refl _) _)).kept hb4).kept (bl_alloc (bl_refl _) (.cells #[.int .i64 0, .int .i64 0, .int .i64 0, .int .i64 0] 37))
      have hbD := bl_alloc (bl_then (bl_alloc hb2 _) hb4) (.cells #[.int .i64 0, .int .i64 0, .int .i64 0, .int .i64 0] 37)
      obtain ⟨hc4, hf4⟩ := bl_cells hb4
      have hs4 : w2.heap.size < w4.heap.size := by have := hb4.size; simp at this; omega
      go_wp2_with fail
      refine (AW.out _ hF4).mono ?_
      rintro e w5 ⟨rfl, hb5⟩
      go_wp2_with fail
      go_ret
      exact ⟨rfl, bl_then hbD hb5⟩
    · clear eF
      simp only [if_true] at M
      go_enter Tryd.func5, Tryd.ntmps5
      go_wp2_with fail
      refine (B.out _).mono ?_
      rintro e w1 ⟨rfl, rfl⟩
      go_wp2_with fail
      refine (M.out _).mono ?_
      rintro e w2 ⟨rfl, hb2⟩
      have hF2 := hF.kept hb2
      go_wp2_with fail
      refine (I.out _).mono ?_
      rintro e w3 ⟨rfl, rfl⟩
      go_wp2_with fail
      refine (R.out _).mono ?_
      rintro e w4 ⟨rfl, hb4⟩
      have hF4 := ((hF2.kept (bl_alloc (bl_refl _) _)).kept hb4).kept (bl_alloc (bl_refl _) (.cells #[.int .i64 a, .int .i64 b, .int .i64 c, .int .i64 d] 37))
      have hbD := bl_alloc (bl_then (bl_alloc hb2 _) hb4) (.cells #[.int .i64 a, .int .i64 b, .int .i64 c, .int .i64 d] 37)
      obtain ⟨hc4, hf4⟩ := bl_cells hb4
      have hs4 : w2.heap.size < w4.heap.size := by have := hb4.size; simp at this; omega
      go_wp2_with fail
      refine (AW.out _ hF4).mono ?_
      rintro e w5 ⟨rfl, hb5⟩
      go_wp2_with fail
      go_ret
      exact ⟨rfl, bl_then hbD hb5⟩
  · have hw : isWordB t = false := by simpa using hw
    rw [hw] at I
    have M := Lib.hid fun W => Matrix_no t W ht hw
    unfold zeros4 at M
    clear hw
    go_enter Tryd.func5, Tryd.ntmps5
    go_wp2_with fail
    refine (B.out _).mono ?_
    rintro e w1 ⟨rfl, rfl⟩
    go_wp2_with fail
    refine (M.out _).mono ?_
    rintro e w2 ⟨rfl, hb2⟩
    have hF2 := (hF.kept hb2).kept (bl_alloc (bl_refl _) (.cells #[.int .i64 0, .int .i64 0, .int .i64 0, .int .i64 0] 37))
    have hbD := bl_alloc hb2 (.cells #[.int .i64 0, .int .i64 0, .int .i64 0, .int .i64 0] 37)
    go_wp2_with fail
    refine (I.out _).mono ?_
    rintro e w3 ⟨rfl, rfl⟩
    go_wp2_with fail
    refine (AW.out _ hF2).mono ?_
    rintro e w5 ⟨rfl, hb5⟩
    go_wp2_with fail
    go_ret
    exact ⟨rfl, bl_then hbD hb5⟩
end Go.Proofs.YtebpeomonglkbaaDoor
