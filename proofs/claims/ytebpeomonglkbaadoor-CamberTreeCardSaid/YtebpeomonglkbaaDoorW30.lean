import Derived.Test.YtebpeomonglkbaaDoorW28
import Derived.Test.YtebpeomonglkbaaDoorW29
import Derived.Test.YtebpeomonglkbaaDoorW24
import Derived.Test.YtebpeomonglkbaaDoorW19
namespace Go.Proofs.YtebpeomonglkbaaDoor
open Go.RowKit Go.Sort Cam
set_option linter.unusedVariables false
set_option linter.unusedSimpArgs false

theorem followF_tri : ∀ (l : List UInt8) {x y z p q r : Int}, Tri x y z → z ≤ 1000000000 → followF l (x, y, z) = some (p, q, r) → Tri p q r ∧ r ≤ 1000000000 ∧ z ≤ r
  | [], x, y, z, p, q, r, h, h4, e => by
    simp only [followF, Option.some.injEq, Prod.mk.injEq] at e
    obtain ⟨rfl, rfl, rfl⟩ := e
    exact ⟨h, h4, Int.le_refl _⟩
  | c :: l, x, y, z, p, q, r, h, h4, e => by
    obtain ⟨a, b, d, hs, ht⟩ := stepF_tri (c := c) h
    rw [followF, hs] at e
    split at e
    · rename_i hk
      have hd : d ≤ 1000000000 := by simpa [okB] using hk
      have := followF_tri l ht hd e
      have hzd : z ≤ d := by
        unfold stepF exF at hs
        by_cases hc : c = 82
        · simp only [hc, if_true, if_neg (show ¬ (1 : Int) = 0 by decide), Prod.mk.injEq] at hs
          obtain ⟨rfl, rfl, rfl⟩ := hs
          exact ht.2.2.1
        · simp only [hc, if_false, if_true, Prod.mk.injEq] at hs
          obtain ⟨rfl, rfl, rfl⟩ := hs
          exact ht.2.2.1
      exact ⟨this.1, this.2.1, by omega⟩
    · cases e

theorem Follow_no (s : ByteArray) (w : World) (hs : s.size ≤ 61) (h : isPathB s = false) :
    Calls Tryd.prog 48 #[.string s] w fun e w' => e = .returned (.tuple #[zeros3, .int .i64 2]) ∧ Below w.heap.size w w' := by
  have I := Lib.hid fun W => isPath_any s W (by omega)
  rw [h] at I
  unfold zeros3
  clear h
  go_enter Tryd.func48, Tryd.ntmps48
  go_wp2_with fail
  refine (I.out _).mono ?_
  rintro e w1 ⟨rfl, rfl⟩
  go_wp2_with fail
  exact bodyPost_ret (res_cell_tmp (g := w.heap.size) Tryd.results48 rfl ((Whole.new w 22 #[.int .i64 0, .int .i64 0, .int .i64 0]).load Tryd.underlying22 rfl arr22)) rfl ⟨rfl, bl_alloc (bl_refl _) _⟩

theorem optV_agg (o : Option T3) : ∃ x y z : Int, optV o = .agg #[.int .i64 x, .int .i64 y, .int .i64 z] := by
  cases o with
  | none => exact ⟨0, 0, 0, rfl⟩
  | some t => exact ⟨t.1, t.2.1, t.2.2, rfl⟩

set_option maxRecDepth 100000 in
set_option maxHeartbeats 1000000 in
theorem CamberFollows_walk (s : ByteArray) (w : World) (hs : s.size ≤ 140737488351232) (hF : FirstAt w) :
    Calls Tryd.prog 16 #[.string s] w fun e w' => e = .returned (.bool true) ∧ Below w.heap.size w w' := by
  have AW := Lib.hid fun W h => awake_any W h
  have e0 := eq000
  have B := Lib.hid fun W => brief_any s W hs
  have ht := cutB_size s
  generalize cutB s = t at *
  have I := Lib.hid fun W => IsPath_any t W (by omega)
  by_cases hw : isPathB t = true
  · rw [hw] at I
    have M := Lib.hid fun W h => Follow_path t W hw h
    have R := Lib.hid fun W => refFollow_path t W hw
    obtain ⟨x, y, z, hv⟩ := optV_agg (followO t)
    have e1 := eqSelf x y z
    have eF : (followO t).isSome = false → optV (followO t) = zeros3 := by
      cases followO t <;> simp [optV]
    have eE : errF (followO t) = if (followO t).isSome = true then 0 else 5 := by
      cases followO t <;> rfl
    rw [hv] at M R eF
    rw [eE] at M
    clear hw eE hv
    generalize (followO t).isSome = ok at *
    cases ok
    · have ez := eF rfl
      unfold zeros3 at ez
      simp only [Value.agg.injEq, Array.mk.injEq, List.cons.injEq, Value.int.injEq, true_and, and_true] at ez
      obtain ⟨rfl, rfl, rfl⟩ := ez
      clear eF
      simp only [Bool.false_eq_true, if_false] at M
      go_enter Tryd.func16, Tryd.ntmps16
      go_wp2_with fail
      refine (B.out _).mono ?_
      rintro e w1 ⟨rfl, rfl⟩
      go_wp2_with fail
      refine (M.out _ hF).mono ?_
      rintro e w2 ⟨rfl, hb2⟩
      have hF2 := hF.kept hb2
      go_wp2_with fail
      refine (I.out _).mono ?_
      rintro e w3 ⟨rfl, rfl⟩
      go_wp2_with fail
      refine (R.out _).mono ?_
      rintro e w4 ⟨rfl, hb4⟩
      have hF4 := ((hF2.kept (bl_alloc (bl_refl _) _)).kept hb4).kept (bl_alloc (bl_refl _) (.cells #[.int .i64 0, .int .i64 0, .int .i64 0] 22))
      have hbD := bl_alloc (bl_then (bl_alloc hb2 _) hb4) (.cells #[.int .i64 0, .int .i64 0, .int .i64 0] 22)
      obtain ⟨hc4, hf4⟩ := bl_cells hb4
      have hs4 : w2.heap.size < w4.heap.size := by have := hb4.size; simp at this; omega
      go_wp2_with fail
      refine (AW.out _ hF4).mono ?_
      rintro e w5 ⟨rfl, hb5⟩
      go_wp2_with fail
      go_ret
      exact ⟨rfl, bl_then hbD hb5⟩
    · clear eF
      simp only [if_true] at M
      go_enter Tryd.func16, Tryd.ntmps16
      go_wp2_with fail
      refine (B.out _).mono ?_
      rintro e w1 ⟨rfl, rfl⟩
      go_wp2_with fail
      refine (M.out _ hF).mono ?_
      rintro e w2 ⟨rfl, hb2⟩
      have hF2 := hF.kept hb2
      go_wp2_with fail
      refine (I.out _).mono ?_
      rintro e w3 ⟨rfl, rfl⟩
      go_wp2_with fail
      refine (R.out _).mono ?_
      rintro e w4 ⟨rfl, hb4⟩
      have hF4 := ((hF2.kept (bl_alloc (bl_refl _) _)).kept hb4).kept (bl_alloc (bl_refl _) (.cells #[.int .i64 x, .int .i64 y, .int .i64 z] 22))
      have hbD := bl_alloc (bl_then (bl_alloc hb2 _) hb4) (.cells #[.int .i64 x, .int .i64 y, .int .i64 z] 22)
      obtain ⟨hc4, hf4⟩ := bl_cells hb4
      have hs4 : w2.heap.size < w4.heap.size := by have := hb4.size; simp at this; omega
      go_wp2_with fail
      refine (AW.out _ hF4).mono ?_
      rintro e w5 ⟨rfl, hb5⟩
      go_wp2_with fail
      go_ret
      exact ⟨rfl, bl_then hbD hb5⟩
  · have hw : isPathB t = false := by simpa using hw
    rw [hw] at I
    have M := Lib.hid fun W => Follow_no t W ht hw
    unfold zeros3 at M
    clear hw
    go_enter Tryd.func16, Tryd.ntmps16
    go_wp2_with fail
    refine (B.out _).mono ?_
    rintro e w1 ⟨rfl, rfl⟩
    go_wp2_with fail
    refine (M.out _).mono ?_
    rintro e w2 ⟨rfl, hb2⟩
    have hF2 := (hF.kept hb2).kept (bl_alloc (bl_refl _) (.cells #[.int .i64 0, .int .i64 0, .int .i64 0] 22))
    have hbD := bl_alloc hb2 (.cells #[.int .i64 0, .int .i64 0, .int .i64 0] 22)
    go_wp2_with fail
    refine (I.out _).mono ?_
    rintro e w3 ⟨rfl, rfl⟩
    go_wp2_with fail
    refine (AW.out _ hF2).mono ?_
    rintro e w5 ⟨rfl, hb5⟩
    go_wp2_with fail
    go_ret
    exact ⟨rfl, bl_then hbD hb5⟩
end Go.Proofs.YtebpeomonglkbaaDoor
