import Derived.Test.YtpflmlnkflpbnaaDoorW13
import Derived.Test.YtpflmlnkflpbnaaDoorW12
import Derived.Test.YtpflmlnkflpbnaaDoorW3
namespace Go.Proofs.YtpflmlnkflpbnaaDoor
open Go.RowKit Go.Sort Cam
set_option linter.unusedVariables false

theorem tri125 : Tri 1 2 5 := by unfold Tri; omega
theorem tri2529 : Tri 2 5 29 := by unfold Tri; omega
theorem root125 : root 1 2 5 = 2 := by
  have h1 := tri125.root_range (by omega) (by omega)
  have h2 := tri125.root_x (by omega)
  omega
theorem kids125 : kids 1 2 5 = [(2, 5, 29), (1, 5, 13)] := by decide
theorem path2529 : pathV 2 5 29 = .string ⟨#[76]⟩ := by
  unfold pathV
  rw [show pathOf 2 5 29 = [76] from by decide +kernel]
theorem wordL : wordA ⟨#[76]⟩ = ⟨#[97, 98, 98]⟩ ∧ wordE ⟨#[76]⟩ = 0 := by decide +kernel
theorem abb_word : isWordB ⟨#[97, 98, 98]⟩ = true := by decide +kernel
theorem abb_mat : matA ⟨#[97, 98, 98]⟩ = .agg #[.int .i64 70, .int .i64 29, .int .i64 41, .int .i64 17] ∧ matE ⟨#[97, 98, 98]⟩ = 0 := by
  have h : matF [97, 98, 98] ⟨1, 0, 0, 1⟩ = some ⟨70, 29, 41, 17⟩ := by simp [matF, M4.big, M4.step]
  have e : (⟨#[97, 98, 98]⟩ : ByteArray).data.toList = [97, 98, 98] := rfl
  constructor
  · unfold matA; rw [if_pos abb_word, e, h]; rfl
  · unfold matE; rw [if_pos abb_word, e, h]
theorem form125 : formA 1 2 5 = .agg #[.int .i64 5, .int .i64 11, .int .i64 (-5)] ∧ rootE 1 2 5 = 0 := by
  have h0 : rootE 1 2 5 = 0 := by
    unfold rootE
    rw [if_pos (tri_triB tri125 (by omega)), if_neg (by omega)]
  refine ⟨?_, h0⟩
  unfold formA
  rw [if_pos h0]
  unfold formV
  rw [root125]
  rfl

theorem ne37 (W : World) : (binOp .neq 48 (.agg #[.int .i64 70, .int .i64 29, .int .i64 41, .int .i64 17]) (.agg #[.int .i64 70, .int .i64 29, .int .i64 41, .int .i64 17])).run Tryd.prog W = .ok (.bool false) W := by kernel_rfl
theorem ne22 (W : World) : (binOp .neq 32 (.agg #[.int .i64 5, .int .i64 11, .int .i64 (-5)]) (.agg #[.int .i64 5, .int .i64 11, .int .i64 (-5)])).run Tryd.prog W = .ok (.bool false) W := by kernel_rfl

set_option maxRecDepth 100000 in
set_option maxHeartbeats 2000000 in
theorem awake_any (w : World) (hF : FirstAt w) :
    Calls Tryd.prog 7 #[] w fun e w' => e = .returned (.bool true) ∧ Below w.heap.size w w' := by
  have C := Lib.hid fun W => Children_any 1 2 5 W tri125 (by omega)
  have P := Lib.hid fun W h => Path_any 2 5 29 W tri2529 (by omega) (by omega) h
  have O := Lib.hid fun W => Word_any ⟨#[76]⟩ W (by decide)
  have M := Lib.hid fun W => Matrix_word ⟨#[97, 98, 98]⟩ W abb_word
  have F := Lib.hid fun W => Form_any 1 2 5 W
  have S := Lib.hid fun a b W h1 h2 => same_any a b [(2, 5, 29), (1, 5, 13)] [(2, 5, 29), (1, 5, 13)] W h1 h2 (by decide) (by decide)
  rw [kids125] at C
  rw [path2529] at P
  rw [wordL.1, wordL.2] at O
  rw [abb_mat.1, abb_mat.2] at M
  rw [form125.1, form125.2] at F
  unfold trip at C P
  have n37 := ne37
  have n22 := ne22
  go_enter Tryd.func7, Tryd.ntmps7
  go_wp2_with fail
  refine (C.out _).mono ?_
  rintro e w1 ⟨v, rfl, hv1, hb1⟩
  have hF1 := hF.kept hb1
  go_wp2_with fail
  refine (P.out _ hF1).mono ?_
  rintro e w2 ⟨rfl, hb2⟩
  have hv2 := hv1.kept hb2
  have hbB := bl_then hb1 hb2
  go_wp2_with fail
  refine (O.out _).mono ?_
  rintro e w3 ⟨rfl, hb3⟩
  have hv3 := hv2.kept hb3
  have hbC := bl_then hbB hb3
  go_wp2_with fail
  refine (M.out _).mono ?_
  rintro e w4 ⟨rfl, hb4⟩
  have hv4 := hv3.kept hb4
  have hbD := bl_then hbC hb4
  go_wp2_with fail
  refine (F.out _).mono ?_
  rintro e w5 ⟨rfl, hb5⟩
  have hv5 := (hv4.kept (bl_alloc (bl_refl _) _)).kept hb5
  have hbE := bl_then (bl_alloc hbD _) hb5
  obtain ⟨hc5, hf5⟩ := bl_cells hb5
  have hs5 : w4.heap.size < w5.heap.size := by have := hb5.size; simp at this; omega
  have hR : RowT ((w5.alloc (.cells #[.int .i64 5, .int .i64 11, .int .i64 (-5)] 32)).alloc (.cells #[.int .i64 2, .int .i64 5, .int .i64 29, .int .i64 1, .int .i64 5, .int .i64 13] 32)) (.slice (some ⟨w5.heap.size + 1, 0, none⟩) 2 2) [(2, 5, 29), (1, 5, 13)] := by
    have hW := Whole.new2 w5 (.cells #[.int .i64 5, .int .i64 11, .int .i64 (-5)] 32) 32 #[.int .i64 2, .int .i64 5, .int .i64 29, .int .i64 1, .int .i64 5, .int .i64 13]
    refine .inr ⟨_, 2, rfl, hW.lt, fun i hi => ?_⟩
    have : i = 0 ∨ i = 1 := by simp at hi; omega
    rcases this with rfl | rfl
    · exact ⟨(hW.cell 0).trans rfl, (hW.cell 1).trans rfl, (hW.cell 2).trans rfl⟩
    · exact ⟨(hW.cell 3).trans rfl, (hW.cell 4).trans rfl, (hW.cell 5).trans rfl⟩
  have hv6 := hv5.kept (bl_alloc (bl_alloc (bl_refl w5) (.cells #[.int .i64 5, .int .i64 11, .int .i64 (-5)] 32)) (.cells #[.int .i64 2, .int .i64 5, .int .i64 29, .int .i64 1, .int .i64 5, .int .i64 13] 32))
  have hS := Lib.hid (S.out v (.slice (some ⟨w5.heap.size + 1, 0, none⟩) 2 2) _ hv6 hR)
  clear hv6 hR hv5 hv4 hv3 hv2 hv1
  go_wp2_with fail
  refine hS.out.mono ?_
  rintro e w6 ⟨rfl, n, rfl⟩
  go_wp2_with fail
  go_ret
  exact ⟨rfl, bl_drewN (bl_alloc (bl_alloc hbE _) _) _⟩
end Go.Proofs.YtpflmlnkflpbnaaDoor
