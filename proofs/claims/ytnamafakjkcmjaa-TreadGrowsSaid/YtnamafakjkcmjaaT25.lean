/-
  awake: the simple results that each law asks for.
-/
import Derived.Test.YtnamafakjkcmjaaT24
import Derived.Test.YtnamafakjkcmjaaMB
namespace Go.Proofs.Ytnamafakjkcmjaa
open Go.RowKit Go.Shelf
set_option linter.unusedVariables false
set_option linter.unusedSimpArgs false

theorem strs_lit (W : World) (g n : Nat) (ss : List ByteArray) (hn : n = ss.length) (hs : n ≤ 1000) (h : Whole W g 9 (ss.map Value.string).toArray) : StrsAt W (.slice (some ⟨g, 0, none⟩) n n) ss := by
  refine ⟨some ⟨g, 0, none⟩, n, by rw [hn], by omega, by omega, fun _ => ⟨g, 0, rfl, h.lt, fun i hi => ?_⟩⟩
  rw [h.cell (0 + i), Nat.zero_add, List.getElem?_toArray, List.getElem?_map, List.getElem?_eq_getElem hi, List.getD_eq_getElem?_getD, List.getElem?_eq_getElem hi]
  rfl
theorem bs_ba : (bs [98, 97]).toList = [98, 97] := by decide +kernel
theorem bs_ab : (bs [97, 98]).toList = [97, 98] := by decide +kernel
set_option maxRecDepth 100000 in
set_option maxHeartbeats 4000000 in
theorem awake_any (w : World) (hG : HasG w) : Calls Try.prog 13 #[] w fun e w' => e = .returned (.bool true) ∧ Below w.heap.size w w' := by
  have LA := Lib.hid fun v W h1 h2 => Longest_any 2 v aw1 W h1 aw1_set h2
  have LO := Lib.hid fun v W h1 h2 => Loop_any 2 9 v aw2 W _ _ rfl rfl aw2_len.symm h1 aw2_set h2
  have GR := Lib.hid fun v W h1 h2 => Growth_any 2 15 v aw3 W _ _ rfl rfl aw3_len.symm h1 aw3_set h2
  have FE := Lib.hid fun W => Few_any 2 2 (by omega) (by omega) (by decide +kernel) (by decide +kernel) (by rw [ringsI_eq]; decide +kernel) W
  rw [few_count] at FE
  have HG := Lib.hid hG
  have S1 := Lib.hid (strs_lit (w.alloc (.cells #[.string ⟨#[97, 97]⟩, .string ⟨#[97, 98]⟩, .string ⟨#[98, 98]⟩] 9)) w.heap.size 3 aw1 rfl (by omega) (Whole.new w _ _))
  clear hG
  go_enter Try.func13, Try.ntmps13
  go_wp2_with fail
  refine (LA.out _ _ S1.out (HG.out.kept (bl_alloc (bl_refl w) _))).mono ?_
  rintro e w1 ⟨h1, r1⟩
  have B1 := Lib.hid (bl_then (bl_alloc (bl_refl w) _) r1)
  rcases h1 with ⟨h1, _⟩ | ⟨m, h1, rfl⟩
  · rw [aw1_can] at h1; cases h1
  rw [aw1_way h1]
  have S2 := Lib.hid (strs_lit (w1.alloc (.cells #[.string ⟨#[97, 97]⟩, .string ⟨#[98, 98]⟩] 9)) w1.heap.size 2 aw2 rfl (by omega) (Whole.new w1 _ _))
  clear h1 r1 S1 LA
  go_wp2_with fail
  refine (LO.out _ _ S2.out (HG.out.kept (bl_alloc B1.out _))).mono ?_
  rintro e w2 ⟨h2, r2⟩
  have B2 := Lib.hid (bl_then (bl_alloc B1.out _) r2)
  rcases h2 with ⟨m, h2, _⟩ | ⟨h2, n, h3, h4, h5, h6, rfl⟩
  · exact absurd h2 aw2_no
  rw [aw2_best h3 h5 h6]
  have S3 := Lib.hid (strs_lit (w2.alloc (.cells #[.string ⟨#[98, 97]⟩] 9)) w2.heap.size 1 aw3 rfl (by omega) (Whole.new w2 _ _))
  clear h2 h3 h4 h5 h6 r2 S2 LO
  go_wp2_with fail
  refine (GR.out _ _ S3.out (HG.out.kept (bl_alloc B2.out _))).mono ?_
  rintro e w3 ⟨⟨M, hM, h3⟩, r3⟩
  have B3 := Lib.hid (bl_then (bl_alloc B2.out _) r3)
  obtain ⟨g1, g2⟩ := aw3_grow hM
  rcases h3 with ⟨⟨i, hi, h3⟩, _⟩ | ⟨_, rfl⟩
  · exact absurd (g1 i hi) (by show ¬ inN _ M i ≤ 1; omega)
  rw [show chC M (fun i => inN (tabL (pats aw3) 2) M i == 1) 15 0 - 1 = 1 by have := g2; show chC M (fun i => inN' (tabL (pats aw3) 2) M i == 1) 15 0 - 1 = 1; omega]
  clear hM g1 g2 r3 S3 GR
  go_wp2_with fail
  refine (FE.out _).mono ?_
  rintro e w4 ⟨v4, rfl, ho, r4⟩
  obtain ⟨g4, c4, rfl, _, _⟩ := own_form ho (by omega)
  have B4 := Lib.hid (bl_then B3.out r4)
  clear ho r4 FE
  have y1 := bs_ba
  have y2 := bs_ab
  go_wp2_with fail
  go_ret
  exact ⟨rfl, B4.out⟩
end Go.Proofs.Ytnamafakjkcmjaa
