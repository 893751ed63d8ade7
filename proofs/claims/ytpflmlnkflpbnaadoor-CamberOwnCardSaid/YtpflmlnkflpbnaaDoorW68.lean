/-
  camber's all and All: the solutions up to a bound, in order.
-/
import Derived.Test.YtpflmlnkflpbnaaDoorW67
namespace Go.Proofs.YtpflmlnkflpbnaaDoor
open Go.RowKit Go.Sort Cam
set_option linter.unusedVariables false
set_option linter.unusedSimpArgs false

theorem upTo_len {most : Int} (h : 1 ≤ most) : 1 ≤ (upTo most).length ∧ (upTo most).length ≤ 88 := by
  refine ⟨?_, Nat.le_trans (List.length_filter_le _ _) (by decide)⟩
  have : ((1, 1, 1) : T3') ∈ upTo most := mem_upTo.2 ⟨by simp [TT], h⟩
  cases hu : upTo most with
  | nil => rw [hu] at this; cases this
  | cons a l => simp
theorem tree_any (most : Int) (w : World) : Calls Tryd.prog 45 #[.int .i64 most] w fun e w' => e = .returned (.func (.func 66) #[] #[.pointer (some ⟨w.heap.size, 0, none⟩)]) ∧ w' = w.alloc (.cells #[.int .i64 most] 3) :=
  callsIn_wide.1 (tree_in 0 most w)
theorem collect_any (Bm : Nat) (most : Int) (hm : 1 ≤ most ∧ most ≤ 1000000000) (w : World) (hc : w.cell? ⟨Bm, 0, none⟩ = some (.int .i64 most)) (hw : ∃ cs t fl, w.heap[Bm]? = some (.cells cs t fl)) :
    Calls Tryd.prog 65 #[.func (.func 66) #[] #[.pointer (some ⟨Bm, 0, none⟩)]] w fun e w' =>
      ∃ v, e = .returned v ∧ w'.ownsRow w.heap.size 42 3 v (dfs most 30 (1, 1, 1)).length (flat (dfs most 30 (1, 1, 1))) ∧ Below w.heap.size w w' := by
  have A := Lib.hid (callsIn_wide.1 (appendSeq_in 2 Bm (by omega) most hm w hc hw))
  generalize dfs most 30 (1, 1, 1) = L at *
  clear hc hw
  go_enter Tryd.func65, Tryd.ntmps65
  go_wp2_with fail
  refine A.out.mono ?_
  rintro e w1 ⟨v, rfl, hown, hb⟩
  go_wp2_with fail
  go_ret
  exact ⟨v, rfl, hown, hb⟩
theorem sortedFn_any (Bm : Nat) (most : Int) (hm : 1 ≤ most ∧ most ≤ 1000000000) (w : World) (hc : w.cell? ⟨Bm, 0, none⟩ = some (.int .i64 most)) (hw : ∃ cs t fl, w.heap[Bm]? = some (.cells cs t fl)) :
    Calls Tryd.prog 44 #[.func (.func 66) #[] #[.pointer (some ⟨Bm, 0, none⟩)], .func (.func 19) #[] #[]] w fun e w' =>
      ∃ v, e = .returned v ∧ w'.ownsRow w.heap.size 42 3 v (upTo most).length (flat (upTo most)) ∧ Below w.heap.size w w' := by
  have A := Lib.hid (collect_any Bm most hm w hc hw)
  have hp := dfs_perm hm.2
  have hs := upTo_bef most
  have hl := upTo_len hm.1
  have hle := hp.length_eq
  generalize dfs most 30 (1, 1, 1) = L at *
  generalize upTo most = U at *
  have HP := Lib.hid hp
  have HS := Lib.hid hs
  have HL := Lib.hid hle
  clear hc hw hp hs hle
  go_enter Tryd.func44, Tryd.ntmps44
  go_wp2_with fail
  refine A.out.mono ?_
  rintro e w1 ⟨v, rfl, hown, hb⟩
  obtain ⟨g, cap, rfl, hg0, hg1⟩ := own_form hown (by have := HL.out; omega)
  have S := Lib.hid (sortFunc_any w.heap.size g cap L U w1 hown (.inr trivial) (by have := HL.out; omega) HP.out HS.out)
  have HO := Lib.hid hown
  have h88 : L.length ≤ 88 := by have := HL.out; omega
  clear hown
  go_wp2_with fail
  refine S.out.mono ?_
  rintro e w2 ⟨rfl, hown2, hgr⟩
  have hB := hb.grown hgr hb.size (fun k e => by cases e; exact hg0)
  have HO2 := Lib.hid hown2
  clear hown2 hgr
  go_wp2_with fail
  go_ret
  exact ⟨_, rfl, by rw [HL.out]; exact HO2.out, hB⟩
theorem all_any (most : Int) (hm : 1 ≤ most ∧ most ≤ 1000000000) (w : World) :
    Calls Tryd.prog 25 #[.int .i64 most] w fun e w' => ∃ v, e = .returned v ∧ w'.ownsRow w.heap.size 42 3 v (upTo most).length (flat (upTo most)) ∧ Below w.heap.size w w' := by
  have T := Lib.hid fun W => tree_any most W
  have S := Lib.hid (sortedFn_any w.heap.size most hm (w.alloc (.cells #[.int .i64 most] 3)) (by rw [(Whole.new w _ _).cell 0]; rfl) ⟨_, _, _, Whole.new w _ _⟩)
  generalize upTo most = U at *
  go_enter Tryd.func25, Tryd.ntmps25
  go_wp2_with fail
  refine (T.out _).mono ?_
  rintro e w1 ⟨rfl, rfl⟩
  go_wp2_with fail
  refine S.out.mono ?_
  rintro e w2 ⟨v, rfl, hown, hb⟩
  have hB := bl_then (bl_alloc (bl_refl w) _) hb
  have HO : Hid (w2.ownsRow w.heap.size 42 3 v U.length (flat U)) := by
    refine ⟨hown.1, hown.2.imp id fun ⟨g, cap, cur, h1, h2, h3⟩ => ⟨g, cap, cur, h1, Nat.le_trans (by simp) h2, h3⟩⟩
  clear hown
  go_wp2_with fail
  go_ret
  exact ⟨v, rfl, HO.out, hB⟩

set_option maxRecDepth 100000 in
set_option maxHeartbeats 1000000 in
theorem All_any (most : Int) (w : World) (hm : 1 ≤ most ∧ most ≤ 1000000000) :
    Calls Tryd.prog 11 #[.int .i64 most] w fun e w' => ∃ v, e = .returned (.tuple #[v, .int .i64 0]) ∧ w'.ownsRow w.heap.size 32 3 v (upTo most).length (flat (upTo most)) ∧ Below w.heap.size w w' := by
  have K := Lib.hid fun W => within_any most 1 1000000000 W
  have C := Lib.hid fun W => all_any most hm W
  obtain ⟨i0, hi, hz0, hz1, hz2⟩ := info_parts info22
  obtain ⟨hk1, hkl⟩ := upTo_len hm.1
  generalize upTo most = ts at *
  rw [show (decide (1 ≤ most) && decide (most ≤ 1000000000)) = true by simp; exact hm] at K
  go_enter Tryd.func11, Tryd.ntmps11
  go_wp2_with fail
  refine (K.out _).mono ?_
  rintro e w1 ⟨rfl, rfl⟩
  go_wp2_with fail
  refine (C.out _).mono ?_
  rintro e w2 ⟨v, rfl, hown, hb2⟩
  obtain ⟨g, cap, rfl, _, _⟩ := own_form hown (by omega)
  go_wp2_with fail
  obtain ⟨N, hN⟩ : ∃ N, N = ts.length := ⟨_, rfl⟩
  have HN := Lib.hid hN
  rw [← hN] at hown hkl hk1 ⊢
  clear hN
  go_loopw [4, 13] (fun v i wr => ∃ k : Nat, k ≤ N ∧ i = .int .i64 k ∧ wr.ownsRow w.heap.size 32 3 v k (flat (ts.take k)) ∧ wr.ownsRow w.heap.size 42 3 (.slice (some ⟨g, 0, none⟩) N cap) N (flat ts) ∧ Below w.heap.size w wr) (fun _ i _ => N - (intOf i).toNat)
  case atStart => exact ⟨0, Nat.zero_le _, rfl, World.ownsRow_nil _ _ _ _, hown, hb2⟩
  case round =>
    obtain ⟨k, hk, rfl, ho, hs, hb⟩ := hrel
    by_cases hlt : k < N
    · have hk1 : k < ts.length := by have := HN.out; omega
      obtain ⟨x0, x1, x2⟩ := flat_get ts k hk1
      have s0 := (hs.cellAt (k * 3) (by omega)).trans x0
      have s1 := (hs.cellAt (k * 3 + 1) (by omega)).trans x1
      have s2 := (hs.cellAt (k * 3 + 2) (by omega)).trans x2
      have ET : Hid (flat (ts.take (k + 1)) = flat (ts.take k) ++ [.int .i64 ts[k].1, .int .i64 ts[k].2.1, .int .i64 ts[k].2.2]) := by
        rw [List.take_succ_eq_append_getElem hk1]; exact flat_append _ _
      generalize ts[k] = t at *
      clear x0 x1 x2 hk1
      have hsz := hb.size
      go_wp2_with (at_builtin; refine wpList_append_own _ rfl (.tmp 17) (.tmp 19) _ rfl w.heap.size 32 i0 _ 3 24 Tryd.underlying22 hi hz0 hz1 hz2 rfl (by decide) _ k (flat (ts.take k)) rfl ((ho.alloc _).alloc _) ⟨wr.heap.size + 1, 0, none⟩ 1 1 [.int .i64 t.1, .int .i64 t.2.1, .int .i64 t.2.2] rfl rfl (cells_new2 _ _ _ _) (three_one _ _ _) (by unfold maxLen; omega) (by omega) (by simp; omega) ?_; intro v3 w3 hown3 hg3 _)
      have hB := bl_grown (bl_alloc (bl_alloc hb _) _) ((ho.alloc _).alloc _) (Nat.le_refl _) hg3
      have hs3 := ((hs.alloc _).alloc _).kept hg3 (own_ne ((hs.alloc (.cells #[.int .i64 t.1, .int .i64 t.2.1, .int .i64 t.2.2] 32)).alloc (.cells #[.int .i64 t.1, .int .i64 t.2.1, .int .i64 t.2.2] 32)) ((ho.alloc _).alloc _) (by decide))
      rw [← ET.out] at hown3
      clear hg3 ho hs s0 s1 s2
      go_wp2_with fail
      go_roundw
      case rel => exact ⟨k + 1, by omega, by go_num, hown3, hs3, hB⟩
      case measure => simp [intOf]; omega
    · have ek : k = N := by omega
      rw [List.take_of_length_le (by have := HN.out; omega), ek, HN.out] at ho
      clear hs
      have hR := Lib.hid ho
      have ek' := Lib.hid ek
      clear ek ho
      go_wp2_with fail
      go_ret2
      exact ⟨_, rfl, hR.out, hb⟩
theorem All_no (most : Int) (w : World) (hm : ¬ (1 ≤ most ∧ most ≤ 1000000000)) :
    Calls Tryd.prog 11 #[.int .i64 most] w fun e w' => e = .returned (.tuple #[.slice none 0 0, .int .i64 2]) ∧ Below w.heap.size w w' := by
  have K := Lib.hid fun W => within_any most 1 1000000000 W
  rw [show (decide (1 ≤ most) && decide (most ≤ 1000000000)) = false by simp; omega] at K
  clear hm
  go_enter Tryd.func11, Tryd.ntmps11
  go_wp2_with fail
  refine (K.out _).mono ?_
  rintro e w1 ⟨rfl, rfl⟩
  go_wp2_with fail
  go_ret2
  exact ⟨rfl, bl_refl _⟩
end Go.Proofs.YtpflmlnkflpbnaaDoor
