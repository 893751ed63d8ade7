/-
  The reference's Other: three loops find all solutions with its factor.
-/
import Derived.Test.YtpflmlnkflpbnaaDoorW81
import Derived.Test.YtpflmlnkflpbnaaDoorW70
import Derived.Laws.AppendOwnNone
namespace Go.Proofs.YtpflmlnkflpbnaaDoor
open Go.RowKit Go.Sort Cam
set_option linter.unusedVariables false
set_option linter.unusedSimpArgs false

set_option maxRecDepth 100000 in
set_option maxHeartbeats 4000000 in
theorem insert_none (p q r : Int) (w : World) :
    Calls Tryd.prog 24 #[.slice none 0 0, trip p q r] w fun e w' => ∃ g' cap', e = .returned (.slice (some ⟨g', 0, none⟩) 1 cap') ∧ RowT w' (.slice (some ⟨g', 0, none⟩) 1 cap') [(p, q, r)] ∧ (1 ≤ cap' ∧ cap' ≤ maxLen) ∧ w.heap.size ≤ g' ∧ Below w.heap.size w w' := by
  obtain ⟨i0, hi, hz0, hz1, hz2⟩ := info_parts info22
  unfold trip
  go_enter Tryd.func24, Tryd.ntmps24
  go_wp2_with fail
  go_loopw [5] (fun i wr => i = .int .i64 0 ∧ Whole wr w.heap.size 32 #[.int .i64 p, .int .i64 q, .int .i64 r] ∧ Below w.heap.size w wr) (fun i _ => 1 - (intOf i).toNat)
  case atStart => exact ⟨rfl, Whole.new w _ _, bl_alloc (bl_refl _) _⟩
  case round =>
    obtain ⟨rfl, hX, hb⟩ := hrel
    have HX := Lib.hid hX
    have HB := Lib.hid hb
    clear hX hb
    go_wp2_with fail
    go_quiet (fail)
    have FX1 := Lib.hid (HX.out.drewN nq)
    have FB1 := Lib.hid (bl_drewN HB.out nq)
    clear HX HB
    generalize wr.drewN nq = w4 at *
    go_wp2_with fail
    go_quiet (fail)
    have FX := Lib.hid (FX1.out.drewN nq)
    have FB := Lib.hid (bl_drewN FB1.out nq)
    clear FX1 FB1
    generalize w4.drewN nq = w5 at *
    have x0 : w5.cell? ⟨w.heap.size, 0, none⟩ = some (.int .i64 p) := (FX.out.cell 0).trans rfl
    have x1 : w5.cell? ⟨w.heap.size, 1, none⟩ = some (.int .i64 q) := (FX.out.cell 1).trans rfl
    have x2 : w5.cell? ⟨w.heap.size, 2, none⟩ = some (.int .i64 r) := (FX.out.cell 2).trans rfl
    have hx5 := FX.out.lt
    have hs5 := FB.out.size
    have hbs : w.heap.size ≤ (w5.alloc (.cells #[.int .i64 p, .int .i64 q, .int .i64 r] 32)).heap.size := by rw [World.size_alloc]; omega
    have H0 := Lib.hid (World.ownsRow_nil w5 w.heap.size 32 3)
    go_wp2_with (first
      | (at_builtin; refine wpList_append_own_none rfl (.tmp 34) (.tmp 37) _ rfl w.heap.size 32 i0 3 Tryd.underlying22 hi (.slice none 0 0) 0 [] rfl H0.out rfl ?_)
      | (at_builtin; refine wpList_append_own (w5.alloc (.cells #[.int .i64 p, .int .i64 q, .int .i64 r] 32)) rfl (.tmp 39) (.tmp 41) _ rfl w.heap.size 32 i0 _ 3 24 Tryd.underlying22 hi hz0 hz1 hz2 rfl (by decide) (.slice none 0 0) 0 [] rfl (World.ownsRow_nil _ _ _ _) ⟨w5.heap.size, 0, none⟩ 1 1 [.int .i64 p, .int .i64 q, .int .i64 r] rfl rfl (cells_new _ _ _) (three_one _ _ _) (by unfold maxLen; omega) (by omega) hbs ?_; intro v7 w7 hown7 hg7 _; have FB7 := Lib.hid (bl_grown (bl_alloc FB.out (.cells #[.int .i64 p, .int .i64 q, .int .i64 r] 32)) (World.ownsRow_nil _ w.heap.size 32 3) (Nat.le_refl _) hg7); have OW7 := Lib.hid hown7; clear hown7 hg7)
      | (at_builtin; refine wpList_append_own_none rfl (.tmp 43) (.tmp 46) _ rfl w.heap.size 32 i0 3 Tryd.underlying22 hi v7 (0 + 1) ([] ++ [.int .i64 p, .int .i64 q, .int .i64 r]) rfl OW7.out rfl ?_))
    go_ret
    have h8 := OW7.out
    obtain ⟨g8, cap8, rfl, hb8, _⟩ := own_form h8 (by omega)
    refine ⟨g8, cap8, rfl, rowT_own (ts := [(p, q, r)]) h8, ?_, hb8, FB7.out⟩
    rcases h8.2 with ⟨h, _⟩ | ⟨g9, cap9, cur, h, _, _, h9, h10, _⟩
    · cases h
    · simp only [Value.slice.injEq] at h
      rw [h.2.2]; exact ⟨h9, h10⟩
/-- A list that grows by insert: nil, or in a block. -/
def OutT (w : World) (v : Value) (ts : List T3) : Prop := (v = .slice none 0 0 ∧ ts = []) ∨ ∃ g cap, v = .slice (some ⟨g, 0, none⟩) ts.length cap ∧ RowT w (.slice (some ⟨g, 0, none⟩) ts.length cap) ts ∧ ts.length ≤ cap ∧ cap ≤ maxLen
theorem OutT.row {w : World} {v : Value} {ts : List T3} (h : OutT w v ts) : RowT w v ts := by
  rcases h with ⟨rfl, rfl⟩ | ⟨g, cap, rfl, h, _⟩
  · exact .inl ⟨rfl, rfl⟩
  · exact h
theorem insert_out (v : Value) (ts : List T3) (p q r : Int) (w : World) (h : OutT w v ts) (hl : ts.length ≤ 100) :
    Calls Tryd.prog 24 #[v, trip p q r] w fun e w' => ∃ v', e = .returned v' ∧ OutT w' v' (insT ts (p, q, r)) ∧ Below w.heap.size w w' := by
  rcases h with ⟨rfl, rfl⟩ | ⟨g, cap, rfl, h, h1, h2⟩
  · refine (insert_none p q r w).mono ?_
    rintro e w' ⟨g', cap', rfl, hR, hc, _, hb⟩
    exact ⟨_, rfl, .inr ⟨g', cap', rfl, hR, hc⟩, hb⟩
  · refine (insert_any g cap ts p q r w h hl ⟨h1, h2⟩).mono ?_
    rintro e w' ⟨g', cap', rfl, hR, hc, _, hb⟩
    exact ⟨_, rfl, .inr ⟨g', cap', rfl, hR, hc⟩, hb⟩

set_option maxRecDepth 100000 in
set_option maxHeartbeats 8000000 in
theorem refOther_any (k most : Int) (w : World) (hk : 1 ≤ k ∧ k ≤ 5) (hm : 1 ≤ most ∧ most ≤ 1000) :
    Calls Tryd.prog 9 #[.int .i64 k, .int .i64 most] w fun e w' => ∃ v, e = .returned v ∧ RowT w' v (otherL k most) ∧ Below w.heap.size w w' := by
  have IN := Lib.hid fun v ts p q r W h1 h2 => insert_out v ts p q r W h1 h2
  unfold trip at IN
  have OR := Lib.hid fun x y h1 h2 h3 => othR_range (x := x) (y := y) hk hm h1 h2 h3
  have OM := Lib.hid fun m z h1 h2 => othR_mul (m := m) (z := z) h1 h2
  obtain ⟨US, hUS⟩ : ∃ US, US = otherL k most := ⟨_, rfl⟩
  rw [← hUS]
  have HUS := Lib.hid hUS
  clear hUS
  go_enter Tryd.func9, Tryd.ntmps9
  go_wp2_with fail
  go_loopw [5, 6] (fun v i wr => ∃ (ts : List T3') (x : Int), 1 ≤ x ∧ x ≤ most + 1 ∧ i = .int .i64 x ∧ Hid (InvR k most x x 0 ts) ∧ Hid (OutT wr v ts) ∧ Below w.heap.size w wr) (fun _ i _ => (most + 1 - intOf i).toNat)
  case atStart => exact ⟨[], 1, by omega, by omega, rfl, InvR.start k most, .inl ⟨rfl, rfl⟩, bl_refl w⟩
  case round =>
    obtain ⟨ts, x, hx1, hx2, rfl, HI, HO, hb⟩ := hrel
    by_cases hxm : x ≤ most
    · go_wp2_with fail
      go_loopw [5, 7] (fun v i wr => ∃ (ts : List T3') (y : Int), x ≤ y ∧ y ≤ most + 1 ∧ i = .int .i64 y ∧ Hid (InvR k most x y 0 ts) ∧ Hid (OutT wr v ts) ∧ Below w.heap.size w wr) (fun _ i _ => (most + 1 - intOf i).toNat)
      case atStart => exact ⟨ts, x, by omega, by omega, rfl, HI, HO, hb⟩
      case round =>
        clear HI HO hb
        obtain ⟨ts, y, hy1, hy2, rfl, HI, HO, hb⟩ := hrel
        by_cases hym : y ≤ most
        · obtain ⟨⟨r1, r2⟩, ⟨r3, r4⟩, ⟨r5, r6⟩, ⟨r7, r8⟩⟩ := OR.out x y hx1 hy1 hym
          by_cases hbr : most < k * x * y - 2 * y
          · have HN := Lib.hid (HI.out.yend hx1 (by omega) (by omega) hbr)
            go_wp2_with fail
            go_roundw
            case rel => exact ⟨ts, x + 1, by omega, by omega, rfl, HN, HO, hb⟩
            case measure => simp [intOf]; omega
          · obtain ⟨z0, hz0⟩ : ∃ z0, max y (k * x * y - 2 * y) = z0 := ⟨_, rfl⟩
            have HL := HI.out.low
            rw [hz0] at HL
            have HL := Lib.hid HL
            have hz1 : y ≤ z0 := by omega
            have hz2 : z0 ≤ most := by omega
            go_wp2_with fail
            clear hz0
            go_loopw [5, 8] (fun v i wr => ∃ (ts : List T3') (z : Int), y ≤ z ∧ z ≤ most + 1 ∧ i = .int .i64 z ∧ Hid (InvR k most x y z ts) ∧ Hid (OutT wr v ts) ∧ Below w.heap.size w wr) (fun _ i _ => (most + 1 - intOf i).toNat)
            case atStart => exact ⟨ts, z0, by omega, by omega, rfl, HL, HO, hb⟩
            case round =>
              clear HI HO hb HL hz1 hz2
              obtain ⟨ts, z, hz1, hz2, rfl, HI, HO, hb⟩ := hrel
              by_cases c1 : z ≤ most
              · by_cases c2 : z < k * x * y
                · obtain ⟨m1, m2⟩ := OM.out (k * x * y) z ⟨by omega, by omega⟩ ⟨c2, r4⟩
                  have hfew := HI.out.few hk.1 (by omega)
                  by_cases hT : x * x + y * y = z * (k * x * y - z)
                  · have HN := Lib.hid (HI.out.push ((triK_eq hx1 hy1 hz1).2 hT) c1)
                    have I := Lib.hid fun v W h => IN.out v ts x y z W h (by omega)
                    go_wp2_with fail
                    refine (I.out _ _ HO.out).mono ?_
                    rintro e w2 ⟨v2, rfl, hO2, hb2⟩
                    have HO2 := Lib.hid hO2
                    have hbB := bl_then hb hb2
                    go_wp2_with fail
                    go_roundw
                    case rel => exact ⟨_, z + 1, by omega, by omega, rfl, HN, HO2, hbB⟩
                    case measure => simp [intOf]; omega
                  · have HN := Lib.hid (HI.out.pass fun h => hT ((triK_eq hx1 hy1 hz1).1 h))
                    go_wp2_with fail
                    go_roundw
                    case rel => exact ⟨ts, z + 1, by omega, by omega, rfl, HN, HO, hb⟩
                    case measure => simp [intOf]; omega
                · have HN := Lib.hid (HI.out.zend fun h => c2 h.2)
                  go_wp2_with fail
                  go_roundw
                  case rel => exact ⟨ts, y + 1, by omega, by omega, rfl, HN, HO, hb⟩
                  case measure => simp [intOf]; omega
              · have HN := Lib.hid (HI.out.zend fun h => c1 h.1)
                go_wp2_with fail
                go_roundw
                case rel => exact ⟨ts, y + 1, by omega, by omega, rfl, HN, HO, hb⟩
                case measure => simp [intOf]; omega
        · have HN := Lib.hid (HI.out.ylast (by omega))
          go_wp2_with fail
          go_roundw
          case rel => exact ⟨ts, x + 1, by omega, by omega, rfl, HN, HO, hb⟩
          case measure => simp [intOf]; omega
    · have e := HI.out.last hk.1 (by omega) (by omega)
      rw [← HUS.out] at e
      have HE := Lib.hid e
      clear e HI
      go_wp2_with fail
      go_ret
      exact ⟨_, rfl, by rw [← HE.out]; exact HO.out.row, hb⟩
end Go.Proofs.YtpflmlnkflpbnaaDoor
