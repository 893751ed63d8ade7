/-
  camber's Other finds all solutions with its factor, in order.
-/
import Derived.Test.YtpflmlnkflpbnaaDoorW79
import Derived.Test.YtpflmlnkflpbnaaDoorW71
namespace Go.Proofs.YtpflmlnkflpbnaaDoor
open Go.RowKit Go.Sort Cam
set_option linter.unusedVariables false
set_option linter.unusedSimpArgs false

theorem sortFunc_nil (p : Option Addr) (cap : Nat) (w : World) :
    Calls Tryd.prog 18 #[.slice p 0 cap, .func (.func 19) #[] #[]] w fun e w' => e = .returned (.tuple #[]) ∧ w = w' := by
  refine (AnyF.slices_SortFunc_none Tryd.laysSortT p cap (.func (.func 19) #[] #[]) w).mono ?_
  rintro e w' ⟨rfl, rfl⟩
  exact ⟨rfl, rfl⟩
theorem wf_of {a : Int} (h : 1 ≤ a ∧ a ≤ 1000) : (Lit.int .i64 a).wf = true := by
  exact WalkArith.wf_i64 (by omega)
theorem whole_row {X Y : World} {g : Nat} {t : TypeId} {cs : Array Value} {row : Option Nat} (h : Whole X g t cs) (hg : X.grownBy Y row) (hne : some g ≠ row) : Whole Y g t cs := (hg.block g h.lt hne).trans h
theorem oth_range {k most x y : Int} (hk : 1 ≤ k ∧ k ≤ 5) (hm : 1 ≤ most ∧ most ≤ 1000) (hx : 1 ≤ x) (hxy : x ≤ y) (hy : y ≤ most) :
    (1 ≤ k * x ∧ k * x ≤ 5000) ∧ (1 ≤ k * x * y ∧ k * x * y ≤ 5000000) ∧ (1 ≤ k * x * y * (k * x * y) ∧ k * x * y * (k * x * y) ≤ 25000000000000) ∧ (1 ≤ x * x ∧ x * x ≤ 1000000) ∧ (1 ≤ y * y ∧ y * y ≤ 1000000) := by
  have lo : ∀ {a b : Int}, 1 ≤ a → 1 ≤ b → 1 ≤ a * b := fun {a b} h1 h2 => by have := Int.mul_le_mul h1 h2 (by omega) (by omega); omega
  have a1 := lo hk.1 hx
  have a2 : k * x ≤ 5 * 1000 := Int.mul_le_mul hk.2 (by omega) (by omega) (by omega)
  have b1 := lo a1 (show 1 ≤ y by omega)
  have b2 : k * x * y ≤ 5000 * 1000 := Int.mul_le_mul (by omega) (by omega) (by omega) (by omega)
  have c1 := lo b1 b1
  have c2 : k * x * y * (k * x * y) ≤ 5000000 * 5000000 := Int.mul_le_mul (by omega) (by omega) (by omega) (by omega)
  have d1 := lo hx hx
  have d2 : x * x ≤ 1000 * 1000 := Int.mul_le_mul (by omega) (by omega) (by omega) (by omega)
  have e1 := lo (show 1 ≤ y by omega) (show 1 ≤ y by omega)
  have e2 : y * y ≤ 1000 * 1000 := Int.mul_le_mul (by omega) (by omega) (by omega) (by omega)
  exact ⟨⟨a1, by omega⟩, ⟨b1, by omega⟩, ⟨c1, by omega⟩, ⟨d1, by omega⟩, ⟨e1, by omega⟩⟩

theorem whole_ne {X : World} {g : Nat} {t e : TypeId} {cs : Array Value} {base size n : Nat} {v : Value} {xs : List Value} (h : Whole X g t cs) (h' : X.ownsRow base e size v n xs) (hne : t ≠ e) : some g ≠ v.ownBlock := by
  rcases h'.2 with ⟨rfl, _⟩ | ⟨g', cap', cur', rfl, _, hg', _⟩
  · simp [Value.ownBlock]
  · intro hq
    have : g = g' := by simpa [Value.ownBlock] using hq
    subst this
    unfold Whole at h
    rw [h] at hg'
    injection hg' with hg'
    injection hg' with _ ht
    exact hne ht
theorem low_ne {X : World} {b base size n : Nat} {e : TypeId} {v : Value} {xs : List Value} (h : X.ownsRow base e size v n xs) (hb : b < base) : some b ≠ v.ownBlock := fun q => by
  have := (h.lt b q.symm).1
  omega
/-- The library sorts what the search has found. -/
theorem sort_own {a w : World} {base : Nat} {v : Value} {ts us : List T3'} (hb : Below a.heap.size a w) (hbase : a.heap.size ≤ base) (h : w.ownsRow base 42 3 v ts.length (flat ts)) (hl : ts.length ≤ 88) (hp : ts.Perm us) (hs : us.Pairwise Bef) :
    ∃ p cap, v = .slice p us.length cap ∧ Calls Tryd.prog 18 #[.slice p us.length cap, .func (.func 19) #[] #[]] w fun e w' => e = .returned (.tuple #[]) ∧ w'.ownsRow base 42 3 (.slice p us.length cap) us.length (flat us) ∧ Below a.heap.size a w' := by
  have hlen := hp.length_eq
  by_cases h0 : ts.length = 0
  · have e1 : ts = [] := List.eq_nil_of_length_eq_zero h0
    have e2 : us = [] := List.eq_nil_of_length_eq_zero (by omega)
    subst e1 e2
    rcases own_forms h with ⟨rfl, _⟩ | ⟨g, cap, rfl⟩
    · exact ⟨none, 0, rfl, (sortFunc_nil none 0 w).mono fun e w' ⟨h1, h2⟩ => ⟨h1, by subst h2; exact h, by subst h2; exact hb⟩⟩
    · exact ⟨_, cap, rfl, (sortFunc_nil _ cap w).mono fun e w' ⟨h1, h2⟩ => ⟨h1, by subst h2; exact h, by subst h2; exact hb⟩⟩
  · obtain ⟨g, cap, rfl, hg0, hg1⟩ := own_form h (by omega)
    refine ⟨some ⟨g, 0, none⟩, cap, by rw [hlen], ?_⟩
    rw [← hlen]
    refine (sortFunc_any base g cap ts us w h (.inr trivial) (by omega) hp hs).mono fun e w' ⟨h1, h2, h3⟩ => ⟨h1, by rw [hlen]; exact h2, hb.grown h3 hb.size (fun k e => by cases e; exact Nat.le_trans hbase hg0)⟩

set_option maxRecDepth 100000 in
set_option maxHeartbeats 8000000 in
theorem Other_any (k most : Int) (w : World) (hk : 1 ≤ k ∧ k ≤ 5) (hm : 1 ≤ most ∧ most ≤ 1000) :
    Calls Tryd.prog 6 #[.int .i64 k, .int .i64 most] w fun e w' => ∃ v, e = .returned (.tuple #[v, .int .i64 0]) ∧ w'.ownsRow w.heap.size 32 3 v (otherL k most).length (flat (otherL k most)) ∧ Below w.heap.size w w' := by
  have K1 := Lib.hid fun W => within_yes k 1 5 W hk
  have K2 := Lib.hid fun W => within_yes most 1 1000 W hm
  have IT := Lib.hid fun x y z W => isTriple_any k x y z W hk
  have SQ := Lib.hid fun n h => square_any n h
  have SF := Lib.hid fun base g cap ts us W h1 h3 h4 h5 => sortFunc_any base g cap ts us W h1 (.inr trivial) h3 h4 h5
  have SN := Lib.hid fun p cap W => sortFunc_nil p cap W
  have OR := Lib.hid fun x y h1 h2 h3 => oth_range (x := x) (y := y) hk hm h1 h2 h3
  obtain ⟨i0, hi, hz0, hz1, hz2⟩ := info_parts info70
  obtain ⟨j0, hj0, jz0, jz1, jz2⟩ := info_parts info22
  have hmm := @run_makeMap Tryd.prog
  obtain ⟨US, hUS⟩ : ∃ US, US = otherL k most := ⟨_, rfl⟩
  rw [← hUS]
  have HUS := Lib.hid hUS
  clear hUS
  go_enter Tryd.func6, Tryd.ntmps6
  go_wp2_with fail
  refine (K1.out _).mono ?_
  rintro e w1 ⟨rfl, rfl⟩
  go_wp2_with fail
  refine (K2.out _).mono ?_
  rintro e w1 ⟨rfl, rfl⟩
  go_wp2_with fail
  go_loopw [7, 8] (fun l i wr => ∃ (ts : List T3') (y : Int), 1 ≤ y ∧ y ≤ most + 1 ∧ i = .int .i64 y ∧ Hid (Inv k most y 1 [] ts) ∧ wr.ownsRow (w.heap.size + 1) 42 3 l ts.length (flat ts) ∧ Hid (MapSet wr w.heap.size ts.length ts) ∧ Below w.heap.size w wr) (fun _ i _ => (most + 1 - intOf i).toNat)
  case atStart => exact ⟨[], 1, by omega, by omega, rfl, Inv.start k most, World.ownsRow_nil _ _ _ _, MapSet.made w, bl_alloc (bl_refl _) _⟩
  case round =>
    obtain ⟨ts, y, hy1, hy2, rfl, HI, ho, HM, hb⟩ := hrel
    by_cases hym : y ≤ most
    · go_wp2_with fail
      go_loopw [7, 9] (fun l i wr => ∃ (ts : List T3') (x : Int), 1 ≤ x ∧ x ≤ y + 1 ∧ i = .int .i64 x ∧ Hid (Inv k most y x [] ts) ∧ wr.ownsRow (w.heap.size + 1) 42 3 l ts.length (flat ts) ∧ Hid (MapSet wr w.heap.size ts.length ts) ∧ Below w.heap.size w wr) (fun _ i _ => (y + 1 - intOf i).toNat)
      case atStart => exact ⟨ts, 1, by omega, by omega, rfl, HI, ho, HM, hb⟩
      case round =>
        clear HI ho HM hb
        obtain ⟨ts, x, hx1, hx2, rfl, HI, ho, HM, hb⟩ := hrel
        by_cases hxy : x ≤ y
        · obtain ⟨⟨r1, r2⟩, ⟨r3, r4⟩, ⟨r5, r6⟩, ⟨r7, r8⟩, ⟨r9, r10⟩⟩ := OR.out x y hx1 hxy hym
          by_cases hd : k * x * y * (k * x * y) - 4 * (x * x + y * y) < 0
          · have HN := Lib.hid (HI.out.across fun z hz _ => absurd (triK_neg hz) (by omega))
            go_wp2_with fail
            go_roundw
            case rel => exact ⟨ts, x + 1, by omega, by omega, rfl, HN, ho, HM, hb⟩
            case measure => simp [intOf]; omega
          · obtain ⟨s, s0, s1, s2, s3, S⟩ := SQ.out (k * x * y * (k * x * y) - 4 * (x * x + y * y)) ⟨by omega, by omega⟩
            have HS := Lib.hid S
            clear S
            have sb : s ≤ k * x * y := by
              rcases Int.lt_or_le (k * x * y) s with h | h
              · have := Int.mul_le_mul (show k * x * y + 1 ≤ s by omega) (show k * x * y + 1 ≤ s by omega) (by omega) (by omega)
                have e : (k * x * y + 1) * (k * x * y + 1) = k * x * y * (k * x * y) + 2 * (k * x * y) + 1 := by grind
                omega
              · exact h
            obtain ⟨z1, hz1'⟩ : ∃ z1, z1 = (k * x * y - s) / 2 := ⟨_, rfl⟩
            obtain ⟨z2, hz2'⟩ : ∃ z2, z2 = (k * x * y + s) / 2 := ⟨_, rfl⟩
            have e1 : Int.tdiv (k * x * y - s) 2 = z1 := (Int.tdiv_eq_ediv_of_nonneg (by omega)).trans hz1'.symm
            have e2 : Int.tdiv (k * x * y + s) 2 = z2 := (Int.tdiv_eq_ediv_of_nonneg (by omega)).trans hz2'.symm
            have e1' := hz1'.symm
            have e2' := hz2'.symm
            have HZZ : Hid (∀ z, TriK k x y z → z ∈ [z1, z2]) := by
              intro z hz
              rcases triK_root hz s0 s2 s3 with h | h
              · rw [h, e1']; simp
              · rw [h, e2']; simp
            clear s2 s3 hz1' hz2'
            go_wp2_with fail
            refine (HS.out _).mono ?_
            rintro e w' ⟨rfl, rfl⟩
            go_wp2_with fail
            refine (HS.out _).mono ?_
            rintro e w' ⟨rfl, rfl⟩
            go_wp2_with fail
            obtain ⟨gz, hgz⟩ : ∃ gz, gz = wr.heap.size := ⟨_, rfl⟩
            have hbg : w.heap.size < gz := by have := HM.out.lt; omega
            have HZ0 : Hid (Whole (wr.alloc (.cells #[.int .i64 z1, .int .i64 z2] 3)) gz 3 #[.int .i64 z1, .int .i64 z2]) := by rw [hgz]; exact Whole.new _ _ _
            have ho0 := ho.alloc (.cells #[.int .i64 z1, .int .i64 z2] 3)
            have HM0 := Lib.hid (HM.out.below (bl_alloc (bl_refl _) (.cells #[.int .i64 z1, .int .i64 z2] 3)))
            have hb0 := bl_alloc hb (.cells #[.int .i64 z1, .int .i64 z2] 3)
            rw [← hgz]
            go_loopw [7, 68] (fun l i wx => ∃ (ts : List T3') (j : Nat), j ≤ 2 ∧ i = .int .i64 j ∧ Hid (Inv k most y x ([z1, z2].take j) ts) ∧ wx.ownsRow (w.heap.size + 1) 42 3 l ts.length (flat ts) ∧ Hid (MapSet wx w.heap.size ts.length ts) ∧ Hid (Whole wx gz 3 #[.int .i64 z1, .int .i64 z2]) ∧ Below w.heap.size w wx) (fun _ i _ => 2 - (intOf i).toNat)
            case atStart => exact ⟨ts, 0, by omega, rfl, HI, ho0, HM0, HZ0, hb0⟩
            case round =>
              clear HI ho HM hb ho0 HM0 HZ0 hb0 hgz HS
              obtain ⟨ts, j, hj, rfl, HI, ho, HM, HZ, hb⟩ := hrel
              have hfew := HI.out.few hk.1 (by omega)
              by_cases hlt : j < 2
              · obtain ⟨z, cz, ez⟩ : ∃ z, wr.cell? ⟨gz, j, none⟩ = some (.int .i64 z) ∧ [z1, z2].take (j + 1) = [z1, z2].take j ++ [z] := by
                  have : j = 0 ∨ j = 1 := by omega
                  rcases this with rfl | rfl
                  · exact ⟨z1, (HZ.out.cell 0).trans rfl, rfl⟩
                  · exact ⟨z2, (HZ.out.cell 1).trans rfl, rfl⟩
                have hgl := HZ.out.lt
                have hbw := HM.out.lt
                obtain ⟨T14, hT14⟩ : ∃ o : Obj, o = .cells #[.int .i64 x, .int .i64 y, .int .i64 z] 42 := ⟨_, rfl⟩
                have ho1 := ho.alloc T14
                have HM1 := Lib.hid (HM.out.below (bl_alloc (bl_refl _) T14))
                have HZ1 := Lib.hid (HZ.out.alloc T14)
                have hb1 := bl_alloc hb T14
                have W1 := Whole.new wr 42 #[.int .i64 x, .int .i64 y, .int .i64 z]
                rw [← hT14] at W1
                by_cases c1 : y ≤ z
                · by_cases c2 : z ≤ most
                  · have HT := Lib.hid fun W => IT.out x y z W
                    have hwf : wfT (x, y, z) := ⟨wf_of (a := x) (by omega), wf_of (a := y) (by omega), wf_of (a := z) (by omega)⟩
                    have hti := triB_iff (k := k) (x := x) (y := y) (z := z) (by omega)
                    generalize triB k x y z = tb at *
                    cases tb
                    · have HN : Hid (Inv k most y x ([z1, z2].take (j + 1)) ts) := by
                        show Inv _ _ _ _ _ _
                        rw [ez]; exact HI.out.pass fun h1 h2 => absurd (hti.2 h1) (by simp)
                      subst hT14
                      clear hti HI
                      go_wp2_with fail
                      refine (HT.out _).mono ?_
                      rintro e w6 ⟨rfl, hb6⟩
                      have ho6 := own_kept ho1 hb6
                      have HM6 := Lib.hid (HM1.out.below hb6)
                      have HZ6 := Lib.hid (HZ1.out.kept hb6)
                      have hbB := bl_then hb1 hb6
                      go_wp2_with fail
                      go_roundw
                      case rel => exact ⟨ts, j + 1, by omega, by go_num, HN, ho6, HM6, HZ6, hbB⟩
                      case measure => simp [intOf]; omega
                    · have hTK := hti.1 rfl
                      by_cases hin : (x, y, z) ∈ ts
                      · have HN : Hid (Inv k most y x ([z1, z2].take (j + 1)) ts) := by
                          show Inv _ _ _ _ _ _
                          rw [ez]; exact HI.out.pass fun _ _ => hin
                        subst hT14
                        have hin' := Lib.hid hin
                        clear hti HI hTK hin
                        go_wp2_with fail
                        refine (HT.out _).mono ?_
                        rintro e w6 ⟨rfl, hb6⟩
                        have ho6 := own_kept ho1 hb6
                        have HM6 := Lib.hid (HM1.out.below hb6)
                        have HZ6 := Lib.hid (HZ1.out.kept hb6)
                        have hbB := bl_then hb1 hb6
                        have W6 := W1.kept hb6
                        have d0 : w6.cell? ⟨wr.heap.size, 0, none⟩ = some (.int .i64 x) := (W6.cell 0).trans rfl
                        have d1 : w6.cell? ⟨wr.heap.size, 1, none⟩ = some (.int .i64 y) := (W6.cell 1).trans rfl
                        have d2 : w6.cell? ⟨wr.heap.size, 2, none⟩ = some (.int .i64 z) := (W6.cell 2).trans rfl
                        have hs6 := W6.lt
                        have lk := HM6.out.look hwf
                        rw [decide_eq_true hin'.out] at lk
                        simp only [tripT] at lk
                        go_wp2_with fail
                        go_roundw
                        case rel => exact ⟨ts, j + 1, by omega, by go_num, HN, ho6, HM6, HZ6, hbB⟩
                        case measure => simp [intOf]; omega
                      · have HN : Hid (Inv k most y x ([z1, z2].take (j + 1)) (ts ++ [(x, y, z)])) := by
                          show Inv _ _ _ _ _ _
                          rw [ez]; exact HI.out.push hTK c2 hin
                        subst hT14
                        have hin' := Lib.hid hin
                        clear hti HI hTK hin
                        go_wp2_with fail
                        refine (HT.out _).mono ?_
                        rintro e w6 ⟨rfl, hb6⟩
                        have ho6 := own_kept ho1 hb6
                        have HM6 := Lib.hid (HM1.out.below hb6)
                        have HZ6 := Lib.hid (HZ1.out.kept hb6)
                        have hbB := bl_then hb1 hb6
                        have W6 := W1.kept hb6
                        have d0 : w6.cell? ⟨wr.heap.size, 0, none⟩ = some (.int .i64 x) := (W6.cell 0).trans rfl
                        have d1 : w6.cell? ⟨wr.heap.size, 1, none⟩ = some (.int .i64 y) := (W6.cell 1).trans rfl
                        have d2 : w6.cell? ⟨wr.heap.size, 2, none⟩ = some (.int .i64 z) := (W6.cell 2).trans rfl
                        have hs6 := W6.lt
                        have lk := HM6.out.look hwf
                        rw [decide_eq_false hin'.out] at lk
                        obtain ⟨w7, st, HM7, hg7⟩ := HM6.out.store hwf (by unfold maxLen; omega)
                        simp only [tripT] at lk st
                        have W7 := whole_row W6 hg7 (by simp; omega)
                        have e0 : w7.cell? ⟨wr.heap.size, 0, none⟩ = some (.int .i64 x) := (W7.cell 0).trans rfl
                        have e1 : w7.cell? ⟨wr.heap.size, 1, none⟩ = some (.int .i64 y) := (W7.cell 1).trans rfl
                        have e2 : w7.cell? ⟨wr.heap.size, 2, none⟩ = some (.int .i64 z) := (W7.cell 2).trans rfl
                        have hs7 := W7.lt
                        have ho7 := (ho6.kept hg7 (by
                          cases h : Value.ownBlock _ with
                          | none => exact .inl rfl
                          | some q => exact .inr (by have := (ho6.lt q h).1; simp; omega))).alloc (.cells #[.int .i64 x, .int .i64 y, .int .i64 z] 42)
                        have HZ7 := Lib.hid ((whole_row HZ6.out hg7 (by simp; omega)).alloc (.cells #[.int .i64 x, .int .i64 y, .int .i64 z] 42))
                        have hb7 := bl_alloc (hbB.grown hg7 hbB.size (fun q e => by cases e; exact Nat.le_refl _)) (.cells #[.int .i64 x, .int .i64 y, .int .i64 z] 42)
                        have HM7' := Lib.hid (HM7.below (bl_alloc (bl_refl _) (.cells #[.int .i64 x, .int .i64 y, .int .i64 z] 42)))
                        have hsz7 := hb7.size
                        clear HM7 hg7 W7 W6
                        go_wp2_with (at_builtin; refine wpList_append_own _ rfl (.tmp 97) (.tmp 99) _ rfl (w.heap.size + 1) 42 i0 _ 3 24 Tryd.underlying39 hi hz0 hz1 hz2 rfl (by decide) _ ts.length (flat ts) rfl ho7 ⟨w7.heap.size, 0, none⟩ 1 1 [.int .i64 x, .int .i64 y, .int .i64 z] rfl rfl (cells_new _ _ _) (three_one _ _ _) (by unfold maxLen; omega) (by omega) (by simp; omega) ?_; intro v3 w8 hown8 hg8 _)
                        have hn8 := whole_ne HZ7.out ho7 (by decide)
                        have HZ8 := Lib.hid (whole_row HZ7.out hg8 hn8)
                        have HM8 : Hid (MapSet w8 w.heap.size (ts ++ [(x, y, z)]).length (ts ++ [(x, y, z)])) := by
                          show MapSet _ _ _ _
                          rw [List.length_append]
                          exact (HM7'.out.kept hg8 (low_ne ho7 (by omega))).congr (by intro t; simp [or_comm])
                        have HO8 : Hid (w8.ownsRow (w.heap.size + 1) 42 3 v3 (ts ++ [(x, y, z)]).length (flat (ts ++ [(x, y, z)]))) := by
                          show World.ownsRow _ _ _ _ _ _ _
                          rw [List.length_append, flat_append]
                          exact hown8
                        have hb8 := bl_grown hb7 ho7 (Nat.le_succ _) hg8
                        clear hown8 hg8 hn8 HZ7 HM7' ho7 e0 e1 e2
                        go_wp2_with fail
                        go_roundw
                        case rel => exact ⟨ts ++ [(x, y, z)], j + 1, by omega, by go_num, HN, HO8.out, HM8, HZ8, hb8⟩
                        case measure => simp [intOf]; omega
                  · have HN : Hid (Inv k most y x ([z1, z2].take (j + 1)) ts) := by
                      show Inv _ _ _ _ _ _
                      rw [ez]; exact HI.out.pass fun h1 h2 => absurd h2 c2
                    subst hT14
                    go_wp2_with fail
                    go_roundw
                    case rel => exact ⟨ts, j + 1, by omega, by go_num, HN, ho1, HM1, HZ1, hb1⟩
                    case measure => simp [intOf]; omega
                · have HN : Hid (Inv k most y x ([z1, z2].take (j + 1)) ts) := by
                    show Inv _ _ _ _ _ _
                    rw [ez]; exact HI.out.pass fun h1 h2 => absurd h1.2.2.1 c1
                  subst hT14
                  go_wp2_with fail
                  go_roundw
                  case rel => exact ⟨ts, j + 1, by omega, by go_num, HN, ho1, HM1, HZ1, hb1⟩
                  case measure => simp [intOf]; omega
              · have ej : j = 2 := by omega
                subst ej
                have HN := Lib.hid (HI.out.across fun z hz _ => HZZ.out z hz)
                go_wp2_with fail
                go_roundw
                case rel => exact ⟨ts, x + 1, by omega, by omega, rfl, HN, ho, HM, hb⟩
                case measure => simp [intOf]; omega
        · have ex : x = y + 1 := by omega
          subst ex
          have HU := Lib.hid HI.out.up
          go_wp2_with fail
          go_roundw
          case rel => exact ⟨ts, y + 1, by omega, by omega, rfl, HU, ho, HM, hb⟩
          case measure => simp [intOf]; omega
    · have ey : y = most + 1 := by omega
      subst ey
      have hfew := HI.out.few hk.1 (by omega)
      have SO0 := sort_own hb (Nat.le_succ _) ho hfew (HI.out.last hk.1 (by omega)) (otherL_bef k most)
      rw [← HUS.out] at SO0
      obtain ⟨p, cap, rfl, SO⟩ := SO0
      have hk88 := otherL_len k most
      rw [← HUS.out] at hk88
      clear HI ho HM hfew
      have SO := Lib.hid SO
      go_wp2_with fail
      refine SO.out.mono ?_
      rintro e w2 ⟨rfl, hown, hb2⟩
      go_wp2_with fail
      obtain ⟨N, hN⟩ : ∃ N, N = US.length := ⟨_, rfl⟩
      have HN := Lib.hid hN
      rw [← hN] at hown hk88
      rw [← hN]
      clear hN SO hb
      go_loopw [15, 106] (fun v i wr => ∃ k : Nat, k ≤ N ∧ i = .int .i64 k ∧ wr.ownsRow w.heap.size 32 3 v k (flat (US.take k)) ∧ wr.ownsRow (w.heap.size + 1) 42 3 (.slice p N cap) N (flat US) ∧ Below w.heap.size w wr) (fun _ i _ => N - (intOf i).toNat)
      case atStart => exact ⟨0, Nat.zero_le _, rfl, World.ownsRow_nil _ _ _ _, hown, hb2⟩
      case round =>
        obtain ⟨k, hk, rfl, ho, hs, hb⟩ := hrel
        by_cases hlt : k < N
        · have hk1 : k < US.length := by have := HN.out; omega
          obtain ⟨g, cap', e, _, _⟩ := own_form hs (by omega)
          simp only [Value.slice.injEq, true_and] at e
          obtain ⟨rfl, rfl⟩ := e
          obtain ⟨x0, x1, x2⟩ := flat_get US k hk1
          have s0 := (hs.cellAt (k * 3) (by omega)).trans x0
          have s1 := (hs.cellAt (k * 3 + 1) (by omega)).trans x1
          have s2 := (hs.cellAt (k * 3 + 2) (by omega)).trans x2
          have ET : Hid (flat (US.take (k + 1)) = flat (US.take k) ++ [.int .i64 US[k].1, .int .i64 US[k].2.1, .int .i64 US[k].2.2]) := by
            rw [List.take_succ_eq_append_getElem hk1]; exact flat_append _ _
          generalize US[k] = t at *
          clear x0 x1 x2 hk1
          have hsz := hb.size
          go_wp2_with (at_builtin; refine wpList_append_own _ rfl (.tmp 110) (.tmp 112) _ rfl w.heap.size 32 j0 _ 3 24 Tryd.underlying22 hj0 jz0 jz1 jz2 rfl (by decide) _ k (flat (US.take k)) rfl ((ho.alloc _).alloc _) ⟨wr.heap.size + 1, 0, none⟩ 1 1 [.int .i64 t.1, .int .i64 t.2.1, .int .i64 t.2.2] rfl rfl (cells_new2 _ _ _ _) (three_one _ _ _) (by unfold maxLen; omega) (by omega) (by simp; omega) ?_; intro v3 w3 hown3 hg3 _)
          have hB := bl_grown (bl_alloc (bl_alloc hb _) _) ((ho.alloc _).alloc _) (Nat.le_refl _) hg3
          have hs3 := ((hs.alloc _).alloc _).kept hg3 (own_ne ((hs.alloc (.cells #[.int .i64 t.1, .int .i64 t.2.1, .int .i64 t.2.2] 42)).alloc (.cells #[.int .i64 t.1, .int .i64 t.2.1, .int .i64 t.2.2] 32)) ((ho.alloc _).alloc _) (by decide))
          rw [← ET.out] at hown3
          clear hg3 ho hs s0 s1 s2
          go_wp2_with fail
          go_roundw
          case rel => exact ⟨k + 1, by omega, by go_num, hown3, hs3, hB⟩
          case measure => simp [intOf]; omega
        · have ek : k = N := by omega
          rw [List.take_of_length_le (by have := HN.out; omega), ek] at ho
          clear hs
          have hR := Lib.hid ho
          have ek' := Lib.hid ek
          clear ek ho
          go_wp2_with fail
          go_ret2
          exact ⟨_, rfl, by rw [← HN.out]; exact hR.out, hb⟩
theorem Other_no (k most : Int) (w : World) (h : ¬ ((1 ≤ k ∧ k ≤ 5) ∧ (1 ≤ most ∧ most ≤ 1000))) :
    Calls Tryd.prog 6 #[.int .i64 k, .int .i64 most] w fun e w' => e = .returned (.tuple #[.slice none 0 0, .int .i64 2]) ∧ Below w.heap.size w w' := by
  by_cases hk : 1 ≤ k ∧ k ≤ 5
  · have K1 := Lib.hid fun W => within_yes k 1 5 W hk
    have K2 := Lib.hid fun W => within_no most 1 1000 W (fun h2 => h ⟨hk, h2⟩)
    clear h hk
    go_enter Tryd.func6, Tryd.ntmps6
    go_wp2_with fail
    refine (K1.out _).mono ?_
    rintro e w1 ⟨rfl, rfl⟩
    go_wp2_with fail
    refine (K2.out _).mono ?_
    rintro e w1 ⟨rfl, rfl⟩
    go_wp2_with fail
    go_ret2
    exact ⟨rfl, bl_refl _⟩
  · have K1 := Lib.hid fun W => within_no k 1 5 W hk
    clear h hk
    go_enter Tryd.func6, Tryd.ntmps6
    go_wp2_with fail
    refine (K1.out _).mono ?_
    rintro e w1 ⟨rfl, rfl⟩
    go_wp2_with fail
    go_ret2
    exact ⟨rfl, bl_refl _⟩
end Go.Proofs.YtpflmlnkflpbnaaDoor
