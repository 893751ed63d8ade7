import Derived.Test.YtpflmlnkflpbnaaDoorW20
namespace Go.Proofs.YtpflmlnkflpbnaaDoor
open Go.RowKit Go.Sort Cam
set_option linter.unusedVariables false
set_option linter.unusedSimpArgs false
set_option linter.unusedSimpArgs false
set_option linter.unusedSimpArgs false
set_option linter.unusedSimpArgs false
set_option linter.unusedSimpArgs false
set_option linter.unusedSimpArgs false
set_option linter.unusedSimpArgs false

set_option maxRecDepth 100000 in
set_option maxRecDepth 100000 in
set_option maxRecDepth 100000 in
set_option maxRecDepth 100000 in
set_option maxRecDepth 100000 in
set_option maxRecDepth 100000 in
set_option maxRecDepth 100000 in
set_option maxRecDepth 100000 in
set_option maxHeartbeats 1000000 in
theorem refChildren_any (x y z : Int) (w : World) (h : Tri x y z) (h4 : z ≤ 1000000000) :
    Calls Tryd.prog 14 #[trip x y z] w fun e w' => ∃ v, e = .returned v ∧ w'.ownsRow w.heap.size 32 3 v (kids x y z).length (flat (kids x y z)) ∧ Below w.heap.size w w' := by
  have L := Lib.hid fun W => refEx0 x y z W h h4
  have R := Lib.hid fun W => refEx1 x y z W h h4
  obtain ⟨i0, hi, hz0, hz1, hz2⟩ := info_parts info22
  clear h
  unfold trip at L R ⊢
  obtain ⟨l, hl⟩ : ∃ l, decide (3 * y * z - x ≤ 1000000000) = l := ⟨_, rfl⟩
  obtain ⟨r, hr⟩ : ∃ r, decide (3 * x * z - y ≤ 1000000000) = r := ⟨_, rfl⟩
  obtain ⟨q, hq⟩ : ∃ q, (!decide (x = y ∧ z = z ∧ 3 * x * z - y = 3 * y * z - x)) = q := ⟨_, rfl⟩
  have N := Lib.hid fun W => neA x z (3 * x * z - y) y z (3 * y * z - x) W
  rw [hq] at N
  rw [hl] at L
  rw [hr] at R
  have ek : kids x y z = (if l then [(y, z, 3 * y * z - x)] else []) ++ (if r && q then [(x, z, 3 * x * z - y)] else []) := by
    unfold kids
    subst hl hr hq
    by_cases hxy : x = y
    · subst hxy; simp
    · simp [hxy]
  rw [ek]
  clear ek hl hr hq
  generalize 3 * y * z - x = m at *
  generalize 3 * x * z - y = n at *
  have N := N.out
  cases l
  · cases r
    · cases q
      · simp only [Bool.false_eq_true, if_false, if_true, Bool.and_false, Bool.and_true, Bool.false_and, Bool.true_and, List.nil_append, List.append_nil, List.singleton_append, List.length_nil, List.length_singleton, List.length_cons, flat]
        go_enter Tryd.func14, Tryd.ntmps14
        go_wp2_with fail
        refine (L.out _).mono ?_
        rintro e w1 ⟨rfl, hb1⟩
        obtain ⟨hc1, hf1⟩ := bl_cells hb1
        have hbA := bl_then (bl_alloc (bl_refl w) _) hb1
        have hs1 : w.heap.size < w1.heap.size := by have := hb1.size; simp at this; omega
        go_wp2_with fail
        refine (R.out _).mono ?_
        rintro e w2 ⟨rfl, hb2⟩
        obtain ⟨hc2, hf2⟩ := bl_cells hb2
        have hbB := bl_then (bl_alloc hbA (.cells #[.int .i64 y, .int .i64 z, .int .i64 m] 32)) hb2
        have hs2 : w1.heap.size < w2.heap.size := by have := hb2.size; simp at this; omega
        have hs2' : w.heap.size ≤ w2.heap.size := by omega
        have hq1 : w1.heap.size < w2.heap.size + 1 := by omega
        have hq2 : w1.heap.size < w2.heap.size + 1 + 1 := by omega
        have hbC := bl_alloc hbB (.cells #[.int .i64 x, .int .i64 z, .int .i64 n] 32)
        go_wp2_with fail
        go_ret
        exact ⟨_, rfl, World.ownsRow_nil _ _ _ _, hbC⟩
      · simp only [Bool.false_eq_true, if_false, if_true, Bool.and_false, Bool.and_true, Bool.false_and, Bool.true_and, List.nil_append, List.append_nil, List.singleton_append, List.length_nil, List.length_singleton, List.length_cons, flat]
        go_enter Tryd.func14, Tryd.ntmps14
        go_wp2_with fail
        refine (L.out _).mono ?_
        rintro e w1 ⟨rfl, hb1⟩
        obtain ⟨hc1, hf1⟩ := bl_cells hb1
        have hbA := bl_then (bl_alloc (bl_refl w) _) hb1
        have hs1 : w.heap.size < w1.heap.size := by have := hb1.size; simp at this; omega
        go_wp2_with fail
        refine (R.out _).mono ?_
        rintro e w2 ⟨rfl, hb2⟩
        obtain ⟨hc2, hf2⟩ := bl_cells hb2
        have hbB := bl_then (bl_alloc hbA (.cells #[.int .i64 y, .int .i64 z, .int .i64 m] 32)) hb2
        have hs2 : w1.heap.size < w2.heap.size := by have := hb2.size; simp at this; omega
        have hs2' : w.heap.size ≤ w2.heap.size := by omega
        have hq1 : w1.heap.size < w2.heap.size + 1 := by omega
        have hq2 : w1.heap.size < w2.heap.size + 1 + 1 := by omega
        have hbC := bl_alloc hbB (.cells #[.int .i64 x, .int .i64 z, .int .i64 n] 32)
        go_wp2_with fail
        go_ret
        exact ⟨_, rfl, World.ownsRow_nil _ _ _ _, hbC⟩
    · cases q
      · simp only [Bool.false_eq_true, if_false, if_true, Bool.and_false, Bool.and_true, Bool.false_and, Bool.true_and, List.nil_append, List.append_nil, List.singleton_append, List.length_nil, List.length_singleton, List.length_cons, flat]
        go_enter Tryd.func14, Tryd.ntmps14
        go_wp2_with fail
        refine (L.out _).mono ?_
        rintro e w1 ⟨rfl, hb1⟩
        obtain ⟨hc1, hf1⟩ := bl_cells hb1
        have hbA := bl_then (bl_alloc (bl_refl w) _) hb1
        have hs1 : w.heap.size < w1.heap.size := by have := hb1.size; simp at this; omega
        go_wp2_with fail
        refine (R.out _).mono ?_
        rintro e w2 ⟨rfl, hb2⟩
        obtain ⟨hc2, hf2⟩ := bl_cells hb2
        have hbB := bl_then (bl_alloc hbA (.cells #[.int .i64 y, .int .i64 z, .int .i64 m] 32)) hb2
        have hs2 : w1.heap.size < w2.heap.size := by have := hb2.size; simp at this; omega
        have hs2' : w.heap.size ≤ w2.heap.size := by omega
        have hq1 : w1.heap.size < w2.heap.size + 1 := by omega
        have hq2 : w1.heap.size < w2.heap.size + 1 + 1 := by omega
        have hbC := bl_alloc hbB (.cells #[.int .i64 x, .int .i64 z, .int .i64 n] 32)
        go_wp2_with fail
        go_ret
        exact ⟨_, rfl, World.ownsRow_nil _ _ _ _, hbC⟩
      · simp only [Bool.false_eq_true, if_false, if_true, Bool.and_false, Bool.and_true, Bool.false_and, Bool.true_and, List.nil_append, List.append_nil, List.singleton_append, List.length_nil, List.length_singleton, List.length_cons, flat]
        go_enter Tryd.func14, Tryd.ntmps14
        go_wp2_with fail
        refine (L.out _).mono ?_
        rintro e w1 ⟨rfl, hb1⟩
        obtain ⟨hc1, hf1⟩ := bl_cells hb1
        have hbA := bl_then (bl_alloc (bl_refl w) _) hb1
        have hs1 : w.heap.size < w1.heap.size := by have := hb1.size; simp at this; omega
        go_wp2_with fail
        refine (R.out _).mono ?_
        rintro e w2 ⟨rfl, hb2⟩
        obtain ⟨hc2, hf2⟩ := bl_cells hb2
        have hbB := bl_then (bl_alloc hbA (.cells #[.int .i64 y, .int .i64 z, .int .i64 m] 32)) hb2
        have hs2 : w1.heap.size < w2.heap.size := by have := hb2.size; simp at this; omega
        have hs2' : w.heap.size ≤ w2.heap.size := by omega
        have hq1 : w1.heap.size < w2.heap.size + 1 := by omega
        have hq2 : w1.heap.size < w2.heap.size + 1 + 1 := by omega
        have hbC := bl_alloc hbB (.cells #[.int .i64 x, .int .i64 z, .int .i64 n] 32)
        go_wp2_with (at_builtin; refine wpList_append_own _ rfl (.tmp 29) (.tmp 31) _ rfl w.heap.size 32 i0 _ 3 24 Tryd.underlying22 hi hz0 hz1 hz2 rfl (by decide) (.slice none 0 0) 0 [] rfl (World.ownsRow_nil _ _ _ _) ⟨w2.heap.size + 1, 0, none⟩ 1 1 [.int .i64 x, .int .i64 z, .int .i64 n] rfl rfl (cells_new2 _ _ _ _) (three_one _ _ _) (by simp [maxLen]) (by simp) (by simp; omega) ?_; intro v3 w3 hown3 hg3 _; obtain ⟨hc3, hf3⟩ := bl_cells (grown_nil hg3); have hs3 : w2.heap.size < w3.heap.size := Nat.lt_of_lt_of_le (by simp <;> omega) (grown_nil hg3).size; have hs3' : w1.heap.size < w3.heap.size := (by omega))
        have hbD := bl_then (bl_alloc hbC _) (grown_nil hg3)
        simp only [Nat.zero_add, List.nil_append] at hown3
        go_ret
        exact ⟨_, rfl, hown3, hbD⟩
  · cases r
    · cases q
      · simp only [Bool.false_eq_true, if_false, if_true, Bool.and_false, Bool.and_true, Bool.false_and, Bool.true_and, List.nil_append, List.append_nil, List.singleton_append, List.length_nil, List.length_singleton, List.length_cons, flat]
        go_enter Tryd.func14, Tryd.ntmps14
        go_wp2_with fail
        refine (L.out _).mono ?_
        rintro e w1 ⟨rfl, hb1⟩
        obtain ⟨hc1, hf1⟩ := bl_cells hb1
        have hbA := bl_then (bl_alloc (bl_refl w) _) hb1
        have hs1 : w.heap.size < w1.heap.size := by have := hb1.size; simp at this; omega
        go_wp2_with fail
        refine (R.out _).mono ?_
        rintro e w2 ⟨rfl, hb2⟩
        obtain ⟨hc2, hf2⟩ := bl_cells hb2
        have hbB := bl_then (bl_alloc hbA (.cells #[.int .i64 y, .int .i64 z, .int .i64 m] 32)) hb2
        have hs2 : w1.heap.size < w2.heap.size := by have := hb2.size; simp at this; omega
        have hs2' : w.heap.size ≤ w2.heap.size := by omega
        have hq1 : w1.heap.size < w2.heap.size + 1 := by omega
        have hq2 : w1.heap.size < w2.heap.size + 1 + 1 := by omega
        have hbC := bl_alloc hbB (.cells #[.int .i64 x, .int .i64 z, .int .i64 n] 32)
        go_wp2_with (at_builtin; refine wpList_append_own _ rfl (.tmp 19) (.tmp 21) _ rfl w.heap.size 32 i0 _ 3 24 Tryd.underlying22 hi hz0 hz1 hz2 rfl (by decide) (.slice none 0 0) 0 [] rfl (World.ownsRow_nil _ _ _ _) ⟨w2.heap.size + 1, 0, none⟩ 1 1 [.int .i64 y, .int .i64 z, .int .i64 m] rfl rfl (cells_new2 _ _ _ _) (three_one _ _ _) (by simp [maxLen]) (by simp) (by simp; omega) ?_; intro v3 w3 hown3 hg3 _; obtain ⟨hc3, hf3⟩ := bl_cells (grown_nil hg3); have hs3 : w2.heap.size < w3.heap.size := Nat.lt_of_lt_of_le (by simp <;> omega) (grown_nil hg3).size; have hs3' : w1.heap.size < w3.heap.size := (by omega))
        have hbD := bl_then (bl_alloc hbC _) (grown_nil hg3)
        simp only [Nat.zero_add, List.nil_append] at hown3
        go_ret
        exact ⟨_, rfl, hown3, hbD⟩
      · simp only [Bool.false_eq_true, if_false, if_true, Bool.and_false, Bool.and_true, Bool.false_and, Bool.true_and, List.nil_append, List.append_nil, List.singleton_append, List.length_nil, List.length_singleton, List.length_cons, flat]
        go_enter Tryd.func14, Tryd.ntmps14
        go_wp2_with fail
        refine (L.out _).mono ?_
        rintro e w1 ⟨rfl, hb1⟩
        obtain ⟨hc1, hf1⟩ := bl_cells hb1
        have hbA := bl_then (bl_alloc (bl_refl w) _) hb1
        have hs1 : w.heap.size < w1.heap.size := by have := hb1.size; simp at this; omega
        go_wp2_with fail
        refine (R.out _).mono ?_
        rintro e w2 ⟨rfl, hb2⟩
        obtain ⟨hc2, hf2⟩ := bl_cells hb2
        have hbB := bl_then (bl_alloc hbA (.cells #[.int .i64 y, .int .i64 z, .int .i64 m] 32)) hb2
        have hs2 : w1.heap.size < w2.heap.size := by have := hb2.size; simp at this; omega
        have hs2' : w.heap.size ≤ w2.heap.size := by omega
        have hq1 : w1.heap.size < w2.heap.size + 1 := by omega
        have hq2 : w1.heap.size < w2.heap.size + 1 + 1 := by omega
        have hbC := bl_alloc hbB (.cells #[.int .i64 x, .int .i64 z, .int .i64 n] 32)
        go_wp2_with (at_builtin; refine wpList_append_own _ rfl (.tmp 19) (.tmp 21) _ rfl w.heap.size 32 i0 _ 3 24 Tryd.underlying22 hi hz0 hz1 hz2 rfl (by decide) (.slice none 0 0) 0 [] rfl (World.ownsRow_nil _ _ _ _) ⟨w2.heap.size + 1, 0, none⟩ 1 1 [.int .i64 y, .int .i64 z, .int .i64 m] rfl rfl (cells_new2 _ _ _ _) (three_one _ _ _) (by simp [maxLen]) (by simp) (by simp; omega) ?_; intro v3 w3 hown3 hg3 _; obtain ⟨hc3, hf3⟩ := bl_cells (grown_nil hg3); have hs3 : w2.heap.size < w3.heap.size := Nat.lt_of_lt_of_le (by simp <;> omega) (grown_nil hg3).size; have hs3' : w1.heap.size < w3.heap.size := (by omega))
        have hbD := bl_then (bl_alloc hbC _) (grown_nil hg3)
        simp only [Nat.zero_add, List.nil_append] at hown3
        go_ret
        exact ⟨_, rfl, hown3, hbD⟩
    · cases q
      · simp only [Bool.false_eq_true, if_false, if_true, Bool.and_false, Bool.and_true, Bool.false_and, Bool.true_and, List.nil_append, List.append_nil, List.singleton_append, List.length_nil, List.length_singleton, List.length_cons, flat]
        go_enter Tryd.func14, Tryd.ntmps14
        go_wp2_with fail
        refine (L.out _).mono ?_
        rintro e w1 ⟨rfl, hb1⟩
        obtain ⟨hc1, hf1⟩ := bl_cells hb1
        have hbA := bl_then (bl_alloc (bl_refl w) _) hb1
        have hs1 : w.heap.size < w1.heap.size := by have := hb1.size; simp at this; omega
        go_wp2_with fail
        refine (R.out _).mono ?_
        rintro e w2 ⟨rfl, hb2⟩
        obtain ⟨hc2, hf2⟩ := bl_cells hb2
        have hbB := bl_then (bl_alloc hbA (.cells #[.int .i64 y, .int .i64 z, .int .i64 m] 32)) hb2
        have hs2 : w1.heap.size < w2.heap.size := by have := hb2.size; simp at this; omega
        have hs2' : w.heap.size ≤ w2.heap.size := by omega
        have hq1 : w1.heap.size < w2.heap.size + 1 := by omega
        have hq2 : w1.heap.size < w2.heap.size + 1 + 1 := by omega
        have hbC := bl_alloc hbB (.cells #[.int .i64 x, .int .i64 z, .int .i64 n] 32)
        go_wp2_with (at_builtin; refine wpList_append_own _ rfl (.tmp 19) (.tmp 21) _ rfl w.heap.size 32 i0 _ 3 24 Tryd.underlying22 hi hz0 hz1 hz2 rfl (by decide) (.slice none 0 0) 0 [] rfl (World.ownsRow_nil _ _ _ _) ⟨w2.heap.size + 1, 0, none⟩ 1 1 [.int .i64 y, .int .i64 z, .int .i64 m] rfl rfl (cells_new2 _ _ _ _) (three_one _ _ _) (by simp [maxLen]) (by simp) (by simp; omega) ?_; intro v3 w3 hown3 hg3 _; obtain ⟨hc3, hf3⟩ := bl_cells (grown_nil hg3); have hs3 : w2.heap.size < w3.heap.size := Nat.lt_of_lt_of_le (by simp <;> omega) (grown_nil hg3).size; have hs3' : w1.heap.size < w3.heap.size := (by omega))
        have hbD := bl_then (bl_alloc hbC _) (grown_nil hg3)
        simp only [Nat.zero_add, List.nil_append] at hown3
        go_ret
        exact ⟨_, rfl, hown3, hbD⟩
      · simp only [Bool.false_eq_true, if_false, if_true, Bool.and_false, Bool.and_true, Bool.false_and, Bool.true_and, List.nil_append, List.append_nil, List.singleton_append, List.length_nil, List.length_singleton, List.length_cons, flat]
        go_enter Tryd.func14, Tryd.ntmps14
        go_wp2_with fail
        refine (L.out _).mono ?_
        rintro e w1 ⟨rfl, hb1⟩
        obtain ⟨hc1, hf1⟩ := bl_cells hb1
        have hbA := bl_then (bl_alloc (bl_refl w) _) hb1
        have hs1 : w.heap.size < w1.heap.size := by have := hb1.size; simp at this; omega
        go_wp2_with fail
        refine (R.out _).mono ?_
        rintro e w2 ⟨rfl, hb2⟩
        obtain ⟨hc2, hf2⟩ := bl_cells hb2
        have hbB := bl_then (bl_alloc hbA (.cells #[.int .i64 y, .int .i64 z, .int .i64 m] 32)) hb2
        have hs2 : w1.heap.size < w2.heap.size := by have := hb2.size; simp at this; omega
        have hs2' : w.heap.size ≤ w2.heap.size := by omega
        have hq1 : w1.heap.size < w2.heap.size + 1 := by omega
        have hq2 : w1.heap.size < w2.heap.size + 1 + 1 := by omega
        have hbC := bl_alloc hbB (.cells #[.int .i64 x, .int .i64 z, .int .i64 n] 32)
        go_wp2_with (at_builtin; first | (refine wpList_append_own _ rfl (.tmp 19) (.tmp 21) _ rfl w.heap.size 32 i0 _ 3 24 Tryd.underlying22 hi hz0 hz1 hz2 rfl (by decide) (.slice none 0 0) 0 [] rfl (World.ownsRow_nil _ _ _ _) ⟨w2.heap.size + 1, 0, none⟩ 1 1 [.int .i64 y, .int .i64 z, .int .i64 m] rfl rfl (cells_new2 _ _ _ _) (three_one _ _ _) (by simp [maxLen]) (by simp) (by simp; omega) ?_; intro v3 w3 hown3 hg3 _; obtain ⟨hc3, hf3⟩ := bl_cells (grown_nil hg3); have hs3 : w2.heap.size < w3.heap.size := Nat.lt_of_lt_of_le (by simp <;> omega) (grown_nil hg3).size; have hs3' : w1.heap.size < w3.heap.size := (by omega); simp only [Nat.zero_add, List.nil_append] at hown3; have hbD := bl_then (bl_alloc hbC _) (grown_nil hg3); obtain ⟨g, cap, rfl, hg0, hg1⟩ := own_form hown3 (by simp)) | (refine wpList_append_own _ rfl (.tmp 29) (.tmp 31) _ rfl w.heap.size 32 i0 _ 3 24 Tryd.underlying22 hi hz0 hz1 hz2 rfl (by decide) (.slice (some ⟨g, 0, none⟩) 1 cap) 1 [.int .i64 y, .int .i64 z, .int .i64 m] rfl (hown3.alloc _) ⟨w3.heap.size, 0, none⟩ 1 1 [.int .i64 x, .int .i64 z, .int .i64 n] rfl rfl (cells_new _ _ _) (three_one _ _ _) (by simp [maxLen]) (by simp) (by simp <;> omega) ?_; intro v6 w6 hown6 hg6 _; have hbE := bl_grown (bl_alloc hbD _) (hown3.alloc _) (Nat.le_refl _) hg6))
        go_ret
        exact ⟨_, rfl, hown6, hbE⟩
end Go.Proofs.YtpflmlnkflpbnaaDoor
