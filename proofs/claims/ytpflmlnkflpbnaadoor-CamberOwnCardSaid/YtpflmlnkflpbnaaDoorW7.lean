import Derived.Test.YtpflmlnkflpbnaaDoorW6
import Derived.Test.YtpflmlnkflpbnaaDoorLib4
import Derived.Laws.EntriesVeiled
namespace Go.Proofs.YtpflmlnkflpbnaaDoor
open Go.RowKit Go.Sort Cam
set_option linter.unusedVariables false

theorem info3 : (Tryd.prog.info? 3).map (fun i => (i.zero, i.size, i.bytes)) = some (some (.int .i64 0), 1, 8) := by kernel_rfl
theorem info70 : (Tryd.prog.info? 42).map (fun i => (i.zero, i.size, i.bytes)) = some (some (.agg #[.int .i64 0, .int .i64 0, .int .i64 0]), 3, 24) := by kernel_rfl
theorem info22 : (Tryd.prog.info? 32).map (fun i => (i.zero, i.size, i.bytes)) = some (some (.agg #[.int .i64 0, .int .i64 0, .int .i64 0]), 3, 24) := by kernel_rfl
theorem cells3 : Tryd.prog.cellsOf 3 = 1 := by kernel_rfl
theorem eqT (x y z a b c : Int) (W : World) : (binOp .eql 42 (.agg #[.int .i64 x, .int .i64 y, .int .i64 z]) (.agg #[.int .i64 a, .int .i64 b, .int .i64 c])).run Tryd.prog W = .ok (.bool (decide (x = a ∧ y = b ∧ z = c))) W := by
  obtain ⟨i0, hi, _⟩ := info_parts info3
  exact eql3 W _ _ i0 Tryd.underlying42 Tryd.underlying3 cells3 hi x y z a b c
theorem neT (x y z a b c : Int) (W : World) : (binOp .neq 42 (.agg #[.int .i64 x, .int .i64 y, .int .i64 z]) (.agg #[.int .i64 a, .int .i64 b, .int .i64 c])).run Tryd.prog W = .ok (.bool (!decide (x = a ∧ y = b ∧ z = c))) W := by
  obtain ⟨i0, hi, _⟩ := info_parts info3
  exact neq3 W _ _ i0 Tryd.underlying42 Tryd.underlying3 cells3 hi x y z a b c
theorem eqA (x y z a b c : Int) (W : World) : (binOp .eql 32 (.agg #[.int .i64 x, .int .i64 y, .int .i64 z]) (.agg #[.int .i64 a, .int .i64 b, .int .i64 c])).run Tryd.prog W = .ok (.bool (decide (x = a ∧ y = b ∧ z = c))) W := by
  obtain ⟨i0, hi, _⟩ := info_parts info3
  exact eql3 W _ _ i0 Tryd.underlying32 Tryd.underlying3 cells3 hi x y z a b c
theorem neA (x y z a b c : Int) (W : World) : (binOp .neq 32 (.agg #[.int .i64 x, .int .i64 y, .int .i64 z]) (.agg #[.int .i64 a, .int .i64 b, .int .i64 c])).run Tryd.prog W = .ok (.bool (!decide (x = a ∧ y = b ∧ z = c))) W := by
  obtain ⟨i0, hi, _⟩ := info_parts info3
  exact neq3 W _ _ i0 Tryd.underlying32 Tryd.underlying3 cells3 hi x y z a b c

theorem contains_nil (x y z : Int) (w : World) :
    Calls Tryd.prog 47 #[.slice none 0 0, trip x y z] w fun e w' => e = .returned (.bool false) ∧ Below w.heap.size w w' := by
  unfold trip
  go_enter Tryd.func47, Tryd.ntmps47
  go_wp2
  refine wp_loop_rounds 1 ?_; rw [rounds_succ]
  go_wp2
  go_ret
  exact ⟨rfl, bl_alloc (bl_alloc (bl_refl _) _) _⟩

theorem contains_one (g : Nat) (cap : Nat) (a b c x y z : Int) (w : World) (c0 : w.cell? ⟨g, 0, none⟩ = some (.int .i64 a)) (c1 : w.cell? ⟨g, 1, none⟩ = some (.int .i64 b)) (c2 : w.cell? ⟨g, 2, none⟩ = some (.int .i64 c)) (hg : g < w.heap.size) :
    Calls Tryd.prog 47 #[.slice (some ⟨g, 0, none⟩) 1 cap, trip x y z] w fun e w' => e = .returned (.bool (decide (x = a ∧ y = b ∧ z = c))) ∧ Below w.heap.size w w' := by
  have E := eqT x y z a b c
  generalize hd : decide (x = a ∧ y = b ∧ z = c) = d at *
  clear hd
  unfold trip
  cases d
  · go_enter Tryd.func47, Tryd.ntmps47
    go_wp2
    refine wp_loop_rounds 2 ?_; rw [rounds_succ]
    go_wp2
    go_quiet (fail)
    go_wp2
    rw [rounds_succ]
    go_wp2
    go_ret
    exact ⟨rfl, bl_drewN (bl_alloc (bl_alloc (bl_refl _) _) _) _⟩
  · go_enter Tryd.func47, Tryd.ntmps47
    go_wp2
    refine wp_loop_rounds 2 ?_; rw [rounds_succ]
    go_wp2
    go_quiet (fail)
    go_wp2
    go_ret
    exact ⟨rfl, bl_drewN (bl_alloc (bl_alloc (bl_refl _) _) _) _⟩

/-- The cells of a list of triples. -/
def flat : List (Int × Int × Int) → List Value
  | [] => []
  | t :: l => .int .i64 t.1 :: .int .i64 t.2.1 :: .int .i64 t.2.2 :: flat l

/-- The children of a solution. -/
def kids (x y z : Int) : List (Int × Int × Int) :=
  (if 3 * y * z - x ≤ 1000000000 then [(y, z, 3 * y * z - x)] else []) ++ (if x ≠ y ∧ 3 * x * z - y ≤ 1000000000 then [(x, z, 3 * x * z - y)] else [])

set_option maxRecDepth 100000 in
set_option maxHeartbeats 1000000 in
theorem children_any (x y z : Int) (w : World) (h : Tri x y z) (h4 : z ≤ 1000000000) :
    Calls Tryd.prog 26 #[trip x y z] w fun e w' => ∃ v, e = .returned v ∧ w'.ownsRow w.heap.size 42 3 v (kids x y z).length (flat (kids x y z)) ∧ Below w.heap.size w w' := by
  have hmf : ∀ (fn : Fn) (first cap : Array Value) (w : World), (Instr.makeFunc fn first cap).run Tryd.prog w = .ok (.func fn first cap) w := fun _ _ _ _ => rfl
  have L := Lib.hid fun W => left_any x y z W h h4
  have R := Lib.hid fun W => right_any x y z W h h4
  obtain ⟨i0, hi, hz0, hz1, hz2⟩ := info_parts info70
  unfold trip at L R ⊢
  clear h
  go_enter Tryd.func26, Tryd.ntmps26
  go_wp2_with fail
  refine wp_loop_rounds 3 ?_; rw [rounds_succ]
  go_wp2_with fail
  refine (L.out _).mono ?_
  rintro e w1 ⟨rfl, hb1⟩
  have hbA := bl_then (bl_alloc (bl_alloc (bl_refl w) _) _) hb1
  have hF1 := (Whole.new2 w _ _ _).kept hb1
  by_cases hl : 3 * y * z - x ≤ 1000000000
  · go_wp2_with fail
    refine (contains_nil _ _ _ _).mono ?_
    rintro e w2 ⟨rfl, hb2⟩
    obtain ⟨hc2, hf2⟩ := bl_cells hb2
    have hbB := bl_then (bl_alloc hbA _) hb2
    have hF2 := (hF1.alloc _).kept hb2
    go_wp2_with (at_builtin; refine wpList_append_own _ rfl (.tmp 30) (.tmp 32) _ rfl w.heap.size 42 i0 _ 3 24 Tryd.underlying39 hi hz0 hz1 hz2 rfl (by decide) (.slice none 0 0) 0 [] rfl (World.ownsRow_nil _ _ _ _) ⟨w2.heap.size, 0, none⟩ 1 1 [.int .i64 y, .int .i64 z, .int .i64 (3 * y * z - x)] rfl rfl (cells_new _ _ _) (three_one _ _ _) (by simp [maxLen]) (by simp) (by have := hbB.size; simp; omega) ?_; intro v3 w3 hown3 hg3 _)
    have hb3 := grown_nil hg3
    have hbC := bl_then (bl_alloc hbB _) hb3
    have q3 : w3.cell? ⟨w.heap.size + 1, 1, none⟩ = some (.func (.func 46) #[.agg #[.int .i64 x, .int .i64 y, .int .i64 z]] #[]) := (((hF2.alloc _).kept hb3).cell 1).trans rfl
    clear hc2 hf2 hF2 hF1
    obtain ⟨g, cap, rfl, hg0, hg1⟩ := own_form hown3 (by simp)
    simp only [Nat.zero_add, List.nil_append] at hown3
    clear hg3
    rw [rounds_succ]
    go_wp2_with fail
    refine (R.out _).mono ?_
    rintro e w4 ⟨rfl, hb4⟩
    have hbD := bl_then hbC hb4
    have hown4 := own_kept hown3 hb4
    have c0 : w4.cell? ⟨g, 0, none⟩ = some (.int .i64 y) := (hown4.cellAt 0 (by omega)).trans rfl
    have c1 : w4.cell? ⟨g, 1, none⟩ = some (.int .i64 z) := (hown4.cellAt 1 (by omega)).trans rfl
    have c2 : w4.cell? ⟨g, 2, none⟩ = some (.int .i64 (3 * y * z - x)) := (hown4.cellAt 2 (by omega)).trans rfl
    have hg4 : g < w4.heap.size := Nat.lt_of_lt_of_le hg1 hb4.size
    have hbE := bl_alloc hbD (.cells #[.int .i64 x, .int .i64 z, .int .i64 (3 * x * z - y)] 42)
    by_cases hr : 3 * x * z - y ≤ 1000000000
    · have C := contains_one g cap y z (3 * y * z - x) x z (3 * x * z - y) (w4.alloc (.cells #[.int .i64 x, .int .i64 z, .int .i64 (3 * x * z - y)] 42)) ((World.cell?_alloc_lt _ _ _ hg4).trans c0) ((World.cell?_alloc_lt _ _ _ hg4).trans c1) ((World.cell?_alloc_lt _ _ _ hg4).trans c2) (by simp; omega)
      unfold trip at C
      by_cases hxy : x = y
      · have ek : kids x y z = [(y, z, 3 * y * z - x)] := by unfold kids; rw [if_pos hl, if_neg (fun h => h.1 hxy)]; rfl
        rw [show decide (x = y ∧ z = z ∧ 3 * x * z - y = 3 * y * z - x) = true from by subst hxy; simp] at C
        have EK := Lib.hid ek
        have CC := Lib.hid C
        clear ek C hxy
        go_wp2_with fail
        refine CC.out.mono ?_
        rintro e w5 ⟨rfl, hb5⟩
        have hbF := bl_then hbE hb5
        have hown5 := own_kept (hown4.alloc _) hb5
        go_wp2_with fail
        rw [rounds_succ]
        go_wp2_with fail
        go_ret
        exact ⟨_, rfl, by rw [EK.out]; exact hown5, hbF⟩
      · have ek : kids x y z = [(y, z, 3 * y * z - x), (x, z, 3 * x * z - y)] := by unfold kids; rw [if_pos hl, if_pos ⟨hxy, hr⟩]; rfl
        rw [show decide (x = y ∧ z = z ∧ 3 * x * z - y = 3 * y * z - x) = false from by simp [hxy]] at C
        have EK := Lib.hid ek
        have CC := Lib.hid C
        clear ek C hxy
        go_wp2_with fail
        refine CC.out.mono ?_
        rintro e w5 ⟨rfl, hb5⟩
        obtain ⟨hc5, hf5⟩ := bl_cells hb5
        have hbF := bl_then hbE hb5
        have hown5 := own_kept (hown4.alloc _) hb5
        go_wp2_with (at_builtin; refine wpList_append_own _ rfl (.tmp 30) (.tmp 32) _ rfl w.heap.size 42 i0 _ 3 24 Tryd.underlying39 hi hz0 hz1 hz2 rfl (by decide) (.slice (some ⟨g, 0, none⟩) 1 cap) 1 [.int .i64 y, .int .i64 z, .int .i64 (3 * y * z - x)] rfl (hown5.alloc _) ⟨w5.heap.size, 0, none⟩ 1 1 [.int .i64 x, .int .i64 z, .int .i64 (3 * x * z - y)] rfl rfl (cells_new _ _ _) (three_one _ _ _) (by simp [maxLen]) (by simp) (by have := hbF.size; simp; omega) ?_; intro v6 w6 hown6 hg6 _)
        have hbG := bl_grown (bl_alloc hbF _) (hown5.alloc _) (Nat.le_refl _) hg6
        obtain ⟨g6, cap6, rfl, _, _⟩ := own_form hown6 (by simp)
        clear hg6
        rw [rounds_succ]
        go_wp2_with fail
        go_ret
        exact ⟨_, rfl, by rw [EK.out]; exact hown6, hbG⟩
    · have ek : kids x y z = [(y, z, 3 * y * z - x)] := by unfold kids; rw [if_pos hl, if_neg (fun h => hr h.2)]; rfl
      have EK := Lib.hid ek
      clear ek
      go_wp2_with fail
      rw [rounds_succ]
      go_wp2_with fail
      go_ret
      exact ⟨_, rfl, by rw [EK.out]; exact hown4.alloc _, hbE⟩
  · have q1 : w1.cell? ⟨w.heap.size + 1, 1, none⟩ = some (.func (.func 46) #[.agg #[.int .i64 x, .int .i64 y, .int .i64 z]] #[]) := (hF1.cell 1).trans rfl
    have hs1 : w.heap.size + 1 < w1.heap.size := hF1.lt
    clear hF1
    go_wp2_with fail
    rw [rounds_succ]
    go_wp2_with fail
    refine (R.out _).mono ?_
    rintro e w4 ⟨rfl, hb4⟩
    have hbD := bl_then (bl_alloc hbA _) hb4
    have hbE := bl_alloc hbD (.cells #[.int .i64 x, .int .i64 z, .int .i64 (3 * x * z - y)] 42)
    by_cases hr : 3 * x * z - y ≤ 1000000000
    · have ek : kids x y z = [(x, z, 3 * x * z - y)] := by unfold kids; rw [if_neg (by omega), if_pos ⟨fun e => by subst e; omega, hr⟩]; rfl
      have EK := Lib.hid ek
      clear ek
      go_wp2_with fail
      refine (contains_nil _ _ _ _).mono ?_
      rintro e w5 ⟨rfl, hb5⟩
      obtain ⟨hc5, hf5⟩ := bl_cells hb5
      have hbF := bl_then hbE hb5
      go_wp2_with (at_builtin; refine wpList_append_own _ rfl (.tmp 30) (.tmp 32) _ rfl w.heap.size 42 i0 _ 3 24 Tryd.underlying39 hi hz0 hz1 hz2 rfl (by decide) (.slice none 0 0) 0 [] rfl (World.ownsRow_nil _ _ _ _) ⟨w5.heap.size, 0, none⟩ 1 1 [.int .i64 x, .int .i64 z, .int .i64 (3 * x * z - y)] rfl rfl (cells_new _ _ _) (three_one _ _ _) (by simp [maxLen]) (by simp) (by have := hbF.size; simp; omega) ?_; intro v6 w6 hown6 hg6 _)
      have hbG := bl_then (bl_alloc hbF _) (grown_nil hg6)
      obtain ⟨g6, cap6, rfl, _, _⟩ := own_form hown6 (by simp)
      simp only [Nat.zero_add, List.nil_append] at hown6
      clear hg6
      rw [rounds_succ]
      go_wp2_with fail
      go_ret
      exact ⟨_, rfl, by rw [EK.out]; exact hown6, hbG⟩
    · have ek : kids x y z = [] := by unfold kids; rw [if_neg (by omega), if_neg (fun h => hr h.2)]; rfl
      have EK := Lib.hid ek
      clear ek
      go_wp2_with fail
      rw [rounds_succ]
      go_wp2_with fail
      go_ret
      exact ⟨_, rfl, by rw [EK.out]; exact World.ownsRow_nil _ _ _ _, hbE⟩
end Go.Proofs.YtpflmlnkflpbnaaDoor
