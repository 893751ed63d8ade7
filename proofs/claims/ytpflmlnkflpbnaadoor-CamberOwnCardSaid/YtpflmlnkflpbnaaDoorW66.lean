/-
  The order of triples: cmp.Compare, cmp.Or, order.
-/
import Derived.Test.YtpflmlnkflpbnaaDoorW64
import Derived.Test.YtpflmlnkflpbnaaDoorW61
import Derived.Deep.RegionHeld3
import Derived.Shelf.SlSortCmp.WholeK
namespace Go.Proofs.YtpflmlnkflpbnaaDoor
open Go.RowKit Go.Sort Cam
set_option linter.unusedVariables false

def cmpI (a b : Int) : Int := if a < b then -1 else if b < a then 1 else 0
theorem isNaN_any (a : Int) (w : World) : Calls Tryd.prog 59 #[.int .i64 a] w fun e w' => e = .returned (.bool false) ∧ w = w' := by
  have hq : (a != a) = false := by simp
  go_enter Tryd.func59, Tryd.ntmps59
  go_wp2
  go_ret
  exact ⟨rfl, rfl⟩
theorem compare_any (a b : Int) (w : World) : Calls Tryd.prog 31 #[.int .i64 a, .int .i64 b] w fun e w' => e = .returned (.int .i64 (cmpI a b)) ∧ w = w' := by
  have N1 := Lib.hid fun W => isNaN_any a W
  have N2 := Lib.hid fun W => isNaN_any b W
  have hc : cmpI a b = if a < b then -1 else if b < a then 1 else 0 := rfl
  by_cases h1 : a < b
  · rw [if_pos h1] at hc
    rw [hc]
    clear hc
    go_enter Tryd.func31, Tryd.ntmps31
    go_wp2_with fail
    refine (N1.out _).mono ?_
    rintro e w1 ⟨rfl, rfl⟩
    go_wp2_with fail
    refine (N2.out _).mono ?_
    rintro e w1 ⟨rfl, rfl⟩
    go_wp2_with fail
    go_ret
    exact ⟨rfl, rfl⟩
  · rw [if_neg h1] at hc
    by_cases h2 : b < a
    · rw [if_pos h2] at hc
      rw [hc]
      clear hc
      go_enter Tryd.func31, Tryd.ntmps31
      go_wp2_with fail
      refine (N1.out _).mono ?_
      rintro e w1 ⟨rfl, rfl⟩
      go_wp2_with fail
      refine (N2.out _).mono ?_
      rintro e w1 ⟨rfl, rfl⟩
      go_wp2_with fail
      go_ret
      exact ⟨rfl, rfl⟩
    · rw [if_neg h2] at hc
      rw [hc]
      clear hc
      go_enter Tryd.func31, Tryd.ntmps31
      go_wp2_with fail
      refine (N1.out _).mono ?_
      rintro e w1 ⟨rfl, rfl⟩
      go_wp2_with fail
      refine (N2.out _).mono ?_
      rintro e w1 ⟨rfl, rfl⟩
      go_wp2_with fail
      go_ret
      exact ⟨rfl, rfl⟩
def orI (a b c : Int) : Int := if a = 0 then if b = 0 then c else b else a
theorem or3_any (a b c : Int) (g : Nat) (w : World) (h0 : w.cell? ⟨g, 0, none⟩ = some (.int .i64 a)) (h1 : w.cell? ⟨g, 1, none⟩ = some (.int .i64 b)) (h2 : w.cell? ⟨g, 2, none⟩ = some (.int .i64 c)) :
    Calls Tryd.prog 30 #[.slice (some ⟨g, 0, none⟩) 3 3] w fun e w' => e = .returned (.int .i64 (orI a b c)) ∧ w = w' := by
  by_cases ha : a = 0
  · subst ha
    by_cases hb : b = 0
    · subst hb
      by_cases hc : c = 0
      · subst hc
        show Calls Tryd.prog 30 #[.slice (some ⟨g, 0, none⟩) 3 3] w fun e w' => e = .returned (.int .i64 0) ∧ w = w'
        go_enter Tryd.func30, Tryd.ntmps30
        go_wp2
        refine wp_loop_rounds 4 ?_; rw [rounds_succ]
        go_wp2
        rw [rounds_succ]
        go_wp2
        rw [rounds_succ]
        go_wp2
        rw [rounds_succ]
        go_wp2
        go_ret
        exact ⟨rfl, rfl⟩
      · have hc1 : (c != 0) = true := by simp [hc]
        show Calls Tryd.prog 30 #[.slice (some ⟨g, 0, none⟩) 3 3] w fun e w' => e = .returned (.int .i64 c) ∧ w = w'
        go_enter Tryd.func30, Tryd.ntmps30
        go_wp2
        refine wp_loop_rounds 4 ?_; rw [rounds_succ]
        go_wp2
        rw [rounds_succ]
        go_wp2
        rw [rounds_succ]
        go_wp2
        go_ret
        exact ⟨rfl, rfl⟩
    · have hb1 : (b != 0) = true := by simp [hb]
      have ho : orI 0 b c = b := by unfold orI; rw [if_pos rfl, if_neg hb]
      rw [ho]
      clear ho
      go_enter Tryd.func30, Tryd.ntmps30
      go_wp2
      refine wp_loop_rounds 4 ?_; rw [rounds_succ]
      go_wp2
      rw [rounds_succ]
      go_wp2
      go_ret
      exact ⟨rfl, rfl⟩
  · have ha1 : (a != 0) = true := by simp [ha]
    have ho : orI a b c = a := by unfold orI; rw [if_neg ha]
    rw [ho]
    clear ho
    go_enter Tryd.func30, Tryd.ntmps30
    go_wp2
    refine wp_loop_rounds 4 ?_; rw [rounds_succ]
    go_wp2
    go_ret
    exact ⟨rfl, rfl⟩

def ordI (t u : T3') : Int := orI (cmpI t.2.2 u.2.2) (cmpI t.2.1 u.2.1) (cmpI t.1 u.1)
theorem ordI_lt (t u : T3') : (ordI t u < 0) ↔ Bef t u := by
  unfold ordI orI cmpI Bef
  constructor
  · intro h
    repeat' split at h
    all_goals omega
  · intro h
    repeat' split
    all_goals omega
set_option maxRecDepth 100000 in
set_option maxHeartbeats 2000000 in
theorem order_any (t u : T3') (W : World) : Calls Tryd.prog 19 #[tripT t, tripT u] W fun e w' => e = .returned (.int .i64 (ordI t u)) ∧ ∃ q os', w' = grow (W.drewN q) os' := by
  obtain ⟨x, y, z⟩ := t
  obtain ⟨p, q, r⟩ := u
  have K := Lib.hid fun a b W => compare_any a b W
  have O := Lib.hid fun g W h0 h1 h2 => or3_any (cmpI z r) (cmpI y q) (cmpI x p) g W h0 h1 h2
  have ho : ordI (x, y, z) (p, q, r) = orI (cmpI z r) (cmpI y q) (cmpI x p) := rfl
  rw [ho]
  unfold tripT
  generalize orI (cmpI z r) (cmpI y q) (cmpI x p) = o at *
  clear ho
  go_enter Tryd.func19, Tryd.ntmps19
  go_wp2_with fail
  obtain ⟨W1, hW1⟩ : ∃ W1, (W.alloc (.cells #[.int .i64 x, .int .i64 y, .int .i64 z] 42)).alloc (.cells #[.int .i64 p, .int .i64 q, .int .i64 r] 42) = W1 := ⟨_, rfl⟩
  have a0 : W1.cell? ⟨W.heap.size, 0, none⟩ = some (.int .i64 x) := by rw [← hW1]; exact (((Whole.new W _ _).alloc _).cell 0).trans rfl
  have a1 : W1.cell? ⟨W.heap.size, 1, none⟩ = some (.int .i64 y) := by rw [← hW1]; exact (((Whole.new W _ _).alloc _).cell 1).trans rfl
  have a2 : W1.cell? ⟨W.heap.size, 2, none⟩ = some (.int .i64 z) := by rw [← hW1]; exact (((Whole.new W _ _).alloc _).cell 2).trans rfl
  have b0 : W1.cell? ⟨W.heap.size + 1, 0, none⟩ = some (.int .i64 p) := by rw [← hW1]; exact ((Whole.new2 W _ _ _).cell 0).trans rfl
  have b1 : W1.cell? ⟨W.heap.size + 1, 1, none⟩ = some (.int .i64 q) := by rw [← hW1]; exact ((Whole.new2 W _ _ _).cell 1).trans rfl
  have b2 : W1.cell? ⟨W.heap.size + 1, 2, none⟩ = some (.int .i64 r) := by rw [← hW1]; exact ((Whole.new2 W _ _ _).cell 2).trans rfl
  have HW := Lib.hid hW1
  rw [hW1]
  clear hW1
  go_region_held3 (fun X => X.cell? ⟨W.heap.size, 0, none⟩ = some (.int .i64 x) ∧ X.cell? ⟨W.heap.size, 1, none⟩ = some (.int .i64 y) ∧ X.cell? ⟨W.heap.size, 2, none⟩ = some (.int .i64 z) ∧ X.cell? ⟨W.heap.size + 1, 0, none⟩ = some (.int .i64 p) ∧ X.cell? ⟨W.heap.size + 1, 1, none⟩ = some (.int .i64 q) ∧ X.cell? ⟨W.heap.size + 1, 2, none⟩ = some (.int .i64 r)) (go_keep)
    (first
    | (go_at_call 31; refine (K.out _ _ _).mono ?_; rintro e w1 ⟨rfl, rfl⟩)
    | (go_at_call 30; refine (O.out _ _ ((Whole.new _ _ _).cell 0) ((Whole.new _ _ _).cell 1) ((Whole.new _ _ _).cell 2)).mono ?_; rintro e w1 ⟨rfl, rfl⟩))
  all_goals
    go_wp2_with fail
    go_ret
    refine ⟨rfl, 1, #[.cells #[.int .i64 x, .int .i64 y, .int .i64 z] 42, .cells #[.int .i64 p, .int .i64 q, .int .i64 r] 42, .cells #[.int .i64 (cmpI z r), .int .i64 (cmpI y q), .int .i64 (cmpI x p)] 3], ?_⟩
    rw [← HW.out]
    have e : ∀ (X : World) (o1 o2 o3 : Obj), (((X.alloc o1).alloc o2).alloc o3).drew = grow (X.drewN 1) #[o1, o2, o3] := by
      intro X o1 o2 o3
      rw [alloc_eq_grow, alloc_eq_grow, alloc_eq_grow, grow_grow, grow_grow]
      rfl
    exact e _ _ _ _
end Go.Proofs.YtpflmlnkflpbnaaDoor
