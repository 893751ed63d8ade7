/-
  The tree's iterator, and what the library collects of it.
-/
import Derived.Test.YtpflmlnkflpbnaaDoorW64
import Derived.Maps.OwnIn
namespace Go.Proofs.YtpflmlnkflpbnaaDoor
open Go.RowKit Go.Sort Go.Shelf Cam
set_option linter.unusedVariables false
attribute [local go_sem] Oper.semAt_some

theorem room_of_none {F : Fence} (hd : F.depth = none) (k : Nat) : F.room k := fun d h => by rw [hd] at h; cases h
theorem YieldAt.anyDepth {F : Fence} (hd : F.depth = none) {m : Nat} (m' : Nat) {P : Program} {l : Nat} {args : Array Value} {W : World} {R : Ending → World → Prop} (h : YieldAt F m P l args W R) : YieldAt F m' P l args W R := by
  obtain ⟨fn, tmps, assign, body, hy, hR⟩ := h
  exact ⟨fn, tmps, assign, body, hy, hR.1, fun c cs _ => hR.2 c cs (room_of_none hd _)⟩

theorem tree_in (n : Nat) (most : Int) (w : World) :
    CallsIn Fence.wide n Tryd.prog 45 #[.int .i64 most] w fun e w' => e = .returned (.func (.func 66) #[] #[.pointer (some ⟨w.heap.size, 0, none⟩)]) ∧ w' = w.alloc (.cells #[.int .i64 most] 3) := by
  have hmf : ∀ (fn : Fn) (first cap : Array Value) (w : World), (Instr.makeFunc fn first cap).run Tryd.prog w = .ok (.func fn first cap) w := fun _ _ _ _ => rfl
  refine callsIn_of_wp Tryd.func45 rfl trivial ?_ rfl
  simp only [Tryd.ntmps45, List.size_toArray, List.length_cons, List.length_nil, Nat.reduceAdd, Nat.reduceSub, Array.replicate_succ, Array.replicate_zero, List.push_toArray, List.append_toArray, List.nil_append, List.cons_append]
  gi_wp2
  go_ret
  exact ⟨rfl, rfl⟩

set_option maxRecDepth 100000 in
set_option maxHeartbeats 2000000 in
theorem tree1_in (m l Bm Bs : Nat) (most : Int) (hm : 1 ≤ most ∧ most ≤ 1000000000) (J Jx : List T3' → World → Prop)
    (hJ : ∀ pre W W', J pre W → W.grownBy W' none → J pre W')
    (hY : ∀ m pre x W, J pre W → pre.length < (dfs most 30 (1, 1, 1)).length → YieldAt Fence.wide m Tryd.prog l #[tripT x] W fun e W' =>
      (e = .returned (.bool true) ∧ J (pre ++ [x]) W' ∧ KpS Bs W W') ∨ (e = .returned (.bool false) ∧ Jx (pre ++ [x]) W'))
    (W : World) (hc : W.cell? ⟨Bm, 0, none⟩ = some (.int .i64 most)) (hs : Safe Bs W Bm) (hr : RowOk Bs W) (hB : Bs < W.heap.size) (h0 : J [] W) :
    CallsIn Fence.wide m Tryd.prog 66 #[.func (.yield l) #[] #[], .pointer (some ⟨Bm, 0, none⟩)] W fun e W' => (∃ v, e = .returned v) ∧ ((∃ ys, ys = dfs most 30 (1, 1, 1) ∧ J ys W') ∨ (∃ pre, True ∧ Jx pre W')) := by
  have hdd : ∀ k : Nat, (Fence.wide.depth.isSome = true → 1 ≤ k) := fun k h => by cases h
  have hmf : ∀ (fn : Fn) (first cap : Array Value) (w : World), (Instr.makeFunc fn first cap).run Tryd.prog w = .ok (.func fn first cap) w := fun _ _ _ _ => rfl
  obtain ⟨W2, hW2⟩ : ∃ W2, W2 = (W.alloc (.cells #[.func (.yield l) #[] #[]] 103)).alloc (.cells #[.func (.func 67) #[] #[.pointer (some ⟨Bm, 0, none⟩), .pointer (some ⟨W.heap.size, 0, none⟩), .pointer (some ⟨W.heap.size + 1, 0, none⟩)]] 103) := ⟨_, rfl⟩
  have k1 := KpS.alloc Bs W (.cells #[.func (.yield l) #[] #[]] 103) hB
  have s1 := Safe.new (Bs := Bs) (W := W) #[.func (.yield l) #[] #[]] 103 hB hr
  have hB1 : Bs < (W.alloc (.cells #[.func (.yield l) #[] #[]] 103)).heap.size := by simp; omega
  have k2 := KpS.alloc Bs (W.alloc (.cells #[.func (.yield l) #[] #[]] 103)) (.cells #[.func (.func 67) #[] #[.pointer (some ⟨Bm, 0, none⟩), .pointer (some ⟨W.heap.size, 0, none⟩), .pointer (some ⟨W.heap.size + 1, 0, none⟩)]] 103) hB1
  have s2 := Safe.new (Bs := Bs) (W := W.alloc (.cells #[.func (.yield l) #[] #[]] 103)) #[.func (.func 67) #[] #[.pointer (some ⟨Bm, 0, none⟩), .pointer (some ⟨W.heap.size, 0, none⟩), .pointer (some ⟨W.heap.size + 1, 0, none⟩)]] 103 hB1 (k1.2.1 hr)
  rw [World.size_alloc] at s2
  have hE : Env most l Bm W.heap.size (W.heap.size + 1) Bs W2 := by
    rw [hW2]
    obtain ⟨q1, t1⟩ := k1.2.2 _ hs
    obtain ⟨q2, t2⟩ := k2.2.2 _ t1
    obtain ⟨q3, t3⟩ := k2.2.2 _ s1
    refine ⟨(cell_of_heap q2 0).trans ((cell_of_heap q1 0).trans hc), (cell_of_heap q3 0).trans ?_, ?_, t2, t3, s2, k2.2.1 (k1.2.1 hr), by simp; omega⟩
    · exact ((Whole.new W _ _).cell 0).trans rfl
    · exact ((Whole.new2 W _ _ _).cell 0).trans rfl
  have hJ2 : J [] W2 := by
    rw [hW2]
    exact hJ _ _ _ (hJ _ _ _ h0 (World.grownBy_alloc W _ none)) (World.grownBy_alloc _ _ none)
  have V := Lib.hid fun mm => visit_in l Bm W.heap.size (W.heap.size + 1) Bs _ most hm J Jx hJ hY 30 mm (1, 1, 1) [] W2 enough_root (by simp [TT]) hE hJ2 (by simp)
  unfold tripT at V
  rw [hW2] at V
  clear hE hJ2 hY s1 s2 k1 k2 hW2
  refine callsIn_of_wp Tryd.func66 rfl trivial ?_ rfl
  simp only [Tryd.ntmps66, List.size_toArray, List.length_cons, List.length_nil, Nat.reduceAdd, Nat.reduceSub, Array.replicate_succ, Array.replicate_zero, List.push_toArray, List.append_toArray, List.nil_append, List.cons_append]
  gi_wp2_with fail
  refine ⟨trivial, hdd _, ?_⟩
  refine (V.out _).mono ?_
  rintro e W3 (⟨rfl, hJ3, hk3⟩ | ⟨rfl, q, hx3⟩)
  · gi_wp2_with fail
    go_end0
    exact ⟨⟨_, rfl⟩, .inl ⟨_, rfl, by simpa using hJ3⟩⟩
  · gi_wp2_with fail
    go_end0
    exact ⟨⟨_, rfl⟩, .inr ⟨_, trivial, hx3⟩⟩

theorem tree_stops (n Bm Bs : Nat) (most : Int) (hm : 1 ≤ most ∧ most ≤ 1000000000) (w : World) (hc : w.cell? ⟨Bm, 0, none⟩ = some (.int .i64 most)) (hs : Safe Bs w Bm) (hr : RowOk Bs w) (hB : Bs < w.heap.size) :
    SeqStopsK Fence.wide n Tryd.prog 66 #[.pointer (some ⟨Bm, 0, none⟩)] (fun x : T3' => #[tripT x]) (KpS Bs) (fun ys => ys = dfs most 30 (1, 1, 1)) (fun _ => True) (dfs most 30 (1, 1, 1)).length w := fun l J Jx W hW hAJ _ hY h0 => by
  have k := KpS.below (Bs := Bs) hW hB
  obtain ⟨q, s⟩ := k.2.2 _ hs
  exact tree1_in n l Bm Bs most hm J Jx (fun pre A B h g => hAJ pre A B none h g (fun r e => by cases e)) (fun m pre x A hj hl => YieldAt.anyDepth rfl m (hY pre x A hj hl)) W ((cell_of_heap q 0).trans hc) s (k.2.1 hr) (Nat.lt_of_lt_of_le hB hW.size) h0

theorem whole_own {X Y : World} {B g : Nat} {t : TypeId} {cs : Array Value} {row : Option Nat} (h : Whole X g t cs) (hg : X.grownBy Y row) (hr : ∀ r, row = some r → B ≤ r ∧ ∃ o : Obj, X.heap[r]? = some o ∧ o.isCells = false) : Whole Y g t cs := by
  refine (hg.block g h.lt fun e => ?_).trans h
  obtain ⟨_, o, ho, hc⟩ := hr g e.symm
  rw [show X.heap[g]? = _ from h] at ho
  cases ho; cases hc
theorem dfs_few {most : Int} (hm : most ≤ 1000000000) : (dfs most 30 (1, 1, 1)).length ≤ 88 := by
  rw [(dfs_perm hm).length_eq]
  exact Nat.le_trans (List.length_filter_le _ _) (by decide)
theorem info56 : (Tryd.prog.info? 42).map (fun i => (i.zero, i.size, i.bytes)) = some (some (.agg #[.int .i64 0, .int .i64 0, .int .i64 0]), 3, 24) := by kernel_rfl
set_option maxRecDepth 100000 in
set_option maxHeartbeats 2000000 in
theorem appendSeq_in (n Bm : Nat) (hn : 2 ≤ n) (most : Int) (hm : 1 ≤ most ∧ most ≤ 1000000000) (w : World) (hc : w.cell? ⟨Bm, 0, none⟩ = some (.int .i64 most)) (hw : ∃ cs t fl, w.heap[Bm]? = some (.cells cs t fl)) :
    CallsIn Fence.wide n Tryd.prog 77 #[.slice none 0 0, .func (.func 66) #[] #[.pointer (some ⟨Bm, 0, none⟩)]] w fun e w' =>
      ∃ v, e = .returned v ∧ w'.ownsRow w.heap.size 42 3 v (dfs most 30 (1, 1, 1)).length (flat (dfs most 30 (1, 1, 1))) ∧ Below w.heap.size w w' := by
  have h1 : 1 ≤ n := by omega
  obtain ⟨i0, hi, hz0, hz1, hz2⟩ := info_parts info56
  have hlt : Bm < w.heap.size := by obtain ⟨cs, t, fl, h⟩ := hw; exact (Array.getElem?_eq_some_iff.1 h).1
  refine callsIn_of_wp_marks Tryd.func77 rfl trivial ?_ rfl
  simp only [Tryd.ntmps77, List.size_toArray, List.length_cons, List.length_nil, Nat.reduceAdd, Nat.reduceSub, Array.replicate_succ, Array.replicate_zero, List.push_toArray, List.append_toArray, List.nil_append, List.cons_append]
  gi_wp2
  have hN := dfs_few hm.2
  have bO := Boxed.new w 39 (.slice none 0 0)
  have hB0 : Below w.heap.size w (w.alloc (.cells #[.slice none 0 0] 39)) := (Below.refl _ w).alloc (Nat.le_refl _) _
  have hsz : (w.alloc (.cells #[.slice none 0 0] 39)).heap.size = w.heap.size + 1 := by simp
  have hrow0 : rowOf w.heap.size (w.alloc (.cells #[.slice none 0 0] 39)) = none := by unfold rowOf; rw [bO.cell]; rfl
  have hrk : RowOk w.heap.size (w.alloc (.cells #[.slice none 0 0] 39)) := fun r e => by rw [hrow0] at e; cases e
  have hsafe : Safe w.heap.size (w.alloc (.cells #[.slice none 0 0] 39)) Bm := by
    obtain ⟨cs, t, fl, h⟩ := hw
    exact ⟨⟨cs, t, fl, (Below.heap_alloc w _ Bm hlt).trans h⟩, by omega, by rw [hrow0]; simp⟩
  have hc1 : (w.alloc (.cells #[.slice none 0 0] 39)).cell? ⟨Bm, 0, none⟩ = some (.int .i64 most) := (cell_of_heap (Below.heap_alloc w _ Bm hlt) 0).trans hc
  refine wpIn_rangeFunc_ownH rfl h1 (gf := 66) (lb := #[.pointer (some ⟨Bm, 0, none⟩)]) rfl trivial (enters_of Tryd.func66 (by kernel_rfl) rfl)
    (tree_stops (n - 1) Bm w.heap.size most hm _ hc1 hsafe hrk (by simp)) (fun h k => KpS.trans h k) (fun W l o o' hl h h2 h3 => KpS.putObj o' h h2 (by simp at hl; omega)) (Below.refl _ _) (fun _ => rfl)
    (fun pre W => (∃ v, Boxed W w.heap.size 39 v ∧ W.ownsRow w.heap.size 42 3 v pre.length (flat pre) ∧ True) ∧ Below w.heap.size w W)
    (fun _ _ _ => False)
    (OwnFrom.and (Own.from (holdsRow_own w.heap.size w.heap.size 39 42 3 (fun pre : List T3' => pre.length) (fun pre => flat pre) (fun _ _ => True)) _) (ownFrom_below (Nat.le_refl _) (by simp)))
    (fun _ _ _ _ _ hs _ _ => hs)
    ⟨⟨_, bO, World.ownsRow_nil _ _ _ _, trivial⟩, hB0⟩
    (fun x a' W => ∃ Bx, w.heap.size < Bx ∧ Whole W Bx 42 #[.int .i64 x.1, .int .i64 x.2.1, .int .i64 x.2.2] ∧ a' = { tmps := #[.slice none 0 0, .func (.func 66) #[] #[.pointer (some ⟨Bm, 0, none⟩)], .pointer (some ⟨w.heap.size, 0, none⟩), undef, .slice none 0 0, .pointer (some ⟨Bx, 0, none⟩), .func (.func 66) #[] #[.pointer (some ⟨Bm, 0, none⟩)], .agg #[.int .i64 x.1, .int .i64 x.2.1, .int .i64 x.2.2], undef, undef, undef, undef, undef], defers := [] })
    (fun x a' _ X Y row hs hg hr => by obtain ⟨Bx, h1, h2, h3⟩ := hs; exact ⟨Bx, h1, whole_own h2 hg hr, h3⟩)
    ?assign ?body ?done ?stop
  case assign =>
    rintro l pre ⟨p, q, r⟩ W K ⟨⟨v, bv, hrow, _⟩, hB⟩ hK
    unfold tripT
    gi_wp2
    exact hK _ _ ((KeepsOthers.alloc _ _).from _) (KpS.alloc _ _ _ bv.lt) ⟨⟨v, bv.alloc _, hrow.alloc _, trivial⟩, hB.alloc hB.size _⟩ ⟨W.heap.size, bv.lt, Whole.new W _ _, rfl⟩
  case body =>
    rintro l pre ⟨p, q, r⟩ a' W hl ⟨r0, hr0⟩ ⟨⟨v, bv, hrow, _⟩, hB⟩ ⟨Bx, hBx, bX, rfl⟩ hlt
    have cV := bv.cell
    have fV := bv.frozen
    have x0 : W.cell? ⟨Bx, 0, none⟩ = some (.int .i64 p) := (bX.cell 0).trans rfl
    have x1 : W.cell? ⟨Bx, 1, none⟩ = some (.int .i64 q) := (bX.cell 1).trans rfl
    have x2 : W.cell? ⟨Bx, 2, none⟩ = some (.int .i64 r) := (bX.cell 2).trans rfl
    have hflat : flat (pre ++ [(p, q, r)]) = flat pre ++ [.int .i64 p, .int .i64 q, .int .i64 r] := flat_append _ _
    have HF := Lib.hid hflat
    have hlen : (pre ++ [(p, q, r)]).length = pre.length + 1 := by simp
    have HL := Lib.hid hlen
    clear hflat hlen
    gi_wp2_with (gi_at_builtin; refine wpListIn_append_own_at _ rfl (.tmp 8) (.tmp 10) _ rfl w.heap.size 42 i0 _ 3 24 Tryd.underlying39 hi hz0 hz1 hz2 rfl (by decide) v pre.length (flat pre) rfl (hrow.alloc _) ⟨W.heap.size, 0, none⟩ 1 1 [.int .i64 p, .int .i64 q, .int .i64 r] rfl rfl (cells_new _ _ _) (three_one _ _ _) (by unfold maxLen; omega) (by omega) (by have := hB.size; simp; omega) ?_; intro v' w1 hown' hgrow _ hat; obtain ⟨g', cap', rfl, _, _⟩ := own_form hown' (by omega); obtain ⟨hv1, hv2, hr2, hk2, hb2⟩ := bv.appended (by decide) hrow hB.size (Nat.le_refl _) hown' hgrow; have hc1 := hv1.cell; have hf1 := hv1.frozen)
    rw [← HF.out] at hr2
    refine ⟨hk2.from _, KpS.append bv hv1 hrow hown' hgrow (fun r e => ?_), ⟨⟨_, hv2, by rw [HL.out]; exact hr2⟩, hB.trans hb2⟩⟩
    rcases hat with h | h
    · exact .inl (h ▸ e)
    · right; rw [h] at e; simp at e; omega
  case done =>
    rintro D ys W hD rfl ⟨⟨v, bv, hrow, _⟩, hB⟩ hK
    have cV := bv.cell
    gi_wp2
    refine ⟨by simp, .inl ⟨_, _, rfl, run_takeDeferred hK, ?_⟩⟩
    exact ⟨_, results_tmp rfl _ _ _, v, rfl, ownsRow_putObj hrow _ hK rfl, hB.trans (belowK_b (w := w) (Nat.le_refl _) W D _ _ (by simp at hD; omega) hK rfl rfl)⟩
  case stop =>
    rintro D c pre W _ _ h _
    exact h.elim
end Go.Proofs.YtpflmlnkflpbnaaDoor
