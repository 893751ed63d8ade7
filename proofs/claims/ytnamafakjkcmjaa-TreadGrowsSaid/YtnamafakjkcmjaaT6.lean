/-
  How many letters can come: the visit, a closure that calls itself.
-/
import Derived.Test.YtnamafakjkcmjaaT5
namespace Go.Proofs.Ytnamafakjkcmjaa
open Go.RowKit Go.Shelf
set_option linter.unusedVariables false
set_option linter.unusedSimpArgs false
attribute [local go_sem] Oper.semAt_some

/-- A letter that can come in a state, with the state to which it leads. -/
abbrev StpOf (T : Tab) (i : Nat) := { p : Nat × Nat // p ∈ stp T i }
theorem steps_stops (n gm q B1 B2 i : Nat) (S : List Str) (T : Tab) (we w : World) (hM : MachAt we gm q S T) (hT : TabOk T S.length q) (hq : q ≤ 3) (hS : S.length ≤ 121) (hi : i < S.length) (hb : Below we.heap.size we w)
    (hB1 : B1 < w.heap.size) (hc1 : w.cell? ⟨B1, 0, none⟩ = some (.pointer (some ⟨gm, 0, none⟩))) (hB2 : B2 < w.heap.size) (hc2 : w.cell? ⟨B2, 0, none⟩ = some (.int .i64 i)) :
    SeqStopsK Fence.wide n Try.prog 50 #[.pointer (some ⟨B1, 0, none⟩), .pointer (some ⟨B2, 0, none⟩)] (fun x : StpOf T i => encP x.1) (Below we.heap.size) (fun ys => ys.map (·.1) = stp T i) (fun pre => pre.map (·.1) <+: stp T i) (stp T i).length w := by
  intro l J Jx W hW hJ hJx hY h0
  refine (steps1_in n l gm q B1 B2 i S T we hM hT hq hS hi (fun ps X => ∃ xs : List (StpOf T i), xs.map (·.1) = ps ∧ J xs X) (fun ps X => ∃ xs : List (StpOf T i), xs.map (·.1) = ps ∧ Jx xs X)
    (fun pre A B h hg => by obtain ⟨xs, h1, h2⟩ := h; exact ⟨xs, h1, hJ xs A B none h2 hg (fun r e => by cases e)⟩) ?_ W (bl_then hb hW)
    ((hW.cell (p := ⟨B1, 0, none⟩) hB1).trans hc1) ((hW.cell (p := ⟨B2, 0, none⟩) hB2).trans hc2) ⟨[], rfl, h0⟩).mono ?_
  · rintro pre x X hx ⟨xs, rfl, hj⟩ hl
    refine (hY xs ⟨x, hx⟩ X hj (by simpa using hl)).mono (R' := _) ?_
    rintro e X' (⟨rfl, h1, h2⟩ | ⟨rfl, h1⟩)
    · exact .inl ⟨rfl, ⟨xs ++ [⟨x, hx⟩], by simp, h1⟩, h2⟩
    · exact .inr ⟨rfl, ⟨xs ++ [⟨x, hx⟩], by simp, h1⟩⟩
  · rintro e X ⟨hv, ⟨ys, rfl, xs, h1, h2⟩ | ⟨pre, hp, xs, h1, h2⟩⟩
    · exact ⟨hv, .inl ⟨xs, h1, h2⟩⟩
    · exact ⟨hv, .inr ⟨xs, by show _ <+: _; rw [h1]; exact hp, h2⟩⟩
theorem grown_trans {A B C : World} {b : Nat} {row : Option Nat} (h : A.grownBy B (some b)) (k : B.grownBy C row) (hr : ∀ r, row = some r → r = b ∨ A.heap.size ≤ r) : A.grownBy C (some b) := by
  refine ⟨k.os.trans h.os, k.tape.trans h.tape, k.output.trans h.output, Nat.le_trans h.size k.size, fun j hj hne => ?_⟩
  refine (k.block j (Nat.lt_of_lt_of_le hj h.size) ?_).trans (h.block j hj hne)
  intro e
  rcases hr j e.symm with h1 | h1
  · exact hne (by rw [h1])
  · omega
theorem grown_refl (A : World) (row : Option Nat) : A.grownBy A row := ⟨rfl, rfl, rfl, Nat.le_refl _, fun _ _ _ => rfl⟩
theorem grown_alloc (A : World) (o : Obj) (row : Option Nat) : A.grownBy (A.alloc o) row := World.grownBy_alloc A o row
/-- The boxes that the visit has captured. -/
structure VEnv (we : World) (gm Bk Bm Bv bK : Nat) (W : World) : Prop where
  k : Boxed W Bk 67 (.map (some bK))
  m : Boxed W Bm 56 (.pointer (some ⟨gm, 0, none⟩))
  v : Boxed W Bv 68 (.func (.func 66) #[] #[.pointer (some ⟨Bk, 0, none⟩), .pointer (some ⟨Bm, 0, none⟩), .pointer (some ⟨Bv, 0, none⟩)])
  b : Below we.heap.size we W
  hk : we.heap.size ≤ bK
theorem VEnv.kept {we : World} {gm Bk Bm Bv bK : Nat} {W W' : World} {row : Option Nat} (h : VEnv we gm Bk Bm Bv bK W) (hg : W.grownBy W' row) (hr : ∀ r, row = some r → (r ≠ Bk ∧ r ≠ Bm ∧ r ≠ Bv) ∧ we.heap.size ≤ r) : VEnv we gm Bk Bm Bv bK W' := by
  refine ⟨h.k.kept hg ?_, h.m.kept hg ?_, h.v.kept hg ?_, h.b.grown hg h.b.size (fun r e => (hr r e).2), h.hk⟩
  · intro e; exact (hr Bk e.symm).1.1 rfl
  · intro e; exact (hr Bm e.symm).1.2.1 rfl
  · intro e; exact (hr Bv e.symm).1.2.2 rfl
theorem boxed_ne {W : World} {B r : Nat} {t : TypeId} {u : Value} (h : Boxed W B t u) {o : Obj} (ho : W.heap[r]? = some o) (hc : o.isCells = false) : r ≠ B := by
  rintro rfl
  unfold Boxed at h
  rw [h] at ho
  cases ho
  cases hc
theorem VEnv.other {we : World} {gm Bk Bm Bv bK : Nat} {W : World} (h : VEnv we gm Bk Bm Bv bK W) {r : Nat} {o : Obj} (ho : W.heap[r]? = some o) (hc : o.isCells = false) : r ≠ Bk ∧ r ≠ Bm ∧ r ≠ Bv :=
  ⟨boxed_ne h.k ho hc, boxed_ne h.m ho hc, boxed_ne h.v ho hc⟩
theorem VEnv.lt {we : World} {gm Bk Bm Bv bK : Nat} {W : World} (h : VEnv we gm Bk Bm Bv bK W) : Bk < W.heap.size ∧ Bm < W.heap.size ∧ Bv < W.heap.size := ⟨h.k.lt, h.m.lt, h.v.lt⟩
/-- What a visit comes to. -/
def VPost (T : Tab) (n C bK i : Nat) (st : List Nat) (K : Nat → Option Int) (W : World) (e : Ending) (W' : World) : Prop :=
  ∃ (v : Int) (K' : Nat → Option Int) (cnt' : Nat), e = .returned (.int .i64 v) ∧ ((i ∈ st ∧ v = -1) ∨ Lng T i v) ∧ Known T n K' st ∧ (∀ k u, K k = some u → (K' k).isSome = true) ∧ MapF kindII W' bK cnt' (mapN K') ∧ cnt' + 2 * freeK n K' ≤ C ∧ W.grownBy W' (some bK)

set_option maxRecDepth 100000 in
theorem visit_known (gm Bk Bm Bv bK n C i cnt : Nat) (T : Tab) (we : World) (K : Nat → Option Int) (st : List Nat) (W : World) (u : Int) (hKi : K i = some u) (hi : i < 1000) (hK : Known T n K st) (hE : VEnv we gm Bk Bm Bv bK W) (hm : MapF kindII W bK cnt (mapN K)) (hcnt : cnt + 2 * freeK n K ≤ C) :
    Calls Try.prog 66 #[.int .i64 i, .pointer (some ⟨Bk, 0, none⟩), .pointer (some ⟨Bm, 0, none⟩), .pointer (some ⟨Bv, 0, none⟩)] W (VPost T n C bK i st K W) := by
  have c1 := hE.k.cell
  obtain ⟨l1, l2, l3⟩ := hE.lt
  have lk := hm.look_ok (x := (i : Int)) (WalkArith.wf_i64 (by omega))
  dsimp only [kindII] at lk
  rw [mapN_at, hKi] at lk
  simp only [Option.getD_some, Option.isSome_some] at lk
  have hres : ∃ v : Int, max u (-1) = v ∧ ((i ∈ st ∧ v = -1) ∨ Lng T i v) := by
    rcases hK.old i u hKi with ⟨rfl, h⟩ | h
    · exact ⟨-1, rfl, .inl ⟨h, rfl⟩⟩
    · exact ⟨u, by have := h.ge; omega, .inr h⟩
  obtain ⟨v, hv, hr⟩ := hres
  have HR := Lib.hid hr
  have HK := Lib.hid hK
  have HM := Lib.hid hm
  clear hr hK hm hE hKi
  go_enter Try.func66, Try.ntmps66
  go_wp2_with fail
  go_ret
  exact ⟨v, K, cnt, rfl, HR.out, HK.out, (fun k u h => by rw [h]; rfl), HM.out, hcnt, grown_refl _ _⟩

theorem Best.le {T : Tab} {n q : Nat} {pre : List (Nat × Nat)} {M : Int} (h : Best T pre M) (hT : TabOk T n q) (hp : ∀ p ∈ pre, p.2 < n) : 0 ≤ M ∧ M ≤ n := by
  obtain ⟨N, rfl, h1, _⟩ := h
  refine ⟨by omega, ?_⟩
  rcases h1 with rfl | ⟨p, hm, hl⟩
  · omega
  · have := hl.few hT (hp p hm)
    omega
theorem MapF.turn {α β : Type} {mk : MapKind Try.prog α β} {b n : Nat} {f : α → Option β} {w w' : World} {row : Option Nat} (h : MapF mk w b n f) (hg : w.grownBy w' row) (hr : ∀ r, row = some r → b < r) : MapF mk w' b n f :=
  h.kept hg fun e => by have := hr b e.symm; omega
theorem vpost_end {T : Tab} {n q C bK i cnt' D : Nat} {st : List Nat} {K K' : Nat → Option Int} {W Wd w5 : World} {M : Int} (hKn : Known T n K' (i :: st)) (hK : Known T n K st) (hKi : K i = none) (hi : i < n)
    (i2 : ∀ k u, setK K i (-2) k = some u → (K' k).isSome = true) (i4 : cnt' + 2 * freeK n K' ≤ C - 1) (hC : 1 ≤ C) (hL : Lng T i M)
    (s5 : MapF kindII w5 bK (cnt' + 1) (fun u => if u = (i : Int) then some M else mapN K' u)) (hg5 : Wd.grownBy w5 (some bK)) (i8 : W.grownBy Wd (some bK)) (hD : W.heap.size ≤ D) (hDb : bK < D) :
    VPost T n C bK i st K W (.returned (.int .i64 M)) (w5.putObj D (.deferred none)) := by
  have hg6 := grownBy_putObj' w5 D (.deferred none)
  refine ⟨M, setK K' i M, cnt' + 1, rfl, .inr hL, hKn.leave hi (fun h => ?_) hL, fun k u hk => ?_, (s5.same (mapN_set K' i M)).turn hg6 (fun r e => by cases e; exact hDb), ?_, ?_⟩
  · have := hK.way i h
    rw [hKi] at this
    cases this
  · by_cases e : k = i
    · rw [e, setK_same]; rfl
    · rw [setK_other _ _ e]
      exact i2 k u (by rw [setK_other _ _ e]; exact hk)
  · have := free_le (n := n) (K := K') (K' := setK K' i M) (fun k v hk => by
      by_cases e : k = i
      · rw [e, setK_same]; rfl
      · rw [setK_other _ _ e, hk]; rfl)
    omega
  · exact grown_trans (grown_trans i8 hg5 (fun r e => .inl (by cases e; rfl))) hg6 (fun r e => .inr (by cases e; exact hD))
/-- Between two letters; where it has been left. -/
def VInv (we : World) (gm Bk Bm Bv bK Bt : Nat) (T : Tab) (n C : Nat) (st : List Nat) (K : Nat → Option Int) (W0 : World) (pre : List (Nat × Nat)) (W : World) : Prop :=
  ∃ (K' : Nat → Option Int) (cnt' : Nat) (M : Int), Known T n K' st ∧ (∀ k u, K k = some u → (K' k).isSome = true) ∧ MapF kindII W bK cnt' (mapN K') ∧ cnt' + 2 * freeK n K' ≤ C ∧ Boxed W Bt 3 (.int .i64 M) ∧ Best T pre M ∧ VEnv we gm Bk Bm Bv bK W ∧ W0.grownBy W (some bK)
def VOut (we : World) (gm Bk Bm Bv bK Bt : Nat) (T : Tab) (n C i : Nat) (st : List Nat) (K : Nat → Option Int) (W0 : World) (W : World) : Prop :=
  ∃ (K' : Nat → Option Int) (cnt' : Nat), Known T n K' st ∧ (∀ k u, K k = some u → (K' k).isSome = true) ∧ MapF kindII W bK cnt' (mapN K') ∧ cnt' + 2 * freeK n K' ≤ C ∧ Boxed W Bt 3 (.int .i64 (-1)) ∧ (∀ m, can T m i = true) ∧ VEnv we gm Bk Bm Bv bK W ∧ W0.grownBy W (some bK)
theorem VInv.own {we : World} {gm Bk Bm Bv bK Bt : Nat} {T : Tab} {n C i B : Nat} {st : List Nat} {K : Nat → Option Int} {W0 : World} (hB : bK < B) (hB0 : W0.heap.size ≤ B) (hBw : we.heap.size ≤ B) :
    OwnFrom B (fun (pre : List (StpOf T i)) W => VInv we gm Bk Bm Bv bK Bt T n C st K W0 (pre.map (·.1)) W) := by
  rintro s A D row ⟨K', c, M, h1, h2, h3, h4, h5, h6, h7, h8⟩ hg hr
  refine ⟨K', c, M, h1, h2, h3.turn hg (fun r e => by have := (hr r e).1; omega), h4, h5.kept hg (fun e => ?_), h6, h7.kept hg (fun r e => ?_), grown_trans h8 hg (fun r e => .inr (by have := (hr r e).1; omega))⟩
  · obtain ⟨_, o, ho, hc⟩ := hr Bt e.symm
    exact boxed_ne h5 ho hc rfl
  · obtain ⟨h9, o, ho, hc⟩ := hr r e
    exact ⟨h7.other ho hc, by omega⟩
theorem VOut.own {we : World} {gm Bk Bm Bv bK Bt : Nat} {T : Tab} {n C i B : Nat} {st : List Nat} {K : Nat → Option Int} {W0 : World} (c : Code) (hB : bK < B) (hB0 : W0.heap.size ≤ B) (hBw : we.heap.size ≤ B) :
    OwnFrom B (fun (pre : List (StpOf T i)) W => c = .exit 0 ∧ VOut we gm Bk Bm Bv bK Bt T n C i st K W0 W) := by
  rintro s A D row ⟨hc0, K', c, h1, h2, h3, h4, h5, h6, h7, h8⟩ hg hr
  refine ⟨hc0, K', c, h1, h2, h3.turn hg (fun r e => by have := (hr r e).1; omega), h4, h5.kept hg (fun e => ?_), h6, h7.kept hg (fun r e => ?_), grown_trans h8 hg (fun r e => .inr (by have := (hr r e).1; omega))⟩
  · obtain ⟨_, o, ho, hc⟩ := hr Bt e.symm
    exact boxed_ne h5 ho hc rfl
  · obtain ⟨h9, o, ho, hc⟩ := hr r e
    exact ⟨h7.other ho hc, by omega⟩

set_option maxRecDepth 100000 in
set_option maxHeartbeats 4000000 in
theorem visit_calls (gm q Bk Bm Bv bK : Nat) (S : List Str) (T : Tab) (we : World) (hM : MachAt we gm q S T) (hT : TabOk T S.length q) (hq : q ≤ 3) (hS : S.length ≤ 121) :
    ∀ (f C i cnt : Nat) (K : Nat → Option Int) (st : List Nat) (W : World), freeK S.length K ≤ f → C ≤ 1000 → i < S.length → Known T S.length K st → (∀ s ∈ st, ∃ m, PathN T m s i) → VEnv we gm Bk Bm Bv bK W → MapF kindII W bK cnt (mapN K) → cnt + 2 * freeK S.length K ≤ C →
      Calls Try.prog 66 #[.int .i64 i, .pointer (some ⟨Bk, 0, none⟩), .pointer (some ⟨Bm, 0, none⟩), .pointer (some ⟨Bv, 0, none⟩)] W (VPost T S.length C bK i st K W) := by
  intro f
  induction f with
  | zero =>
    intro C i cnt K st W hf hC hi hK hst hE hm hcnt
    cases hKi : K i with
    | some u => exact visit_known gm Bk Bm Bv bK S.length C i cnt T we K st W u hKi (by omega) hK hE hm hcnt
    | none => exact absurd (free_set (-2) hi hKi) (by omega)
  | succ f ih =>
    intro C i cnt K st W hf hC hi hK hst hE hm hcnt
    cases hKi : K i with
    | some u => exact visit_known gm Bk Bm Bv bK S.length C i cnt T we K st W u hKi (by omega) hK hE hm hcnt
    | none =>
      have hdd : ∀ k : Nat, (Fence.wide.depth.isSome = true → 1 ≤ k) := fun k h => by cases h
      have hfr := free_set (-2) hi hKi
      have c1 := hE.k.cell
      have c2 := hE.m.cell
      have c3 := hE.v.cell
      obtain ⟨l1, l2, l3⟩ := hE.lt
      have hwf : (Lit.int .i64 (i : Int)).wf = true := WalkArith.wf_i64 (by omega)
      have lk := hm.look_ok (x := (i : Int)) hwf
      dsimp only [kindII] at lk
      rw [mapN_at, hKi] at lk
      simp only [Option.getD_none, Option.isSome_none] at lk
      obtain ⟨w1, s1, hm1, hg1⟩ := hm.store (x := (i : Int)) (y := -2) hwf (WalkArith.wf_i64 (by omega)) (by unfold maxLen; omega)
      have hm1 := hm1.same (mapN_set K i (-2))
      dsimp only [kindII] at s1
      obtain ⟨es, clock, hmb⟩ := hm.block
      have hE1 := hE.kept hg1 (fun r e => by cases e; exact ⟨hE.other hmb rfl, hE.hk⟩)
      have d1 := hE1.k.cell
      have d2 := hE1.m.cell
      have d3 := hE1.v.cell
      obtain ⟨k1, k2, k3⟩ := hE1.lt
      have hK1 := hK.enter hi hKi
      have ST := Lib.hid fun n W => steps_in n gm i W
      have HE1 := Lib.hid hE1
      have HM1 := Lib.hid hm1
      have HG1 := Lib.hid hg1
      have HK1 := Lib.hid hK1
      have HK := Lib.hid hK
      have HST := Lib.hid hst
      have hbk : bK < w1.heap.size := hm1.lt
      have hs1 := hg1.size
      have hwe := hE1.b.size
      clear hE hm hE1 hm1 hg1 hK1 hK hst hmb
      refine (callsIn_wide (n := 9)).1 ?_
      refine callsIn_of_wp_marks Try.func66 rfl trivial ?_ rfl
      simp only [Try.ntmps66, List.size_toArray, List.length_cons, List.length_nil, Nat.reduceAdd, Nat.reduceSub, Array.replicate_succ, Array.replicate_zero, List.push_toArray, List.append_toArray, List.nil_append, List.cons_append]
      gi_wp2_with fail
      refine ⟨trivial, ?_⟩
      refine (ST.out _ _).mono ?_
      rintro e w2 ⟨rfl, rfl⟩
      obtain ⟨W3, hW3⟩ : ∃ W3, W3 = ((w1.alloc (.cells #[.int .i64 0] 3)).alloc (.cells #[.pointer (some ⟨gm, 0, none⟩)] 56)).alloc (.cells #[.int .i64 i] 3) := ⟨_, rfl⟩
      have hz3 : W3.heap.size = w1.heap.size + 3 := by rw [hW3]; simp
      have bx0 : Boxed W3 w1.heap.size 3 (.int .i64 0) := by rw [hW3]; exact ((Boxed.new w1 _ _).alloc _).alloc _
      have bx1 : Boxed W3 (w1.heap.size + 1) 56 (.pointer (some ⟨gm, 0, none⟩)) := by
        have := Boxed.new (w1.alloc (.cells #[.int .i64 0] 3)) 56 (.pointer (some ⟨gm, 0, none⟩))
        rw [World.size_alloc] at this
        rw [hW3]; exact this.alloc _
      have bx2 : Boxed W3 (w1.heap.size + 2) 3 (.int .i64 i) := by
        have := Boxed.new ((w1.alloc (.cells #[.int .i64 0] 3)).alloc (.cells #[.pointer (some ⟨gm, 0, none⟩)] 56)) 3 (.int .i64 i)
        rw [World.size_alloc, World.size_alloc] at this
        rw [hW3]; exact this
      have hb13 : Below w1.heap.size w1 W3 := by rw [hW3]; exact bl_alloc (bl_alloc (bl_alloc (bl_refl w1) _) _) _
      have hE3 := HE1.out.kept (row := none) ⟨hb13.os, hb13.tape, hb13.output, hb13.size, fun k hk _ => hb13.block k hk⟩ (fun r e => by cases e)
      have hm3 := HM1.out.below hb13
      have hg3 : W.grownBy W3 (some bK) := grown_trans HG1.out (row := none) ⟨hb13.os, hb13.tape, hb13.output, hb13.size, fun k hk _ => hb13.block k hk⟩ (fun r e => by cases e)
      gi_wp2
      rw [← hW3]
      clear hW3
      refine wpIn_rangeFunc_ownG (w0 := W3) rfl (by omega) (gf := 50) (lb := #[.pointer (some ⟨w1.heap.size + 1, 0, none⟩), .pointer (some ⟨w1.heap.size + 1 + 1, 0, none⟩)]) rfl trivial (enters_of Try.func50 (by kernel_rfl) rfl)
        (steps_stops 8 gm q (w1.heap.size + 1) (w1.heap.size + 1 + 1) i S T we W3 hM hT hq hS hi hE3.b (by omega) bx1.cell (by omega) bx2.cell) belowK_t (belowK_b (by omega)) (Below.refl _ _) (fun _ => rfl)
        (fun pre W' => VInv we gm Bk Bm Bv bK w1.heap.size T S.length (C - 1) (i :: st) (setK K i (-2)) W (pre.map (·.1)) W')
        (fun c pre W' => c = .exit 0 ∧ VOut we gm Bk Bm Bv bK w1.heap.size T S.length (C - 1) i (i :: st) (setK K i (-2)) W W')
        (VInv.own (by omega) (by omega) (by omega)) (fun c => VOut.own c (by omega) (by omega) (by omega))
        ⟨setK K i (-2), cnt + 1, 0, HK1.out, (fun k u h => by rw [h]; rfl), hm3, by omega, bx0, Best.start T, hE3, hg3⟩
        (fun x => { tmps := #[.int .i64 i, .pointer (some ⟨Bk, 0, none⟩), .pointer (some ⟨Bm, 0, none⟩), .pointer (some ⟨Bv, 0, none⟩), undef, .int .i64 0, .int .i64 0, .bool false, .pointer (some ⟨w1.heap.size, 0, none⟩), undef, .int .i64 x.1.2, undef,
          .tuple #[.int .i64 0, .bool false], .map (some bK), .int .i64 i, .tuple #[.int .i64 0, .bool false], .int .i64 0, .bool false, .bool false, undef, undef, .map (some bK), .int .i64 i, .pointer (some ⟨gm, 0, none⟩), .int .i64 i,
          .func (.func 50) #[] #[.pointer (some ⟨w1.heap.size + 1, 0, none⟩), .pointer (some ⟨w1.heap.size + 1 + 1, 0, none⟩)], .string (bs [ltr x.1.1]), .int .i64 x.1.2, undef, undef, undef, undef, undef, undef, undef, undef, undef, undef, undef, undef, undef], defers := [] }) ?assign ?body ?done ?stop
      case assign =>
        intro l x X K hK
        dsimp only [encP]
        gi_wp2
        exact hK
      case body =>
        rintro l pre ⟨⟨c, j⟩, hmem⟩ X ⟨K', cnt', M, i1, i2, i3, i4, i5, i6, i7, i8⟩ _
        dsimp only
        obtain ⟨hcq, hjn⟩ := hT.stp hi hmem
        have hdd : ∀ k : Nat, (Fence.wide.depth.isSome = true → 1 ≤ k) := fun k h => by cases h
        have I := Lib.hid fun n => (CallsIn.inRound l ((callsIn_wide (n := n)).2 (ih (C - 1) j cnt' K' (i :: st) X (by
          have := free_le (n := S.length) i2
          omega) (by omega) hjn i1 (by
            intro s hs
            rcases List.mem_cons.1 hs with rfl | hs
            · exact ⟨1, c, j, hmem, rfl⟩
            · obtain ⟨m, hp⟩ := HST.out s hs
              exact ⟨m + 1, hp.snoc hmem⟩) i7 i3 i4)))
        have e1 := i7.v.cell
        have e2 := i5.cell
        have e3 := i5.frozen
        have e4 := i5.lt
        have I5 := Lib.hid i5
        have I6 := Lib.hid i6
        have I7 := Lib.hid i7
        have I8 := Lib.hid i8
        have I1 := Lib.hid i1
        have I2 := Lib.hid i2
        have hMb := i6.le hT (fun p hp => by
          obtain ⟨y, _, rfl⟩ := List.mem_map.1 hp
          exact (hT.stp hi y.2).2)
        obtain ⟨es', clock', hmb'⟩ := i3.block
        have hbK : bK < X.heap.size := i3.lt
        have hne : w1.heap.size ≠ bK := by omega
        have i9 := i7.hk
        obtain ⟨z1, z2, z3⟩ := HE1.out.lt
        clear i1 i2 i3 i4 i5 i6 i7 i8
        gi_wp2_with fail
        refine ⟨trivial, ?_⟩
        refine (I.out _).mono ?_
        rintro e Y ⟨v, K2, cnt2, rfl, r1, r2, r3, r4, r5, r6⟩
        have y5 := I5.out.kept r6 (by simp; omega)
        have y7 := I7.out.kept r6 (fun r e => by cases e; exact ⟨I7.out.other hmb' rfl, i9⟩)
        have y8 := grown_trans I8.out r6 (fun r e => .inl (by cases e; rfl))
        have yk : KeepsFrom W3.heap.size X Y := KeepsFrom.of_grownBy r6 (fun q e => by cases e; omega)
        have yb : Below we.heap.size X Y := (Below.refl we.heap.size X).grown r6 (by have := I7.out.b.size; omega) (fun q e => by cases e; exact i9)
        have f2 := y5.cell
        have f3 := y5.frozen
        have f4 := y5.lt
        by_cases hv : v < 0
        · have hend : ∀ m, can T m i = true := by
            rcases r1 with ⟨h1, _⟩ | h1
            · obtain ⟨m, hp⟩ : ∃ m, PathN T m j i := by
                rcases List.mem_cons.1 h1 with rfl | h2
                · exact ⟨0, rfl⟩
                · exact HST.out j h2
              exact PathN.endless (show PathN T (m + 1) i i from ⟨c, j, hmem, hp⟩)
            · rcases h1 with ⟨_, h2⟩ | ⟨m, h2, _⟩
              · exact endless_up hmem h2
              · omega
          have HE := Lib.hid hend
          have Z5 := Lib.hid (y5.set (.int .i64 (-1)))
          have Z7 := Lib.hid (y7.kept (grown_set Y w1.heap.size 0 (.int .i64 (-1))) (fun r e => by cases e; exact ⟨⟨by omega, by omega, by omega⟩, by omega⟩))
          have Z8 := Lib.hid (grown_trans y8 (grown_set Y w1.heap.size 0 (.int .i64 (-1))) (fun r e => .inr (by cases e; omega)))
          have Z3 := Lib.hid (r4.kept (grown_set Y w1.heap.size 0 (.int .i64 (-1))) (by simp; omega))
          have ZK := Lib.hid (yk.trans ((KeepsOthers.setCell Y ⟨w1.heap.size, 0, none⟩ (.int .i64 (-1))).from _))
          have R2 := Lib.hid r2
          have R3 := Lib.hid r3
          clear hend r1 r2 r3 r4 r6 y5 y7 y8 yk yb
          gi_wp2_with fail
          exact ⟨ZK.out, rfl, K2, cnt2, R2.out, (fun k u h => by obtain ⟨u', hu'⟩ := Option.isSome_iff_exists.1 (I2.out k u h); exact R3.out k u' hu'), Z3.out, r5, Z5.out, HE.out, Z7.out, Z8.out⟩
        · have hl : Lng T j v := by
            rcases r1 with ⟨_, h2⟩ | h2
            · omega
            · exact h2
          have hvb := hl.few hT hjn
          have HBN : Hid (Best T ((pre ++ ([⟨(c, j), hmem⟩] : List (StpOf T i))).map (·.1)) (max M (v + 1))) := by
            show Best _ _ _
            rw [List.map_append]
            exact I6.out.push hl (by omega)
          obtain ⟨MX, hMX⟩ : ∃ MX, max M (v + 1) = MX := ⟨_, rfl⟩
          rw [hMX] at HBN
          have Z5 := Lib.hid (y5.set (.int .i64 MX))
          have Z7 := Lib.hid (y7.kept (grown_set Y w1.heap.size 0 (.int .i64 MX)) (fun r e => by cases e; exact ⟨⟨by omega, by omega, by omega⟩, by omega⟩))
          have Z8 := Lib.hid (grown_trans y8 (grown_set Y w1.heap.size 0 (.int .i64 MX)) (fun r e => .inr (by cases e; omega)))
          have Z3 := Lib.hid (r4.kept (grown_set Y w1.heap.size 0 (.int .i64 MX)) (by simp; omega))
          have ZK := Lib.hid (yk.trans ((KeepsOthers.setCell Y ⟨w1.heap.size, 0, none⟩ (.int .i64 MX)).from _))
          have ZB := Lib.hid (yb.setCell (p := ⟨w1.heap.size, 0, none⟩) (by show _ ≤ w1.heap.size; omega) (.int .i64 MX))
          have R2 := Lib.hid r2
          have R3 := Lib.hid r3
          clear hl r1 r2 r3 r4 r6 y5 y7 y8 yk yb
          gi_wp2_with fail
          exact ⟨ZK.out, ZB.out, K2, cnt2, MX, R2.out, (fun k u h => by obtain ⟨u', hu'⟩ := Option.isSome_iff_exists.1 (I2.out k u h); exact R3.out k u' hu'), Z3.out, r5, Z5.out, HBN.out, Z7.out, Z8.out⟩
      case done =>
        rintro D xs X hD hxs ⟨K', cnt', M, i1, i2, i3, i4, i5, i6, i7, i8⟩ hKD
        have hMb := i6.le hT (fun p hp => by
          obtain ⟨y, _, rfl⟩ := List.mem_map.1 hp
          exact (hT.stp hi y.2).2)
        rw [hxs] at i6
        have hL := i6.all
        obtain ⟨w5, s5, hm5, hg5⟩ := i3.store (x := (i : Int)) (y := M) hwf (WalkArith.wf_i64 (by omega)) (by unfold maxLen; omega)
        dsimp only [kindII] at s5
        have e1 := i7.k.cell
        have e2 := i5.cell
        have e3 := i5.lt
        have y5 := i5.kept hg5 (by simp; omega)
        have f1 := i7.k.lt
        have f2 := y5.cell
        have f3 := y5.lt
        have hKD5 := (hg5.block D (Array.getElem?_eq_some_iff.1 hKD).1 (by simp; omega)).trans hKD
        have HF := Lib.hid (vpost_end (q := q) (D := D) i1 HK.out hKi hi i2 i4 (by omega) hL hm5 hg5 i8 (by omega) (by omega))
        have HKD := Lib.hid hKD5
        clear hxs i1 i2 i3 i4 i5 i6 i7 i8 hm5 hg5 hL y5 hKD hKD5
        gi_wp2_with fail
        refine ⟨by simp, .inl ⟨_, _, rfl, run_takeDeferred HKD.out, ?_⟩⟩
        refine ⟨_, results_tmp rfl _ _ _, ?_⟩
        exact HF.out
      case stop =>
        rintro D cc pre X hD hpre ⟨rfl, K', cnt', i1, i2, i3, i4, i5, i6, i7, i8⟩ hKD
        have hL : Lng T i (-1) := .inl ⟨rfl, i6⟩
        obtain ⟨w5, s5, hm5, hg5⟩ := i3.store (x := (i : Int)) (y := -1) hwf (WalkArith.wf_i64 (by omega)) (by unfold maxLen; omega)
        dsimp only [kindII] at s5
        have e1 := i7.k.cell
        have e2 := i5.cell
        have e3 := i5.lt
        have y5 := i5.kept hg5 (by simp; omega)
        have f1 := i7.k.lt
        have f2 := y5.cell
        have f3 := y5.lt
        have hKD5 := (hg5.block D (Array.getElem?_eq_some_iff.1 hKD).1 (by simp; omega)).trans hKD
        have HF := Lib.hid (vpost_end (q := q) (D := D) i1 HK.out hKi hi i2 i4 (by omega) hL hm5 hg5 i8 (by omega) (by omega))
        have HKD := Lib.hid hKD5
        clear hpre i1 i2 i3 i4 i5 i6 i7 i8 hm5 hg5 hL y5 hKD hKD5
        gi_wp2_with fail
        refine ⟨by simp, .inl ⟨_, _, rfl, run_takeDeferred HKD.out, ?_⟩⟩
        refine ⟨_, results_tmp rfl _ _ _, ?_⟩
        exact HF.out
end Go.Proofs.Ytnamafakjkcmjaa
