/-
  Few: which bridge a word is; what the choice holds.
-/
import Derived.Test.YtnamafakjkcmjaaT18
import Derived.StillTailTactics
namespace Go.Proofs.Ytnamafakjkcmjaa
open Go.RowKit Go.Shelf
set_option linter.unusedVariables false
set_option linter.unusedSimpArgs false

theorem Whole.load {w : World} {g : Nat} {t : TypeId} {cs : Array Value} {P : Program} {ty : TypeId} {d : TypeDesc} (h : Whole w g t cs) (hu : P.underlying ty = some d) (hd : (match d with | .struct _ | .array _ _ => true | _ => false) = true) (hi : (P.info? ty).map (·.size) = some cs.size) :
    (loadVar ty ⟨g, 0, none⟩).run P w = .ok (.agg cs) w := run_loadVar_row w g t ty cs (0, 0) d h hu hd hi
theorem res_cell {w : World} {g : Nat} {P : Program} {fn : Func} {p : Tmp} {ty : TypeId} {tmps : Array Value} {v : Value} (h : fn.results = #[.cell p ty]) (hp : tmps.getD p undef = .pointer (some ⟨g, 0, none⟩))
    (hl : (loadVar ty ⟨g, 0, none⟩).run P w = .ok v w) : (results fn tmps).run P w = .ok v w := by
  have hp' : tmps[p]?.getD undef = .pointer (some ⟨g, 0, none⟩) := by simpa using hp
  simp [results, h, hp', asAddr, hl]
theorem wrapI {a : Int} (h : -9223372036854775808 ≤ a ∧ a ≤ 9223372036854775807) : IntKind.i64.wrap a = a := by
  rw [IntKind.wrap_i64]; omega
set_option maxRecDepth 100000 in
set_option maxHeartbeats 4000000 in
theorem of_any (n Bn : Nat) (s : Str) (w : World) (hn : 1 ≤ n ∧ n ≤ 5) (hs : s.length = n) (hB : Bn < w.heap.size) (hc : w.cell? ⟨Bn, 0, none⟩ = some (.int .i64 n)) :
    Calls Try.prog 52 #[.string (bs s), .pointer (some ⟨Bn, 0, none⟩)] w fun e w' => e = .returned (brV (ofB n s)) ∧ Below w.heap.size w w' := by
  have hsz : (bs s).size = n := hs
  obtain ⟨m, hm⟩ : ∃ m, m = n - 1 := ⟨_, rfl⟩
  have e1 : (bs s).extract 0 m = bs (s.take (n - 1)) := by
    rw [hm]
    apply sb_inj
    unfold sb bs
    simp
  have e2 : (bs s).extract 1 n = bs (s.drop 1) := by
    apply sb_inj
    unfold sb bs
    simp
    exact List.take_of_length_le (by simp; omega)
  have hN1 : (n : Int) - 1 = (m : Int) := by omega
  have hN2 : IntKind.i64.wrap (n - 1) = (m : Int) := by rw [hN1]; exact wrapI (by omega)
  have h0 : (0 : Int) ≤ (m : Int) := by omega
  have h1 : (m : Int) ≤ (n : Int) := by omega
  have h2 : (1 : Int) ≤ (n : Int) := by omega
  clear hN1 hm
  go_enter Try.func52, Try.ntmps52
  go_wp2_with fail
  go_region_held3 (fun w' => w'.cell? ⟨Bn, 0, none⟩ = some (.int .i64 n)) (go_keep) (fail)
  go_wp2_with fail
  have hW : Whole (w.alloc (.cells #[.string (bs (s.take (n - 1))), .string (bs s.tail)] 93)).drew w.heap.size 93 #[.string (bs (s.take (n - 1))), .string (bs s.tail)] := (Whole.new w _ _).drewN 1
  refine bodyPost_ret (res_cell rfl rfl (hW.load Try.underlying93 rfl (by kernel_rfl))) rfl ?_
  refine ⟨?_, bl_drewN (bl_alloc (bl_refl w) _) 1⟩
  unfold brV ofB
  rw [List.drop_one]

/-! ### What the choice holds -/
theorem infoBr : (Try.prog.info? 93).map (fun i => (i.zero, i.size, i.bytes)) = some (some (.agg #[.string ⟨#[]⟩, .string ⟨#[]⟩]), 2, 32) := by kernel_rfl
theorem mem_addB {E : List Br} {b x : Br} : x ∈ addB E b ↔ x = b ∨ x ∈ E := by
  unfold addB
  by_cases h : b ∈ E
  · rw [if_pos h]
    exact ⟨.inr, fun h' => by rcases h' with rfl | h' <;> assumption⟩
  · rw [if_neg h, List.mem_cons]
theorem mem_delB {E : List Br} {b x : Br} : x ∈ delB E b ↔ x ∈ E ∧ x ≠ b := by
  unfold delB
  rw [List.mem_filter]
  simp
theorem brF_add (E : List Br) (b u : Br) : (if u = b then some true else brF E u) = brF (addB E b) u := by
  unfold brF
  by_cases e : u = b
  · rw [if_pos e, if_pos (mem_addB.2 (.inl e))]
  · rw [if_neg e]
    by_cases h : u ∈ E
    · rw [if_pos h, if_pos (mem_addB.2 (.inr h))]
    · rw [if_neg h, if_neg fun h' => by rcases mem_addB.1 h' with h' | h' <;> contradiction]
theorem brF_del (E : List Br) (b u : Br) : (if u = b then none else brF E u) = brF (delB E b) u := by
  unfold brF
  by_cases e : u = b
  · rw [if_pos e, if_neg fun h' => (mem_delB.1 h').2 e]
  · rw [if_neg e]
    by_cases h : u ∈ E
    · rw [if_pos h, if_pos (mem_delB.2 ⟨h, e⟩)]
    · rw [if_neg h, if_neg fun h' => h (mem_delB.1 h').1]
/-- The bridges are those of words of the rings, each once. -/
def BrOk (n : Nat) (R : List (List Str)) (E : List Br) : Prop := E.Nodup ∧ ∀ b ∈ E, ∃ w ∈ R.flatten, b = ofB n w
theorem BrOk.add {n : Nat} {R : List (List Str)} {E : List Br} {w : Str} (h : BrOk n R E) (hw : w ∈ R.flatten) : BrOk n R (addB E (ofB n w)) := by
  refine ⟨?_, fun b hb => ?_⟩
  · unfold addB
    split
    · exact h.1
    · rename_i hn
      exact List.nodup_cons.2 ⟨hn, h.1⟩
  · rcases mem_addB.1 hb with rfl | hb
    · exact ⟨w, hw, rfl⟩
    · exact h.2 b hb
theorem BrOk.del {n : Nat} {R : List (List Str)} {E : List Br} {b : Br} (h : BrOk n R E) : BrOk n R (delB E b) :=
  ⟨h.1.filter _, fun x hx => h.2 x (mem_delB.1 hx).1⟩
/-- Rings of words of n letters: few, and small. -/
structure RingsOk (n : Nat) (R : List (List Str)) : Prop where
  few : R.length ≤ 12
  small : ∀ r ∈ R, r.length ≤ 5
  word : ∀ r ∈ R, ∀ w ∈ r, w.length = n
theorem flat_le {α : Type} : ∀ {R : List (List α)} {c : Nat}, (∀ r ∈ R, r.length ≤ c) → R.flatten.length ≤ R.length * c
  | [], c, _ => by simp
  | r :: R, c, h => by
    have h1 := h r (List.mem_cons_self ..)
    have h2 := flat_le (R := R) (c := c) fun r hr => h r (List.mem_cons_of_mem _ hr)
    simp only [List.flatten_cons, List.length_append, List.length_cons, Nat.succ_mul]
    omega
theorem BrOk.sizes {n : Nat} {R : List (List Str)} {E : List Br} (h : BrOk n R E) (hR : RingsOk n R) (hn : n ≤ 5) : (∀ b ∈ E, b.1.length ≤ 100 ∧ b.2.length ≤ 100) ∧ E.length ≤ 1000 := by
  constructor
  · intro b hb
    obtain ⟨w, hw, rfl⟩ := h.2 b hb
    obtain ⟨r, hr, hwr⟩ := List.mem_flatten.1 hw
    have := hR.word r hr w hwr
    unfold ofB
    simp
    omega
  · have h1 : E.length ≤ (R.flatten.map (ofB n)).length := nodup_le h.1 fun b hb => by
      obtain ⟨w, hw, rfl⟩ := h.2 b hb
      exact List.mem_map.2 ⟨w, hw, rfl⟩
    have h2 := flat_le hR.small
    have h3 := hR.few
    rw [List.length_map] at h1
    have h4 : R.length * 5 ≤ 12 * 5 := Nat.mul_le_mul_right 5 h3
    omega
/-- Where the captured things lie. -/
structure CPar where
  w0 : World
  B0 : Nat
  n : Nat
  Bn : Nat
  Ba : Nat
  Bl : Nat
  Bo : Nat
  Bu : Nat
  Bc : Nat
  bL : Nat
  gA : Nat
  cA : Nat
  hdrs : List Value
  R : List (List Str)
structure CAt (c : CPar) (W : World) (s : Cs) : Prop where
  low : Below c.w0.heap.size c.w0 W
  a : Boxed W c.Ba 89 (.slice (some ⟨c.gA, 0, none⟩) c.R.length c.cA)
  l : Boxed W c.Bl 91 (.map (some c.bL))
  o : Boxed W c.Bo 94 (.func (.func 52) #[] #[.pointer (some ⟨c.Bn, 0, none⟩)])
  nn : Boxed W c.Bn 3 (.int .i64 c.n)
  ch : Boxed W c.Bc 95 (.func (.func 53) #[] #[.pointer (some ⟨c.Ba, 0, none⟩), .pointer (some ⟨c.Bl, 0, none⟩), .pointer (some ⟨c.Bo, 0, none⟩), .pointer (some ⟨c.Bu, 0, none⟩), .pointer (some ⟨c.Bc, 0, none⟩)])
  u : ∃ v, Boxed W c.Bu 22 v ∧ W.ownsRow c.B0 9 1 v s.out.length (encS s.out)
  hd : W.ownsRow c.w0.heap.size 22 1 (.slice (some ⟨c.gA, 0, none⟩) c.R.length c.cA) c.R.length c.hdrs
  rw : RowsV W c.B0 9 c.hdrs (c.R.map encS)
  m : MapF kindBB W c.bL s.cnt (brF s.E)
  b0 : c.w0.heap.size ≤ c.B0
  b1 : c.B0 ≤ W.heap.size
  bl : c.w0.heap.size ≤ c.bL
  bu : c.w0.heap.size ≤ c.Bu
  ne : c.Bu ≠ c.gA
  br : BrOk c.n c.R s.E
theorem CAt.below {c : CPar} {W W' : World} {s : Cs} (h : CAt c W s) (hb : Below W.heap.size W W') : CAt c W' s := by
  obtain ⟨v, hv, ho⟩ := h.u
  exact ⟨h.low.trans (hb.mono h.low.size), boxed_below h.a hb, boxed_below h.l hb, boxed_below h.o hb, boxed_below h.nn hb, boxed_below h.ch hb, ⟨v, boxed_below hv hb, own_kept ho hb⟩, own_kept h.hd hb, h.rw.kept hb, h.m.below hb, h.b0, Nat.le_trans h.b1 hb.size, h.bl, h.bu, h.ne, h.br⟩
/-- The map of bridges has turned. -/
theorem CAt.turn {c : CPar} {W W' : World} {s : Cs} {E' : List Br} {cnt' : Nat} (h : CAt c W s) (hm : MapF kindBB W' c.bL cnt' (brF E')) (hg : W.grownBy W' (some c.bL)) (hbr : BrOk c.n c.R E') : CAt c W' ⟨E', s.out, cnt'⟩ := by
  obtain ⟨v, hv, ho⟩ := h.u
  obtain ⟨es, clock, hb⟩ := h.m.block
  have hne : ∀ {B : Nat} {t : TypeId} {u : Value}, Boxed W B t u → some B ≠ some c.bL := fun hx e => boxed_ne hx hb rfl (by simpa using e.symm)
  exact ⟨h.low.grown hg h.low.size (fun k e => by cases e; exact h.bl), h.a.kept hg (hne h.a), h.l.kept hg (hne h.l), h.o.kept hg (hne h.o), h.nn.kept hg (hne h.nn), h.ch.kept hg (hne h.ch), ⟨v, hv.kept hg (hne hv), own_nc ho hb rfl hg⟩, own_nc h.hd hb rfl hg,
    h.rw.grown hg (fun r hr => .inr (by cases hr; intro cur h6; rw [hb] at h6; cases h6)), hm, h.b0, Nat.le_trans h.b1 hg.size, h.bl, h.bu, h.ne, hbr⟩
theorem CAt.add {c : CPar} {W : World} {s : Cs} {w : Str} (h : CAt c W s) (hR : RingsOk c.n c.R) (hn : c.n ≤ 5) (hw : w ∈ c.R.flatten) (hc : s.cnt < 1000000000000) :
    ∃ W', (Instr.mapUpdate 91 (.map (some c.bL)) (brV (ofB c.n w)) (.bool true)).run Try.prog W = .ok () W' ∧ CAt c W' ⟨addB s.E (ofB c.n w), s.out, s.cnt + 1⟩ := by
  have hok : kindBB.okK (ofB c.n w) := by
    obtain ⟨r, hr, hwr⟩ := List.mem_flatten.1 hw
    have := hR.word r hr w hwr
    show okBr _
    unfold okBr ofB maxLen
    simp
    omega
  obtain ⟨W', hr, hm, hg⟩ := h.m.store (y := true) hok trivial (by unfold maxLen; omega)
  exact ⟨W', hr, h.turn (hm.same (brF_add _ _)) hg (h.br.add hw)⟩
theorem CAt.del {c : CPar} {W : World} {s : Cs} {w : Str} (h : CAt c W s) (hR : RingsOk c.n c.R) (hn : c.n ≤ 5) (hw : w ∈ c.R.flatten) (ty : TypeId) :
    ∃ W', (Builtin.delete_ #[91, 93] ty #[.map (some c.bL), brV (ofB c.n w)]).run Try.prog W = .ok (.tuple #[]) W' ∧ CAt c W' ⟨delB s.E (ofB c.n w), s.out, s.cnt⟩ := by
  have hok : kindBB.okK (ofB c.n w) := by
    obtain ⟨r, hr, hwr⟩ := List.mem_flatten.1 hw
    have := hR.word r hr w hwr
    show okBr _
    unfold okBr ofB maxLen
    simp
    omega
  obtain ⟨W', hr, hm, hg⟩ := h.m.drop (x := ofB c.n w) hok ty
  exact ⟨W', hr, h.turn (hm.same (brF_del _ _)) hg h.br.del⟩
/-- The chosen words have turned: a row of their own, and its box. -/
theorem CAt.chosen {c : CPar} {W W' : World} {s : Cs} {out' : List Str} {v v' : Value} (h : CAt c W s) (hv : Boxed W c.Bu 22 v) (ho : W.ownsRow c.B0 9 1 v s.out.length (encS s.out)) (hg : W.grownBy W' v.ownBlock) (ho' : W'.ownsRow c.B0 9 1 v' out'.length (encS out')) :
    CAt c (W'.setCell ⟨c.Bu, 0, none⟩ v') ⟨s.E, out', s.cnt⟩ := by
  have hx : ∀ {B : Nat} {t : TypeId} {x : Value}, Boxed W B t x → t ≠ 9 → Boxed W' B t x := fun hB ht => hB.kept hg (hB.not_row ht ho)
  have hvu := hx hv (by decide)
  have hset := grown_set W' c.Bu 0 v'
  have hy : ∀ {B : Nat} {t : TypeId} {x : Value}, Boxed W' B t x → t ≠ 22 → Boxed (W'.setCell ⟨c.Bu, 0, none⟩ v') B t x := fun {B} {t} {x} hB ht => hB.kept hset (fun e => by
    have e2 : B = c.Bu := by simpa using e
    rw [e2] at hB
    unfold Boxed at hB hvu
    rw [hvu] at hB
    injection hB with hB
    injection hB with _ hB
    exact ht hB.symm)
  have hlow : Below c.w0.heap.size c.w0 W' := h.low.grown hg h.low.size (fun k e => by have := (ho.lt k e).1; have := h.b0; omega)
  have hmW : MapF kindBB W' c.bL s.cnt (brF s.E) := h.m.kept hg (h.m.ne_own ho)
  have hoh : W'.ownsRow c.w0.heap.size 22 1 (.slice (some ⟨c.gA, 0, none⟩) c.R.length c.cA) c.R.length c.hdrs := own_other h.hd ho (by decide) hg
  have hrw : RowsV W' c.B0 9 c.hdrs (c.R.map encS) := h.rw.grown hg (fun r hr => .inl (ho.lt r hr).1)
  refine ⟨hlow.grown hset hlow.size (fun k e => by cases e; exact h.bu), hy (hx h.a (by decide)) (by decide), hy (hx h.l (by decide)) (by decide), hy (hx h.o (by decide)) (by decide), hy (hx h.nn (by decide)) (by decide), hy (hx h.ch (by decide)) (by decide), ⟨v', hvu.set v', ?_⟩, ?_, ?_, ?_, h.b0, ?_, h.bl, h.bu, h.ne, h.br⟩
  · exact ho'.kept hset (own_ne ho' (boxed_typ hvu (by decide)))
  · refine hoh.kept hset (.inr fun e => h.ne ?_)
    simpa [Value.ownBlock] using e.symm
  · exact hrw.grown hset (fun r hr => .inr (by cases hr; exact boxed_typ hvu (by decide)))
  · refine hmW.kept hset fun e => ?_
    obtain ⟨es, clock, hb⟩ := hmW.block
    exact boxed_ne hvu hb rfl (by simpa using e)
  · exact Nat.le_trans (Nat.le_trans h.b1 hg.size) hset.size
end Go.Proofs.Ytnamafakjkcmjaa
