/-
  Maps whose keys are bridges, and maps whose elements are slices; what comes out of a map that is ranged over.
-/
import Derived.Test.YtnamafakjkcmjaaMB
import Derived.Test.YtnamafakjkcmjaaT10
import Derived.Maps.RangeWalk
import Derived.Sort.MapsRangeIn
import Derived.DeepKeys5
import Derived.Deep.RegionHeld3
import Derived.Deep.AppendLies
namespace Go.Proofs.Ytnamafakjkcmjaa
open Go.RowKit Go.Shelf
open Go.Maps (Keyed string_keyed int_keyed)
set_option linter.unusedVariables false
set_option linter.unusedSimpArgs false

theorem keyed_br : Keyed Try.prog 93 :=
  Keyed.of_law (deep_law_gate (by kernel_rfl) (by simp) (by simp) (by kernel_rfl) (by rw [Try.underlying93]))
theorem cellsB : Try.prog.cellsOf 93 = 2 := by kernel_rfl
theorem cellsStr : Try.prog.cellsOf 9 = 1 := by kernel_rfl
def brV (b : Br) : Value := .agg #[.string (bs b.1), .string (bs b.2)]
def okBr (b : Br) : Prop := b.1.length ≤ maxLen ∧ b.2.length ≤ maxLen
theorem key_br (b : Br) (h : okBr b) : ∃ kl, keyOf Try.prog 93 (brV b) = some kl := by
  have h1 : (bs b.1).size ≤ maxLen := h.1
  have h2 : (bs b.2).size ≤ maxLen := h.2
  have hk : Try.prog.keyType 93 = true := by kernel_rfl
  obtain ⟨m, hm⟩ : ∃ m, Try.prog.types.size = m + 1 := ⟨Try.prog.types.size - 1, by simp⟩
  unfold keyOf brV
  rw [hm, Try.underlying93]
  simp only [hk, Bool.true_and, Value.formed, Try.underlying93, cellsB]
  rw [if_pos (by rfl)]
  suffices h : ∃ ls, Try.prog.keyLits (m + 1 + 1) 93 (Value.agg #[.string (bs b.1), .string (bs b.2)]).cells.toList = some ls by
    obtain ⟨ls, h⟩ := h
    exact ⟨_, by rw [h]; rfl⟩
  refine ⟨[.string (bs b.1).data.toList, .string (bs b.2).data.toList], ?_⟩
  unfold Program.keyLits
  rw [Try.underlying93]
  simp only [cellsB]
  unfold Program.keyLits
  simp [Try.underlying9, h1, h2, Value.cells, cellsStr]
set_option maxRecDepth 100000 in
theorem lits_str {m : Nat} {c : List Value} {ls : List Lit} (h : Try.prog.keyLits (m + 1) 9 c = some ls) : ∃ s : ByteArray, c = [.string s] ∧ s.size ≤ maxLen := by
  unfold Program.keyLits at h
  rw [Try.underlying9] at h
  match c, h with
  | [.string s], h =>
    dsimp only at h
    split at h
    · rename_i hs
      exact ⟨s, rfl, hs⟩
    · cases h
  | [], h => cases h
  | x :: y :: l, h => cases x <;> cases h
set_option maxRecDepth 100000 in
theorem key_br_inv {v : Value} {kl : Lit} (h : keyOf Try.prog 93 v = some kl) : ∃ b : Br, v = brV b ∧ okBr b := by
  obtain ⟨m, hm⟩ : ∃ m, Try.prog.types.size = m + 1 := ⟨Try.prog.types.size - 1, by simp⟩
  unfold keyOf at h
  rw [hm, Try.underlying93] at h
  dsimp only at h
  split at h
  · rename_i hf
    rw [Bool.and_eq_true] at hf
    cases v with
    | agg cs =>
      have hsz : cs.size = 2 := by
        have := hf.2
        unfold Value.formed at this
        rw [Try.underlying93, cellsB] at this
        simpa using this
      obtain ⟨x, y, rfl⟩ : ∃ x y, cs = #[x, y] := by
        obtain ⟨l⟩ := cs
        match l, hsz with
        | [x, y], _ => exact ⟨x, y, rfl⟩
      obtain ⟨ls, hls, _⟩ := Option.map_eq_some_iff.1 h
      unfold Program.keyLits at hls
      rw [Try.underlying93] at hls
      simp only [cellsB, cellsStr, Value.cells] at hls
      split at hls
      · obtain ⟨l2, h2, _⟩ := Option.map_eq_some_iff.1 hls
        simp only [List.mapM_cons, List.mapM_nil, Option.bind_eq_bind, Option.bind_eq_some_iff, cellsStr, List.drop_zero, List.drop_succ_cons, List.take_succ_cons, List.take_zero] at h2
        obtain ⟨a, ha, b, ⟨c, hc, _⟩, _⟩ := h2
        obtain ⟨s, hs, hs1⟩ := lits_str ha
        obtain ⟨u, hu, hu1⟩ := lits_str hc
        simp only [List.cons.injEq, and_true] at hs hu
        subst hs hu
        exact ⟨(sb s, sb u), rfl, hs1, hu1⟩
      · cases hls
    | _ => (have := hf.2; unfold Value.formed at this; rw [Try.underlying93] at this; cases this)
  · cases h
noncomputable def kindBB : MapKind Try.prog Br Bool where
  mt := 91
  kt := 93
  et := 4
  ke := brV
  ve := Value.bool
  R := plainElem Try.prog 4
  dv := fun a => .lit (.bool a)
  z := false
  okK := okBr
  okV := fun _ => True
  keyed := keyed_br
  under := Try.underlying91
  zero := fun w => by kernel_rfl
  key := fun b h => key_br b h
  inj := fun s t h => by
    unfold brV at h
    simp only [Value.agg.injEq, Array.mk.injEq, List.cons.injEq, Value.string.injEq, and_true] at h
    exact Prod.ext (by have := congrArg sb h.1; exact this) (by have := congrArg sb h.2; exact this)
  rd := fun a _ => plainElem_bool Try.underlying4 a
  rd_inv := fun v a ps _ h => plain_bool_inv h
  okz := trivial

/-! ### Elements that are slices -/
def hdV (y : Nat × Nat × Nat) : Value := if y.2.1 = 0 then .slice none 0 0 else .slice (some ⟨y.1, 0, none⟩) y.2.1 y.2.2
def hdD (y : Nat × Nat × Nat) : DataW Unit := if y.2.1 = 0 then .nil else .slice [.lit (.int .i64 y.1), .lit (.int .i64 y.2.1), .lit (.int .i64 y.2.2)] []
def hdR : Value → Option (DataW Unit × List MemPlace)
  | .slice none 0 0 => some (.nil, [])
  | .slice (some ⟨g, 0, none⟩) n c => some (.slice [.lit (.int .i64 g), .lit (.int .i64 n), .lit (.int .i64 c)] [], [])
  | _ => none
theorem hdR_inv {v : Value} {y : Nat × Nat × Nat} {ps : List MemPlace} (h : hdR v = some (hdD y, ps)) : v = hdV y := by
  unfold hdR at h
  unfold hdD at h
  unfold hdV
  split at h
  · split at h
    · rename_i h0; rw [if_pos h0]
    · simp at h
  · split at h
    · simp at h
    · rename_i h0
      rw [if_neg h0]
      simp at h
      obtain ⟨⟨h1, h2, h3⟩, _⟩ := h
      rw [Int.ofNat_inj.1 h1, Int.ofNat_inj.1 h2, Int.ofNat_inj.1 h3]
  · cases h
noncomputable def kindSH : MapKind Try.prog ByteArray (Nat × Nat × Nat) where
  mt := 117
  kt := 9
  et := 22
  ke := Value.string
  ve := hdV
  R := hdR
  dv := hdD
  z := (0, 0, 0)
  okK := fun s => s.size ≤ maxLen
  okV := fun _ => True
  keyed := string_keyed Try.underlying9
  under := Try.underlying117
  zero := fun w => by kernel_rfl
  key := fun s hs => ⟨_, WideMaps.keyOf_string_mk Try.underlying9 hs⟩
  inj := fun s t h => by injection h
  rd := fun y _ => by
    unfold hdV hdD
    split
    · rfl
    · rfl
  rd_inv := fun v a ps _ h => hdR_inv h
  okz := trivial

/-! ### Ranging -/
section
variable {P : Program} {α β : Type} {k : MapKind P α β} {w w' : World} {b r n cnt : Nat} {f : α → Option β} {pend : α → Prop}
/-- A loop over the map: which keys are still to come, and how many. -/
def RangeF (k : MapKind P α β) (w : World) (b r n : Nat) (f : α → Option β) (pend : α → Prop) (cnt : Nat) : Prop :=
  ∃ (D : DataW Unit) (left : Lit → Bool), w.ranges P k.kt k.R b r n D left cnt ∧ (∀ x y, f x = some y → k.okV y) ∧
    (∀ x kl, k.okK x → keyOf P k.kt (k.ke x) = some kl → Maps.has D kl = (f x).isSome ∧ D.atKey kl (k.dv k.z) = k.dv ((f x).getD k.z)) ∧
    ∀ x kl, k.okK x → keyOf P k.kt (k.ke x) = some kl → (left kl = true ↔ pend x)
theorem RangeF.mapF (h : RangeF k w b r n f pend cnt) : MapF k w b n f := by
  obtain ⟨D, left, h1, h2, h3, _⟩ := h
  exact ⟨D, h1.owns, h2, h3⟩
theorem RangeF.left_eq (h : RangeF k w b r n f pend cnt) : w.rangeLeft b r = cnt := by
  obtain ⟨D, left, h1, _⟩ := h
  exact h1.left_eq
theorem RangeF.lt (h : RangeF k w b r n f pend cnt) : r < w.heap.size := by
  obtain ⟨D, left, h1, _⟩ := h
  exact h1.lt
theorem RangeF.block (h : RangeF k w b r n f pend cnt) : ∃ o, w.heap[r]? = some o ∧ o.isCells = false := by
  obtain ⟨D, left, ⟨es, clock, since, seen, c0, _, _, _, _, hr, _⟩, _⟩ := h
  exact ⟨_, hr, rfl⟩
theorem RangeF.kept {row : Option Nat} (h : RangeF k w b r n f pend cnt) (hg : w.grownBy w' row) (hb : some b ≠ row) (hr : some r ≠ row) : RangeF k w' b r n f pend cnt := by
  obtain ⟨D, left, h1, h2⟩ := h
  exact ⟨D, left, h1.kept hg hb hr, h2⟩
theorem RangeF.below (h : RangeF k w b r n f pend cnt) (hb : Below w.heap.size w w') : RangeF k w' b r n f pend cnt :=
  h.kept (row := none) ⟨hb.os, hb.tape, hb.output, hb.size, fun k hk _ => hb.block k hk⟩ (by simp) (by simp)
theorem MapF.range (h : MapF k w b n f) : ∃ w' cnt, (Instr.range k.mt (.map (some b))).run P w = .ok (.pointer (some ⟨w.heap.size, 0, none⟩)) w' ∧ RangeF k w' b w.heap.size n f (fun x => (f x).isSome = true) cnt ∧ w.grownBy w' none ∧ w'.heap.size = w.heap.size + 1 := by
  obtain ⟨D, h, h2, h3⟩ := h
  obtain ⟨w', hr, r1, r2, r3⟩ := h.range k.keyed k.under
  exact ⟨w', _, hr, ⟨D, _, r1, h2, h3, fun x kl hx hk => by rw [(h3 x kl hx hk).1]⟩, r2, r3⟩
theorem RangeF.next (h : RangeF k w b r n f pend cnt) (hinv : ∀ v kl, keyOf P k.kt v = some kl → ∃ x, v = k.ke x ∧ k.okK x) (ty : TypeId) :
    (cnt = 0 ∧ (∀ x, k.okK x → ¬ pend x) ∧ (Instr.next (.pointer (some ⟨r, 0, none⟩)) false ty).run P w = .ok (.tuple #[.bool false]) w) ∨
    ∃ x v w' cnt', k.okK x ∧ pend x ∧ (Instr.next (.pointer (some ⟨r, 0, none⟩)) false ty).run P w = .ok (.tuple #[.bool true, k.ke x, v]) w' ∧
      RangeF k w' b r n f (fun u => pend u ∧ u ≠ x) cnt' ∧ cnt' < cnt ∧ w.grownBy w' (some r) ∧ w'.heap.size = w.heap.size ∧ (Instr.entry (.pointer (some ⟨r, 0, none⟩))).run P w' = .ok (.tuple #[k.ke x, v]) w' := by
  obtain ⟨D, left, h1, h2, h3, h4⟩ := h
  rcases h1.next k.keyed ty with ⟨e1, e2, e3⟩ | ⟨key, v, kl, y, w', cnt', e1, e2, e3, e4, e5, e6, e7, e8, e9, e10⟩
  · refine .inl ⟨e1, fun x hx hp => ?_, e3⟩
    obtain ⟨kl, hk⟩ := k.key x hx
    have := (h4 x kl hx hk).2 hp
    rw [e2] at this; cases this
  · obtain ⟨x, rfl, hx⟩ := hinv key kl e1
    refine .inr ⟨x, v, w', cnt', hx, (h4 x kl hx e1).1 e2, e5, ⟨D, _, e6, h2, h3, fun u ku hu hku => ?_⟩, e7, e8, e9, e10⟩
    simp only [Bool.and_eq_true, Bool.not_eq_true']
    rw [h4 u ku hu hku]
    refine and_congr_right fun _ => ?_
    constructor
    · rintro hs rfl
      obtain rfl : ku = kl := Option.some.inj (hku.symm.trans e1)
      rw [WideAt.sameKey_self (k.keyed.key e1)] at hs; cases hs
    · intro hne
      cases hs : ku.sameKey kl with
      | false => rfl
      | true =>
        obtain rfl := WideAt.sameKey_eq hs
        exact absurd (k.inj u x (k.keyed.inj hku e1)) hne
end

/-! ### What follows each string -/
def nx (E : List Br) (s : Str) : List Str := (E.filter fun e => e.1 == s).map (·.2)
theorem mem_nx {E : List Br} {s t : Str} : t ∈ nx E s ↔ (s, t) ∈ E := by
  unfold nx
  rw [List.mem_map]
  constructor
  · rintro ⟨⟨a, b⟩, h, rfl⟩
    obtain ⟨h1, h2⟩ := List.mem_filter.1 h
    have : a = s := by simpa using h2
    subst this; exact h1
  · intro h
    exact ⟨(s, t), List.mem_filter.2 ⟨h, by simp⟩, rfl⟩
theorem nx_snoc (E : List Br) (a b s : Str) : nx (E ++ [(a, b)]) s = if s = a then nx E s ++ [b] else nx E s := by
  unfold nx
  rw [List.filter_append, List.map_append]
  by_cases h : s = a
  · subst h; simp
  · rw [if_neg h]
    have : (a == s) = false := by simpa using fun e : a = s => h e.symm
    simp [this]
/-- The map from each string to those that follow it. -/
def NextAt (W : World) (base bN n : Nat) (E : List Br) : Prop := ∃ H : ByteArray → Option (Nat × Nat × Nat), MapF kindSH W bN n H ∧ (∀ s, H s = none → nx E (sb s) = []) ∧
  (∀ s g l c, H s = some (g, l, c) → 0 < l ∧ W.ownsRow base 9 1 (.slice (some ⟨g, 0, none⟩) l c) l (encS (nx E (sb s)))) ∧ ∀ s s' g l c l' c', H s = some (g, l, c) → H s' = some (g, l', c') → s = s'
theorem NextAt.made (w : World) (base : Nat) : NextAt (w.alloc (.map #[] 0)) base w.heap.size 0 [] :=
  ⟨fun _ => none, MapF.made kindSH w, fun s _ => rfl, fun s g l c h => (by simp at h), fun s s' g l c l' c' h => (by simp at h)⟩
theorem NextAt.block {W : World} {base bN n : Nat} {E : List Br} (h : NextAt W base bN n E) : ∃ es clock, W.heap[bN]? = some (.map es clock) := by
  obtain ⟨H, h1, _⟩ := h; exact h1.block
theorem NextAt.lt {W : World} {base bN n : Nat} {E : List Br} (h : NextAt W base bN n E) : bN < W.heap.size := by
  obtain ⟨H, h1, _⟩ := h; exact h1.lt
theorem own_nc {w w' : World} {base e n' : Nat} {v : Value} {xs : List Value} {r : Nat} {o : Obj} (h : w.ownsRow base e 1 v n' xs) (ho : w.heap[r]? = some o) (hc : o.isCells = false) (hg : w.grownBy w' (some r)) : w'.ownsRow base e 1 v n' xs := by
  refine h.kept hg ?_
  rcases h.2 with ⟨rfl, _⟩ | ⟨g, cap, cur, rfl, _, hg', _⟩
  · exact .inl rfl
  · refine .inr fun hq => ?_
    have e2 : g = r := by simpa [Value.ownBlock] using hq
    subst e2
    rw [hg'] at ho
    cases ho
    cases hc
/-- Over a change of one block that holds no cells. -/
theorem NextAt.nc {W W' : World} {base bN n r : Nat} {E : List Br} {o : Obj} (h : NextAt W base bN n E) (ho : W.heap[r]? = some o) (hc : o.isCells = false) (hne : bN ≠ r) (hg : W.grownBy W' (some r)) : NextAt W' base bN n E := by
  obtain ⟨H, h1, h2, h3, h4⟩ := h
  exact ⟨H, h1.kept hg (by simpa using hne), h2, fun s g l c hs => ⟨(h3 s g l c hs).1, own_nc (h3 s g l c hs).2 ho hc hg⟩, h4⟩
theorem NextAt.below {W W' : World} {base bN n : Nat} {E : List Br} (h : NextAt W base bN n E) (hb : Below W.heap.size W W') : NextAt W' base bN n E := by
  obtain ⟨H, h1, h2, h3, h4⟩ := h
  exact ⟨H, h1.below hb, h2, fun s g l c hs => ⟨(h3 s g l c hs).1, own_kept (h3 s g l c hs).2 hb⟩, h4⟩
theorem hdV_pos (g l c : Nat) (h : 0 < l) : hdV (g, l, c) = .slice (some ⟨g, 0, none⟩) l c := if_neg (by show ¬ l = 0; omega)
theorem NextAt.look {W : World} {base bN n : Nat} {E : List Br} (h : NextAt W base bN n E) {s : Str} (hs : s.length ≤ maxLen) :
    ∃ v, (Instr.lookup 117 (.map (some bN)) (.string (bs s)) false).run Try.prog W = .ok v W ∧ W.ownsRow base 9 1 v (nx E s).length (encS (nx E s)) := by
  obtain ⟨H, h1, h2, h3, h4⟩ := h
  have hl := h1.look (x := bs s) hs
  dsimp only [kindSH] at hl
  cases hH : H (bs s) with
  | none =>
    rw [hH] at hl
    refine ⟨_, hl, ?_⟩
    have := h2 _ hH
    rw [sb_bs] at this
    rw [this]
    exact World.ownsRow_nil _ _ _ _
  | some y =>
    obtain ⟨g, l, c⟩ := y
    rw [hH] at hl
    obtain ⟨h5, h6⟩ := h3 _ _ _ _ hH
    rw [sb_bs] at h6
    have h7 : l = (nx E s).length := by have := h6.1; simp [encS] at this; omega
    refine ⟨_, hl, ?_⟩
    show W.ownsRow base _ 1 (hdV (g, l, c)) _ _
    rw [hdV_pos _ _ _ h5, ← h7]
    exact h6
/-- One more that follows: the slice that was appended to is stored. -/
theorem NextAt.push {W W1 : World} {base bN n g cap : Nat} {E : List Br} {s t : Str} {v : Value} (h : NextAt W base bN n E) (hs : s.length ≤ maxLen) (hn : n < maxLen)
    (hv : (Instr.lookup 117 (.map (some bN)) (.string (bs s)) false).run Try.prog W = .ok v W) (ho : W.ownsRow base 9 1 v (nx E s).length (encS (nx E s)))
    (h1 : W1.ownsRow base 9 1 (.slice (some ⟨g, 0, none⟩) ((nx E s).length + 1) cap) ((nx E s).length + 1) (encS (nx E s) ++ [.string (bs t)])) (hg : W.grownBy W1 v.ownBlock) (hat : v.ownBlock = some g ∨ W.heap.size ≤ g) :
    ∃ W2, (Instr.mapUpdate 117 (.map (some bN)) (.string (bs s)) (.slice (some ⟨g, 0, none⟩) ((nx E s).length + 1) cap)).run Try.prog W1 = .ok () W2 ∧ NextAt W2 base bN (n + 1) (E ++ [(s, t)]) ∧ W1.grownBy W2 (some bN) := by
  obtain ⟨H, m1, m2, m3, m4⟩ := h
  have m1' := m1.kept hg (m1.ne_own ho)
  obtain ⟨W2, hr, hm, hg2⟩ := m1'.store (x := bs s) (y := (g, (nx E s).length + 1, cap)) hs trivial hn
  dsimp only [kindSH] at hr
  rw [hdV_pos _ _ _ (by omega)] at hr
  have hvl := m1.look (x := bs s) hs
  dsimp only [kindSH] at hvl
  have hvv : v = hdV ((H (bs s)).getD (0, 0, 0)) := by
    have := hv.symm.trans hvl
    injection this
  refine ⟨W2, hr, ⟨_, hm, fun u hu => ?_, fun u g' l c hu => ?_, fun u u' g' l c l' c' hu hu' => ?_⟩, hg2⟩
  · by_cases e : u = bs s
    · rw [if_pos e] at hu; cases hu
    · rw [if_neg e] at hu
      rw [nx_snoc, if_neg (show ¬ sb u = s from fun h => e (by rw [← h]; rfl))]
      exact m2 u hu
  · by_cases e : u = bs s
    · rw [if_pos e] at hu
      subst e
      simp only [Option.some.injEq, Prod.mk.injEq] at hu
      obtain ⟨rfl, rfl, rfl⟩ := hu
      rw [sb_bs, nx_snoc, if_pos rfl, encS_snoc]
      exact ⟨by omega, own_map h1 m1' hg2⟩
    · rw [if_neg e] at hu
      rw [nx_snoc, if_neg (show ¬ sb u = s from fun h => e (by rw [← h]; rfl))]
      obtain ⟨h5, h6⟩ := m3 u g' l c hu
      refine ⟨h5, own_map (h6.kept hg ?_) m1' hg2⟩
      refine .inr fun hq => ?_
      rw [hvv] at hq
      cases hH : H (bs s) with
      | none => rw [hH] at hq; exact absurd hq (by simp [hdV, Value.ownBlock])
      | some y =>
        obtain ⟨g2, l2, c2⟩ := y
        rw [hH] at hq
        have h7 := (m3 _ _ _ _ hH).1
        rw [show (some (g2, l2, c2)).getD (0, 0, 0) = (g2, l2, c2) from rfl, hdV_pos _ _ _ h7] at hq
        have h8 : g' = g2 := by simpa [Value.ownBlock] using hq
        subst h8
        exact e (m4 u (bs s) _ _ _ _ _ hu hH)
  · have key : ∀ x l'' c'', x ≠ bs s → H x = some (g, l'', c'') → False := by
      intro x l'' c'' hx hH
      rcases hat with h5 | h5
      · rw [hvv] at h5
        cases hH2 : H (bs s) with
        | none => rw [hH2] at h5; exact absurd h5 (by simp [hdV, Value.ownBlock])
        | some y =>
          obtain ⟨g2, l2, c2⟩ := y
          rw [hH2] at h5
          have h7 := (m3 _ _ _ _ hH2).1
          rw [show (some (g2, l2, c2)).getD (0, 0, 0) = (g2, l2, c2) from rfl, hdV_pos _ _ _ h7] at h5
          have h8 : g2 = g := by simpa [Value.ownBlock] using h5
          subst h8
          exact hx (m4 x (bs s) _ _ _ _ _ hH hH2)
      · have h6 := (m3 x _ _ _ hH).2
        have := (h6.lt g rfl).2
        omega
    by_cases e : u = bs s <;> by_cases e' : u' = bs s
    · rw [e, e']
    · rw [if_pos e] at hu
      rw [if_neg e'] at hu'
      simp only [Option.some.injEq, Prod.mk.injEq] at hu
      obtain ⟨rfl, _⟩ := hu
      exact (key u' _ _ e' hu').elim
    · rw [if_neg e] at hu
      rw [if_pos e'] at hu'
      simp only [Option.some.injEq, Prod.mk.injEq] at hu'
      obtain ⟨rfl, _⟩ := hu'
      exact (key u _ _ e hu).elim
    · rw [if_neg e] at hu
      rw [if_neg e'] at hu'
      exact m4 u u' _ _ _ _ _ hu hu'
end Go.Proofs.Ytnamafakjkcmjaa
