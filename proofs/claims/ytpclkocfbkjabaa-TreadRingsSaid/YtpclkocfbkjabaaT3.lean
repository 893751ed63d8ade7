/-
  The machine of a set: newMachine.
-/
import Derived.Test.YtpclkocfbkjabaaT2
import Derived.Lib.OthersKept
import Derived.Maps.AppendAt
namespace Go.Proofs.Ytpclkocfbkjabaa
open Go.RowKit Go.Shelf
open Go.Maps (Keyed string_keyed int_keyed)
set_option linter.unusedVariables false
set_option linter.unusedSimpArgs false

/-- Block g holds just these cells, none frozen. -/
def Whole (w : World) (g : Nat) (t : TypeId) (cs : Array Value) : Prop := w.heap[g]? = some (.cells cs t (0, 0))
section
variable {w w' : World} {g : Nat} {t : TypeId} {cs : Array Value}
theorem Whole.lt (h : Whole w g t cs) : g < w.heap.size := by
  unfold Whole at h
  exact (Array.getElem?_eq_some_iff.1 h).1
theorem Whole.cell (h : Whole w g t cs) (i : Nat) : w.cell? ⟨g, i, none⟩ = cs[i]? := cell_of_row w g i cs t (0, 0) h
theorem Whole.frozen (h : Whole w g t cs) (i : Nat) : w.frozen? ⟨g, i, none⟩ = false := by
  unfold Whole at h
  simp [World.frozen?, h]
theorem Whole.new (w : World) (t : TypeId) (cs : Array Value) : Whole (w.alloc (.cells cs t)) w.heap.size t cs := heap_alloc_new w _
theorem Whole.new2 (w : World) (o : Obj) (t : TypeId) (cs : Array Value) : Whole ((w.alloc o).alloc (.cells cs t)) (w.heap.size + 1) t cs := heap_alloc2_new _ _ _
theorem Whole.drewN (h : Whole w g t cs) (n : Nat) : Whole (w.drewN n) g t cs := h
theorem Whole.alloc (h : Whole w g t cs) (o : Obj) : Whole (w.alloc o) g t cs := (Below.heap_alloc w o g h.lt).trans h
theorem Whole.set (h : Whole w g t cs) (i : Nat) (u : Value) : Whole (w.setCell ⟨g, i, none⟩ u) g t (cs.setIfInBounds i u) := by
  unfold Whole at h ⊢
  simp [World.setCell, Array.getElem?_modify, h]
theorem Whole.far (h : Whole w g t cs) {p : Addr} (hp : g ≠ p.block) (u : Value) : Whole (w.setCell p u) g t cs := (Below.heap_setCell w p u g hp).trans h
theorem Whole.below {B : Nat} (h : Whole w g t cs) (hb : Below B w w') (hg : g < B) : Whole w' g t cs := (hb.block g hg).trans h
theorem Whole.kept (h : Whole w g t cs) (hb : Below w.heap.size w w') : Whole w' g t cs := h.below hb h.lt
theorem Whole.grown {row : Option Nat} (h : Whole w g t cs) (hg : w.grownBy w' row) (hne : some g ≠ row) : Whole w' g t cs := (hg.block g h.lt hne).trans h
theorem Whole.ne_own {e : TypeId} {base size n : Nat} {v : Value} {xs : List Value} (h : Whole w g t cs) (h' : w.ownsRow base e size v n xs) (hne : t ≠ e) : some g ≠ v.ownBlock := by
  rcases h'.2 with ⟨rfl, _⟩ | ⟨g', cap', cur', rfl, _, hg', _⟩
  · simp [Value.ownBlock]
  · intro hq
    have : g = g' := by simpa [Value.ownBlock] using hq
    subst this
    unfold Whole at h
    rw [h] at hg'
    injection hg' with hg'
    injection hg' with _ ht
    exact hne ht
end
theorem own_kept {W W' : World} {base : Nat} {e : TypeId} {size : Nat} {v : Value} {n : Nat} {xs : List Value} (h : W.ownsRow base e size v n xs) (hb : Below W.heap.size W W') : W'.ownsRow base e size v n xs :=
  h.kept (row := none) ⟨hb.os, hb.tape, hb.output, hb.size, fun k hk _ => hb.block k hk⟩ (by cases h : v.ownBlock <;> simp)
theorem own_form {w : World} {base : Nat} {e : TypeId} {size : Nat} {v : Value} {n : Nat} {xs : List Value} (h : w.ownsRow base e size v n xs) (hn : 0 < n) : ∃ g cap, v = .slice (some ⟨g, 0, none⟩) n cap ∧ base ≤ g ∧ g < w.heap.size := by
  rcases h.2 with ⟨_, h0⟩ | ⟨g, cap, cur, rfl, hb, hg, _⟩
  · omega
  · exact ⟨g, cap, rfl, hb, (Array.getElem?_eq_some_iff.1 hg).1⟩
theorem bl_grown {a W W' : World} {base : Nat} {e : TypeId} {size : Nat} {v : Value} {n : Nat} {xs : List Value} (hb : Below a.heap.size a W) (h : W.ownsRow base e size v n xs) (hbase : a.heap.size ≤ base) (hg : W.grownBy W' v.ownBlock) : Below a.heap.size a W' :=
  hb.grown hg hb.size fun k e => Nat.le_trans hbase (h.lt k e).1
theorem bl_set {a w : World} (h : Below a.heap.size a w) {p : Addr} (hp : a.heap.size ≤ p.block) (v : Value) : Below a.heap.size a (w.setCell p v) := h.setCell hp v

def encS (L : List Str) : List Value := L.map fun s => .string (bs s)
def encI (row : List Int) : List Value := row.map (Value.int .i64)
def idxF (L : List Str) : ByteArray → Option Int := fun s => if sb s ∈ L then some (L.idxOf (sb s) : Int) else none

/-- The rows of a table, each in a block of its own below B. -/
def RowsAt (w : World) (B : Nat) (hdrs : List Value) (T : Tab) : Prop := hdrs.length = T.length ∧ ∀ i, i < T.length → ∃ b c cur, hdrs[i]? = some (.slice (some ⟨b, 0, none⟩) (T.getD i []).length c) ∧ b < B ∧
  w.heap[b]? = some (.cells cur 3 (0, 0)) ∧ (T.getD i []).length ≤ c ∧ c ≤ maxLen ∧ ∀ j, j < (T.getD i []).length → cur[j]? = some (.int .i64 ((T.getD i []).getD j 0))
theorem RowsAt.nil (w : World) (B : Nat) : RowsAt w B [] [] := ⟨rfl, fun i h => absurd h (Nat.not_lt_zero _)⟩
theorem RowsAt.mono {w : World} {B B' : Nat} {hdrs : List Value} {T : Tab} (h : RowsAt w B hdrs T) (hb : B ≤ B') : RowsAt w B' hdrs T := by
  refine ⟨h.1, fun i hi => ?_⟩
  obtain ⟨b, c, cur, h1, h2, h3⟩ := h.2 i hi
  exact ⟨b, c, cur, h1, by omega, h3⟩
theorem RowsAt.moved {w w' : World} {B : Nat} {hdrs : List Value} {T : Tab} (h : RowsAt w B hdrs T) (hm : ∀ b cur, b < B → w.heap[b]? = some (.cells cur 3 (0, 0)) → w'.heap[b]? = w.heap[b]?) : RowsAt w' B hdrs T := by
  refine ⟨h.1, fun i hi => ?_⟩
  obtain ⟨b, c, cur, h1, h2, h3, h4⟩ := h.2 i hi
  exact ⟨b, c, cur, h1, h2, (hm b cur h2 h3).trans h3, h4⟩
theorem RowsAt.kept {w w' : World} {B : Nat} {hdrs : List Value} {T : Tab} (h : RowsAt w B hdrs T) (hb : Below w.heap.size w w') : RowsAt w' B hdrs T :=
  h.moved fun b cur _ h3 => hb.block b (Array.getElem?_eq_some_iff.1 h3).1
theorem RowsAt.alloc {w : World} {B : Nat} {hdrs : List Value} {T : Tab} (h : RowsAt w B hdrs T) (o : Obj) : RowsAt (w.alloc o) B hdrs T := h.kept (bl_alloc (bl_refl w) o)
/-- Over a change of one block, which is of another type, or a new one. -/
theorem RowsAt.grown {w w' : World} {B : Nat} {hdrs : List Value} {T : Tab} {row : Option Nat} (h : RowsAt w B hdrs T) (hg : w.grownBy w' row) (hne : ∀ r, row = some r → B ≤ r ∨ ∀ cur, w.heap[r]? ≠ some (.cells cur 3 (0, 0))) : RowsAt w' B hdrs T :=
  h.moved fun b cur hlt h3 => hg.block b (Array.getElem?_eq_some_iff.1 h3).1 (fun e => by
    rcases hne b e.symm with h5 | h5
    · omega
    · exact h5 cur h3)
theorem RowsAt.far {w : World} {B : Nat} {hdrs : List Value} {T : Tab} {g : Nat} {t : TypeId} {cs : Array Value} (h : RowsAt w B hdrs T) (hg : Whole w g t cs) (ht : t ≠ 3) (i : Nat) (u : Value) : RowsAt (w.setCell ⟨g, i, none⟩ u) B hdrs T :=
  h.moved fun b cur _ h3 => Below.heap_setCell w ⟨g, i, none⟩ u b (by
    rintro rfl
    unfold Whole at hg
    rw [hg] at h3
    injection h3 with h3
    injection h3 with _ h4
    exact ht h4)
theorem own_not_int {w : World} {base : Nat} {e : TypeId} {size : Nat} {v : Value} {n : Nat} {xs : List Value} (h : w.ownsRow base e size v n xs) (he : e ≠ 3) : ∀ r, v.ownBlock = some r → ∀ B : Nat, B ≤ r ∨ ∀ cur, w.heap[r]? ≠ some (.cells cur 3 (0, 0)) := by
  intro r hr B
  rcases h.2 with ⟨rfl, _⟩ | ⟨g, cap, cur, rfl, _, hg, _⟩
  · simp [Value.ownBlock] at hr
  · have : g = r := by simpa [Value.ownBlock] using hr
    subst this
    refine .inr fun cur' h => ?_
    rw [hg] at h
    injection h with h
    injection h with _ h
    exact he h
theorem RowsAt.snoc {w : World} {B B0 : Nat} {hdrs : List Value} {T : Tab} {v : Value} {row : List Int} {n : Nat} (h : RowsAt w B hdrs T) (hB : B ≤ w.heap.size) (ho : w.ownsRow B0 3 1 v n (encI row)) (hn : n = row.length) (h0 : 0 < n) : RowsAt w w.heap.size (hdrs ++ [v]) (T ++ [row]) := by
  refine ⟨by simp [h.1], fun i hi => ?_⟩
  rcases Nat.lt_or_ge i T.length with h1 | h1
  · have h2 := (h.mono hB).2 i h1
    rw [List.getElem?_append_left (by rw [h.1]; exact h1), show (T ++ [row]).getD i [] = T.getD i [] by rw [List.getD_eq_getElem?_getD, List.getElem?_append_left h1, ← List.getD_eq_getElem?_getD]]
    exact h2
  · have h2 : i = T.length := by simp at hi; omega
    subst h2
    rw [show (T ++ [row]).getD T.length [] = row by simp [List.getD_eq_getElem?_getD], ← h.1]
    rcases ho.2 with ⟨_, hz⟩ | ⟨g, cap, cur, rfl, hb, hh, h3, h4, h5, h6⟩
    · omega
    · refine ⟨g, cap, cur, by simp [hn], (Array.getElem?_eq_some_iff.1 hh).1, hh, by omega, h4, fun j hj => ?_⟩
      have h7 : (cur.toList.take (n * 1))[j]? = (encI row)[j]? := by rw [h6]
      rw [List.getElem?_take_of_lt (by omega), Array.getElem?_toList] at h7
      rw [h7]
      unfold encI
      rw [List.getElem?_map, List.getElem?_eq_getElem hj, List.getD_eq_getElem?_getD, List.getElem?_eq_getElem hj]
      rfl
/-- The machine, as far as it is built: what is known, and k rows. -/
def Built (base gM gP q : Nat) (w : World) (B : Nat) (kn : List Str) (T : Tab) : Prop := ∃ vS vN hdrs, Whole w gM 76 #[.int .i64 q, vS, vN] ∧
  w.ownsRow base 9 1 vS kn.length (encS kn) ∧ w.ownsRow base 45 1 vN T.length hdrs ∧ RowsAt w B hdrs T ∧ MapF kindSI w gP kn.length (idxF kn)
theorem Built.kept {base gM gP q : Nat} {w w' : World} {B : Nat} {kn : List Str} {T : Tab} (h : Built base gM gP q w B kn T) (hb : Below w.heap.size w w') : Built base gM gP q w' B kn T := by
  obtain ⟨vS, vN, hdrs, h1, h2, h3, h4, h5⟩ := h
  exact ⟨vS, vN, hdrs, h1.kept hb, own_kept h2 hb, own_kept h3 hb, h4.kept hb, h5.below hb⟩
/-- Over a write into a row of numbers at or beyond B. -/
theorem Built.grown {base gM gP q : Nat} {w w' : World} {B B' : Nat} {kn : List Str} {T : Tab} {v : Value} {n : Nat} {xs : List Value} (h : Built base gM gP q w B kn T) (ho : w.ownsRow B' 3 1 v n xs) (hB : B ≤ B') (hP : gP < B) (hg : w.grownBy w' v.ownBlock) : Built base gM gP q w' B kn T := by
  obtain ⟨vS, vN, hdrs, h1, h2, h3, h4, h5⟩ := h
  have ne : ∀ {base' e n' v' xs'}, w.ownsRow base' e 1 v' n' xs' → e ≠ 3 → v'.ownBlock = none ∨ v'.ownBlock ≠ v.ownBlock := by
    intro base' e n' v' xs' h' he
    rcases h'.2 with ⟨rfl, _⟩ | ⟨g, cap, cur, rfl, _, hg', _⟩
    · exact .inl rfl
    · refine .inr fun hq => ?_
      rcases ho.2 with ⟨rfl, _⟩ | ⟨g2, cap2, cur2, rfl, _, hg2, _⟩
      · simp [Value.ownBlock] at hq
      · have e2 : g = g2 := by simpa [Value.ownBlock] using hq
        subst e2
        rw [hg'] at hg2
        injection hg2 with hg2
        injection hg2 with _ hg2
        exact he hg2
  exact ⟨vS, vN, hdrs, h1.grown hg (h1.ne_own ho (by decide)), h2.kept hg (ne h2 (by decide)), h3.kept hg (ne h3 (by decide)), h4.grown hg (fun r hr => .inl (by have := (ho.lt r hr).1; omega)), h5.kept hg (fun e => by have := (ho.lt gP e.symm).1; omega)⟩
/-- Over a step of an iterator. -/
theorem Built.iter {base gM gP q : Nat} {w w' : World} {B kI : Nat} {kn : List Str} {T : Tab} {al : ByteArray} {c : Nat} (h : Built base gM gP q w B kn T) (hk : w.heap[kI]? = some (.stringIter al c)) (hP : gP < kI) (hg : w.grownBy w' (some kI)) : Built base gM gP q w' B kn T := by
  obtain ⟨vS, vN, hdrs, h1, h2, h3, h4, h5⟩ := h
  have ne : ∀ {base' e n' v' xs'}, w.ownsRow base' e 1 v' n' xs' → v'.ownBlock = none ∨ v'.ownBlock ≠ some kI := by
    intro base' e n' v' xs' h'
    rcases h'.2 with ⟨rfl, _⟩ | ⟨g, cap, cur, rfl, _, hg', _⟩
    · exact .inl rfl
    · refine .inr fun hq => ?_
      have e2 : g = kI := by simpa [Value.ownBlock] using hq
      subst e2
      rw [hg'] at hk
      cases hk
  exact ⟨vS, vN, hdrs, h1.grown hg (fun e => by cases e; unfold Whole at h1; rw [h1] at hk; cases hk), h2.kept hg (ne h2), h3.kept hg (ne h3), h4.grown hg (fun r hr => .inr (by cases hr; intro cur h6; rw [h6] at hk; cases hk)), h5.kept hg (fun e => by cases e; omega)⟩
theorem own_iter {w w' : World} {kI : Nat} {al : ByteArray} {c : Nat} {base' e n' : Nat} {v' : Value} {xs' : List Value} (h' : w.ownsRow base' e 1 v' n' xs') (hk : w.heap[kI]? = some (.stringIter al c)) (hg : w.grownBy w' (some kI)) : w'.ownsRow base' e 1 v' n' xs' := by
  refine h'.kept hg ?_
  rcases h'.2 with ⟨rfl, _⟩ | ⟨g, cap, cur, rfl, _, hg', _⟩
  · exact .inl rfl
  · refine .inr fun hq => ?_
    have e2 : g = kI := by simpa [Value.ownBlock] using hq
    subst e2
    rw [hg'] at hk
    cases hk
theorem grown_iter (w : World) (k : Nat) (s : ByteArray) (pos : Nat) : w.grownBy (w.iterAt k s pos) (some k) :=
  ⟨rfl, rfl, rfl, by rw [Lib.iterAt_size]; exact Nat.le_refl _, fun j hj hne => Lib.iterAt_other _ _ _ _ _ (fun e => hne (by rw [e]))⟩
theorem own_map {α β : Type} {mk : MapKind Try.prog α β} {b n : Nat} {f : α → Option β} {w w' : World} {base e size n' : Nat} {v : Value} {xs : List Value} (h : w.ownsRow base e size v n' xs) (hm : MapF mk w b n f) (hg : w.grownBy w' (some b)) : w'.ownsRow base e size v n' xs := by
  refine h.kept hg ?_
  obtain ⟨es, clock, hb⟩ := hm.block
  rcases h.2 with ⟨rfl, _⟩ | ⟨g, cap, cur, rfl, _, hg', _⟩
  · exact .inl rfl
  · refine .inr fun hq => ?_
    have e2 : g = b := by simpa [Value.ownBlock] using hq
    subst e2
    rw [hg'] at hb
    cases hb
theorem Whole.map {α β : Type} {mk : MapKind Try.prog α β} {b n : Nat} {f : α → Option β} {w w' : World} {g : Nat} {t : TypeId} {cs : Array Value} (h : Whole w g t cs) (hm : MapF mk w b n f) (hg : w.grownBy w' (some b)) : Whole w' g t cs := by
  refine h.grown hg fun hq => ?_
  obtain ⟨es, clock, hb⟩ := hm.block
  cases hq
  unfold Whole at h
  rw [hb] at h
  cases h
theorem RowsAt.map {α β : Type} {mk : MapKind Try.prog α β} {b n : Nat} {f : α → Option β} {w w' : World} {B : Nat} {hdrs : List Value} {T : Tab} (h : RowsAt w B hdrs T) (hm : MapF mk w b n f) (hg : w.grownBy w' (some b)) : RowsAt w' B hdrs T := by
  obtain ⟨es, clock, hb⟩ := hm.block
  exact h.grown hg fun r hr => .inr (by cases hr; intro cur h6; rw [hb] at h6; cases h6)
theorem MapF.ne_own {α β : Type} {mk : MapKind Try.prog α β} {b n : Nat} {f : α → Option β} {w : World} {base e size n' : Nat} {v : Value} {xs : List Value} (hm : MapF mk w b n f) (h : w.ownsRow base e size v n' xs) : some b ≠ v.ownBlock := by
  obtain ⟨es, clock, hb⟩ := hm.block
  rcases h.2 with ⟨rfl, _⟩ | ⟨g, cap, cur, rfl, _, hg', _⟩
  · simp [Value.ownBlock]
  · intro hq
    have e2 : b = g := by simpa [Value.ownBlock] using hq
    subst e2
    rw [hg'] at hb
    cases hb
theorem MapF.far {α β : Type} {mk : MapKind Try.prog α β} {b n : Nat} {f : α → Option β} {w : World} {g : Nat} {t : TypeId} {cs : Array Value} (hm : MapF mk w b n f) (h : Whole w g t cs) (i : Nat) (u : Value) : MapF mk (w.setCell ⟨g, i, none⟩ u) b n f := by
  have hg : w.grownBy (w.setCell ⟨g, i, none⟩ u) (some g) := ⟨rfl, rfl, rfl, by simp [World.setCell], fun j hj hne => Below.heap_setCell w ⟨g, i, none⟩ u j (fun e => hne (by rw [e]))⟩
  refine hm.kept hg fun e => ?_
  obtain ⟨es, clock, hb⟩ := hm.block
  cases e
  unfold Whole at h
  rw [hb] at h
  cases h
theorem grown_set (w : World) (g i : Nat) (u : Value) : w.grownBy (w.setCell ⟨g, i, none⟩ u) (some g) := ⟨rfl, rfl, rfl, by simp [World.setCell], fun j hj hne => Below.heap_setCell w ⟨g, i, none⟩ u j (fun e => hne (by rw [e]))⟩
theorem own_far {w : World} {base e size n' : Nat} {v : Value} {xs : List Value} {g : Nat} {t : TypeId} {cs : Array Value} (h : w.ownsRow base e size v n' xs) (hw : Whole w g t cs) (ht : t ≠ e) (i : Nat) (u : Value) : (w.setCell ⟨g, i, none⟩ u).ownsRow base e size v n' xs := by
  have hne := hw.ne_own h ht
  refine h.kept (grown_set w g i u) ?_
  cases hq : v.ownBlock with
  | none => exact .inl rfl
  | some r => exact .inr fun e => hne (by rw [hq]; exact e.symm)
theorem own_other {w w' : World} {base e size n : Nat} {v : Value} {xs : List Value} {base' e' size' n' : Nat} {v' : Value} {xs' : List Value} (h : w.ownsRow base e size v n xs) (h' : w.ownsRow base' e' size' v' n' xs') (hne : e ≠ e') (hg : w.grownBy w' v'.ownBlock) : w'.ownsRow base e size v n xs := by
  refine h.kept hg ?_
  rcases h.2 with ⟨rfl, _⟩ | ⟨g, cap, cur, rfl, _, hg1, _⟩
  · exact .inl rfl
  · refine .inr fun hq => ?_
    rcases h'.2 with ⟨rfl, _⟩ | ⟨g', cap', cur', rfl, _, hg', _⟩
    · simp [Value.ownBlock] at hq
    · have e2 : g = g' := by simpa [Value.ownBlock] using hq
      subst e2
      rw [hg1] at hg'
      injection hg' with hg'
      injection hg' with _ ht
      exact hne ht
theorem cells_new (w : World) (t : TypeId) (cs : List Value) : ∀ j u, cs[j]? = some u → (w.alloc (.cells cs.toArray t)).cell? ((⟨w.heap.size, 0, none⟩ : Addr).add j) = some u := by
  intro j u hu
  rw [show (⟨w.heap.size, 0, none⟩ : Addr).add j = ⟨w.heap.size, j, none⟩ by simp [Addr.add] <;> omega, (Whole.new w t cs.toArray).cell j]
  simpa using hu
theorem idxF_snoc {kn : List Str} {tt : Str} (h : tt ∉ kn) (u : ByteArray) : (if u = bs tt then some (kn.length : Int) else idxF kn u) = idxF (kn ++ [tt]) u := by
  unfold idxF
  by_cases e : u = bs tt
  · subst e
    rw [if_pos rfl, sb_bs, if_pos (by simp), List.idxOf_append, if_neg h]
    simp
  · rw [if_neg e]
    have e2 : ¬ sb u = tt := fun h2 => e (by rw [← h2]; rfl)
    by_cases hm : sb u ∈ kn
    · rw [if_pos hm, if_pos (List.mem_append_left _ hm), List.idxOf_append, if_pos hm]
    · rw [if_neg hm, if_neg (by simp [hm, e2])]
/-- A new state: written into the map, put behind the others, the machine's field stored. -/
theorem Built.added {base gM gP q N B : Nat} {kn : List Str} {tt : Str} {T : Tab} {w6 w7 : World} {vS vN v7 : Value} {hdrs : List Value}
    (h1 : Whole w6 gM 76 #[.int .i64 q, vS, vN]) (h2 : w6.ownsRow base 9 1 vS N (encS kn)) (h3 : w6.ownsRow base 45 1 vN T.length hdrs) (h4 : RowsAt w6 B hdrs T)
    (h5 : MapF kindSI w6 gP (N + 1) (fun u => if u = bs tt then some (N : Int) else idxF kn u)) (hN : N = kn.length) (ht : tt ∉ kn)
    (hg : (w6.alloc (.cells #[.string (bs tt)] 9)).grownBy w7 vS.ownBlock) (h7 : w7.ownsRow base 9 1 v7 (N + 1) (encS kn ++ [.string (bs tt)])) :
    Built base gM gP q (w7.setCell ⟨gM, 1, none⟩ v7) B (kn ++ [tt]) T := by
  obtain ⟨o, ho⟩ : ∃ o : Obj, o = .cells #[.string (bs tt)] 9 := ⟨_, rfl⟩
  rw [← ho] at hg
  have a1 := (h1.alloc o).grown hg ((h1.alloc o).ne_own (h2.alloc o) (by decide))
  have a3 := own_other (h3.alloc o) (h2.alloc o) (by decide) hg
  have a4 := (h4.alloc o).grown hg (fun r hr => own_not_int (h2.alloc o) (by decide) r hr B)
  have a5 := (h5.below (bl_alloc (bl_refl w6) o)).kept hg ((h5.below (bl_alloc (bl_refl w6) o)).ne_own (h2.alloc o))
  refine ⟨v7, vN, hdrs, ?_, ?_, own_far a3 a1 (by decide) 1 v7, a4.far a1 (by decide) 1 v7, ?_⟩
  · exact a1.set 1 v7
  · have := own_far h7 a1 (by decide) 1 v7
    rw [show (kn ++ [tt]).length = N + 1 by simp [hN], show encS (kn ++ [tt]) = encS kn ++ [.string (bs tt)] by simp [encS]]
    exact this
  · have := a5.far a1 1 v7
    rw [show (kn ++ [tt]).length = N + 1 by simp [hN]]
    refine this.same fun u => ?_
    rw [hN]
    exact idxF_snoc ht u
/-- A row more. -/
theorem Built.rowed {base gM gP q B B' n : Nat} {kn : List Str} {row : List Int} {T : Tab} {w w7 : World} {vS vN vr v7 : Value} {hdrs : List Value}
    (h1 : Whole w gM 76 #[.int .i64 q, vS, vN]) (h2 : w.ownsRow base 9 1 vS kn.length (encS kn)) (h3 : w.ownsRow base 45 1 vN T.length hdrs) (h4 : RowsAt w B hdrs T)
    (h5 : MapF kindSI w gP kn.length (idxF kn)) (hB : B ≤ w.heap.size) (ho : w.ownsRow B' 3 1 vr n (encI row)) (hn : n = row.length) (h0 : 0 < n)
    (hg : (w.alloc (.cells #[vr] 45)).grownBy w7 vN.ownBlock) (h7 : w7.ownsRow base 45 1 v7 (T.length + 1) (hdrs ++ [vr])) :
    Built base gM gP q (w7.setCell ⟨gM, 2, none⟩ v7) (w7.setCell ⟨gM, 2, none⟩ v7).heap.size kn (T ++ [row]) := by
  have a4' := h4.snoc hB ho hn h0
  obtain ⟨o, hoo⟩ : ∃ o : Obj, o = .cells #[vr] 45 := ⟨_, rfl⟩
  rw [← hoo] at hg
  have a1 := (h1.alloc o).grown hg ((h1.alloc o).ne_own (h3.alloc o) (by decide))
  have a2 := own_other (h2.alloc o) (h3.alloc o) (by decide) hg
  have a4 := (a4'.alloc o).grown hg (fun r hr => own_not_int (h3.alloc o) (by decide) r hr _)
  have a5 := (h5.below (bl_alloc (bl_refl w) o)).kept hg ((h5.below (bl_alloc (bl_refl w) o)).ne_own (h3.alloc o))
  have hs := hg.size
  simp only [World.size_alloc] at hs
  refine ⟨vS, v7, hdrs ++ [vr], a1.set 2 v7, own_far a2 a1 (by decide) 2 v7, ?_, (a4.far a1 (by decide) 2 v7).mono (by simp [World.setCell]; omega), a5.far a1 2 v7⟩
  rw [show (T ++ [row]).length = T.length + 1 by simp]
  exact own_far h7 a1 (by decide) 2 v7
theorem iter_ne {w : World} {kI : Nat} {al : ByteArray} {c : Nat} {base' e n' size : Nat} {v' : Value} {xs' : List Value} (h' : w.ownsRow base' e size v' n' xs') (hk : w.heap[kI]? = some (.stringIter al c)) : some kI ≠ v'.ownBlock := by
  rcases h'.2 with ⟨rfl, _⟩ | ⟨g, cap, cur, rfl, _, hg', _⟩
  · simp [Value.ownBlock]
  · intro hq
    have e2 : kI = g := by simpa [Value.ownBlock] using hq
    subst e2
    rw [hg'] at hk
    cases hk
theorem own_low {w : World} {base base' e size n : Nat} {v : Value} {xs : List Value} (h : w.ownsRow base e size v n xs) (hb : base' ≤ base) : w.ownsRow base' e size v n xs := by
  refine ⟨h.1, h.2.imp id ?_⟩
  rintro ⟨g, cap, cur, h1, h2, h3⟩
  exact ⟨g, cap, cur, h1, Nat.le_trans hb h2, h3⟩
theorem words_len (q : Nat) : ∀ n, (wordsL q n).length = q ^ n
  | 0 => rfl
  | n + 1 => by
    unfold wordsL
    rw [List.length_flatMap]
    have : (wordsL q n).map (fun s => ((List.range q).map fun c => s ++ [ltr c]).length) = List.replicate (wordsL q n).length q := by
      rw [List.eq_replicate_iff]
      refine ⟨by simp, fun b hb => ?_⟩
      obtain ⟨s, _, rfl⟩ := List.mem_map.1 hb
      simp
    rw [this, List.sum_replicate_nat, words_len q n, Nat.pow_succ]
theorem stL_few (set : List Str) {q : Nat} (hq : q ≤ 3) : (stL set q).length ≤ 121 := by
  have h : ∀ d, (lay set q d).length ≤ 3 ^ d := fun d => by
    refine Nat.le_trans (List.length_filter_le _ _) ?_
    rw [words_len]
    exact Nat.pow_le_pow_left hq d
  have h0 := h 0
  have h1 := h 1
  have h2 := h 2
  have h3 := h 3
  have h4 := h 4
  rw [stL_eq]
  simp only [List.length_append]
  omega
theorem infoI : (Try.prog.info? 3).map (fun i => (i.zero, i.size, i.bytes)) = some (some (.int .i64 0), 1, 8) := by kernel_rfl
theorem infoS : (Try.prog.info? 9).map (fun i => (i.zero, i.size, i.bytes)) = some (some (.string ⟨#[]⟩), 1, 16) := by kernel_rfl
theorem infoR : (Try.prog.info? 45).map (fun i => (i.zero, i.size, i.bytes)) = some (some (.slice none 0 0), 1, 24) := by kernel_rfl
theorem takes_row {row : List Int} {c : Nat} {x : Int} (h : row[c]? = some x) : encI (row.take (c + 1)) = encI (row.take c) ++ [.int .i64 x] := by
  unfold encI
  obtain ⟨h1, rfl⟩ := List.getElem?_eq_some_iff.1 h
  rw [List.take_succ_eq_append_getElem h1, List.map_append]
  rfl
end Go.Proofs.Ytpclkocfbkjabaa
