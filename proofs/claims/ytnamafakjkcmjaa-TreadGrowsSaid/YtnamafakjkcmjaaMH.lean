/-
  Several texts in one: XT48, XT49, XT50, XT51, XT52, XT53.
-/
import Derived.Test.YtnamafakjkcmjaaMD
import Derived.Test.YtnamafakjkcmjaaT22
import Derived.Test.YtnamafakjkcmjaaME
import Derived.Lib.SliceRun
import Derived.Test.YtnamafakjkcmjaaT34
import Derived.Lib.RowBridge
import Derived.Deep.RegionHeld3
namespace Go.Proofs.Ytnamafakjkcmjaa
open Go.RowKit Go.Shelf
set_option linter.unusedVariables false
set_option linter.unusedSimpArgs false

def oth (s p : ByteArray) : Bool := !decide (p = s) && Lib.contains (sb s) (sb p)
theorem str_beq (a b : ByteArray) : (a.toList == b.toList) = decide (a = b) := by
  rw [Bool.eq_iff_iff]
  simp only [beq_iff_eq, decide_eq_true_eq]
  constructor
  · intro h
    rw [Lib.toList_data, Lib.toList_data] at h
    exact sb_inj h
  · rintro rfl; rfl
/-- Whether another pattern is in this one. -/
def inB (ss : List ByteArray) (s : ByteArray) : Bool := ss.any (oth s)
/-- A test on strings, as a function that may make memory. -/
def TestAt (F : Nat) (lb : Array Value) (P : ByteArray → Bool) (zs : List ByteArray) (Φ : World → Prop) : Prop := ∀ s ∈ zs, ∀ W, Φ W → Calls Try.prog F (#[.string s] ++ lb) W fun e w' => e = .returned (.bool (P s)) ∧ Below W.heap.size W w'
end Go.Proofs.Ytnamafakjkcmjaa

namespace Go.Proofs.Ytnamafakjkcmjaa
open Go.RowKit Go.Shelf
set_option linter.unusedVariables false
set_option linter.unusedSimpArgs false

theorem own_setCells {base e g n cap : Nat} : ∀ (vs : List Value) (o : Nat) (W : World) (xs : List Value), W.ownsRow base e 1 (.slice (some ⟨g, 0, none⟩) n cap) n xs →
    ∃ xs', (W.setCells g o vs).ownsRow base e 1 (.slice (some ⟨g, 0, none⟩) n cap) n xs' ∧ (∀ t, t < o → xs'[t]? = xs[t]?) ∧ W.grownBy (W.setCells g o vs) (some g)
  | [], o, W, xs, h => ⟨xs, h, fun t _ => rfl, grown_refl W _⟩
  | v :: vs, o, W, xs, h => by
    obtain ⟨h1, h2⟩ := h.stored o v
    obtain ⟨xs', h3, h4, h5⟩ := own_setCells vs (o + 1) _ _ h1
    refine ⟨xs', h3, fun t ht => ?_, grown_trans h2 h5 fun r e => .inl (by cases e; rfl)⟩
    rw [h4 t (by omega), List.getElem?_set_ne (by omega)]
theorem own_take {W : World} {base e g n cap i : Nat} {xs : List Value} (h : W.ownsRow base e 1 (.slice (some ⟨g, 0, none⟩) n cap) n xs) (hi : i ≤ n) : W.ownsRow base e 1 (.slice (some ⟨g, 0, none⟩) i cap) i (xs.take i) := by
  have hl := h.1
  rcases h.2 with ⟨h', _⟩ | ⟨g', cap', cur, h', hb, hg, h3, h4, h5, h6⟩
  · simp at h'
  · simp only [Value.slice.injEq, Option.some.injEq, Addr.mk.injEq, and_true, true_and] at h'
    obtain ⟨rfl, rfl⟩ := h'
    refine ⟨by rw [List.length_take]; omega, .inr ⟨g, cap, cur, rfl, hb, hg, by omega, h4, h5, ?_⟩⟩
    rw [← h6, List.take_take]
    congr 1
    omega
/-- What is kept of the first j. -/
def kpB (P : ByteArray → Bool) (zs : List ByteArray) (j : Nat) : List ByteArray := (zs.take j).filter fun s => !P s
theorem kp_succ {P : ByteArray → Bool} {zs : List ByteArray} {j : Nat} (h : j < zs.length) : kpB P zs (j + 1) = kpB P zs j ++ (if P (zs.getD j ByteArray.empty) = true then [] else [zs.getD j ByteArray.empty]) := by
  unfold kpB
  rw [List.take_succ_eq_append_getElem h, List.filter_append, List.getD_eq_getElem?_getD, List.getElem?_eq_getElem h]
  simp only [Option.getD_some]
  cases hp : P zs[j] <;> simp [hp]
theorem kp_len (P : ByteArray → Bool) (zs : List ByteArray) (j : Nat) : (kpB P zs j).length ≤ j := by
  unfold kpB
  refine Nat.le_trans (List.length_filter_le _ _) ?_
  simp; omega
theorem kp_first {P : ByteArray → Bool} {zs : List ByteArray} : ∀ {i : Nat}, i ≤ zs.length → (∀ j, j < i → P (zs.getD j ByteArray.empty) = false) → kpB P zs i = zs.take i
  | 0, _, _ => by simp [kpB]
  | i + 1, hi, h => by
    rw [kp_succ (by omega), kp_first (by omega) (fun j hj => h j (by omega)), h i (by omega), List.take_succ_eq_append_getElem (by omega), List.getD_eq_getElem?_getD, List.getElem?_eq_getElem (by omega)]
    rfl
theorem encB_at {zs : List ByteArray} {j : Nat} (h : j < zs.length) : (encB zs)[j]? = some (.string (zs.getD j ByteArray.empty)) := by
  unfold encB
  rw [List.getElem?_map, List.getElem?_eq_getElem h, List.getD_eq_getElem?_getD, List.getElem?_eq_getElem h]
  rfl
end Go.Proofs.Ytnamafakjkcmjaa

namespace Go.Proofs.Ytnamafakjkcmjaa
open Go.RowKit Go.Shelf Go.Sort
set_option linter.unusedVariables false
set_option linter.unusedSimpArgs false

theorem cloneB_any (v : Value) (ss : List ByteArray) (w : World) (hv : StrsAt w v ss) (hl : ss.length ≤ 1000) :
    Calls Try.prog 56 #[v] w fun e w' => ∃ v', e = .returned v' ∧ w'.ownsRow w.heap.size 9 1 v' ss.length (encB ss) ∧ Below w.heap.size w w' := by
  obtain ⟨A, c, rfl, hlc, hcm, hA⟩ := hv
  by_cases h0 : ss.length = 0
  · have e1 : ss = [] := List.eq_nil_of_length_eq_zero h0
    subst e1
    cases A with
    | none =>
      refine (Try.slices_Clone_string_nil 0 c w).mono ?_
      rintro e w' ⟨rfl, rfl⟩
      exact ⟨_, rfl, World.ownsRow_nil _ _ _ _, bl_refl _⟩
    | some a =>
      refine (Try.slices_Clone_string_zero a c w).mono ?_
      rintro e w' ⟨v', rfl, h1, _, h2⟩
      exact ⟨v', rfl, h1, h2⟩
  · obtain ⟨g, off, rfl, hg, hc⟩ := hA (by omega)
    refine (Try.slices_Clone_string g off ss.length c ss w (Nat.le_refl _) (by omega) hc).mono ?_
    rintro e w' ⟨v', rfl, h1, _, h2⟩
    rw [List.take_length] at h1
    exact ⟨v', rfl, h1, h2⟩
/-- What is left when the patterns that hold another one are left out. -/
def tidB (ss : List ByteArray) : List ByteArray := ss.filter fun s => !inB ss s
/-- A list without one. -/
def dropB (ss : List ByteArray) (i : Nat) : List ByteArray := ss.take i ++ ss.drop (i + 1)
theorem drop_len {ss : List ByteArray} {i : Nat} (h : i < ss.length) : (dropB ss i).length = ss.length - 1 := by unfold dropB; simp; omega
theorem drop_sub (ss : List ByteArray) (i : Nat) : ∀ s ∈ dropB ss i, s ∈ ss := fun s hs => by
  unfold dropB at hs
  rcases List.mem_append.1 hs with h | h
  · exact List.mem_of_mem_take h
  · exact List.mem_of_mem_drop h
theorem drop_ok {ss : List ByteArray} {i : Nat} {t : Str} (h : okL (pats ss) t = true) : okL (pats (dropB ss i)) t = true := by
  refine ok_sub (fun p hp => ?_) h
  unfold pats at hp ⊢
  obtain ⟨s, hs, rfl⟩ := List.mem_map.1 hp
  exact List.mem_map.2 ⟨s, drop_sub ss i s hs, rfl⟩
theorem size_setCells' (b : Nat) : ∀ (vs : List Value) (o : Nat) (W : World), (W.setCells b o vs).heap.size = W.heap.size
  | [], _, _ => rfl
  | v :: vs, o, W => by
    rw [World.setCells, size_setCells' b vs (o + 1) _]
    simp [World.setCell]
theorem bl_setCells {B b : Nat} (hb : B ≤ b) {a : World} : ∀ (vs : List Value) (o : Nat) (W : World), Below B a W → Below B a (W.setCells b o vs)
  | [], _, _, h => h
  | v :: vs, o, W, h => by
    rw [World.setCells]
    exact bl_setCells hb vs (o + 1) _ (h.setCell hb v)
end Go.Proofs.Ytnamafakjkcmjaa

namespace Go.Proofs.Ytnamafakjkcmjaa
open Go.RowKit Go.Shelf
set_option linter.unusedVariables false
set_option linter.unusedSimpArgs false

theorem unav_any (q : Nat) (v : Value) (ss : List ByteArray) (w : World) (hv : StrsAt w v ss) (hq : 1 ≤ q ∧ q ≤ 3) (h0 : okL (pats ss) [] = true) (hG : HasG w) :
    Calls Try.prog 47 #[.int .i64 q, v] w fun e w' => e = .returned (.bool (endsB (tabL (pats ss) q))) ∧ Below w.heap.size w w' := by
  have hT := tab_ok (q := q) h0
  have hS := stL_few (pats ss) hq.2
  have hN : 0 < (stL (pats ss) q).length := by rw [stL_fix h0]; simp
  refine (isUnavoidable_any q v ss w hv hq h0 hG).mono ?_
  rintro e w' ⟨⟨l, hl, rfl⟩, hb⟩
  refine ⟨?_, hb⟩
  congr 2
  rcases hl with ⟨rfl, h⟩ | ⟨m, rfl, h1, h2⟩
  · unfold endsB
    rw [h 1000]
    rfl
  · rw [ends_iff hT hN hS (.inr ⟨m, rfl, h1, h2⟩)]
    simp
/-- Is the pattern at this place needed? -/
def ndB (q : Nat) (ss : List ByteArray) (i : Nat) : Bool := !endsB (tabL (pats (dropB ss i)) q)
def ndTo (q : Nat) (ss : List ByteArray) (k : Nat) : List ByteArray := ((List.range k).filter (ndB q ss)).map fun i => ss.getD i ByteArray.empty
theorem nd_succ (q : Nat) (ss : List ByteArray) (k : Nat) : ndTo q ss (k + 1) = ndTo q ss k ++ (if ndB q ss k = true then [ss.getD k ByteArray.empty] else []) := by
  unfold ndTo
  rw [List.range_succ, List.filter_append, List.map_append]
  cases h : ndB q ss k <;> simp [h]
theorem nd_len (q : Nat) (ss : List ByteArray) (k : Nat) : (ndTo q ss k).length ≤ k := by
  unfold ndTo
  rw [List.length_map]
  refine Nat.le_trans (List.length_filter_le _ _) ?_
  simp
theorem encB_snoc (L : List ByteArray) (s : ByteArray) : encB (L ++ [s]) = encB L ++ [.string s] := by simp [encB]
end Go.Proofs.Ytnamafakjkcmjaa

namespace Go.Proofs.Ytnamafakjkcmjaa
open Go.RowKit Go.Shelf
set_option linter.unusedVariables false
set_option linter.unusedSimpArgs false

theorem src_cells {w W : World} {g off n : Nat} {ss : List ByteArray} (hg : g < w.heap.size) (hc : ∀ j, j < ss.length → w.cell? ⟨g, off + j, none⟩ = some (.string (ss.getD j ByteArray.empty))) (hb : Below w.heap.size w W) (o : Nat) (L : List ByteArray)
    (hL : ∀ j, j < L.length → o + j < ss.length ∧ L.getD j ByteArray.empty = ss.getD (o + j) ByteArray.empty) : ∀ (j : Nat) u, (encB L)[j]? = some u → W.cell? ((⟨g, off + o, none⟩ : Addr).add j) = some u := by
  intro j u hu
  have hj : j < L.length := by
    rcases Nat.lt_or_ge j L.length with h | h
    · exact h
    · rw [List.getElem?_eq_none (by simp [encB]; omega)] at hu; cases hu
  rw [encB_at hj] at hu
  injection hu with hu
  obtain ⟨h1, h2⟩ := hL j hj
  rw [show (⟨g, off + o, none⟩ : Addr).add j = ⟨g, off + o + j, none⟩ by unfold Addr.add; split <;> simp_all, ← hu, h2, hb.cell (p := ⟨g, off + o + j, none⟩) hg, Nat.add_assoc]
  exact hc _ h1
theorem encB_one (L : List ByteArray) : ∀ u ∈ encB L, u.oneCell' = true := by
  intro u hu
  unfold encB at hu
  obtain ⟨s, _, rfl⟩ := List.mem_map.1 hu
  rfl
theorem encB_len (L : List ByteArray) : (encB L).length = L.length := by simp [encB]
end Go.Proofs.Ytnamafakjkcmjaa

namespace Go.Proofs.Ytnamafakjkcmjaa
open Go.RowKit Go.Shelf
set_option linter.unusedVariables false
set_option linter.unusedSimpArgs false

/-- Is no other pattern in the one at this place? -/
def rtB (ss : List ByteArray) (i : Nat) : Bool := okL (pats (dropB ss i)) (sb (ss.getD i ByteArray.empty))
def selTo (f : Nat → Bool) (ss : List ByteArray) (k : Nat) : List ByteArray := ((List.range k).filter f).map fun i => ss.getD i ByteArray.empty
theorem sel_succ (f : Nat → Bool) (ss : List ByteArray) (k : Nat) : selTo f ss (k + 1) = selTo f ss k ++ (if f k = true then [ss.getD k ByteArray.empty] else []) := by
  unfold selTo
  rw [List.range_succ, List.filter_append, List.map_append]
  cases h : f k <;> simp [h]
theorem sel_len (f : Nat → Bool) (ss : List ByteArray) (k : Nat) : (selTo f ss k).length ≤ k := by
  unfold selTo
  rw [List.length_map]
  refine Nat.le_trans (List.length_filter_le _ _) ?_
  simp
end Go.Proofs.Ytnamafakjkcmjaa
