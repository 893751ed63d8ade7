/-
  slices.SortFunc at triples; SortedFunc; all; All.
-/
import Derived.Test.YtpflmlnkflpbnaaDoorW65
import Derived.Test.YtpflmlnkflpbnaaDoorW66
import Derived.Test.YtpflmlnkflpbnaaDoorShelf2
namespace Go.Proofs.YtpflmlnkflpbnaaDoor
open Go.RowKit Go.Sort Go.Shelf Cam
set_option linter.unusedVariables false

def enc3 (t : T3') : List Value := [.int .i64 t.1, .int .i64 t.2.1, .int .i64 t.2.2]
theorem flatK3 (ts : List T3') : flatK enc3 3 ts.toArray = (flat ts).toArray := by
  apply Array.ext
  · simp [flatK, flat_length]
  · intro i h1 h2
    have h : i < ts.length * 3 := by simpa [flatK] using h1
    have hq : i / 3 < ts.length := by omega
    have e1 : (flatK enc3 3 ts.toArray)[i] = (enc3 ts[i / 3])[i % 3]! := by
      simp only [flatK, Array.getElem_map, Array.getElem_range]
      rw [getElem!_pos ts.toArray (i / 3) (by simpa using hq)]
      simp
    rw [e1]
    have hf : i < (flat ts).length := by rw [flat_length]; exact h
    have e2 : (flat ts).toArray[i] = (flat ts)[i] := by simp
    rw [e2]
    have key0 : ∀ q r (hq : q < ts.length), r < 3 → some ((enc3 ts[q])[r]!) = (flat ts)[q * 3 + r]? := by
      intro q r hq hr
      obtain ⟨a, b, c⟩ := flat_get ts q hq
      have : r = 0 ∨ r = 1 ∨ r = 2 := by omega
      rcases this with rfl | rfl | rfl
      · exact a.symm
      · exact b.symm
      · exact c.symm
    have key := key0 (i / 3) (i % 3) hq (by omega)
    rw [show i / 3 * 3 + i % 3 = i by omega] at key
    rw [List.getElem?_eq_getElem hf] at key
    exact Option.some.inj key

theorem heap_sortedV {w : World} {g n : Nat} {os : Array Obj} {cur : Array Value} {e : TypeId} {fr : Nat × Nat} (d : Array Value) (hb : w.heap[g]? = some (.cells cur e fr)) :
    (grow (putRow id (Sort.ahead w n) g 0 d) os).heap[g]? = some (.cells (putCells id 0 d cur) e fr) := by
  have hg : g < w.heap.size := (Array.getElem?_eq_some_iff.1 hb).1
  rw [heap_grow_old _ _ (by simpa using hg)]
  simp [putRow, mapBlock, Sort.ahead, Array.getElem?_modify, hb, onCells]
theorem grownBy_sortedV {w : World} {g n : Nat} {os : Array Obj} (d : Array Value) : w.grownBy (grow (putRow id (Sort.ahead w n) g 0 d) os) (some g) := by
  refine ⟨rfl, rfl, rfl, by simp, fun k hk hne => ?_⟩
  rw [heap_grow_old _ _ (by simpa using hk)]
  have : g ≠ k := fun e => hne (by rw [e])
  simp [putRow, mapBlock, Sort.ahead, Array.getElem?_modify, this]
theorem take_putCellsV (cur : Array Value) (ts : List Value) (h : ts.length ≤ cur.size) : (putCells id 0 ts.toArray cur).toList.take ts.length = ts := by
  apply List.ext_getElem?
  intro j
  by_cases hj : j < ts.length
  · rw [List.getElem?_take_of_lt hj, Array.getElem?_toList]
    simp [putCells, hj, show j < cur.size by omega]
  · rw [List.getElem?_take_eq_none (by omega), List.getElem?_eq_none (by omega)]
theorem ltOrd (t u : T3') : ltOf ordI t u = decide (Bef t u) := by
  unfold ltOf
  rw [decide_eq_decide]
  exact ordI_lt t u
theorem swoOrd : SWO (ltOf ordI) where
  irrefl x := by rw [ltOrd]; simpa using fun h => bef_asymm h h
  trans x y z h1 h2 := by rw [ltOrd] at *; simp at *; exact bef_trans h1 h2
  ntrans x y z h1 h2 := by
    rw [ltOrd] at *
    simp at *
    unfold Bef at *
    omega
theorem totOrd (x y : T3') (h1 : ltOf ordI x y = false) (h2 : ltOf ordI y x = false) : x = y := by
  rw [ltOrd] at *
  simp at *
  obtain ⟨a, b, c⟩ := x
  obtain ⟨p, q, r⟩ := y
  unfold Bef at *
  simp only at *
  have : a = p ∧ b = q ∧ c = r := by omega
  obtain ⟨rfl, rfl, rfl⟩ := this
  rfl



theorem sortFunc_any (base g cap : Nat) (ts us : List T3') (w : World) (hown : w.ownsRow base 42 3 (.slice (some ⟨g, 0, none⟩) ts.length cap) ts.length (flat ts)) (hg : w.heap.size ≤ base ∨ True) (hl : ts.length ≤ 1000000) (hp : ts.Perm us) (hs : us.Pairwise Bef) :
    Calls Tryd.prog 18 #[.slice (some ⟨g, 0, none⟩) ts.length cap, .func (.func 19) #[] #[]] w fun e w' => e = .returned (.tuple #[]) ∧
      w'.ownsRow base 42 3 (.slice (some ⟨g, 0, none⟩) us.length cap) us.length (flat us) ∧ w.grownBy w' (some g) := by
  have hus : (ts.mergeSort fun x y => !ltOf ordI y x) = us := by
    refine List.Perm.eq_of_pairwise (le := fun x y => (!ltOf ordI y x) = true) (fun a b _ _ h1 h2 => ?_) ?_ ?_ ((List.mergeSort_perm _ _).trans hp)
    · refine totOrd a b ?_ ?_
      · simpa using h2
      · simpa using h1
    · refine List.pairwise_mergeSort (le := fun x y => !ltOf ordI y x) (fun a b c h1 h2 => ?_) (fun a b => ?_) _
      · simp only [ltOrd, Bool.not_eq_true', decide_eq_false_iff_not] at *
        unfold Bef at *
        omega
      · simp only [ltOrd, Bool.or_eq_true, Bool.not_eq_true', decide_eq_false_iff_not]
        by_cases h : Bef b a
        · exact .inr fun k => bef_asymm h k
        · exact .inl h
    · refine hs.imp fun h => ?_
      simp only [ltOrd, Bool.not_eq_true', decide_eq_false_iff_not]
      exact fun k => bef_asymm h k
  rcases hown.2 with ⟨h0, _⟩ | ⟨g', cap', cur, hv, hb, hh, h1, h2, h3, h4⟩
  · cases h0
  · simp only [Value.slice.injEq, Option.some.injEq, Addr.mk.injEq, true_and, and_true] at hv
    obtain ⟨rfl, rfl⟩ := hv
    have hcs : (flat ts).length ≤ cur.size := by rw [flat_length, h3]; exact Nat.mul_le_mul_right _ h1
    have hlu : us.length = ts.length := hp.length_eq.symm
    have hH : HoldsK enc3 3 w g 0 ts.toArray := by
      unfold HoldsK
      rw [flatK3]
      intro j hj
      have hj' : j < (flat ts).length := by simpa using hj
      refine ⟨?_, by simp [World.frozen?, hh]⟩
      rw [Nat.zero_add, hown.cellAt j (by rw [← flat_length]; exact hj'), List.getElem?_eq_getElem hj', getElem!_pos _ j (by simpa using hj')]
      simp
    have hcmp : CmpLays Tryd.prog 19 #[] enc3 3 ordI g 0 ts.toArray.size w := fun m os dk _ x y => order_any x y _
    have K := AnyQ.slices_SortFunc_total Tryd.laysSortT 3 Tryd.isAgg42 Tryd.sizeOf42 enc3 (fun _ => rfl) (fun x v hv => by simp [enc3] at hv; rcases hv with rfl | rfl | rfl <;> rfl) ordI swoOrd 19 #[] g 0 cap ts.toArray w (enters_of Tryd.func19 (by kernel_rfl) rfl) hcmp hH (Array.getElem?_eq_some_iff.1 hh).1 (by simp; omega) totOrd
    refine K.mono ?_
    rintro e w' ⟨rfl, n, os, rfl⟩
    refine ⟨rfl, ?_, ?_⟩
    · unfold sortWorldK putRowK
      rw [show ts.toArray.toList = ts from rfl, hus, flatK3]
      refine ⟨by rw [flat_length], .inr ⟨g, cap, _, rfl, hb, heap_sortedV _ hh, by omega, h2, by simp [putCells, h3], ?_⟩⟩
      rw [← flat_length]
      exact take_putCellsV cur (flat us) (by rw [flat_length] at *; omega)
    · unfold sortWorldK putRowK
      exact grownBy_sortedV _
end Go.Proofs.YtpflmlnkflpbnaaDoor
