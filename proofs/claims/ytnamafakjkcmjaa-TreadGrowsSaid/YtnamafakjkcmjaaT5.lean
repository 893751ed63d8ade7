/-
  The machine's steps: an iterator over the letters that can come in a state.
-/
import Derived.Test.YtnamafakjkcmjaaT4
import Derived.RangeFuncNested
import Derived.RangeFuncBound
import Derived.RangeFuncCalls
import Derived.RangeFuncLeaves
import Derived.RangeFuncBox
import Derived.Shelf.Abstract
import Derived.Shelf.RegionOpen
import Derived.OwnWalkIn
import Derived.TacticsInMore
import Derived.LoopNIn
import Derived.LoopIn
import Derived.Maps.OwnIn
import Derived.Sort.BigQuietIn
namespace Go.Proofs.Ytnamafakjkcmjaa
open Go.RowKit Go.Shelf
set_option linter.unusedVariables false
set_option linter.unusedSimpArgs false
attribute [local go_sem] Oper.semAt_some

theorem room_of_none {F : Fence} (hd : F.depth = none) (k : Nat) : F.room k := fun d h => by rw [hd] at h; cases h
theorem YieldAt.anyDepth {F : Fence} (hd : F.depth = none) {m : Nat} (m' : Nat) {P : Program} {l : Nat} {args : Array Value} {W : World} {R : Ending → World → Prop} (h : YieldAt F m P l args W R) : YieldAt F m' P l args W R := by
  obtain ⟨fn, tmps, assign, body, hy, hR⟩ := h
  exact ⟨fn, tmps, assign, body, hy, hR.1, fun c cs _ => hR.2 c cs (room_of_none hd _)⟩
theorem steps_in (n gm : Nat) (i : Int) (w : World) :
    CallsIn Fence.wide n Try.prog 34 #[.pointer (some ⟨gm, 0, none⟩), .int .i64 i] w fun e w' => e = .returned (.func (.func 50) #[] #[.pointer (some ⟨w.heap.size, 0, none⟩), .pointer (some ⟨w.heap.size + 1, 0, none⟩)]) ∧
      w' = (w.alloc (.cells #[.pointer (some ⟨gm, 0, none⟩)] 56)).alloc (.cells #[.int .i64 i] 3) := by
  have hmf : ∀ (fn : Fn) (first cap : Array Value) (w : World), (Instr.makeFunc fn first cap).run Try.prog w = .ok (.func fn first cap) w := fun _ _ _ _ => rfl
  refine callsIn_of_wp Try.func34 rfl trivial ?_ rfl
  simp only [Try.ntmps34, List.size_toArray, List.length_cons, List.length_nil, Nat.reduceAdd, Nat.reduceSub, Array.replicate_succ, Array.replicate_zero, List.push_toArray, List.append_toArray, List.nil_append, List.cons_append]
  gi_wp2
  go_ret
  exact ⟨rfl, rfl⟩
/-- What a step hands over. -/
def encP (p : Nat × Nat) : Array Value := #[.string (bs [ltr p.1]), .int .i64 p.2]
theorem steps_take {row : List Int} {k : Nat} (hk : k < row.length) : stepsL (row.take (k + 1)) = stepsL (row.take k) ++ (if 0 ≤ row[k] then [(k, row[k].toNat)] else []) := by
  unfold stepsL
  rw [List.take_succ_eq_append_getElem hk, List.zipIdx_append, List.filterMap_append]
  congr 1
  simp only [List.length_take, Nat.min_eq_left (Nat.le_of_lt hk), List.zipIdx_singleton, List.filterMap_cons, List.filterMap_nil]
  by_cases h : 0 ≤ row[k]
  · rw [if_pos h, if_pos h]; simp
  · rw [if_neg h, if_neg h]
theorem steps_prefix (row : List Int) (k : Nat) : stepsL (row.take k) <+: stepsL row := by
  unfold stepsL
  have h : row.zipIdx = (row.take k).zipIdx ++ (row.drop k).zipIdx (0 + (row.take k).length) := by
    rw [← List.zipIdx_append, List.take_append_drop]
  rw [h, List.filterMap_append]
  exact ⟨_, rfl⟩
theorem grown_drew (w : World) (n : Nat) : w.grownBy (w.drewN n) none := ⟨rfl, rfl, rfl, Nat.le_refl _, fun _ _ _ => rfl⟩
/-- What the machine's memory says of one state. -/
theorem MachAt.row {w W : World} {g q : Nat} {S : List Str} {T : Tab} {i : Nat} (h : MachAt w g q S T) (hb : Below w.heap.size w W) (hi : i < T.length) : ∃ gN cN b c, gN < w.heap.size ∧ b < w.heap.size ∧ g < w.heap.size ∧
    W.cell? ⟨g, 2, none⟩ = some (.slice (some ⟨gN, 0, none⟩) T.length cN) ∧ W.cell? ⟨gN, i, none⟩ = some (.slice (some ⟨b, 0, none⟩) (T.getD i []).length c) ∧
    ∀ W', Below w.heap.size w W' → ∀ j, j < (T.getD i []).length → W'.cell? ⟨b, j, none⟩ = some (.int .i64 ((T.getD i []).getD j 0)) := by
  obtain ⟨gS, cS, gN, cN, hdrs, h1, h2, h3, h4⟩ := h
  obtain ⟨b, c, cur, e1, e2, e3, e4, e5, e6⟩ := h4.2 i hi
  have hgN : gN < w.heap.size := (h3.lt gN rfl).2
  refine ⟨gN, cN, b, c, hgN, e2, h1.lt, ?_, ?_, fun W' hb' j hj => ?_⟩
  · exact (hb.cell (p := ⟨g, 2, none⟩) h1.lt).trans ((h1.cell 2).trans rfl)
  · exact (hb.cell (p := ⟨gN, i, none⟩) hgN).trans ((h3.cellAt i (by omega)).trans e1)
  · refine (hb'.cell (p := ⟨b, j, none⟩) e2).trans ?_
    rw [cell_of_row w b j cur _ (0, 0) e3]
    exact e6 j hj
theorem abc_at {q k : Nat} (hk : k < q) (hq : q ≤ 3) : (⟨#[97, 98, 99]⟩ : ByteArray).extract k (k + 1) = bs [ltr k] := by
  have : k = 0 ∨ k = 1 ∨ k = 2 := by omega
  rcases this with rfl | rfl | rfl <;> rfl

set_option maxRecDepth 100000 in
set_option maxHeartbeats 2000000 in
theorem steps1_in (m l gm q B1 B2 i : Nat) (S : List Str) (T : Tab) (we : World) (hM : MachAt we gm q S T) (hT : TabOk T S.length q) (hq : q ≤ 3) (hS : S.length ≤ 121) (hi : i < S.length) (J Jx : List (Nat × Nat) → World → Prop)
    (hJ : ∀ pre W W', J pre W → W.grownBy W' none → J pre W')
    (hY : ∀ pre x W, x ∈ stp T i → J pre W → pre.length < (stp T i).length → YieldAt Fence.wide (m - 1) Try.prog l (encP x) W fun e W' =>
      (e = .returned (.bool true) ∧ J (pre ++ [x]) W' ∧ Below we.heap.size W W') ∨ (e = .returned (.bool false) ∧ Jx (pre ++ [x]) W'))
    (W : World) (hb : Below we.heap.size we W) (hc1 : W.cell? ⟨B1, 0, none⟩ = some (.pointer (some ⟨gm, 0, none⟩))) (hc2 : W.cell? ⟨B2, 0, none⟩ = some (.int .i64 i)) (h0 : J [] W) :
    CallsIn Fence.wide m Try.prog 50 #[.func (.yield l) #[] #[], .pointer (some ⟨B1, 0, none⟩), .pointer (some ⟨B2, 0, none⟩)] W fun e W' => (∃ v, e = .returned v) ∧ ((∃ ys, ys = stp T i ∧ J ys W') ∨ (∃ pre, pre <+: stp T i ∧ Jx pre W')) := by
  have hdd : ∀ k : Nat, (Fence.wide.depth.isSome = true → 1 ≤ k) := fun k h => by cases h
  obtain ⟨gN, cN, b, c, hgN, hbl, hgl, m1, m2, m3⟩ := hM.row hb (by rw [hT.len]; exact hi)
  have hTl := hT.len
  have hrow := (hT.at hi).1
  have hto := (hT.at hi).2
  obtain ⟨row, hr⟩ : ∃ row, row = T.getD i [] := ⟨_, rfl⟩
  have hstp : stp T i = stepsL row := by rw [hr]; rfl
  rw [← hr] at m2 m3 hrow hto
  rw [hTl] at m1
  rw [hrow] at m2 m3
  rw [hstp] at hY ⊢
  have M3 := Lib.hid m3
  have HY := Lib.hid hY
  have HT := Lib.hid hto
  have HR := Lib.hid hrow
  have HJ := Lib.hid hJ
  have hwz := hb.size
  have HB := Lib.hid hb
  clear hM hT hr hstp m3 hY hto hrow hJ hTl hb
  refine callsIn_of_wp Try.func50 rfl trivial ?_ rfl
  simp only [Try.ntmps50, List.size_toArray, List.length_cons, List.length_nil, Nat.reduceAdd, Nat.reduceSub, Array.replicate_succ, Array.replicate_zero, List.push_toArray, List.append_toArray, List.nil_append, List.cons_append]
  gi_wp2
  gi_big_quiet_th (fail)
  have HB1 := Lib.hid (bl_drewN HB.out nq)
  have HJ1 := Lib.hid (HJ.out [] _ _ h0 (grown_drew W nq))
  clear h0 m1 m2 hc1 hc2 HB
  generalize W.drewN nq = W1 at *
  gi_wp2
  gi_loopw [14] (fun v wr => ∃ k : Nat, k ≤ q ∧ v = .int .i64 k ∧ Hid (J (stepsL (row.take k)) wr) ∧ Hid (Below we.heap.size we wr)) (fun v _ => q - (intOf v).toNat)
  case atStart => exact ⟨0, Nat.zero_le _, rfl, HJ1, HB1⟩
  case round =>
    obtain ⟨k, hk, rfl, HK, HBk⟩ := hrel
    clear HJ1 HB1
    by_cases hlt : k < q
    · have hkr : k < row.length := by have := HR.out; omega
      have cx := M3.out wr HBk.out k hlt
      have st := steps_take hkr
      have ex : row.getD k 0 = row[k] := by rw [List.getD_eq_getElem?_getD, List.getElem?_eq_getElem hkr]; rfl
      have hx := HT.out row[k] (List.getElem_mem hkr)
      have hbw : b < wr.heap.size := Nat.lt_of_lt_of_le hbl HBk.out.size
      rw [ex] at cx
      obtain ⟨x, hrk⟩ : ∃ x, row[k] = x := ⟨_, rfl⟩
      rw [hrk] at cx st hx
      by_cases hx0 : 0 ≤ x
      · obtain ⟨j, rfl⟩ : ∃ j : Nat, x = j := ⟨x.toNat, by omega⟩
        rw [if_pos hx0, Int.toNat_natCast] at st
        have hpl : (stepsL (row.take k)).length < (stepsL row).length := by
          have := (steps_prefix row (k + 1)).length_le
          rw [st] at this
          simp at this
          omega
        have hmem : (k, j) ∈ stepsL row := mem_steps.2 (by rw [List.getElem?_eq_getElem hkr]; exact congrArg some hrk)
        have hy0 := HY.out (stepsL (row.take k)) (k, j) wr hmem HK.out hpl
        rw [← st] at hy0
        unfold encP at hy0
        obtain ⟨fn, tmps, assign, body, hy, hR⟩ := hy0
        dsimp only at hy
        have habc := abc_at hlt hq
        have HPX := Lib.hid (steps_prefix row (k + 1))
        clear st ex hx hpl hkr HK hmem hrk
        gi_wp2_with ((try refine ⟨hdd _, ?_⟩); refine hR.mono ?_; clear hR; rintro e W2 (⟨rfl, hJ2, hk2⟩ | ⟨rfl, hx2⟩))
        · have HJ2 : Hid (J (stepsL (row.take (k + 1))) W2) := hJ2
          have HB2 : Hid (Below we.heap.size we W2) := HBk.out.trans hk2
          clear hJ2 hk2
          go_roundw
          case rel => exact ⟨k + 1, by omega, by go_num, HJ2, HB2⟩
          case measure => simp [intOf]; omega
        · refine ⟨rfl, _, results_none rfl _ _ _, ⟨_, rfl⟩, .inr ⟨_, HPX.out, hx2⟩⟩
      · rw [if_neg hx0, List.append_nil] at st
        have hx1 : x = -1 := by omega
        subst hx1
        have HK2 : Hid (J (stepsL (row.take (k + 1))) wr) := by show J _ wr; rw [st]; exact HK.out
        clear st ex hx hkr HK hx0 hrk
        gi_wp2
        refine ⟨(fun f h => by cases h), ?_⟩
        gi_wp2
        go_roundw
        case rel => exact ⟨k + 1, by omega, by go_num, HK2, HBk⟩
        case measure => simp [intOf]; omega
    · have ek : k = q := by omega
      have HK2 : Hid (J (stepsL row) wr) := by
        show J _ wr
        have := HK.out
        rw [List.take_of_length_le (by have := HR.out; omega)] at this
        exact this
      clear ek HK
      gi_wp2
      go_end0
      exact ⟨⟨_, rfl⟩, .inl ⟨_, rfl, HK2.out⟩⟩
end Go.Proofs.Ytnamafakjkcmjaa
