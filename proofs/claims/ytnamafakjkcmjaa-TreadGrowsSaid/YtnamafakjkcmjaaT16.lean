/-
  sorted: a sorted copy of a list of strings.
-/
import Derived.Test.YtnamafakjkcmjaaT15
import Derived.Sort.OwnSorted
namespace Go.Proofs.Ytnamafakjkcmjaa
open Go.RowKit Go.Shelf Go.Sort
set_option linter.unusedVariables false
set_option linter.unusedSimpArgs false

def sortS (L : List Str) : List Str := L.mergeSort fun x y => decide (x ≤ y)
theorem sortS_len (L : List Str) : (sortS L).length = L.length := by simp [sortS]
theorem encS_enc (L : List Str) : encS L = L.map encStr := rfl
set_option maxRecDepth 100000 in
set_option maxHeartbeats 4000000 in
theorem sorted_any (L : List Str) (b n c base : Nat) (w : World) (hn : n = L.length) (h0 : 0 < n) (hs : n ≤ 100000) (hv : w.ownsRow base 9 1 (.slice (some ⟨b, 0, none⟩) n c) n (encS L)) :
    Calls Try.prog 55 #[.slice (some ⟨b, 0, none⟩) n c] w fun e w' => ∃ v', e = .returned v' ∧ w'.ownsRow w.heap.size 9 1 v' n (encS (sortS L)) ∧ Below w.heap.size w w' := by
  have CL := Lib.hid (Try.slices_Clone_string b 0 n c (L.map bs) w (by simp; omega) (by omega) (fun j hj => by
    have hj' : j < L.length := by simpa using hj
    rw [Nat.zero_add, hv.cellAt j (by omega)]
    unfold encS
    rw [List.getElem?_map, List.getElem?_eq_getElem hj', List.getD_eq_getElem?_getD, List.getElem?_map, List.getElem?_eq_getElem hj']
    rfl))
  have HNN := Lib.hid hn
  clear hv hn
  go_enter Try.func55, Try.ntmps55
  go_wp2_with fail
  refine CL.out.mono ?_
  rintro e w1 ⟨v1, rfl, ho, _, r1⟩
  have hn := HNN.out
  have he : ((L.map bs).take n).map Value.string = L.map encStr := by
    rw [List.take_of_length_le (by simp; omega), List.map_map]
    rfl
  rw [he] at ho
  obtain ⟨g, cap, cur, rfl, hbase, hb, k1, k2, k3, k4⟩ : ∃ g cap cur, v1 = .slice (some ⟨g, 0, none⟩) n cap ∧ w.heap.size ≤ g ∧ w1.heap[g]? = some (.cells cur 9 (0, 0)) ∧ n ≤ cap ∧ cap ≤ maxLen ∧ cur.size = cap * 1 ∧ cur.toList.take (n * 1) = L.map encStr := by
    rcases ho.2 with ⟨_, h⟩ | h
    · omega
    · exact h
  have SO := Lib.hid (Try.slices_Sort_string g 0 cap L w1 (holds_of_block hb (by rw [← hn]; simpa using k4)) (Array.getElem?_eq_some_iff.1 hb).1 (by omega))
  rw [← hn] at SO
  have hk1 : L.length ≤ cap := by omega
  have HR : Hid (∀ m os, (grow (putRow encStr (Sort.ahead w1 m) g 0 (sortS L).toArray) os).ownsRow w.heap.size 9 1 (.slice (some ⟨g, 0, none⟩) n cap) n (encS (sortS L)) ∧ Below w.heap.size w (grow (putRow encStr (Sort.ahead w1 m) g 0 (sortS L).toArray) os)) := Lib.hid fun m os => by
    have h := ownsRow_sorted (n := m) (os := os) (sortS_len L) hbase hb hk1 k2 k3
    rw [← hn] at h
    exact ⟨h, r1.grown (grownBy_sorted _) r1.size (fun r e => by cases e; exact hbase)⟩
  clear ho hb k4 he k3 r1 hn hk1
  go_wp2_with fail
  refine SO.out.mono ?_
  rintro e w2 ⟨rfl, m, os, rfl⟩
  go_wp2_with fail
  go_ret
  exact ⟨_, rfl, (HR.out m os).1, (HR.out m os).2⟩
end Go.Proofs.Ytnamafakjkcmjaa
