/-
  Words by their places, one contract for each.
-/
import Derived.Test.YtnamafakjkcmjaaT66
import Derived.Test.YtnamafakjkcmjaaMJ
import Derived.Test.YtnamafakjkcmjaaA28
namespace Go.Proofs.Ytnamafakjkcmjaa
open Go.RowKit Go.Shelf
set_option linter.unusedVariables false
set_option linter.unusedSimpArgs false

set_option maxRecDepth 100000 in
set_option maxHeartbeats 4000000 in
theorem mod_big (x : Int) (n : Nat) (w : World) (hn : 1 ≤ n ∧ n ≤ 1152921504606846977) :
    Calls Try.prog 24 #[.int .i64 x, .int .i64 n] w fun e w' => (∃ r : Nat, r < n ∧ e = .returned (.int .i64 r)) ∧ w = w' := by
  go_enter Try.func24, Try.ntmps24
  go_wp2_with fail
  have h0 : 0 ≤ IntKind.u64.wrap x := wrap_u64_nonneg x
  have h1 : (IntKind.u64.wrap x).tmod (n : Int) = IntKind.u64.wrap x % (n : Int) := Int.tmod_eq_emod_of_nonneg h0
  have h2 := Int.emod_nonneg (IntKind.u64.wrap x) (show (n : Int) ≠ 0 by omega)
  have h3 := Int.emod_lt_of_pos (IntKind.u64.wrap x) (show (0 : Int) < (n : Int) by omega)
  rw [h1]
  obtain ⟨r, hr⟩ : ∃ r : Nat, IntKind.u64.wrap x % (n : Int) = r := ⟨(IntKind.u64.wrap x % (n : Int)).toNat, by omega⟩
  rw [hr] at h2 h3 ⊢
  have h4 : wrap64 (r : Int) = (r : Int) := by unfold wrap64; omega
  rw [h4]
  clear h0 h1 h2 hr h4
  go_ret
  exact ⟨⟨r, by omega, rfl⟩, rfl⟩
section
variable (q n : Nat) (v : Value) (ss : List ByteArray)
theorem Count_at (w : World) (T : Tab) (hT : T = tabL (pats ss) q) (hv : StrsAt w v ss) (hset : setB q ss = true) (hn : n ≤ 60) (hG : HasG w) (hfew : fewB T n = true) :
    Calls Try.prog 25 #[.int .i64 q, v, .int .i64 n] w fun e w' => e = .returned (.tuple #[.int .i64 ((accL T n 0).length : Nat), .int .i64 0]) ∧ Below w.heap.size w w' := by
  refine (Count_any q n v ss w T hT hv hset hn hG).mono ?_
  rintro e w' ⟨h | h, hb⟩
  · rw [hfew] at h; cases h.1
  · refine ⟨?_, hb⟩
    rw [h.2, (few_len hfew (Nat.le_refl n)).2]
theorem Item_at (k : Nat) (s : Str) (w : World) (T : Tab) (hT : T = tabL (pats ss) q) (hv : StrsAt w v ss) (hset : setB q ss = true) (hn : n ≤ 60) (hG : HasG w) (hfew : fewB T n = true) (hs : (accL T n 0)[k]? = some s) :
    Calls Try.prog 21 #[.int .i64 q, v, .int .i64 n, .int .i64 k] w fun e w' => e = .returned (.tuple #[.string (bs s), .int .i64 0]) ∧ Below w.heap.size w w' := by
  refine (Item_any q n k v ss w T hT hv hset hn hG).mono ?_
  rintro e w' ⟨h, hb⟩
  unfold ItemRes at h
  rcases h with ⟨h, _⟩ | ⟨_, h, _⟩ | ⟨k', s', _, hk, h, rfl⟩
  · rw [hfew] at h; cases h
  · have := (List.getElem?_eq_some_iff.1 hs).1
    exact absurd ⟨by omega, by omega⟩ h
  · obtain rfl : k = k' := by omega
    rw [hs] at h
    injection h with h
    rw [h]
    exact ⟨rfl, hb⟩
theorem idx_at {l : List Str} (hn : l.Nodup) {k : Nat} {s : Str} (hs : l[k]? = some s) : l.idxOf s = k := by
  obtain ⟨h1, h2⟩ := List.getElem?_eq_some_iff.1 hs
  rw [← h2]
  exact hn.idxOf_getElem k h1
/-- What a word at a place is. -/
theorem acc_is {T : Tab} (hT : T = tabL (pats ss) q) (hset : setB q ss = true) {k : Nat} {s : Str} (hs : (accL T n 0)[k]? = some s) : s.length = n ∧ Lett q s ∧ okL (pats ss) s = true ∧ (accL T n 0).idxOf s = k ∧ s ∈ accL T n 0 := by
  have hq : 1 ≤ q ∧ q ≤ 3 := by have := (setB_parts hset).1; omega
  have h0 := ok_nil (pats_some hset)
  have hN0 : 0 < (stL (pats ss) q).length := by rw [stL_fix h0]; simp
  have hm := List.mem_of_getElem? hs
  have hm2 := hm
  rw [hT] at hm2
  obtain ⟨h1, h2, h3⟩ := (mem_acc0 h0 (pats_five hset) hq.2 n s).1 hm2
  refine ⟨h1, h2, h3, idx_at ?_ hs, hm⟩
  rw [hT]
  exact acc_nodup (tab_ok (q := q) h0) hq.2 n 0 hN0
theorem Index_at (k : Nat) (s : Str) (w : World) (T : Tab) (hT : T = tabL (pats ss) q) (hv : StrsAt w v ss) (hset : setB q ss = true) (hn : n ≤ 60) (hG : HasG w) (hfew : fewB T n = true) (hs : (accL T n 0)[k]? = some s) :
    Calls Try.prog 16 #[.int .i64 q, v, .string (bs s)] w fun e w' => e = .returned (.tuple #[.int .i64 k, .int .i64 0]) ∧ Below w.heap.size w w' := by
  obtain ⟨h1, h2, h3, h4, _⟩ := acc_is q n ss hT hset hs
  have hq : 1 ≤ q ∧ q ≤ 3 := by have := (setB_parts hset).1; omega
  refine (Index_any q n v ss s w T hT hv hset h1 hn ((lettB_iff hq.2 s).2 h2) hG).mono ?_
  rintro e w' ⟨⟨h, _⟩ | ⟨_, h, _⟩ | ⟨_, _, rfl⟩, hb⟩
  · rw [hfew] at h; cases h
  · rw [h3] at h; cases h
  · rw [h4]
    exact ⟨rfl, hb⟩
theorem acc_up {T : Tab} (hT : T = tabL (pats ss) q) (hset : setB q ss = true) {i j : Nat} {s t : Str} (hs : (accL T n 0)[i]? = some s) (ht : (accL T n 0)[j]? = some t) (h : i < j) : s < t := by
  have hq : 1 ≤ q ∧ q ≤ 3 := by have := (setB_parts hset).1; omega
  have h0 := ok_nil (pats_some hset)
  have hN0 : 0 < (stL (pats ss) q).length := by rw [stL_fix h0]; simp
  have hp := acc_sorted (tab_ok (q := q) h0) hq.2 n 0 hN0
  rw [← hT] at hp
  obtain ⟨h1, h2⟩ := List.getElem?_eq_some_iff.1 hs
  obtain ⟨h3, h4⟩ := List.getElem?_eq_some_iff.1 ht
  rw [← h2, ← h4]
  exact List.pairwise_iff_getElem.1 hp i j h1 h3 h
end
theorem less_bs {s t : Str} (h : s < t) : Op.bytesLess (bs s).toList (bs t).toList = true := (less_iff (bs s) (bs t)).2 h
end Go.Proofs.Ytnamafakjkcmjaa
