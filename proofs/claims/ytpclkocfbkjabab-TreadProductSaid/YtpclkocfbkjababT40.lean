/-
  slices.Repeat of one number.
-/
import Derived.Test.YtpclkocfbkjababT22
import Derived.Laws.CopyOwn
import Derived.StillTail
import Derived.StillTailTactics
import Derived.Deep.RegionLaw
namespace Go.Proofs.Ytpclkocfbkjabab
open Go.RowKit Go.Shelf
set_option linter.unusedVariables false
set_option linter.unusedSimpArgs false

def rep1 (N k : Nat) : List Value := (List.range N).map fun j => if j < k then Value.int .i64 1 else Value.int .i64 0
theorem rep1_len (N k : Nat) : (rep1 N k).length = N := by simp [rep1]
theorem rep1_at {N k j : Nat} (h : j < N) : (rep1 N k)[j]? = some (if j < k then Value.int .i64 1 else Value.int .i64 0) := by
  unfold rep1
  rw [List.getElem?_map, List.getElem?_range h]
  rfl
theorem rep1_full (N : Nat) : rep1 N N = List.replicate N (.int .i64 1) := by
  apply List.ext_getElem?
  intro j
  by_cases h : j < N
  · rw [rep1_at h, if_pos h, List.getElem?_replicate, if_pos h]
  · rw [List.getElem?_eq_none (by rw [rep1_len]; omega), List.getElem?_eq_none (by simp; omega)]
theorem rep1_zero (N : Nat) : rep1 N 0 = List.replicate N (.int .i64 0) := by
  apply List.ext_getElem?
  intro j
  by_cases h : j < N
  · rw [rep1_at h, if_neg (by omega), List.getElem?_replicate, if_pos h]
  · rw [List.getElem?_eq_none (by rw [rep1_len]; omega), List.getElem?_eq_none (by simp; omega)]
theorem rep1_splice {N k m : Nat} (h : k + m ≤ N) : splice (rep1 N k) k (List.replicate m (.int .i64 1)) = rep1 N (k + m) := by
  apply List.ext_getElem?
  intro j
  unfold splice
  rw [List.length_replicate]
  rcases Nat.lt_or_ge j k with h1 | h1
  · rw [List.getElem?_append_left (by simp [rep1_len]; omega), List.getElem?_take_of_lt h1, rep1_at (by omega), rep1_at (by omega), if_pos h1, if_pos (by omega)]
  · rw [List.getElem?_append_right (by simp [rep1_len]; omega), List.length_take, rep1_len, Nat.min_eq_left (by omega)]
    rcases Nat.lt_or_ge j (k + m) with h2 | h2
    · rw [List.getElem?_append_left (by simp; omega), List.getElem?_replicate, if_pos (by omega), rep1_at (by omega), if_pos h2]
    · rw [List.getElem?_append_right (by simp; omega), List.length_replicate, List.getElem?_drop, show k + m + (j - k - m) = j by omega]
      rcases Nat.lt_or_ge j N with h3 | h3
      · rw [rep1_at h3, rep1_at h3, if_neg (by omega), if_neg (by omega)]
      · rw [List.getElem?_eq_none (by rw [rep1_len]; omega), List.getElem?_eq_none (by rw [rep1_len]; omega)]
theorem row_cell {W : World} {g N k : Nat} (h : W.heap[g]? = some (.cells (rep1 N k).toArray 3 (0, 0))) {j : Nat} (hj : j < k) (hk : k ≤ N) : W.cell? ⟨g, j, none⟩ = some (.int .i64 1) := by
  rw [cell_of_row W g j _ _ (0, 0) h, List.getElem?_toArray, rep1_at (by omega), if_pos hj]
theorem add_off (b i j : Nat) : (⟨b, i, none⟩ : Addr).add j = ⟨b, i + j, none⟩ := by unfold Addr.add; split <;> simp_all
theorem src_one {w W : World} {b : Nat} {x : Value} (hb : Below w.heap.size w W) (hc : w.cell? ⟨b, 0, none⟩ = some x) : ∀ (j : Nat) v, [x][j]? = some v → W.cell? ((⟨b, 0, none⟩ : Addr).add j) = some v := by
  intro j v hv
  cases j with
  | zero =>
    rw [add_off, hb.cell (p := ⟨b, 0, none⟩) (World.block_lt_of_cell? w _ hc)]
    simpa using hc.trans (by simpa using hv)
  | succ j => simp at hv
theorem src_row {W : World} {g N k : Nat} (h : W.heap[g]? = some (.cells (rep1 N k).toArray 3 (0, 0))) (hk : k ≤ N) (m : Nat) (hm : m ≤ k) : ∀ (j : Nat) v, (List.replicate m (Value.int .i64 1))[j]? = some v → W.cell? ((⟨g, 0, none⟩ : Addr).add j) = some v := by
  intro j v hv
  rw [List.getElem?_replicate] at hv
  split at hv
  · rename_i hj
    rw [add_off, Nat.zero_add, row_cell h (by omega) hk]
    exact hv
  · cases hv
structure SrcOk (b m : Nat) (W : World) : Prop where
  out : ∀ (j : Nat) v, (List.replicate m (Value.int .i64 1))[j]? = some v → W.cell? ((⟨b, 0, none⟩ : Addr).add j) = some v
theorem one_cells (m : Nat) : ∀ v ∈ List.replicate m (Value.int .i64 1), v.oneCell' = true := by
  intro v hv
  rw [(List.mem_replicate.1 hv).2]; rfl
structure MinOk (m k n : Nat) : Prop where
  out : (List.replicate m (Value.int .i64 1)).length = Nat.min k n
structure FitOk (N k off m : Nat) : Prop where
  out : off + (List.replicate m (Value.int .i64 1)).length ≤ (rep1 N k).length
set_option maxRecDepth 100000 in
set_option maxHeartbeats 4000000 in
theorem Repeat_any (N : Nat) (hN : 1 ≤ N ∧ N ≤ 121) (b : Nat) (w : World) (hc : w.cell? ⟨b, 0, none⟩ = some (.int .i64 1)) :
    Calls Try.prog 86 #[.slice (some ⟨b, 0, none⟩) 1 1, .int .i64 N] w fun e w' => ∃ g, e = .returned (.slice (some ⟨g, 0, none⟩) N N) ∧ w'.ownsRow w.heap.size 3 1 (.slice (some ⟨g, 0, none⟩) N N) N (List.replicate N (.int .i64 1)) ∧ Below w.heap.size w w' := by
  have hmix : Try.prog.follows .mixedOrders = true := by kernel_rfl
  have hmk : ∀ W : World, (Instr.makeSlice 66 (.int .i64 (N : Int)) (.int .i64 (N : Int))).run Try.prog W = .ok (.slice (some ⟨W.heap.size, 0, none⟩) N N) (W.alloc (.cells (madeCells #[.int .i64 0] N) 3)) :=
    fun W => run_make_row' (P := Try.prog) 66 3 (.int .i64 0) 8 (by kernel_rfl) infoI rfl .i64 .i64 N (by omega) (by omega) W
  have MU := Lib.hid fun W => Try.bits_Mul 1 N (by omega) (by omega) W
  rw [show 1 * N / 18446744073709551616 = 0 by omega, show 1 * N % 18446744073709551616 = N by omega] at MU
  have hn1 : ¬ (N : Int) < 0 := by omega
  have HC := Lib.hid hc
  have hmd : madeCells #[.int .i64 0] N = (rep1 N 0).toArray := by
    rw [rep1_zero, ← toList_madeCells_one]
  rw [hmd] at hmk
  clear hc hmd
  go_enter Try.func86, Try.ntmps86
  go_wp2_with fail
  refine (MU.out _).mono ?_
  rintro e w1 ⟨rfl, rfl⟩
  have hgN : (w1.alloc (.cells (rep1 N 0).toArray 3)).heap[w1.heap.size]? = some (.cells (rep1 N 0).toArray 3 (0, 0)) := Whole.new w1 _ _
  have hn2 : ¬ (9223372036854775807 : Int) < (N : Int) := by omega
  have G1 : MinOk 1 1 N := ⟨by show 1 = min 1 N; omega⟩
  have G2 : SrcOk b 1 (w1.alloc (.cells (rep1 N 0).toArray 3)) := ⟨src_one (bl_alloc (bl_refl w1) _) HC.out⟩
  have G3 : FitOk N 0 0 1 := ⟨by rw [rep1_len]; simp <;> omega⟩
  have g5 : (Try.prog.info? 3).map (·.size) = some 1 := by kernel_rfl
  have G5 := Lib.hid g5
  have G6 := Lib.hid (bl_alloc (bl_refl w1) (.cells (rep1 N 0).toArray 3))
  have G7 := Lib.hid (Nat.le_refl w1.heap.size)
  have GN := Lib.hid hgN
  clear hgN g5
  go_wp2_with (with_reducible refine wpList_copy_splice (o := ⟨some 33, _, _, _, _, _⟩) rfl (.tmp 31) (.tmp 32) 66 66 rfl 3 Try.underlying66 G5.out (some ⟨w1.heap.size, 0, none⟩) (some ⟨b, 0, none⟩) N N 1 1 rfl rfl w1.heap.size 0 (rep1 N 0) 3 GN.out (List.replicate 1 (.int .i64 1)) G1.out (fun _ => ⟨rfl, _, rfl, G2.out⟩) G3.out (one_cells 1) w1.heap.size w1 G6.out G7.out ?_; intro w2 hg2 hb2)
  have hs1 : splice (rep1 N 0) 0 (List.replicate 1 (Value.int .i64 1)) = rep1 N 1 := rep1_splice (k := 0) (m := 1) (by omega)
  rw [hs1] at hg2
  obtain ⟨g, hgd⟩ : ∃ g, g = w1.heap.size := ⟨_, rfl⟩
  rw [← hgd] at hg2 ⊢
  have HGD := Lib.hid hgd
  clear hgd hs1
  have HB2 := Lib.hid hb2
  clear hb2
  go_wp2_with fail
  go_loopw [8] (fun v wr => ∃ k : Nat, 1 ≤ k ∧ k ≤ N ∧ v = .int .i64 k ∧ Hid (wr.heap[g]? = some (.cells (rep1 N k).toArray 3 (0, 0))) ∧ Hid (Below w1.heap.size w1 wr)) (fun v _ => N - (intOf v).toNat)
  case atStart => exact ⟨1, by omega, by omega, rfl, hg2, HB2⟩
  case round =>
    obtain ⟨k, hk1, hk, rfl, HG, HB⟩ := hrel
    clear hg2 HB2
    by_cases hlt : k < N
    · have hlt' : (k : Int) < (N : Int) := by omega
      have hk0 : (0 : Int) ≤ (k : Int) := by omega
      have hkN : (k : Int) ≤ (N : Int) := by omega
      obtain ⟨m, hm⟩ : ∃ m, m = min k (N - k) := ⟨_, rfl⟩
      go_wp2_with fail
      have hm1 : 1 ≤ m ∧ k + m ≤ N ∧ m ≤ k := by omega
      have hNk : ¬ N = k := by omega
      have G1 : MinOk m k (N - k) := ⟨by rw [List.length_replicate, hm]⟩
      have G2 : SrcOk g m wr.drew := ⟨src_row (k := k) (show wr.drew.heap[g]? = _ from HG.out) hk m hm1.2.2⟩
      have G3 : FitOk N k k m := ⟨by rw [rep1_len, List.length_replicate]; omega⟩
      have G5 : Hid ((Try.prog.info? 3).map (·.size) = some 1) := Lib.hid (by kernel_rfl)
      have G6 := Lib.hid (bl_drewN HB.out 1)
      have G7 : Hid (w1.heap.size ≤ g) := Lib.hid (by rw [HGD.out]; exact Nat.le_refl _)
      have GN : Hid (wr.drew.heap[g]? = some (.cells (rep1 N k).toArray 3 (0, 0))) := HG
      have hs2 : splice (rep1 N k) k (List.replicate m (Value.int .i64 1)) = rep1 N (k + m) := rep1_splice hm1.2.1
      obtain ⟨D, hD⟩ : ∃ D, D = k + m := ⟨_, rfl⟩
      rw [← hD] at hs2
      have HS2 := Lib.hid hs2
      have hw1 : IntKind.i64.wrap ((k : Int) + (m : Int)) = (D : Int) := by rw [show (k : Int) + (m : Int) = (D : Int) by omega]; exact wrapI (by omega)
      have HM1 := Lib.hid hm1
      have HD := Lib.hid hD
      clear hm hs2 hm1 hD
      go_region_law (refine step_copy_splice rfl (.tmp 41) (.tmp 44) 66 66 rfl 3 Try.underlying66 G5.out (some ⟨g, k, none⟩) (some ⟨g, 0, none⟩) (N - k) (N - k) k N (by simp [Act.eval, Act.put, hNk]) (by simp [Act.eval, Act.put]) g k (rep1 N k) 3 GN.out (List.replicate m (.int .i64 1)) G1.out (fun _ => ⟨rfl, _, rfl, G2.out⟩) G3.out (one_cells m) w1.heap.size w1 G6.out G7.out ?_; intro w2 hg2 hb2)
      have HGn : Hid (w2.heap[g]? = some (.cells (rep1 N D).toArray 3 (0, 0))) := Lib.hid (by have := hg2.out; rw [HS2.out] at this; exact this)
      have HBn := Lib.hid hb2
      have hDk : 1 ≤ D ∧ D ≤ N ∧ k < D := by have := HM1.out; have := HD.out; omega
      clear hg2 hb2
      go_simp
      go_wp2_with fail
      go_roundw
      case rel => exact ⟨D, hDk.1, hDk.2.1, by first | rfl | go_num, HGn, HBn⟩
      case measure => simp [intOf]; omega
    · have ek : N = k := by omega
      have HF : Hid (wr.heap[g]? = some (.cells (List.replicate N (Value.int .i64 1)).toArray 3 (0, 0))) := Lib.hid (by rw [← rep1_full]; rw [← ek] at HG; exact HG.out)
      go_wp2_with fail
      go_ret
      exact ⟨g, rfl, ⟨by simp, .inr ⟨g, N, (List.replicate N (Value.int .i64 1)).toArray, rfl, by rw [HGD.out]; exact Nat.le_refl _, HF.out, Nat.le_refl _, by unfold maxLen; omega, by simp, by simp⟩⟩, HB.out⟩
end Go.Proofs.Ytpclkocfbkjabab
