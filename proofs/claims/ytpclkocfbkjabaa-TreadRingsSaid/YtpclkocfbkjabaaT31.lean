/-
  patterns: a copy of a list, cut down.
-/
import Derived.Test.YtpclkocfbkjabaaT26
namespace Go.Proofs.Ytpclkocfbkjabaa
open Go.RowKit Go.Shelf
set_option linter.unusedVariables false
set_option linter.unusedSimpArgs false

def cut6 (s : ByteArray) : ByteArray := s.extract 0 (min s.size 6)
theorem cut6_size (s : ByteArray) : (cut6 s).size ≤ 6 := by unfold cut6; rw [ByteArray.size_extract]; omega
def patC (ss : List ByteArray) : List ByteArray := (ss.take 13).map cut6
theorem patC_len (ss : List ByteArray) : (patC ss).length ≤ 13 := by unfold patC; simp; omega
theorem patC_size (ss : List ByteArray) : ∀ s ∈ patC ss, s.size ≤ 6 := by
  intro s h
  obtain ⟨t, _, rfl⟩ := List.mem_map.1 h
  exact cut6_size t
def encB (L : List ByteArray) : List Value := L.map Value.string
theorem strs_own {w : World} {base : Nat} {v : Value} {L : List ByteArray} (h : w.ownsRow base 9 1 v L.length (encB L)) (hL : L.length ≤ 1000000) : StrsAt w v L := by
  rcases h.2 with ⟨rfl, h0⟩ | ⟨g, cap, cur, rfl, hb, hg, h3, h4, h5, h6⟩
  · have : L = [] := List.eq_nil_of_length_eq_zero h0
    subst this
    exact StrsAt.nil w
  · refine ⟨some ⟨g, 0, none⟩, cap, rfl, h3, by unfold maxLen at h4; omega, fun _ => ⟨g, 0, rfl, (Array.getElem?_eq_some_iff.1 hg).1, fun i hi => ?_⟩⟩
    rw [Nat.zero_add, h.cellAt i (by omega)]
    unfold encB
    rw [List.getElem?_map, List.getElem?_eq_getElem hi, List.getD_eq_getElem?_getD, List.getElem?_eq_getElem hi]
    rfl
set_option maxRecDepth 100000 in
set_option maxHeartbeats 4000000 in
theorem patterns_any (v : Value) (ss : List ByteArray) (w : World) (hv : StrsAt w v ss) (hz : ∀ s ∈ ss, s.size ≤ maxLen) :
    Calls Try.prog 14 #[v] w fun e w' => ∃ v', e = .returned v' ∧ w'.ownsRow w.heap.size 9 1 v' (patC ss).length (encB (patC ss)) ∧ Below w.heap.size w w' := by
  obtain ⟨i0, hi, hz0, hz1, hz2⟩ := info_parts infoS
  obtain ⟨A, c, rfl, hlc, hcm, hA⟩ := hv
  obtain ⟨N, hN⟩ : ∃ N, N = ss.length := ⟨_, rfl⟩
  have HN := Lib.hid hN
  rw [← hN] at hA hlc ⊢
  have HA := Lib.hid hA
  have HZ := Lib.hid hz
  have hN63 : (N : Int) ≤ 9223372036854775807 := by omega
  have HP : Hid (patC ss = (ss.take (min N 13)).map cut6) := Lib.hid (by
    unfold patC
    rw [hN, Nat.min_comm, ← List.take_take, List.take_length])
  clear hA hN hz
  obtain ⟨M, hM⟩ : ∃ M, M = min N 13 := ⟨_, rfl⟩
  rw [← hM] at HP
  have HM := Lib.hid (show M ≤ N ∧ M ≤ 13 ∧ (M = N ∨ M = 13) by omega)
  have hM13 : M ≤ 13 := HM.out.2.1
  clear hM
  go_enter Try.func14, Try.ntmps14
  go_wp2_with fail
  go_loopw [3, 4] (fun v i wr => ∃ k : Nat, k ≤ M ∧ i = .int .i64 k ∧ wr.ownsRow w.heap.size 9 1 v k (encB ((ss.take k).map cut6)) ∧ Hid (Below w.heap.size w wr)) (fun _ i _ => M - (intOf i).toNat)
  case atStart => exact ⟨0, Nat.zero_le _, rfl, World.ownsRow_nil _ _ _ _, Lib.hid (bl_refl w)⟩
  case round =>
    obtain ⟨k, hk, rfl, ho, HB⟩ := hrel
    by_cases hlt : k < M
    · have hkN : (k : Int) < (N : Int) := by have := HM.out; omega
      have hk12 : (k : Int) ≤ 12 := by omega
      have hk0 : (0 : Int) ≤ (k : Int) := Int.natCast_nonneg k
      have hkl : k < ss.length := by have := HN.out; have := HM.out; omega
      obtain ⟨g, off, rfl, hg, hc⟩ := HA.out (by omega)
      have ce := (HB.out.cell (p := ⟨g, off + k, none⟩) hg).trans (hc k (by omega))
      obtain ⟨s, hs⟩ : ∃ s, s = ss.getD k ByteArray.empty := ⟨_, rfl⟩
      have hsk : s = ss[k] := by rw [hs, List.getD_eq_getElem?_getD, List.getElem?_eq_getElem hkl]; rfl
      have hsz := HZ.out s (by rw [hsk]; exact List.getElem_mem hkl)
      rw [← hs] at ce
      have lg := Nat.lt_of_lt_of_le hg HB.out.size
      have hzw := HB.out.size
      obtain ⟨SZ, hSZ⟩ : ∃ SZ, SZ = s.size := ⟨_, rfl⟩
      have hss : s.size = SZ := hSZ.symm
      obtain ⟨D, hD⟩ : ∃ D : Nat, D = min SZ 6 := ⟨_, rfl⟩
      have hmin : min (SZ : Int) 6 = (D : Int) := by omega
      have hd1 : (D : Int) ≤ (SZ : Int) := by omega
      have hd0 : (0 : Int) ≤ (D : Int) := Int.natCast_nonneg D
      have hcut : s.extract 0 D = cut6 s := by unfold cut6; rw [hD, hSZ]
      obtain ⟨B, hB⟩ : ∃ B, B = cut6 s := ⟨_, rfl⟩
      rw [← hB] at hcut
      have HBQ := Lib.hid hB
      have HSK := Lib.hid hsk
      obtain ⟨A2, ca, rfl, _⟩ := own_any ho
      have ag : ∀ cap, (Value.slice A2 k cap).ownBlock ≠ some g := fun cap h => by
        have := (ho.lt g (by cases A2 <;> simp_all [Value.ownBlock])).1
        omega
      clear hc hs hsk hB hD hSZ hsz
      go_wp2_with fail
      go_region_held3 (fun w' => w'.cell? ⟨g, off + k, none⟩ = some (.string s))
        (first
          | go_keep
          | (rw [hgrow.cell_far _ (by simp; omega) (Ne.symm (ag _))]; assumption))
        ((refine step_append_lies _ (by rfl) _ _ _ (by rfl) w.heap.size 9 i0 _ 1 16 Try.underlying22 hi hz0 hz1 hz2 rfl (by omega) (.slice A2 k ca) k _ (by rfl) ((ho.alloc _).drew)
            ⟨wr.heap.size, 0, none⟩ 1 1 [.string B] (by rfl) (by rfl) (World.news_of_block (cs := #[.string B]) (t := 9) (fr := (0, 0)) (heap_alloc_new wr _)) (by simp [Value.oneCell'])
            (by omega) (by unfold maxLen; omega) (by omega) (by simp; omega) (wr.heap.size + 1) (by simp) ?_; intro gg cap w1 hown1 hgrow hat hlt))
      have e : encB ((ss.take (k + 1)).map cut6) = encB ((ss.take k).map cut6) ++ [.string B] := by
        rw [List.take_succ_eq_append_getElem hkl, List.map_append, HBQ.out, HSK.out]
        unfold encB
        rw [List.map_append]
        rfl
      rw [← e] at hown1
      have HB6 := Lib.hid (HB.out.grown (((grown_alloc wr (.cells #[.string B] 9) _).trans (grown_drew _ 1 |>.but _)).trans hgrow) HB.out.size (fun k e => (ho.lt k e).1))
      have HO6 := Lib.hid hown1
      clear hown1 hgrow hat hlt ho HB ce lg hmin hd1 hd0 hcut e
      go_wp2_with fail
      go_roundw
      case rel => exact ⟨k + 1, by omega, by go_num, HO6.out, HB6⟩
      case measure => simp [intOf]; omega
    · have ek : k = M := by omega
      subst ek
      have hlen : (patC ss).length = k := by rw [HP.out, List.length_map, List.length_take]; have := HM.out; have := HN.out; omega
      have HO : Hid (wr.ownsRow w.heap.size 9 1 u3 (patC ss).length (encB (patC ss))) := Lib.hid (by rw [hlen, HP.out]; exact ho)
      clear ho hlen
      by_cases hkN : k = N
      · have h1 : ¬ (k : Int) < (N : Int) := by omega
        clear hkN
        go_wp2_with fail
        go_ret
        exact ⟨_, rfl, HO.out, HB.out⟩
      · have h1 : (k : Int) < (N : Int) := by have := HM.out; omega
        have h2 : ¬ (k : Int) ≤ 12 := by have := HM.out; omega
        clear hkN
        go_wp2_with fail
        go_ret
        exact ⟨_, rfl, HO.out, HB.out⟩
end Go.Proofs.Ytpclkocfbkjabaa
