/-
  Tidy, Needed.
-/
import Derived.Test.YtpclkocfbkjabaaT49
import Derived.Test.YtpclkocfbkjabaaT34
import Derived.Lib.RowBridge
namespace Go.Proofs.Ytpclkocfbkjabaa
open Go.RowKit Go.Shelf Go.Sort
set_option linter.unusedVariables false
set_option linter.unusedSimpArgs false

theorem cloneB_any (v : Value) (ss : List ByteArray) (w : World) (hv : StrsAt w v ss) (hl : ss.length ≤ 1000) :
    Calls Try.prog 61 #[v] w fun e w' => ∃ v', e = .returned v' ∧ w'.ownsRow w.heap.size 9 1 v' ss.length (encB ss) ∧ Below w.heap.size w w' := by
  obtain ⟨A, c, rfl, hlc, hcm, hA⟩ := hv
  by_cases h0 : ss.length = 0
  · have e1 : ss = [] := List.eq_nil_of_length_eq_zero h0
    subst e1
    cases A with
    | none =>
      refine (Try.slices_Clone_string_nil 0 c w).mono ?_
      rintro e w' ⟨rfl, rfl⟩
      exact ⟨_, rfl, World.ownsRow_nil _ _ _ _, bl_refl _⟩
    | some a =>
      refine (Try.slices_Clone_string_zero a c w).mono ?_
      rintro e w' ⟨v', rfl, h1, _, h2⟩
      exact ⟨v', rfl, h1, h2⟩
  · obtain ⟨g, off, rfl, hg, hc⟩ := hA (by omega)
    refine (Try.slices_Clone_string g off ss.length c ss w (Nat.le_refl _) (by omega) hc).mono ?_
    rintro e w' ⟨v', rfl, h1, _, h2⟩
    rw [List.take_length] at h1
    exact ⟨v', rfl, h1, h2⟩
/-- What is left when the patterns that hold another one are left out. -/
def tidB (ss : List ByteArray) : List ByteArray := ss.filter fun s => !inB ss s
theorem Tidy_no (q : Int) (v : Value) (ss : List ByteArray) (w : World) (hv : StrsAt w v ss) (hset : setB q ss = false) :
    Calls Try.prog 40 #[.int .i64 q, v] w fun e w' => e = .returned (.tuple #[.slice none 0 0, .int .i64 2]) ∧ Below w.heap.size w w' := by
  obtain ⟨A, cA, rfl, _, _, _⟩ := id hv
  obtain ⟨W0, hW0⟩ : ∃ W0, W0 = w.alloc (.cells #[.slice A ss.length cA] 22) := ⟨_, rfl⟩
  have hb0 : Below w.heap.size w W0 := by rw [hW0]; exact bl_alloc (bl_refl w) _
  have IS := Lib.hid fun W h => isSet_any q (.slice A ss.length cA) ss W h
  rw [hset] at IS
  have HV := Lib.hid (hv.kept hb0)
  have HB := Lib.hid hb0
  have HW0 := Lib.hid hW0
  clear hv hset hb0 hW0
  go_enter Try.func40, Try.ntmps40
  go_wp2_with fail
  rw [← HW0.out]
  refine (IS.out _ HV.out).mono ?_
  rintro e w1 ⟨rfl, r1⟩
  have HB1 := Lib.hid (bl_then HB.out r1)
  clear r1
  go_wp2_with fail
  go_ret2
  exact ⟨rfl, HB1.out⟩
set_option maxRecDepth 100000 in
set_option maxHeartbeats 4000000 in
theorem Tidy_any (q : Int) (v : Value) (ss : List ByteArray) (w : World) (hv : StrsAt w v ss) (hset : setB q ss = true) (hG : HasG w) :
    Calls Try.prog 40 #[.int .i64 q, v] w fun e w' => ∃ v', e = .returned (.tuple #[v', .int .i64 0]) ∧ w'.ownsRow w.heap.size 9 1 v' (tidB ss).length (encB (tidB ss)) ∧ Below w.heap.size w w' := by
  obtain ⟨A, cA, rfl, _, _, _⟩ := id hv
  obtain ⟨W0, hW0⟩ : ∃ W0, W0 = w.alloc (.cells #[.slice A ss.length cA] 22) := ⟨_, rfl⟩
  have hb0 : Below w.heap.size w W0 := by rw [hW0]; exact bl_alloc (bl_refl w) _
  have hx : Boxed W0 w.heap.size 22 (.slice A ss.length cA) := by rw [hW0]; exact Boxed.new w _ _
  have IS := Lib.hid fun W h => isSet_any q (.slice A ss.length cA) ss W h
  rw [hset] at IS
  have h12 := (setB_parts hset).2.1
  have h5 : ∀ s ∈ ss, s.size < 4294967281 := fun s hs => by
    obtain ⟨j, hj, rfl⟩ := List.mem_iff_getElem.1 hs
    have := (setB_parts hset).2.2 j hj
    unfold goodB at this
    simp only [Bool.and_eq_true, decide_eq_true_iff] at this
    have h1 := this.1.2
    rw [List.getD_eq_getElem?_getD, List.getElem?_eq_getElem hj] at h1
    simp only [Option.getD_some] at h1
    omega
  have CL := Lib.hid fun W h => cloneB_any (.slice A ss.length cA) ss W h (by omega)
  have HV := Lib.hid (hv.kept hb0)
  have HG := Lib.hid (hG.kept hb0)
  have HB := Lib.hid hb0
  have HW0 := Lib.hid hW0
  have HX : Hid (∀ W', Below W0.heap.size W0 W' → W'.cell? ⟨w.heap.size, 0, none⟩ = some (.slice A ss.length cA) ∧ w.heap.size < W'.heap.size) := Lib.hid fun W' hb => ⟨(hb.cell (p := ⟨w.heap.size, 0, none⟩) hx.lt).trans hx.cell, Nat.lt_of_lt_of_le hx.lt hb.size⟩
  have H5 := Lib.hid h5
  clear hv hset hb0 hW0 hx hG h5
  go_enter Try.func40, Try.ntmps40
  go_wp2_with fail
  rw [← HW0.out]
  refine (IS.out _ HV.out).mono ?_
  rintro e w1 ⟨rfl, r1⟩
  have HB1 := Lib.hid (bl_then HB.out r1)
  have HV1 := Lib.hid (HV.out.kept r1)
  have HG1 := Lib.hid (HG.out.kept r1)
  have c1 := (HX.out _ r1).1
  have l1 := (HX.out _ r1).2
  have R1 := Lib.hid r1
  clear r1 HV HG
  go_wp2_with fail
  refine (CL.out _ HV1.out).mono ?_
  rintro e w2 ⟨v2, rfl, ho, r2⟩
  have DL := Lib.hid (delete_any w.heap.size w1.heap.size v2 ss (inB ss) w2 r2.size ho (by omega) (fun s hs W hW => by
    have hW1 : Below w1.heap.size w1 W := r2.trans hW
    exact tidy1_any w.heap.size (.slice A ss.length cA) ss s W (HV1.out.kept hW1) (H5.out s hs) (HG1.out.kept hW1) (Nat.lt_of_lt_of_le l1 hW1.size) ((hW1.cell (p := ⟨w.heap.size, 0, none⟩) l1).trans c1)))
  have hz : w.heap.size ≤ w1.heap.size := HB1.out.size
  have HZ := Lib.hid hz
  have HB2 := Lib.hid (bl_then HB1.out r2)
  clear ho hz r2
  go_wp2_with fail
  refine DL.out.mono ?_
  rintro e w3 ⟨v3, rfl, ho3, r3⟩
  have HO3 := Lib.hid (own_low ho3 HZ.out)
  have HB3 := Lib.hid (HB2.out.trans (r3.mono HZ.out))
  clear ho3 r3
  go_wp2_with fail
  go_ret2
  exact ⟨v3, rfl, HO3.out, HB3.out⟩
/-- A list without one. -/
def dropB (ss : List ByteArray) (i : Nat) : List ByteArray := ss.take i ++ ss.drop (i + 1)
theorem drop_len {ss : List ByteArray} {i : Nat} (h : i < ss.length) : (dropB ss i).length = ss.length - 1 := by unfold dropB; simp; omega
theorem drop_sub (ss : List ByteArray) (i : Nat) : ∀ s ∈ dropB ss i, s ∈ ss := fun s hs => by
  unfold dropB at hs
  rcases List.mem_append.1 hs with h | h
  · exact List.mem_of_mem_take h
  · exact List.mem_of_mem_drop h
theorem drop_ok {ss : List ByteArray} {i : Nat} {t : Str} (h : okL (pats ss) t = true) : okL (pats (dropB ss i)) t = true := by
  refine ok_sub (fun p hp => ?_) h
  unfold pats at hp ⊢
  obtain ⟨s, hs, rfl⟩ := List.mem_map.1 hp
  exact List.mem_map.2 ⟨s, drop_sub ss i s hs, rfl⟩
theorem size_setCells' (b : Nat) : ∀ (vs : List Value) (o : Nat) (W : World), (W.setCells b o vs).heap.size = W.heap.size
  | [], _, _ => rfl
  | v :: vs, o, W => by
    rw [World.setCells, size_setCells' b vs (o + 1) _]
    simp [World.setCell]
theorem bl_setCells {B b : Nat} (hb : B ≤ b) {a : World} : ∀ (vs : List Value) (o : Nat) (W : World), Below B a W → Below B a (W.setCells b o vs)
  | [], _, _, h => h
  | v :: vs, o, W, h => by
    rw [World.setCells]
    exact bl_setCells hb vs (o + 1) _ (h.setCell hb v)
/-- slices.Delete of one, from a list of one's own. -/
theorem del_any (v : Value) (ss : List ByteArray) (i : Nat) (base : Nat) (w : World) (hi : i < ss.length) (hl : ss.length ≤ 1000) (ho : w.ownsRow base 9 1 v ss.length (encB ss)) :
    Calls Try.prog 69 #[v, .int .i64 i, .int .i64 ((i : Int) + 1)] w fun e w' => ∃ v', e = .returned v' ∧ StrsAt w' v' (dropB ss i) ∧ Below base w w' := by
  obtain ⟨g, c, rfl, hg1, hg2⟩ := own_form ho (by omega)
  have hc : ∀ t, t < ss.length → w.cell? ⟨g, 0 + t, none⟩ = some (.string (ss.getD t ByteArray.empty)) := fun t ht => by
    rw [Nat.zero_add, ho.cellAt t (by omega), encB_at ht]
  have hcN : ss.length ≤ c ∧ c ≤ 9223372036854775807 := by
    rcases ho.2 with ⟨h, _⟩ | ⟨g', cap', cur, h, _, _, h3, h4, _⟩
    · simp at h
    · simp only [Value.slice.injEq, Option.some.injEq, Addr.mk.injEq, and_true, true_and] at h
      obtain ⟨rfl, rfl⟩ := h
      exact ⟨h3, by unfold maxLen at h4; omega⟩
  have C := Try.slices_Delete_string_cells g 0 ss.length c i (i + 1) (fun t => ss.getD t ByteArray.empty) w hcN.1 hcN.2 (by omega) (by omega) hc (fun j _ => ho.frozenAt (0 + j))
  rw [show ((i + 1 : Nat) : Int) = (i : Int) + 1 by omega] at C
  refine C.mono ?_
  rintro e w' ⟨rfl, nq, rfl⟩
  refine ⟨_, rfl, ?_, ?_⟩
  · have hs : Lib.strsOf (fun t => ss.getD t ByteArray.empty) ss.length = ss.map sb := by
      apply List.ext_getElem
      · simp [Lib.strsOf]
      · intro t h1 h2
        simp only [Lib.strsOf, List.getElem_map, List.getElem_range]
        rw [List.getD_eq_getElem?_getD, List.getElem?_eq_getElem (by simpa using h2)]
        rfl
    rw [hs]
    refine ⟨some ⟨g, 0, none⟩, c, by rw [drop_len hi, show i + 1 - i = 1 by omega], by rw [drop_len hi]; omega, hcN.2, fun h => ⟨g, 0, rfl, ?_, fun t ht => ?_⟩⟩
    · rw [size_setCells']; exact hg2
    · rw [drop_len hi] at ht
      have hin := World.cell?_setCells_in g ((((ss.map sb).take i ++ (ss.map sb).drop (i + 1) ++ List.replicate (i + 1 - i) []).map encStr)) 0 (w.drewN nq) (fun j hj => by
        have hj' : j < ss.length := by simp at hj; omega
        have := hc j hj'
        rw [show (w.drewN nq).cell? ⟨g, 0 + j, none⟩ = w.cell? ⟨g, 0 + j, none⟩ from rfl, this]; rfl) t (by simp; omega)
      rw [hin]
      congr 1
      have he : ((ss.map sb).take i ++ (ss.map sb).drop (i + 1) ++ List.replicate (i + 1 - i) []).map encStr = (dropB ss i).map (fun s => Value.string s) ++ (List.replicate (i + 1 - i) []).map encStr := by
        rw [List.map_append]
        congr 1
        unfold dropB
        rw [← List.map_take, ← List.map_drop, ← List.map_append, List.map_map]
        rfl
      simp only [he]
      rw [List.getElem_append_left (by rw [List.length_map, drop_len hi]; exact ht), List.getElem_map, List.getD_eq_getElem?_getD, List.getElem?_eq_getElem (by rw [drop_len hi]; exact ht)]
      rfl
  · exact bl_setCells hg1 _ _ _ (Below.refl base w |>.grown (grown_drew w nq) (by omega) (fun r e => by cases e))
end Go.Proofs.Ytpclkocfbkjabaa
