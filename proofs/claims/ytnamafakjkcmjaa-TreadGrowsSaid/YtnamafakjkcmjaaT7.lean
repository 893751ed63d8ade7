/-
  How many letters can come at most from each state on: longest.
-/
import Derived.Test.YtnamafakjkcmjaaT6
import Derived.Laws.EntriesVeiled
namespace Go.Proofs.Ytnamafakjkcmjaa
open Go.RowKit Go.Shelf
set_option linter.unusedVariables false
set_option linter.unusedSimpArgs false

theorem encI_snoc (L : List Int) (x : Int) : encI (L ++ [x]) = encI L ++ [.int .i64 x] := by simp [encI]
theorem free_start (n : Nat) : freeK n (fun _ => none) ≤ n := by
  unfold freeK
  refine Nat.le_trans List.countP_le_length ?_
  simp
set_option maxRecDepth 100000 in
set_option maxHeartbeats 4000000 in
theorem longest_any (gm q : Nat) (S : List Str) (T : Tab) (w : World) (hM : MachAt w gm q S T) (hT : TabOk T S.length q) (hq : q ≤ 3) (hS : S.length ≤ 121) :
    Calls Try.prog 45 #[.pointer (some ⟨gm, 0, none⟩)] w fun e w' => ∃ (v : Value) (L : List Int), e = .returned v ∧ L.length = S.length ∧ (∀ i, i < S.length → Lng T i (L.getD i 0)) ∧ w'.ownsRow w.heap.size 3 1 v S.length (encI L) ∧ Below w.heap.size w w' := by
  have hmf : ∀ (fn : Fn) (first cap : Array Value) (w : World), (Instr.makeFunc fn first cap).run Try.prog w = .ok (.func fn first cap) w := fun _ _ _ _ => rfl
  have hmm := @run_makeMap Try.prog
  obtain ⟨i0, hi, hz0, hz1, hz2⟩ := info_parts infoI
  have V := Lib.hid fun Bk Bm Bv bK C i cnt K st W h1 h2 h3 h4 h5 h6 h7 h8 => visit_calls gm q Bk Bm Bv bK S T w hM hT hq hS S.length C i cnt K st W h1 h2 h3 h4 h5 h6 h7 h8
  obtain ⟨gS, cS, gN, cN, hdrs, h1, h2, h3, h4⟩ := id hM
  have c1 := (h1.cell 1).trans rfl
  have l1 := h1.lt
  have HMM := Lib.hid hM
  obtain ⟨N, hN⟩ : ∃ N, N = S.length := ⟨_, rfl⟩
  have HN := Lib.hid hN
  rw [← hN] at c1 hS ⊢
  clear h1 h2 h3 h4 hM hN
  obtain ⟨fv, hfv⟩ : ∃ fv, fv = Value.func (.func 66) #[] #[.pointer (some ⟨w.heap.size + 1 + 1, 0, none⟩), .pointer (some ⟨w.heap.size, 0, none⟩), .pointer (some ⟨w.heap.size + 1 + 1 + 1, 0, none⟩)] := ⟨_, rfl⟩
  obtain ⟨W4, hW4⟩ : ∃ W4, W4 = (((w.alloc (.cells #[.pointer (some ⟨gm, 0, none⟩)] 56)).alloc (.map #[] 0)).alloc (.cells #[.map (some (w.heap.size + 1))] 67)).alloc (.cells #[fv] 68) := ⟨_, rfl⟩
  have b4 : Boxed W4 (w.heap.size + 1 + 1 + 1) 68 fv := by
    have := Boxed.new (((w.alloc (.cells #[.pointer (some ⟨gm, 0, none⟩)] 56)).alloc (.map #[] 0)).alloc (.cells #[.map (some (w.heap.size + 1))] 67)) 68 fv
    simp only [World.size_alloc] at this
    rw [hW4]; exact this
  have hb05 : Below w.heap.size w W4 := by rw [hW4]; exact bl_alloc (bl_alloc (bl_alloc (bl_alloc (bl_refl w) _) _) _) _
  have a1 : Boxed W4 w.heap.size 56 (.pointer (some ⟨gm, 0, none⟩)) := by rw [hW4]; exact (((Boxed.new w _ _).alloc _).alloc _).alloc _
  have a2 : Boxed W4 (w.heap.size + 1 + 1) 67 (.map (some (w.heap.size + 1))) := by
    have := Boxed.new ((w.alloc (.cells #[.pointer (some ⟨gm, 0, none⟩)] 56)).alloc (.map #[] 0)) 67 (.map (some (w.heap.size + 1)))
    simp only [World.size_alloc] at this
    rw [hW4]; exact this.alloc _
  have a3 : MapF kindII W4 (w.heap.size + 1) 0 (mapN fun _ => none) := by
    have := MapF.made kindII (w.alloc (.cells #[.pointer (some ⟨gm, 0, none⟩)] 56))
    rw [World.size_alloc] at this
    have h := this.same (g := mapN fun _ => none) (fun x => by unfold mapN; split <;> rfl)
    rw [hW4]
    exact h.below (bl_alloc (bl_alloc (bl_refl _) _) _)
  have HM5 := Lib.hid a3
  have hE5 : VEnv w gm (w.heap.size + 1 + 1) w.heap.size (w.heap.size + 1 + 1 + 1) (w.heap.size + 1) W4 := ⟨a2, a1, by rw [← hfv]; exact b4, hb05, by omega⟩
  have HE5 := Lib.hid hE5
  have c5 := (hb05.cell (p := ⟨gm, 1, none⟩) l1).trans c1
  rw [hW4, hfv] at c5 HE5 HM5
  clear a1 a2 a3 b4 hb05 hE5 hW4 hfv
  go_enter Try.func45, Try.ntmps45
  go_wp2_with fail
  go_loopw [5, 14] (fun v i wr => ∃ (k : Nat) (L : List Int) (K : Nat → Option Int) (cnt : Nat), k ≤ N ∧ i = .int .i64 k ∧ L.length = k ∧ wr.ownsRow w.heap.size 3 1 v k (encI L) ∧ Hid (∀ j, j < k → Lng T j (L.getD j 0)) ∧ Hid (Known T S.length K []) ∧ Hid (MapF kindII wr (w.heap.size + 1) cnt (mapN K)) ∧ cnt + 2 * freeK S.length K ≤ 300 ∧ Hid (VEnv w gm (w.heap.size + 1 + 1) w.heap.size (w.heap.size + 1 + 1 + 1) (w.heap.size + 1) wr)) (fun _ i _ => N - (intOf i).toNat)
  case atStart => exact ⟨0, [], fun _ => none, 0, Nat.zero_le _, rfl, rfl, World.ownsRow_nil _ _ _ _, (fun j h => absurd h (Nat.not_lt_zero _)), Known.start T S.length, HM5, (by have := free_start S.length; have := HN.out; omega), HE5⟩
  case round =>
    obtain ⟨k, L, K, cnt, hk, rfl, hLk, ho, HL, HK, HMP, hcnt, HE⟩ := hrel
    clear HM5 HE5 c5
    by_cases hlt : k < N
    · have hks : k < S.length := by have := HN.out; omega
      have C := Lib.hid (V.out (w.heap.size + 1 + 1) w.heap.size (w.heap.size + 1 + 1 + 1) (w.heap.size + 1) 300 k cnt K [] wr (by
        have h := List.countP_le_length (p := fun k => (K k).isNone) (l := List.range S.length)
        rw [List.length_range] at h
        exact h) (by omega) hks HK.out (fun s h => absurd h List.not_mem_nil) HE.out HMP.out hcnt)
      have e1 := HE.out.v.cell
      have e2 := HE.out.v.lt
      have HEo := HE.out
      obtain ⟨es, clock, hmb⟩ := HMP.out.block
      clear HE
      have HEo := Lib.hid HEo
      go_wp2_with fail
      refine C.out.mono ?_
      rintro e Y ⟨v, K2, cnt2, rfl, r1, r2, r3, r4, r5, r6⟩
      have hl : Lng T k v := by
        rcases r1 with ⟨h, _⟩ | h
        · exact absurd h List.not_mem_nil
        · exact h
      have y7 := HEo.out.kept r6 (fun r e => by cases e; exact ⟨HEo.out.other hmb rfl, by omega⟩)
      have ho2 : Y.ownsRow w.heap.size 3 1 u5 k (encI L) := own_map ho HMP.out r6
      have hys := y7.b.size
      have hmk : w.heap.size + 1 < Y.heap.size := r4.lt
      have H7 := Lib.hid y7
      have R2 := Lib.hid r2
      have R4 := Lib.hid r4
      clear y7 r1 r2 r4 r6 ho HMP HK hmb
      go_wp2_with (at_builtin; refine wpList_append_own _ rfl (.tmp 17) (.tmp 21) _ rfl w.heap.size 3 i0 _ 1 8 Try.underlying74 hi hz0 hz1 hz2 rfl (by decide) _ k (encI L) rfl (ho2.alloc _) ⟨Y.heap.size, 0, none⟩ 1 1 [.int .i64 v] rfl rfl (cells_new _ _ _) (by intro u hu; rw [List.mem_singleton.1 hu]; rfl) (by unfold maxLen; omega) (by omega) (by simp; omega) ?_; intro v6 w6 hown6 hg6 _)
      rw [← encI_snoc] at hown6
      have hoA := ho2.alloc (.cells #[.int .i64 v] 3)
      have HMP6 := Lib.hid ((R4.out.below (bl_alloc (bl_refl Y) (.cells #[.int .i64 v] 3))).kept hg6 ((R4.out.below (bl_alloc (bl_refl Y) (.cells #[.int .i64 v] 3))).ne_own hoA))
      have HEA := H7.out.kept (grown_alloc Y (.cells #[.int .i64 v] 3) none) (fun r e => by cases e)
      have HE6 := Lib.hid (HEA.kept hg6 (fun r e => by
        refine ⟨⟨?_, ?_, ?_⟩, (hoA.lt r e).1⟩
        · rintro rfl; exact HEA.k.not_row (by decide) hoA e.symm
        · rintro rfl; exact HEA.m.not_row (by decide) hoA e.symm
        · rintro rfl; exact HEA.v.not_row (by decide) hoA e.symm))
      have HL6 : Hid (∀ j, j < k + 1 → Lng T j ((L ++ [v]).getD j 0)) := by
        intro j hj
        rcases Nat.lt_or_ge j k with h | h
        · rw [List.getD_eq_getElem?_getD, List.getElem?_append_left (by omega), ← List.getD_eq_getElem?_getD]
          exact HL.out j h
        · obtain rfl : j = k := by omega
          rw [List.getD_eq_getElem?_getD, List.getElem?_append_right (by omega), hLk, Nat.sub_self]
          exact hl
      clear HEA hoA hg6 H7 R4 ho2 hl
      go_wp2_with fail
      go_roundw
      case rel => exact ⟨k + 1, L ++ [v], K2, cnt2, by omega, by go_num, by simp [hLk], hown6, HL6, R2, HMP6, r5, HE6⟩
      case measure => simp [intOf]; omega
    · have ek : k = N := by omega
      have HO := Lib.hid ho
      have HLk := Lib.hid hLk
      clear ho HMP hLk
      subst ek
      go_wp2_with fail
      go_ret
      exact ⟨_, L, rfl, HLk.out, (fun i hi => HL.out i (by have := HN.out; omega)), HO.out, HE.out.b⟩
end Go.Proofs.Ytnamafakjkcmjaa
