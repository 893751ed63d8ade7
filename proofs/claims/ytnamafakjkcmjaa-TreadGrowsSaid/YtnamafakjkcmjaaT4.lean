/-
  The machine of a set: newMachine's walk.
-/
import Derived.Test.YtnamafakjkcmjaaMT
namespace Go.Proofs.Ytnamafakjkcmjaa
open Go.RowKit Go.Shelf
open Go.Maps (Keyed string_keyed int_keyed)
set_option linter.unusedVariables false
set_option linter.unusedSimpArgs false

/-- A machine that lies in block g. -/
def MachAt (w : World) (g q : Nat) (S : List Str) (T : Tab) : Prop := ∃ gS cS gN cN hdrs, Whole w g 60 #[.int .i64 q, .slice (some ⟨gS, 0, none⟩) S.length cS, .slice (some ⟨gN, 0, none⟩) T.length cN] ∧
  w.ownsRow 0 9 1 (.slice (some ⟨gS, 0, none⟩) S.length cS) S.length (encS S) ∧ w.ownsRow 0 74 1 (.slice (some ⟨gN, 0, none⟩) T.length cN) T.length hdrs ∧ RowsAt w w.heap.size hdrs T
/-- The same, with the blocks named, all from base on. -/
def MachX (base : Nat) (w : World) (g q : Nat) (S : List Str) (T : Tab) (gS cS gN cN : Nat) (hdrs : List Value) : Prop := base ≤ g ∧ Whole w g 60 #[.int .i64 q, .slice (some ⟨gS, 0, none⟩) S.length cS, .slice (some ⟨gN, 0, none⟩) T.length cN] ∧
  w.ownsRow base 9 1 (.slice (some ⟨gS, 0, none⟩) S.length cS) S.length (encS S) ∧ w.ownsRow base 74 1 (.slice (some ⟨gN, 0, none⟩) T.length cN) T.length hdrs ∧ RowsAt w w.heap.size hdrs T
theorem MachX.at {base : Nat} {w : World} {g q : Nat} {S : List Str} {T : Tab} {gS cS gN cN : Nat} {hdrs : List Value} (h : MachX base w g q S T gS cS gN cN hdrs) : MachAt w g q S T :=
  ⟨gS, cS, gN, cN, hdrs, h.2.1, own_low h.2.2.1 (Nat.zero_le _), own_low h.2.2.2.1 (Nat.zero_le _), h.2.2.2.2⟩
theorem MachAt.kept {w w' : World} {g q : Nat} {S : List Str} {T : Tab} (h : MachAt w g q S T) (hb : Below w.heap.size w w') : MachAt w' g q S T := by
  obtain ⟨gS, cS, gN, cN, hdrs, h1, h2, h3, h4⟩ := h
  exact ⟨gS, cS, gN, cN, hdrs, h1.kept hb, own_kept h2 hb, own_kept h3 hb, (h4.kept hb).mono hb.size⟩
/-- The letters of q, as the program has them. -/
def alphaQ (q : Nat) : ByteArray := bs ((List.range q).map ltr)
theorem alpha_al {q : Nat} {al : ByteArray} (hq : 1 ≤ q ∧ q ≤ 3) (h : (⟨#[97, 98, 99]⟩ : ByteArray).extract 0 q = al) : al.size = q ∧ ∀ c, c < q → ∃ hc : c < al.size, (al[c]).toNat = 97 + c := by
  have : q = 1 ∨ q = 2 ∨ q = 3 := by omega
  rcases this with rfl | rfl | rfl
  · have e : al = ⟨#[97]⟩ := by rw [← h]; rfl
    subst e
    refine ⟨rfl, fun c hc => ⟨hc, ?_⟩⟩
    obtain rfl : c = 0 := by omega
    rfl
  · have e : al = ⟨#[97, 98]⟩ := by rw [← h]; rfl
    subst e
    refine ⟨rfl, fun c hc => ⟨hc, ?_⟩⟩
    have : c = 0 ∨ c = 1 := by omega
    rcases this with rfl | rfl <;> rfl
  · have e : al = ⟨#[97, 98, 99]⟩ := by rw [← h]; rfl
    subst e
    refine ⟨rfl, fun c hc => ⟨hc, ?_⟩⟩
    have : c = 0 ∨ c = 1 ∨ c = 2 := by omega
    rcases this with rfl | rfl | rfl <;> rfl
theorem enc_ltr {c : Nat} (hc : c < 3) : Utf8.encode ((97 + c : Nat) : Int) = bs [ltr c] := by
  have : c = 0 ∨ c = 1 ∨ c = 2 := by omega
  rcases this with rfl | rfl | rfl <;> rfl
theorem bs_append (s t : Str) : bs s ++ bs t = bs (s ++ t) := by
  apply sb_inj
  rw [sb_append]
  rfl
theorem iterPos_of {w : World} {k c : Nat} {al : ByteArray} (h : w.heap[k]? = some (.stringIter al c)) : w.iterPos k = c := by
  unfold World.iterPos
  rw [h]
theorem row_at {set : List Str} {q c : Nat} {s : Str} {x : Int} (hc : c < q) (h : toL set q s c = x) : (rowL set q s)[c]? = some x := by
  unfold rowL
  rw [List.getElem?_map, List.getElem?_range hc, ← h]
  rfl
theorem bs_all (s : Str) : (bs s).extract 0 (bs s).size = bs s := by
  apply sb_inj
  unfold sb bs
  rw [ByteArray.data_extract, Array.toList_extract]
  simp [ByteArray.size]
theorem known_few {set : List Str} {q : Nat} (hq : q ≤ 3) (h0 : okL set [] = true) (k : Nat) : (knownL set q k).length ≤ 121 :=
  Nat.le_trans (known_prefix h0 k).length_le (stL_few set hq)
theorem bs_tail {t : Str} (h : t.length = 5) : (bs t).extract 1 (bs t).size = bs (last4 t) := by
  apply sb_inj
  unfold last4 sb bs
  rw [h, ByteArray.data_extract, Array.toList_extract]
  simp [ByteArray.size, h]
  rw [List.take_of_length_le (by simp [h])]
theorem encS_snoc (L : List Str) (s : Str) : encS (L ++ [s]) = encS L ++ [.string (bs s)] := by simp [encS]

set_option maxRecDepth 100000 in
set_option maxHeartbeats 4000000 in
theorem newMachine_x (q : Nat) (hq : 1 ≤ q ∧ q ≤ 3) (v : Value) (ss : List ByteArray) (w : World) (hv : StrsAt w v ss) (h0 : okL (pats ss) [] = true) (hG : HasG w) :
    Calls Try.prog 33 #[.int .i64 q, v] w fun e w' => ∃ g gS cS gN cN hdrs, e = .returned (.pointer (some ⟨g, 0, none⟩)) ∧ MachX w.heap.size w' g q (stL (pats ss) q) (tabL (pats ss) q) gS cS gN cN hdrs ∧ Below w.heap.size w w' := by
  have AV := Lib.hid fun s W h1 h2 h3 => avoids_any v ss s W h1 h2 h3
  have HV := Lib.hid hv
  have HG := Lib.hid hG
  have H0 := Lib.hid h0
  obtain ⟨i0, hi, hz0, hz1, hz2⟩ := info_parts infoI
  obtain ⟨j0, hj, jz0, jz1, jz2⟩ := info_parts infoS
  obtain ⟨r0, hr, rz0, rz1, rz2⟩ := info_parts infoR
  obtain ⟨set, hset⟩ : ∃ set, set = pats ss := ⟨_, rfl⟩
  rw [← hset] at h0 ⊢
  have HSET := Lib.hid hset
  have hmm := @run_makeMap Try.prog
  obtain ⟨W0, hW0⟩ : ∃ W0, W0 = (w.alloc (.cells #[.string ⟨#[]⟩] 9)).alloc (.cells #[.int .i64 q, .slice (some ⟨w.heap.size, 0, none⟩) 1 1, .slice none 0 0] 60) := ⟨_, rfl⟩
  obtain ⟨m1, s1, hm1, hg1⟩ := (MapF.made kindSI W0).store (x := ⟨#[]⟩) (y := 0) (Nat.zero_le _) (by show _ = _; decide) (by unfold maxLen; omega)
  have B1 : Hid (Built w.heap.size (w.heap.size + 1) (w.heap.size + 2) q m1 m1.heap.size (knownL set q 0) ((tabL set q).take 0) ∧ Below w.heap.size w m1 ∧ w.heap.size + 2 < m1.heap.size) := by
    have hs : W0.heap.size = w.heap.size + 2 := by rw [hW0]; simp
    refine ⟨⟨.slice (some ⟨w.heap.size, 0, none⟩) 1 1, .slice none 0 0, [], ?_, ?_, World.ownsRow_nil _ _ _ _, RowsAt.nil _ _, ?_⟩, ?_, ?_⟩
    · have h1 : Whole W0 (w.heap.size + 1) 60 #[.int .i64 q, .slice (some ⟨w.heap.size, 0, none⟩) 1 1, .slice none 0 0] := by rw [hW0]; exact Whole.new2 w _ _ _
      exact (h1.alloc (.map #[] 0)).grown hg1 (by rw [hs]; simp)
    · have h1 : Whole W0 w.heap.size 9 #[.string ⟨#[]⟩] := by rw [hW0]; exact (Whole.new w _ _).alloc _
      have h2 := (h1.alloc (.map #[] 0)).grown hg1 (by rw [hs]; simp)
      exact ⟨rfl, .inr ⟨w.heap.size, 1, _, rfl, Nat.le_refl _, h2, Nat.le_refl _, by unfold maxLen; omega, rfl, rfl⟩⟩
    · rw [hs] at hm1
      refine MapF.same hm1 fun x => ?_
      unfold idxF knownL
      simp only [List.take_zero, List.flatMap_nil, List.mem_singleton]
      by_cases e : x = ⟨#[]⟩
      · subst e; rfl
      · rw [if_neg e, if_neg (show ¬ sb x = [] from fun h => e (sb_inj h))]
    · have h3 : Below w.heap.size w W0 := by rw [hW0]; exact bl_alloc (bl_alloc (bl_refl w) _) _
      exact (h3.alloc h3.size _).grown hg1 (by simp; omega) (fun k e => by cases e; omega)
    · have := hg1.size; simp at this; omega
  rw [hW0] at s1
  simp only [World.size_alloc] at s1
  dsimp only [kindSI] at s1
  clear hm1 hg1 hW0 hset
  go_enter Try.func33, Try.ntmps33
  go_wp2_with fail
  clear s1
  go_loopw [7] (fun i wr => ∃ k : Nat, k ≤ (stL set q).length ∧ i = .int .i64 k ∧ Hid (Built w.heap.size (w.heap.size + 1) (w.heap.size + 2) q wr wr.heap.size (knownL set q k) ((tabL set q).take k)) ∧ Hid (Below w.heap.size w wr) ∧ w.heap.size + 2 < wr.heap.size) (fun i _ => (stL set q).length - (intOf i).toNat)
  case atStart =>
    exact ⟨0, Nat.zero_le _, rfl, B1.out.1, B1.out.2.1, B1.out.2.2⟩
  case round =>
    obtain ⟨k, hk, rfl, HB, Hb, hsz⟩ := hrel
    clear B1
    obtain ⟨vS, vN, hdrs, h1, h2, h3, h4, h5⟩ := HB.out
    by_cases hlt : k < (stL set q).length
    · have hkl := known_gt hq.2 h0 hlt
      obtain ⟨gS, cS, rfl, hgS, hgS2⟩ := own_form h2 (by omega)
      have c1 := (h1.cell 1).trans rfl
      have l1 := h1.lt
      obtain ⟨N, hN⟩ : ∃ N, N = (knownL set q k).length := ⟨_, rfl⟩
      have HN := Lib.hid hN
      rw [← hN] at h2 hkl c1
      have hN121' := known_few hq.2 h0 k
      have hmx : N ≤ 200 := by omega
      clear hN h1 h2 h3 h4 h5
      obtain ⟨al, hal⟩ : ∃ al, (⟨#[97, 98, 99]⟩ : ByteArray).extract 0 q = al := ⟨_, rfl⟩
      have AL := Lib.hid (alpha_al hq hal)
      go_wp2_with fail
      clear hal c1 l1
      obtain ⟨s, hs⟩ : ∃ s, s = (stL set q)[k] := ⟨_, rfl⟩
      have HS := Lib.hid hs
      clear hs
      obtain ⟨kI, hkI⟩ : ∃ kI, kI = wr.heap.size := ⟨_, rfl⟩
      rw [← hkI] at hsz ⊢
      go_loopw [8] (fun row wx => ∃ c : Nat, c ≤ q ∧ wx.heap[kI]? = some (.stringIter al c) ∧ Hid (Built w.heap.size (w.heap.size + 1) (w.heap.size + 2) q wx kI (knownL set q k ++ kidsTo set q s c) ((tabL set q).take k)) ∧ wx.ownsRow (kI + 1) 3 1 row c (encI ((rowL set q s).take c)) ∧ Hid (Below w.heap.size w wx) ∧ kI < wx.heap.size) (fun _ wx => q - wx.iterPos kI)
      case atStart =>
        refine ⟨0, Nat.zero_le _, by rw [hkI]; exact wr.iter_heap al 0, ?_, World.ownsRow_nil _ _ _ _, bl_alloc Hb.out _, by rw [hkI]; simp [World.iter]⟩
        rw [kidsTo_zero, List.append_nil]
        rw [hkI]
        exact HB.out.kept (bl_alloc (bl_refl _) _)
      case round =>
        clear HB Hb hkI
        obtain ⟨c, hc, hit, HB, ho, Hb, hsx⟩ := hrel
        by_cases hcq : c < q
        · obtain ⟨rn, hrn⟩ : ∃ rn : Int, rn = ((97 + c : Nat) : Int) := ⟨_, rfl⟩
          have henc : Utf8.encode rn = bs [ltr c] := by rw [hrn]; exact enc_ltr (by omega)
          obtain ⟨tt, htt⟩ : ∃ tt, tt = s ++ [ltr c] := ⟨_, rfl⟩
          have happ : bs s ++ bs [ltr c] = bs tt := by rw [htt]; exact bs_append _ _
          obtain ⟨W2, hnx, hit2, hgI⟩ : ∃ W2, (∀ ty, (Instr.next (.pointer (some ⟨kI, 0, none⟩)) true ty).run Try.prog wr = .ok (.tuple #[.bool true, .int .i64 c, .int .i32 rn]) W2) ∧ W2.heap[kI]? = some (.stringIter al (c + 1)) ∧ wr.grownBy W2 (some kI) := by
            obtain ⟨a1, a2⟩ := AL.out
            obtain ⟨a3, a4⟩ := a2 c hcq
            refine ⟨wr.iterAt kI al (c + 1), fun ty => ?_, Lib.iterAt_heap _ _ _ _ _ hit, grown_iter _ _ _ _⟩
            rw [Lib.run_next_ascii_at wr kI al c ty hit a3 (by rw [a4]; omega), a4, hrn]
          have hB2 := HB.out.iter hit (by omega) hgI
          have ho2 := own_iter ho hit hgI
          have Hb2 := Lib.hid (Hb.out.grown hgI Hb.out.size (fun r e => by cases e; omega))
          have hsx2 : kI < W2.heap.size := Nat.lt_of_lt_of_le hsx hgI.size
          have HB2 := Lib.hid hB2
          obtain ⟨vS, vN, hdrs, h1, h2, h3, h4, h5⟩ := hB2
          obtain ⟨N, hN⟩ : ∃ N, N = (knownL set q k ++ kidsTo set q s c).length := ⟨_, rfl⟩
          have HN := Lib.hid hN
          have hkN : k < N := by rw [hN, List.length_append]; have := known_gt hq.2 h0 hlt; omega
          rw [← hN] at h2
          clear hN
          obtain ⟨gS, cS, rfl, hgS, hgS2⟩ := own_form h2 (by omega)
          have c1 := (h1.cell 1).trans rfl
          have l1 := h1.lt
          have hN121 : N ≤ 200 := by
            have h7 := (round_prefix (set := set) h0 hlt (show c ≤ q by omega)).length_le
            rw [← HS.out, ← HN.out] at h7
            have := stL_few set hq.2
            omega
          have cS1 : W2.cell? ⟨gS, k, none⟩ = some (.string (bs s)) := by
            refine (h2.cellAt k (by omega)).trans ?_
            unfold encS
            have h7 := known_gt hq.2 h0 hlt
            rw [List.getElem?_map, List.getElem?_append_left h7, List.getElem?_eq_getElem h7, known_at hq.2 h0 hlt, ← HS.out]
            rfl
          have HTT := Lib.hid htt
          have HIT := Lib.hid hit
          clear HB ho Hb hit hgI hsx h1 h2 h3 h4 h5 hrn htt
          have hit0 : wr.heap[kI]? = some (.stringIter al c) := HIT.out
          have hsl : s.length ≤ 4 := by rw [HS.out]; exact (mem_stL.1 (List.getElem_mem hlt)).1
          have zs1 : (bs s).size ≤ 4 := hsl
          have zs2 : (bs [ltr c]).size ≤ 1 := Nat.le_refl _
          have hAV := AV.out (bs tt) W2 (HV.out.kept Hb2.out) (by show tt.length < _; rw [HTT.out]; simp; omega) (HG.out.kept Hb2.out)
          rw [← HSET.out, sb_bs] at hAV
          have hpos : wr.iterPos kI = c := iterPos_of hit0
          cases hok : okL set tt with
          | false =>
            rw [hok] at hAV
            have HAV := Lib.hid hAV
            have HK : Hid (kidsTo set q s c = kidsTo set q s (c + 1)) := (kidsTo_bad (by rw [← HTT.out]; exact hok)).symm
            have HR : Hid ((rowL set q s)[c]? = some (-1)) := row_at hcq (by unfold toL; rw [← HTT.out, hok]; rfl)
            have HP := Lib.hid hpos
            clear hAV hok hpos HIT hit0
            go_wp2_with fail
            refine HAV.out.mono ?_
            rintro e w5 ⟨rfl, hb5⟩
            have HB5 := Lib.hid (HB2.out.kept hb5)
            have ho5 := own_kept ho2 hb5
            have Hb5 := Lib.hid (bl_then Hb2.out hb5)
            have hit5 := Lib.hid ((hb5.block kI hsx2).trans hit2)
            have hs5 := hb5.size
            clear HB2 ho2 Hb2 hit2 hb5
            go_wp2_with (at_builtin; refine wpList_append_own _ rfl (.tmp 49) (.tmp 50) _ rfl (kI + 1) 3 i0 _ 1 8 Try.underlying74 hi hz0 hz1 hz2 rfl (by decide) _ c (encI ((rowL set q s).take c)) rfl (ho5.alloc _) ⟨w5.heap.size, 0, none⟩ 1 1 [.int .i64 (-1)] rfl rfl (cells_new _ _ _) (by intro u hu; rw [List.mem_singleton.1 hu]; rfl) (by unfold maxLen; omega) (by omega) (by simp; omega) ?_; intro v6 w6 hown6 hg6 _)
            rw [← takes_row HR.out] at hown6
            have hoA := ho5.alloc (.cells #[.int .i64 (-1)] 3)
            have HB6 := Lib.hid ((HB5.out.kept (bl_alloc (bl_refl w5) (.cells #[.int .i64 (-1)] 3))).grown hoA (Nat.le_succ kI) (by omega) hg6)
            have Hb6 := Lib.hid (bl_grown (bl_alloc Hb5.out (.cells #[.int .i64 (-1)] 3)) hoA (by omega) hg6)
            have hit6 : w6.heap[kI]? = some (.stringIter al (c + 1)) := (hg6.block kI (by simp; omega) (fun e => by have := (hoA.lt kI e.symm).1; omega)).trans ((Below.heap_alloc _ _ kI (by omega)).trans hit5.out)
            have hs6 : kI < w6.heap.size := by have := hg6.size; simp at this; omega
            rw [HK.out] at HB6
            clear hg6 hoA HB5 ho5 Hb5
            go_wp2_with fail
            go_roundw
            case rel => exact ⟨c + 1, by omega, hit6, HB6, hown6, Hb6, hs6⟩
            case measure => rw [HP.out, iterPos_of hit6]; omega
          | true =>
            rw [hok] at hAV
            have HAV := Lib.hid hAV
            have HP := Lib.hid hpos
            have HOK := Lib.hid hok
            clear hAV hok hpos HIT hit0
            by_cases hl4 : s.length < 4
            · have zt : (bs tt).size ≤ 4 := by show tt.length ≤ 4; rw [HTT.out]; simp; omega
              have hext : (bs tt).extract 0 (bs tt).size = bs tt := bs_all tt
              have hmax : max (0 : Int) (((bs tt).size : Int) - 4) = 0 := by omega
              obtain ⟨nw1, nw2⟩ := round_new (c := c) hq.2 h0 hlt hcq (by rw [← HS.out]; exact hl4) (by rw [← HS.out, ← HTT.out]; exact HOK.out)
              rw [← HS.out, ← HTT.out] at nw1 nw2
              have HK : Hid (kidsTo set q s (c + 1) = kidsTo set q s c ++ [tt]) := by
                show _ = _
                rw [HTT.out]; exact kidsTo_new hl4 (by rw [← HTT.out]; exact HOK.out)
              have HR : Hid ((rowL set q s)[c]? = some (N : Int)) := row_at hcq (by unfold toL; rw [← HTT.out, if_pos HOK.out, nw2, HN.out])
              have NW1 := Lib.hid nw1
              clear nw1 nw2 hl4
              go_wp2_with fail
              refine HAV.out.mono ?_
              rintro e w5 ⟨rfl, hb5⟩
              have HB5 := HB2.out.kept hb5
              have ho5 := own_kept ho2 hb5
              have Hb5 := Lib.hid (bl_then Hb2.out hb5)
              have hit5 := Lib.hid ((hb5.block kI hsx2).trans hit2)
              have hs5 := hb5.size
              clear HB2 ho2 Hb2 hit2 hb5 HAV
              obtain ⟨vS5, vN5, hdrs5, h1, h2, h3, h4, h5⟩ := HB5
              rw [← HN.out] at h2 h5
              have hT : tt ∉ knownL set q k ++ kidsTo set q s c := NW1.out
              have idn : idxF (knownL set q k ++ kidsTo set q s c) (bs tt) = none := by unfold idxF; rw [sb_bs, if_neg hT]
              have lk := h5.look_ok (x := bs tt) (by show (bs tt).size ≤ maxLen; unfold maxLen; omega)
              rw [idn] at lk
              dsimp only [kindSI] at lk
              simp only [Option.getD_none, Option.isSome_none] at lk
              obtain ⟨w6, st, hm6, hg6⟩ := h5.store (x := bs tt) (y := (N : Int)) (by show (bs tt).size ≤ maxLen; unfold maxLen; omega) (WalkArith.wf_i64 (by omega)) (by unfold maxLen; omega)
              dsimp only [kindSI] at st
              have h16 := h1.grown hg6 (by simp)
              have h26 := own_map h2 h5 hg6
              have h36 := own_map h3 h5 hg6
              have h46 := h4.map h5 hg6
              have ho6 := own_map ho5 h5 hg6
              have hs6 := hg6.size
              have hit6 := Lib.hid ((hg6.block kI (by omega) (by simp; omega)).trans hit5.out)
              have Hb6 := Lib.hid (Hb5.out.grown hg6 Hb5.out.size (fun r e => by cases e; omega))
              have c5 := (h1.cell 1).trans rfl
              have l5 := h1.lt
              have c6 := (h16.cell 1).trans rfl
              have l6 := h16.lt
              obtain ⟨gS5, cS5, rfl, hgS5, hgS52⟩ := own_form h2 (by omega)
              have H16 := Lib.hid h16
              have H36 := Lib.hid h36
              have H46 := Lib.hid h46
              have HM6 := Lib.hid hm6
              clear h1 h2 h3 h4 h5 hg6 hm6 h16 h36 h46 idn hT
              go_wp2_with (first
                | (at_builtin; refine wpList_append_own _ rfl (.tmp 78) (.tmp 80) _ rfl w.heap.size 9 j0 _ 1 16 Try.underlying22 hj jz0 jz1 jz2 rfl (by decide) _ N (encS (knownL set q k ++ kidsTo set q s c)) rfl (h26.alloc _) ⟨w6.heap.size, 0, none⟩ 1 1 [.string (bs tt)] rfl rfl (cells_new _ _ _) (by intro u hu; rw [List.mem_singleton.1 hu]; rfl) (by unfold maxLen; omega) (by omega) (by simp; omega) ?_; intro v7 w7 hown7 hg7 _; have H17 := Lib.hid ((H16.out.alloc (.cells #[.string (bs tt)] 9)).grown hg7 ((H16.out.alloc (.cells #[.string (bs tt)] 9)).ne_own (h26.alloc (.cells #[.string (bs tt)] 9)) (by decide))); have f7 := H17.out.frozen 1; have l7 := H17.out.lt; have c7 := (H17.out.cell 1).trans rfl; have ho7 := own_other (ho6.alloc (.cells #[.string (bs tt)] 9)) (h26.alloc (.cells #[.string (bs tt)] 9)) (by decide) hg7; have hs7 := hg7.size; have HG7 := Lib.hid hg7; simp only [World.size_alloc] at hs7; obtain ⟨gS7, cS7, rfl, hgS7, hgS72⟩ := own_form hown7 (by omega); have ho8 := own_far ho7 H17.out (by decide) 1 (.slice (some ⟨gS7, 0, none⟩) (N + 1) cS7); have hz8 : (w7.setCell ⟨w.heap.size + 1, 1, none⟩ (.slice (some ⟨gS7, 0, none⟩) (N + 1) cS7)).heap.size = w7.heap.size := by simp [World.setCell])
                | (at_builtin; refine wpList_append_own _ rfl (.tmp 84) (.tmp 86) _ rfl (kI + 1) 3 i0 _ 1 8 Try.underlying74 hi hz0 hz1 hz2 rfl (by decide) _ c (encI ((rowL set q s).take c)) rfl (ho8.alloc _) ⟨w7.heap.size, 0, none⟩ 1 1 [.int .i64 (N : Int)] rfl rfl (by have := cells_new (w7.setCell ⟨w.heap.size + 1, 1, none⟩ (.slice (some ⟨gS7, 0, none⟩) (N + 1) cS7)) 3 [.int .i64 (N : Int)]; rw [hz8] at this; exact this) (by intro u hu; rw [List.mem_singleton.1 hu]; rfl) (by unfold maxLen; omega) (by omega) (by simp [World.setCell]; omega) ?_; intro v9 w9 hown9 hg9 _))
              have HB8 := Built.added H16.out h26 H36.out H46.out HM6.out HN.out NW1.out HG7.out hown7
              have hoA := ho8.alloc (.cells #[.int .i64 (N : Int)] 3)
              have Hb8 : Below w.heap.size w (w7.setCell ⟨w.heap.size + 1, 1, none⟩ (.slice (some ⟨gS7, 0, none⟩) (N + 1) cS7)) := bl_set (bl_grown (bl_alloc Hb6.out (.cells #[.string (bs tt)] 9)) (h26.alloc (.cells #[.string (bs tt)] 9)) (Nat.le_refl _) HG7.out) (by simp) _
              have hit8 : (w7.setCell ⟨w.heap.size + 1, 1, none⟩ (.slice (some ⟨gS7, 0, none⟩) (N + 1) cS7)).heap[kI]? = some (.stringIter al (c + 1)) := by
                rw [Below.heap_setCell _ _ _ _ (by simp; omega)]
                refine (HG7.out.block kI (by simp; omega) ?_).trans ((Below.heap_alloc _ _ kI (by omega)).trans hit6.out)
                exact iter_ne h26 hit6.out
              have hitA := (Below.heap_alloc _ (.cells #[.int .i64 (N : Int)] 3) kI (by omega)).trans hit8
              have hs9 := hg9.size
              simp only [World.size_alloc] at hs9
              have hit9 : w9.heap[kI]? = some (.stringIter al (c + 1)) := (hg9.block kI (by simp; omega) (fun e => by have := (hoA.lt kI e.symm).1; omega)).trans hitA
              have HB9 := Lib.hid ((HB8.kept (bl_alloc (bl_refl _) (.cells #[.int .i64 (N : Int)] 3))).grown hoA (Nat.le_succ kI) (by omega) hg9)
              have Hb9 := Lib.hid (bl_grown (bl_alloc Hb8 (.cells #[.int .i64 (N : Int)] 3)) hoA (by omega) hg9)
              rw [← takes_row HR.out] at hown9
              rw [List.append_assoc, ← HK.out] at HB9
              have hsA : kI < w9.heap.size := by omega
              clear hg9 hoA HB8 Hb8 hit8 hitA ho8 hown7
              go_roundw
              case rel => exact ⟨c + 1, by omega, hit9, HB9, hown9, Hb9, hsA⟩
              case measure => rw [HP.out, iterPos_of hit9]; omega
            · have hs4 : s.length = 4 := by omega
              have zt : (bs tt).size = 5 := by show tt.length = 5; rw [HTT.out]; simp; omega
              have hext : (bs tt).extract 1 (bs tt).size = bs (last4 tt) := bs_tail zt
              rw [zt] at hext
              have hmax1 : max (0 : Int) 1 = 1 := rfl
              obtain ⟨od1, od2⟩ := round_old (c := c) h0 hlt (by rw [← HS.out]; exact hl4)
              rw [← HS.out] at od2
              have hin : last4 tt ∈ stL set q := by
                rw [HTT.out, HS.out]
                exact last4_mem (List.getElem_mem hlt) hcq (by rw [← HS.out, ← HTT.out]; exact HOK.out)
              have hix := List.idxOf_lt_length_of_mem hin
              have hfew := stL_few set hq.2
              obtain ⟨J, hJ⟩ : ∃ J, J = (stL set q).idxOf (last4 tt) := ⟨_, rfl⟩
              have HR : Hid ((rowL set q s)[c]? = some (J : Int)) := row_at hcq (by unfold toL; rw [← HTT.out, if_pos HOK.out, hJ])
              have HKN : Hid (knownL set q k ++ kidsTo set q s c = stL set q) := by show _ = _; rw [od1, od2, List.append_nil]
              have HK : Hid (kidsTo set q s c = kidsTo set q s (c + 1)) := (kidsTo_old hl4).symm
              have HJ := Lib.hid hJ
              have hJ9 : J ≤ 121 := by omega
              have ltl : (bs (last4 tt)).size ≤ 4 := by show (last4 tt).length ≤ 4; unfold last4; simp; omega
              have HIN := Lib.hid hin
              clear od1 od2 hl4 hs4 hin hix hJ
              go_wp2_with fail
              refine HAV.out.mono ?_
              rintro e w5 ⟨rfl, hb5⟩
              have HB5 := HB2.out.kept hb5
              have ho5 := own_kept ho2 hb5
              have Hb5 := Lib.hid (bl_then Hb2.out hb5)
              have hit5 := Lib.hid ((hb5.block kI hsx2).trans hit2)
              have hs5 := hb5.size
              clear HB2 ho2 Hb2 hit2 hb5 HAV
              have HB5h := Lib.hid HB5
              obtain ⟨vS5, vN5, hdrs5, h1, h2, h3, h4, h5⟩ := HB5
              have idn : idxF (knownL set q k ++ kidsTo set q s c) (bs (last4 tt)) = some (J : Int) := by
                unfold idxF
                rw [sb_bs, HKN.out, if_pos HIN.out, ← HJ.out]
              have lk := h5.look_ok (x := bs (last4 tt)) (by show (bs (last4 tt)).size ≤ maxLen; unfold maxLen; omega)
              rw [idn] at lk
              dsimp only [kindSI] at lk
              simp only [Option.getD_some, Option.isSome_some] at lk
              clear h1 h2 h3 h4 h5 idn
              go_wp2_with (at_builtin; refine wpList_append_own _ rfl (.tmp 84) (.tmp 86) _ rfl (kI + 1) 3 i0 _ 1 8 Try.underlying74 hi hz0 hz1 hz2 rfl (by decide) _ c (encI ((rowL set q s).take c)) rfl (ho5.alloc _) ⟨w5.heap.size, 0, none⟩ 1 1 [.int .i64 (J : Int)] rfl rfl (cells_new _ _ _) (by intro u hu; rw [List.mem_singleton.1 hu]; rfl) (by unfold maxLen; omega) (by omega) (by simp; omega) ?_; intro v6 w6 hown6 hg6 _)
              rw [← takes_row HR.out] at hown6
              have hoA := ho5.alloc (.cells #[.int .i64 (J : Int)] 3)
              have HB6 := Lib.hid ((HB5h.out.kept (bl_alloc (bl_refl w5) (.cells #[.int .i64 (J : Int)] 3))).grown hoA (Nat.le_succ kI) (by omega) hg6)
              have Hb6 := Lib.hid (bl_grown (bl_alloc Hb5.out (.cells #[.int .i64 (J : Int)] 3)) hoA (by omega) hg6)
              have hit6 : w6.heap[kI]? = some (.stringIter al (c + 1)) := (hg6.block kI (by simp; omega) (fun e => by have := (hoA.lt kI e.symm).1; omega)).trans ((Below.heap_alloc _ _ kI (by omega)).trans hit5.out)
              have hs6 : kI < w6.heap.size := by have := hg6.size; simp at this; omega
              rw [HK.out] at HB6
              clear hg6 hoA HB5h ho5 Hb5 lk
              go_wp2_with fail
              go_roundw
              case rel => exact ⟨c + 1, by omega, hit6, HB6, hown6, Hb6, hs6⟩
              case measure => rw [HP.out, iterPos_of hit6]; omega
        · have ec : c = q := by omega
          subst ec
          have hnx : ∀ ty, (Instr.next (.pointer (some ⟨kI, 0, none⟩)) true ty).run Try.prog wr = .ok (.tuple #[.bool false]) wr := fun ty =>
            Lib.run_next_end_at wr kI al c ty hit (by rw [AL.out.1]; omega)
          obtain ⟨vS2, vN2, hdrs2, h1, h2, h3, h4, h5⟩ := HB.out
          have hrl : (rowL set c s).length = c := by unfold rowL; simp
          rw [List.take_of_length_le (by omega)] at ho
          obtain ⟨gr, cr, rfl, hgr, hgr2⟩ := own_form ho (by omega)
          have c1 := (h1.cell 2).trans rfl
          have l1 := h1.lt
          have hTl : ((tabL set c).take k).length = k := by rw [List.length_take]; unfold tabL; rw [List.length_map]; omega
          rw [hTl] at h3
          have hfew := stL_few set hq.2
          have H1 := Lib.hid h1
          have H2 := Lib.hid h2
          have H4 := Lib.hid h4
          have H5 := Lib.hid h5
          have HO := Lib.hid ho
          have HRL := Lib.hid hrl
          have HTL := Lib.hid hTl
          clear HB h1 h2 h4 h5 ho hrl hTl
          go_wp2_with (at_builtin; refine wpList_append_own _ rfl (.tmp 92) (.tmp 94) _ rfl w.heap.size 74 r0 _ 1 24 Try.underlying58 hr rz0 rz1 rz2 rfl (by decide) _ k hdrs2 rfl (h3.alloc _) ⟨wr.heap.size, 0, none⟩ 1 1 [.slice (some ⟨gr, 0, none⟩) c cr] rfl rfl (cells_new _ _ _) (by intro u hu; rw [List.mem_singleton.1 hu]; rfl) (by unfold maxLen; omega) (by omega) (by simp; omega) ?_; intro v7 w7 hown7 hg7 _; have H17 := Lib.hid ((H1.out.alloc (.cells #[.slice (some ⟨gr, 0, none⟩) c cr] 74)).grown hg7 ((H1.out.alloc (.cells #[.slice (some ⟨gr, 0, none⟩) c cr] 74)).ne_own (h3.alloc (.cells #[.slice (some ⟨gr, 0, none⟩) c cr] 74)) (by decide))); have f7 := H17.out.frozen 2; have l7 := H17.out.lt; have c7 := (H17.out.cell 2).trans rfl; have hs7 := hg7.size; simp only [World.size_alloc] at hs7; obtain ⟨gN7, cN7, rfl, hgN7, hgN72⟩ := own_form hown7 (by omega))
          have HB8 := Built.rowed H1.out H2.out (by rw [HTL.out]; exact h3) H4.out H5.out (by omega) HO.out HRL.out.symm (by omega) hg7 (by rw [HTL.out]; exact hown7)
          have HKK : Hid (knownL set c k ++ kidsTo set c s c = knownL set c (k + 1)) := by
            show _ = _
            rw [kidsTo_all, known_succ hlt, ← HS.out]
          have HTT : Hid ((tabL set c).take k ++ [rowL set c s] = (tabL set c).take (k + 1)) := by
            show _ = _
            unfold tabL
            rw [List.take_succ_eq_append_getElem (by rw [List.length_map]; exact hlt), List.getElem_map, ← HS.out]
          rw [HKK.out, HTT.out] at HB8
          have HB9 := Lib.hid HB8
          have Hb9 := Lib.hid (bl_set (p := ⟨w.heap.size + 1, 2, none⟩) (bl_grown (bl_alloc Hb.out (.cells #[.slice (some ⟨gr, 0, none⟩) c cr] 74)) (h3.alloc (.cells #[.slice (some ⟨gr, 0, none⟩) c cr] 74)) (Nat.le_refl _) hg7) (by simp) (.slice (some ⟨gN7, 0, none⟩) (k + 1) cN7))
          clear HB8 hg7 hown7 h3 c1 c7 f7
          go_roundw
          case rel => exact ⟨k + 1, by omega, by go_num, HB9, Hb9, by simp [World.setCell]; omega⟩
          case measure => simp [intOf]; omega
    · have ek : k = (stL set q).length := by omega
      have hgt := known_few hq.2 h0 k
      have hA : 0 < (stL set q).length := by rw [stL_fix h0]; simp
      rw [known_all h0 (by omega)] at h2 h5
      have hT : (tabL set q).length = (stL set q).length := by unfold tabL; rw [List.length_map]
      rw [List.take_of_length_le (by omega)] at h3 h4
      obtain ⟨gS, cS, rfl, hgS, hgS2⟩ := own_form h2 hA
      obtain ⟨gN, cN, rfl, hgN, hgN2⟩ := own_form h3 (by omega)
      have c1 := (h1.cell 1).trans rfl
      have l1 := h1.lt
      have HM : Hid (MachX w.heap.size wr (w.heap.size + 1) q (stL set q) (tabL set q) gS cS gN cN hdrs) := ⟨by omega, h1, h2, h3, h4⟩
      have hfew := stL_few set hq.2
      clear h1 h2 h3 h4 h5 HB hT
      obtain ⟨NA, hNA⟩ : ∃ NA, NA = (stL set q).length := ⟨_, rfl⟩
      rw [← hNA] at c1 ek hfew
      have HNA := Lib.hid hNA
      clear hNA
      subst ek
      go_wp2_with fail
      go_ret
      exact ⟨_, _, _, _, _, _, rfl, HM.out, Hb.out⟩
theorem newMachine_any (q : Nat) (hq : 1 ≤ q ∧ q ≤ 3) (v : Value) (ss : List ByteArray) (w : World) (hv : StrsAt w v ss) (h0 : okL (pats ss) [] = true) (hG : HasG w) :
    Calls Try.prog 33 #[.int .i64 q, v] w fun e w' => ∃ g, e = .returned (.pointer (some ⟨g, 0, none⟩)) ∧ MachAt w' g q (stL (pats ss) q) (tabL (pats ss) q) ∧ Below w.heap.size w w' := by
  refine (newMachine_x q hq v ss w hv h0 hG).mono ?_
  rintro e w' ⟨g, gS, cS, gN, cN, hdrs, rfl, h1, h2⟩
  exact ⟨g, rfl, h1.at, h2⟩
end Go.Proofs.Ytnamafakjkcmjaa
