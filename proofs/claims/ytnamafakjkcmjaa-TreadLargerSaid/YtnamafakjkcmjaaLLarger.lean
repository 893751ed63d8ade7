/-
  The law TreadLarger: the walk. (Printed by tools/genLLarger.py.)
-/
import Derived.Test.YtnamafakjkcmjaaA32
import Derived.Test.YtnamafakjkcmjaaMI
import Derived.Test.YtnamafakjkcmjaaMJ
import Derived.Test.YtnamafakjkcmjaaT60
import Derived.Test.YtnamafakjkcmjaaT25
namespace Go.Proofs.Ytnamafakjkcmjaa
open Go.RowKit Go.Shelf
set_option linter.unusedVariables false
set_option linter.unusedSimpArgs false

/-- What Loop's word is. -/
def LoopW (q : Nat) (L : List ByteArray) (wd : Str) : Prop := wd.length ≤ q ^ 4 ∧ chkV q L (bs wd) = 0 ∧ chkV q L (bs wd ++ bs wd) = 0
theorem loopw_of {q n : Nat} {L : List ByteArray} (hset : setB q L = true) (hn1 : 1 ≤ n) (hno : ∀ m, 1 ≤ m → m < n → ∀ i, i < (stL (pats L) q).length → rc (tabL (pats L) q) i m i = false)
    (hex : ∃ i, i < (stL (pats L) q).length ∧ rc (tabL (pats L) q) i n i = true) : LoopW q L (bestN (tabL (pats L) q) n (stL (pats L) q).length) := by
  have hq : 1 ≤ q ∧ q ≤ 3 := by have := (setB_parts hset).1; omega
  have h0 := ok_nil (pats_some hset)
  have hp := pats_five hset
  obtain ⟨g1, g2, g3⟩ := best_loop h0 hp hq.2 hn1 hex
  have g4 := loop_short hq.2 h0 hn1 hno hex
  obtain ⟨w, hw⟩ : ∃ w, w = bestN (tabL (pats L) q) n (stL (pats L) q).length := ⟨_, rfl⟩
  rw [← hw] at g1 g2 g3 ⊢
  have h81 : q ^ 4 ≤ 81 := Nat.le_trans (Nat.pow_le_pow_left hq.2 4) (by decide)
  have hl := (lettB_iff hq.2 w).2 g2
  have hl2 : lettB q (w ++ w) = true := (lettB_iff hq.2 _).2 (lett_app.2 ⟨g2, g2⟩)
  have hw0 : 0 < w.length := by omega
  have lb1 : loopB (pats L) w = true := by
    rw [loop_any hw0 hp (n' := 6 * w.length) (loop_six hw0)]; exact g3 _
  have lb2 : loopB (pats L) (w ++ w) = true := by
    have h2 : 0 < (w ++ w).length := by rw [List.length_append]; omega
    rw [loop_any h2 hp (n' := 6 * (w ++ w).length) (loop_six h2), repN_twice hw0]; exact g3 _
  have hs1 : (bs w).size = w.length := rfl
  have hs2 : (bs w ++ bs w).size = w.length + w.length := by rw [ByteArray.size_append, hs1]
  have hsb : sb (bs w ++ bs w) = w ++ w := by rw [sb_append]; rfl
  refine ⟨by omega, ?_, ?_⟩
  · unfold chkV
    rw [hset, hs1, show decide (w.length ≤ 300) = true by simp; omega, Int.toNat_natCast, show sb (bs w) = w from rfl, hl, lb1]
    rfl
  · unfold chkV
    rw [hset, hs2, show decide (w.length + w.length ≤ 300) = true by simp; omega, Int.toNat_natCast, hsb, hl2, lb2]
    rfl
theorem lng_of {T : Tab} (h : ∃ m, can T m 0 = false) : ∃ m : Nat, Lng T 0 m := by
  obtain ⟨m, hm⟩ := h
  induction m with
  | zero => cases hm
  | succ m ih =>
    cases h : can T m 0 with
    | false => exact ih h
    | true => exact ⟨m, .inr ⟨m, rfl, h, hm⟩⟩
theorem Count_at (q n : Nat) (v : Value) (ss : List ByteArray) (w : World) (T : Tab) (hT : T = tabL (pats ss) q) (hv : StrsAt w v ss) (hset : setB q ss = true) (hn : n ≤ 60) (hG : HasG w) (hfew : fewB T n = true) :
    Calls Try.prog 25 #[.int .i64 q, v, .int .i64 n] w fun e w' => e = .returned (.tuple #[.int .i64 ((accL T n 0).length : Nat), .int .i64 0]) ∧ Below w.heap.size w w' := by
  refine (Count_any q n v ss w T hT hv hset hn hG).mono ?_
  rintro e w' ⟨h | h, hb⟩
  · rw [hfew] at h; cases h.1
  · refine ⟨?_, hb⟩
    rw [h.2, (few_len hfew (Nat.le_refl n)).2]
theorem larger_chk {q : Nat} {L L' : List ByteArray} {s : ByteArray} (hset : setB q L = true) (hsub : ∀ x ∈ pats L, x ∈ pats L') (h : chkV q L' s = 0) : chkV q L s = 0 := by
  unfold chkV at h ⊢
  split at h
  · rename_i h1
    split at h
    · rename_i h2
      simp only [Bool.and_eq_true] at h1
      rw [hset, h1.1.2, h1.2]
      have h3 : loopB (pats L) (sb s) = true := by
        unfold loopB at h2 ⊢
        simp only [Bool.and_eq_true] at h2 ⊢
        exact ⟨h2.1, ok_sub hsub h2.2⟩
      rw [h3]
      rfl
    · omega
  · omega
theorem Growth_is (q : Nat) (v : Value) (L : List ByteArray) (w : World) (hv : StrsAt w v L) (hset : setB q L = true) (hG : HasG w) :
    Calls Try.prog 11 #[.int .i64 q, v] w fun e w' => (∃ g, GrowIs (tabL (pats L) q) (stL (pats L) q).length g ∧ e = .returned (.tuple #[.int .i64 g, .int .i64 0])) ∧ Below w.heap.size w w' := by
  refine (Growth_any q _ v L w _ _ rfl rfl rfl hv hset hG).mono ?_
  rintro e w' ⟨⟨M, hM, h1⟩, h2⟩
  rcases h1 with ⟨h3, rfl⟩ | ⟨h3, rfl⟩
  · exact ⟨⟨_, ⟨M, hM, .inl ⟨h3, rfl⟩⟩, rfl⟩, h2⟩
  · exact ⟨⟨_, ⟨M, hM, .inr ⟨h3, rfl⟩⟩, rfl⟩, h2⟩
theorem Loop_is (q : Nat) (v : Value) (L : List ByteArray) (w : World) (hv : StrsAt w v L) (hset : setB q L = true) (hG : HasG w) :
    Calls Try.prog 30 #[.int .i64 q, v] w fun e w' => ((endsB (tabL (pats L) q) = true ∧ e = .returned (.tuple #[.string ⟨#[]⟩, .int .i64 6])) ∨ (endsB (tabL (pats L) q) = false ∧ ∃ wd, LoopW q L wd ∧ e = .returned (.tuple #[.string (bs wd), .int .i64 0]))) ∧ Below w.heap.size w w' := by
  have hq : 1 ≤ q ∧ q ≤ 3 := by have := (setB_parts hset).1; omega
  have h0 := ok_nil (pats_some hset)
  have hTT := tab_ok (q := q) h0
  have hN0 : 0 < (stL (pats L) q).length := by rw [stL_fix h0]; simp
  have hN121 := stL_few (pats L) hq.2
  refine (Loop_any q _ v L w _ _ rfl rfl rfl hv hset hG).mono ?_
  rintro e w' ⟨⟨m, hm, h3⟩ | ⟨h4, n, hn1, _, hno, hex, h3⟩, h2⟩
  · exact ⟨.inl ⟨ends_iff hTT hN0 hN121 hm, h3⟩, h2⟩
  · refine ⟨.inr ⟨?_, _, loopw_of hset hn1 hno hex, h3⟩, h2⟩
    cases he : endsB (tabL (pats L) q) with
    | false => rfl
    | true =>
      have hc : can (tabL (pats L) q) 1000 0 = false := by
        unfold endsB at he
        simpa using he
      rw [(h4.can_iff 1000).2 (.inl (by decide))] at hc
      cases hc
theorem grow_end {q : Nat} {L : List ByteArray} {g : Int} (hset : setB q L = true) (hg : GrowIs (tabL (pats L) q) (stL (pats L) q).length g) : (endsB (tabL (pats L) q) = true → g = -1) ∧ (endsB (tabL (pats L) q) = false → g ≠ -1) := by
  have hq : 1 ≤ q ∧ q ≤ 3 := by have := (setB_parts hset).1; omega
  have h0 := ok_nil (pats_some hset)
  have hp := pats_five hset
  have hTT := tab_ok (q := q) h0
  have hN0 : 0 < (stL (pats L) q).length := by rw [stL_fix h0]; simp
  have hN121 := stL_few (pats L) hq.2
  refine ⟨fun he => ?_, fun he => ?_⟩
  · have hc : can (tabL (pats L) q) 1000 0 = false := by
      unfold endsB at he
      simpa using he
    exact grow_ends h0 hp hq.2 ⟨1000, hc⟩ hg
  · refine (grow_on h0 hp hq.2 (fun m => ?_) hg).2
    refine Classical.byContradiction fun hn => ?_
    have hfin : ∃ m, can (tabL (pats L) q) m 0 = false := ⟨m, by simpa using hn⟩
    obtain ⟨m, hm⟩ := lng_of hfin
    rw [ends_iff hTT hN0 hN121 hm] at he
    cases he
set_option maxRecDepth 100000 in
set_option maxHeartbeats 4000000 in
theorem TreadLarger_walk (x0 : Int) (v : Value) (ss : List ByteArray) (s0 : ByteArray) (n : Int) (W : World) (hx : (Lit.int .i64 x0).wf = true) (hv : StrsAt W v ss) (hl : ss.length * 16 ≤ 140737488351232) (hz : ∀ s ∈ ss, s.size ≤ maxLen) (hs0 : s0.size ≤ 140737488351232) (hn : (Lit.int .i64 n).wf = true) (hG : HasG W) :
    Calls Try.prog 9 #[.int .i64 x0, v, .string s0, .int .i64 n] W fun e w' => e = .returned (.bool true) ∧ Below W.heap.size W w' := by
  have TM := Lib.hid fun W h => tame_any x0 v ss 11 W h hl hz (by omega)
  have HV := Lib.hid hv
  have AW := Lib.hid fun W h => awake_any W h
  have HG := Lib.hid hG
  have MB := Lib.hid fun W => mod_any n 30 W (by omega)
  have LW := Lib.hid fun q (hq : 1 ≤ q ∧ q ≤ 3) W => letters_any s0 q 5 hq W (by unfold maxLen; omega) (by omega)
  clear hG hv hz hl hx hn hs0
  go_enter Try.func9, Try.ntmps9
  go_wp2_with fail
  refine (TM.out _ HV.out).mono ?_
  rintro e w1 ⟨q, v1, rfl, hq, ⟨L, hs1, hset, hL12, hnil⟩, hb1⟩
  have HB1 := Lib.hid hb1
  have HS1 := Lib.hid hs1
  obtain ⟨T, hT⟩ : ∃ T, T = tabL (pats L) q := ⟨_, rfl⟩
  have HSET := Lib.hid hset
  have HT := Lib.hid hT
  have h5 : ∀ p ∈ L, p.size ≤ 1000 := fun p hp => by have := ((setB_iff.1 hset).2.2.1 p hp).2.1; omega
  have LT := Lib.hid fun s W h => Letters_any q hq.2 s W h
  have AV := Lib.hid fun s W h h2 => Avoids_any v1 L s W h h5 (by omega) h2
  clear hs1 hb1 hset hT h5
  have HTL := Lib.hid (And.intro (tm_len q 5 s0) (tm_lett hq 5 s0))
  obtain ⟨wd, hwd⟩ : ∃ wd, wd = tmL q 5 s0 := ⟨_, rfl⟩
  rw [← hwd] at HTL
  have LW1 := Lib.hid fun W => LW.out q hq W
  rw [← hwd] at LW1
  have WI := Lib.hid fun s W h => with_any v1 L s W h (by omega) (setB_iff.1 HSET.out).2.2.2 hnil
  clear hwd hnil LT AV
  go_wp2_with fail
  refine (LW1.out _).mono ?_
  rintro e w2 ⟨rfl, hb2⟩
  have HB2 := Lib.hid (bl_then HB1.out hb2)
  have HS2 := Lib.hid (HS1.out.kept hb2)
  clear hb2
  have hnl : (⟨#[]⟩ : ByteArray).toList = [] := bs_toList []
  have hbt := bs_toList wd
  by_cases hw0 : wd = []
  · subst hw0
    have HS1B : Hid (1 ≤ (⟨#[97]⟩ : ByteArray).size ∧ (⟨#[97]⟩ : ByteArray).size ≤ 5 ∧ lettB q (sb ⟨#[97]⟩) = true) := Lib.hid ⟨by decide, by decide, (lettB_iff hq.2 _).2 (fun b hb => ⟨0, by omega, by
      have : b = 97 := List.mem_singleton.1 hb
      rw [this]; rfl⟩)⟩
    go_wp2_with fail
    refine (WI.out _ _ HS2.out).mono ?_
    rintro e w3 ⟨v2, rfl, ⟨L', hs3, hpw, hor, hlen, hin, hsub, _⟩, hb3⟩
    have HB3 := Lib.hid (bl_then HB2.out hb3)
    have HS3 := Lib.hid (HS2.out.kept hb3)
    have HR3 := Lib.hid hs3
    have hset2 : setB q L' = true := setB_iff.2 ⟨hq, by omega, fun x hx => by
      rcases hor x hx with rfl | h
      · exact HS1B.out
      · exact (setB_iff.1 HSET.out).2.2.1 x h, hpw⟩
    have HSET2 := Lib.hid hset2
    have hsubp : ∀ x ∈ pats L, x ∈ pats L' := fun x hx => by
      obtain ⟨y, hy, rfl⟩ := List.mem_map.1 hx
      exact List.mem_map.2 ⟨y, hsub y hy, rfl⟩
    have HSUB := Lib.hid hsubp
    clear hs3 hpw hor hlen hin hsub hb3 hset2 hsubp
    go_wp2_with fail
    refine (MB.out _).mono ?_
    rintro e w98 ⟨⟨m, hm, rfl⟩, rfl⟩
    have C1 := Lib.hid fun W h h2 => Count_at q m v1 L W T HT.out h HSET.out (by omega) h2 (by rw [HT.out]; exact few36 HSET.out m (by omega))
    have C2 := Lib.hid fun W h h2 => Count_at q m v2 L' W _ rfl h HSET2.out (by omega) h2 (few36 HSET2.out m (by omega))
    have hba : (accL (tabL (pats L') q) m 0).length ≤ (accL T m 0).length := by
      rw [HT.out]
      exact acc_mono HSUB.out (ok_nil (pats_some HSET.out)) (ok_nil (pats_some HSET2.out)) (pats_five HSET.out) (pats_five HSET2.out) hq.2 m
    obtain ⟨a, ha⟩ : ∃ a, a = (accL T m 0).length := ⟨_, rfl⟩
    obtain ⟨b, hb⟩ : ∃ b, b = (accL (tabL (pats L') q) m 0).length := ⟨_, rfl⟩
    rw [← ha, ← hb] at hba
    rw [← ha] at C1
    rw [← hb] at C2
    have hba' : ¬ (a : Int) < (b : Int) := by omega
    have hb0 : ¬ (b : Int) < 0 := by omega
    clear ha hb hba
    go_wp2_with fail
    refine (C1.out _ HS3.out (HG.out.kept HB3.out)).mono ?_
    rintro e w4 ⟨rfl, hb4⟩
    have HB4 := Lib.hid (bl_then HB3.out hb4)
    have HS4 := Lib.hid (HS3.out.kept hb4)
    have HR4 := Lib.hid (HR3.out.kept hb4)
    clear hb4
    go_wp2_with fail
    refine (C2.out _ HR4.out (HG.out.kept HB4.out)).mono ?_
    rintro e w5 ⟨rfl, hb5⟩
    have HB5 := Lib.hid (bl_then HB4.out hb5)
    have HS5 := Lib.hid (HS4.out.kept hb5)
    have HR5 := Lib.hid (HR4.out.kept hb5)
    clear hb5
    go_wp2_with fail
    refine (Growth_is q v1 L _ HS5.out HSET.out (HG.out.kept HB5.out)).mono ?_
    rintro e w6 ⟨⟨x, hx, rfl⟩, hb6⟩
    have HB6 := Lib.hid (bl_then HB5.out hb6)
    have HS6 := Lib.hid (HS5.out.kept hb6)
    have HR6 := Lib.hid (HR5.out.kept hb6)
    have HXG := Lib.hid hx
    clear hb6 hx
    go_wp2_with fail
    refine (Growth_is q v2 L' _ HR6.out HSET2.out (HG.out.kept HB6.out)).mono ?_
    rintro e w7 ⟨⟨y, hy, rfl⟩, hb7⟩
    have HB7 := Lib.hid (bl_then HB6.out hb7)
    have HS7 := Lib.hid (HS6.out.kept hb7)
    have HR7 := Lib.hid (HR6.out.kept hb7)
    have HMONO : Hid (x ≠ -2 → y ≠ -2 ∧ y ≤ x) := Lib.hid (grow_mono HSUB.out (ok_nil (pats_some HSET.out)) (ok_nil (pats_some HSET2.out)) hq.2 HXG.out hy)
    have HGE := Lib.hid (grow_end HSET2.out hy)
    clear hb7 hy
    have LO := Lib.hid (Loop_is q v2 L' w7 HR7.out HSET2.out (HG.out.kept HB7.out))
    have hxy : x = -2 ∨ (¬ x = -2 ∧ ¬ y = -2 ∧ ¬ x < y) := by
      by_cases h : x = -2
      · exact .inl h
      · have := HMONO.out h
        exact .inr ⟨h, this.1, by omega⟩
    rcases hxy with hx2 | ⟨hx2, hy2, hxy⟩
    · subst hx2
      go_wp2_with fail
      refine LO.out.mono ?_
      rintro e w8 ⟨hr, hb8⟩
      have HB8 := Lib.hid (bl_then HB7.out hb8)
      have HS8 := Lib.hid (HS7.out.kept hb8)
      clear hb8
      rcases hr with ⟨he, rfl⟩ | ⟨he, wd, hwd, rfl⟩
      · have hy1 : y = -1 := HGE.out.1 he
        clear he
        go_wp2_with fail
        refine (AW.out _ (HG.out.kept HB8.out)).mono ?_
        rintro e w99 ⟨rfl, hb99⟩
        have HB99 := Lib.hid (bl_then HB8.out hb99)
        clear hb99
        go_wp2_with fail
        go_ret
        exact ⟨rfl, HB99.out⟩
      · have hy1 : ¬ y = -1 := HGE.out.2 he
        have hyb : (y != -1) = true := bne_iff_ne.2 hy1
        have hck := larger_chk HSET.out HSUB.out hwd.2.1
        have hw81 : wd.length ≤ 81 := Nat.le_trans hwd.1 (Nat.le_trans (Nat.pow_le_pow_left hq.2 4) (by decide))
        have CK := Lib.hid fun W h h2 => Check_any q v1 L (bs wd) W h (by show wd.length ≤ _; omega) h2
        rw [hck] at CK
        clear he hwd hck hw81
        go_wp2_with fail
        refine (CK.out _ HS8.out (HG.out.kept HB8.out)).mono ?_
        rintro e w9 ⟨rfl, hb9⟩
        have HB9 := Lib.hid (bl_then HB8.out hb9)
        clear hb9
        go_wp2_with fail
        refine (AW.out _ (HG.out.kept HB9.out)).mono ?_
        rintro e w99 ⟨rfl, hb99⟩
        have HB99 := Lib.hid (bl_then HB9.out hb99)
        clear hb99
        go_wp2_with fail
        go_ret
        exact ⟨rfl, HB99.out⟩
    · have hx2b : (x == -2) = false := beq_false_of_ne hx2
      have hy2b : (y == -2) = false := beq_false_of_ne hy2
      go_wp2_with fail
      refine LO.out.mono ?_
      rintro e w8 ⟨hr, hb8⟩
      have HB8 := Lib.hid (bl_then HB7.out hb8)
      have HS8 := Lib.hid (HS7.out.kept hb8)
      clear hb8
      rcases hr with ⟨he, rfl⟩ | ⟨he, wd, hwd, rfl⟩
      · have hy1 : y = -1 := HGE.out.1 he
        clear he
        subst hy1
        go_wp2_with fail
        refine (AW.out _ (HG.out.kept HB8.out)).mono ?_
        rintro e w99 ⟨rfl, hb99⟩
        have HB99 := Lib.hid (bl_then HB8.out hb99)
        clear hb99
        go_wp2_with fail
        go_ret
        exact ⟨rfl, HB99.out⟩
      · have hy1 : ¬ y = -1 := HGE.out.2 he
        have hyb : (y != -1) = true := bne_iff_ne.2 hy1
        have hck := larger_chk HSET.out HSUB.out hwd.2.1
        have hw81 : wd.length ≤ 81 := Nat.le_trans hwd.1 (Nat.le_trans (Nat.pow_le_pow_left hq.2 4) (by decide))
        have CK := Lib.hid fun W h h2 => Check_any q v1 L (bs wd) W h (by show wd.length ≤ _; omega) h2
        rw [hck] at CK
        clear he hwd hck hw81
        go_wp2_with fail
        refine (CK.out _ HS8.out (HG.out.kept HB8.out)).mono ?_
        rintro e w9 ⟨rfl, hb9⟩
        have HB9 := Lib.hid (bl_then HB8.out hb9)
        clear hb9
        go_wp2_with fail
        refine (AW.out _ (HG.out.kept HB9.out)).mono ?_
        rintro e w99 ⟨rfl, hb99⟩
        have HB99 := Lib.hid (bl_then HB9.out hb99)
        clear hb99
        go_wp2_with fail
        go_ret
        exact ⟨rfl, HB99.out⟩
  · have HS1B : Hid (1 ≤ (bs wd).size ∧ (bs wd).size ≤ 5 ∧ lettB q (sb (bs wd)) = true) := Lib.hid ⟨by
      have := List.length_pos_iff.2 hw0
      exact this, by have := HTL.out.1; show wd.length ≤ 5; omega, HTL.out.2⟩
    have hwe : List.isEmpty wd = false := by cases wd with | nil => exact absurd rfl hw0 | cons a l => rfl
    go_wp2_with fail
    refine (WI.out _ _ HS2.out).mono ?_
    rintro e w3 ⟨v2, rfl, ⟨L', hs3, hpw, hor, hlen, hin, hsub, _⟩, hb3⟩
    have HB3 := Lib.hid (bl_then HB2.out hb3)
    have HS3 := Lib.hid (HS2.out.kept hb3)
    have HR3 := Lib.hid hs3
    have hset2 : setB q L' = true := setB_iff.2 ⟨hq, by omega, fun x hx => by
      rcases hor x hx with rfl | h
      · exact HS1B.out
      · exact (setB_iff.1 HSET.out).2.2.1 x h, hpw⟩
    have HSET2 := Lib.hid hset2
    have hsubp : ∀ x ∈ pats L, x ∈ pats L' := fun x hx => by
      obtain ⟨y, hy, rfl⟩ := List.mem_map.1 hx
      exact List.mem_map.2 ⟨y, hsub y hy, rfl⟩
    have HSUB := Lib.hid hsubp
    clear hs3 hpw hor hlen hin hsub hb3 hset2 hsubp
    go_wp2_with fail
    refine (MB.out _).mono ?_
    rintro e w98 ⟨⟨m, hm, rfl⟩, rfl⟩
    have C1 := Lib.hid fun W h h2 => Count_at q m v1 L W T HT.out h HSET.out (by omega) h2 (by rw [HT.out]; exact few36 HSET.out m (by omega))
    have C2 := Lib.hid fun W h h2 => Count_at q m v2 L' W _ rfl h HSET2.out (by omega) h2 (few36 HSET2.out m (by omega))
    have hba : (accL (tabL (pats L') q) m 0).length ≤ (accL T m 0).length := by
      rw [HT.out]
      exact acc_mono HSUB.out (ok_nil (pats_some HSET.out)) (ok_nil (pats_some HSET2.out)) (pats_five HSET.out) (pats_five HSET2.out) hq.2 m
    obtain ⟨a, ha⟩ : ∃ a, a = (accL T m 0).length := ⟨_, rfl⟩
    obtain ⟨b, hb⟩ : ∃ b, b = (accL (tabL (pats L') q) m 0).length := ⟨_, rfl⟩
    rw [← ha, ← hb] at hba
    rw [← ha] at C1
    rw [← hb] at C2
    have hba' : ¬ (a : Int) < (b : Int) := by omega
    have hb0 : ¬ (b : Int) < 0 := by omega
    clear ha hb hba
    go_wp2_with fail
    refine (C1.out _ HS3.out (HG.out.kept HB3.out)).mono ?_
    rintro e w4 ⟨rfl, hb4⟩
    have HB4 := Lib.hid (bl_then HB3.out hb4)
    have HS4 := Lib.hid (HS3.out.kept hb4)
    have HR4 := Lib.hid (HR3.out.kept hb4)
    clear hb4
    go_wp2_with fail
    refine (C2.out _ HR4.out (HG.out.kept HB4.out)).mono ?_
    rintro e w5 ⟨rfl, hb5⟩
    have HB5 := Lib.hid (bl_then HB4.out hb5)
    have HS5 := Lib.hid (HS4.out.kept hb5)
    have HR5 := Lib.hid (HR4.out.kept hb5)
    clear hb5
    go_wp2_with fail
    refine (Growth_is q v1 L _ HS5.out HSET.out (HG.out.kept HB5.out)).mono ?_
    rintro e w6 ⟨⟨x, hx, rfl⟩, hb6⟩
    have HB6 := Lib.hid (bl_then HB5.out hb6)
    have HS6 := Lib.hid (HS5.out.kept hb6)
    have HR6 := Lib.hid (HR5.out.kept hb6)
    have HXG := Lib.hid hx
    clear hb6 hx
    go_wp2_with fail
    refine (Growth_is q v2 L' _ HR6.out HSET2.out (HG.out.kept HB6.out)).mono ?_
    rintro e w7 ⟨⟨y, hy, rfl⟩, hb7⟩
    have HB7 := Lib.hid (bl_then HB6.out hb7)
    have HS7 := Lib.hid (HS6.out.kept hb7)
    have HR7 := Lib.hid (HR6.out.kept hb7)
    have HMONO : Hid (x ≠ -2 → y ≠ -2 ∧ y ≤ x) := Lib.hid (grow_mono HSUB.out (ok_nil (pats_some HSET.out)) (ok_nil (pats_some HSET2.out)) hq.2 HXG.out hy)
    have HGE := Lib.hid (grow_end HSET2.out hy)
    clear hb7 hy
    have LO := Lib.hid (Loop_is q v2 L' w7 HR7.out HSET2.out (HG.out.kept HB7.out))
    have hxy : x = -2 ∨ (¬ x = -2 ∧ ¬ y = -2 ∧ ¬ x < y) := by
      by_cases h : x = -2
      · exact .inl h
      · have := HMONO.out h
        exact .inr ⟨h, this.1, by omega⟩
    rcases hxy with hx2 | ⟨hx2, hy2, hxy⟩
    · subst hx2
      go_wp2_with fail
      refine LO.out.mono ?_
      rintro e w8 ⟨hr, hb8⟩
      have HB8 := Lib.hid (bl_then HB7.out hb8)
      have HS8 := Lib.hid (HS7.out.kept hb8)
      clear hb8
      rcases hr with ⟨he, rfl⟩ | ⟨he, wd, hwd, rfl⟩
      · have hy1 : y = -1 := HGE.out.1 he
        clear he
        go_wp2_with fail
        refine (AW.out _ (HG.out.kept HB8.out)).mono ?_
        rintro e w99 ⟨rfl, hb99⟩
        have HB99 := Lib.hid (bl_then HB8.out hb99)
        clear hb99
        go_wp2_with fail
        go_ret
        exact ⟨rfl, HB99.out⟩
      · have hy1 : ¬ y = -1 := HGE.out.2 he
        have hyb : (y != -1) = true := bne_iff_ne.2 hy1
        have hck := larger_chk HSET.out HSUB.out hwd.2.1
        have hw81 : wd.length ≤ 81 := Nat.le_trans hwd.1 (Nat.le_trans (Nat.pow_le_pow_left hq.2 4) (by decide))
        have CK := Lib.hid fun W h h2 => Check_any q v1 L (bs wd) W h (by show wd.length ≤ _; omega) h2
        rw [hck] at CK
        clear he hwd hck hw81
        go_wp2_with fail
        refine (CK.out _ HS8.out (HG.out.kept HB8.out)).mono ?_
        rintro e w9 ⟨rfl, hb9⟩
        have HB9 := Lib.hid (bl_then HB8.out hb9)
        clear hb9
        go_wp2_with fail
        refine (AW.out _ (HG.out.kept HB9.out)).mono ?_
        rintro e w99 ⟨rfl, hb99⟩
        have HB99 := Lib.hid (bl_then HB9.out hb99)
        clear hb99
        go_wp2_with fail
        go_ret
        exact ⟨rfl, HB99.out⟩
    · have hx2b : (x == -2) = false := beq_false_of_ne hx2
      have hy2b : (y == -2) = false := beq_false_of_ne hy2
      go_wp2_with fail
      refine LO.out.mono ?_
      rintro e w8 ⟨hr, hb8⟩
      have HB8 := Lib.hid (bl_then HB7.out hb8)
      have HS8 := Lib.hid (HS7.out.kept hb8)
      clear hb8
      rcases hr with ⟨he, rfl⟩ | ⟨he, wd, hwd, rfl⟩
      · have hy1 : y = -1 := HGE.out.1 he
        clear he
        subst hy1
        go_wp2_with fail
        refine (AW.out _ (HG.out.kept HB8.out)).mono ?_
        rintro e w99 ⟨rfl, hb99⟩
        have HB99 := Lib.hid (bl_then HB8.out hb99)
        clear hb99
        go_wp2_with fail
        go_ret
        exact ⟨rfl, HB99.out⟩
      · have hy1 : ¬ y = -1 := HGE.out.2 he
        have hyb : (y != -1) = true := bne_iff_ne.2 hy1
        have hck := larger_chk HSET.out HSUB.out hwd.2.1
        have hw81 : wd.length ≤ 81 := Nat.le_trans hwd.1 (Nat.le_trans (Nat.pow_le_pow_left hq.2 4) (by decide))
        have CK := Lib.hid fun W h h2 => Check_any q v1 L (bs wd) W h (by show wd.length ≤ _; omega) h2
        rw [hck] at CK
        clear he hwd hck hw81
        go_wp2_with fail
        refine (CK.out _ HS8.out (HG.out.kept HB8.out)).mono ?_
        rintro e w9 ⟨rfl, hb9⟩
        have HB9 := Lib.hid (bl_then HB8.out hb9)
        clear hb9
        go_wp2_with fail
        refine (AW.out _ (HG.out.kept HB9.out)).mono ?_
        rintro e w99 ⟨rfl, hb99⟩
        have HB99 := Lib.hid (bl_then HB9.out hb99)
        clear hb99
        go_wp2_with fail
        go_ret
        exact ⟨rfl, HB99.out⟩
end Go.Proofs.Ytnamafakjkcmjaa
