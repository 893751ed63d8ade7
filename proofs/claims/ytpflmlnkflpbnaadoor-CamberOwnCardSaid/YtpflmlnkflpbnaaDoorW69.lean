/-
  The reference's before, insert.
-/
import Derived.Test.YtpflmlnkflpbnaaDoorW61
import Derived.Test.YtpflmlnkflpbnaaDoorW64
import Derived.Test.YtpflmlnkflpbnaaDoorW8
import Derived.Test.YtpflmlnkflpbnaaDoorW21
import Derived.Deep.LoopGhost
import Derived.Deep.RegionHeld3
namespace Go.Proofs.YtpflmlnkflpbnaaDoor
open Go.RowKit Go.Sort Cam
set_option linter.unusedVariables false
set_option linter.unusedSimpArgs false

set_option maxRecDepth 100000 in
theorem before_any (x y z p q r : Int) (w : World) :
    Calls Tryd.prog 43 #[trip x y z, trip p q r] w fun e w' => e = .returned (.bool (decide (Bef (x, y, z) (p, q, r)))) ∧ Below w.heap.size w w' := by
  obtain ⟨b, hb⟩ : ∃ b, b = decide (Bef (x, y, z) (p, q, r)) := ⟨_, rfl⟩
  rw [← hb]
  have HB := Lib.hid hb
  clear hb
  unfold trip
  go_enter Tryd.func43, Tryd.ntmps43
  go_wp2_with fail
  refine wp_loop_rounds 3 ?_; rw [rounds_succ]
  go_wp2_with fail
  go_quiet (fail)
  by_cases h1 : z = r
  · subst h1
    go_wp2_with fail
    rw [rounds_succ]
    go_wp2_with fail
    go_quiet (fail)
    by_cases h2 : y = q
    · subst h2
      go_wp2_with fail
      rw [rounds_succ]
      go_wp2_with fail
      go_ret
      exact ⟨ret_bool (by rw [HB.out, decide_eq_decide]; unfold Bef; simp), by (repeat refine bl_drewN ?_ _); exact bl_alloc (bl_alloc (bl_refl _) _) _⟩
    · have h2' : (y != q) = true := by simp [h2]
      have HN := Lib.hid h2
      clear h2
      go_wp2_with fail
      go_quiet (fail)
      go_wp2_with fail
      go_ret
      exact ⟨ret_bool (by rw [HB.out, decide_eq_decide]; have := HN.out; unfold Bef; simp; omega), by (repeat refine bl_drewN ?_ _); exact bl_alloc (bl_alloc (bl_refl _) _) _⟩
  · have h1' : (z != r) = true := by simp [h1]
    have HN := Lib.hid h1
    clear h1
    go_wp2_with fail
    go_quiet (fail)
    go_wp2_with fail
    go_ret
    exact ⟨ret_bool (by rw [HB.out, decide_eq_decide]; have := HN.out; unfold Bef; simp; omega), by (repeat refine bl_drewN ?_ _); exact bl_alloc (bl_alloc (bl_refl _) _) _⟩

theorem flat_take : ∀ (ts : List T3) (k : Nat), flat (ts.take k) = (flat ts).take (k * 3)
  | [], k => by simp [flat]
  | t :: l, 0 => by simp [flat]
  | t :: l, k + 1 => by
    rw [List.take_succ_cons, flat, flat_take l k, show (k + 1) * 3 = k * 3 + 1 + 1 + 1 by omega]
    rfl
theorem flat_drop : ∀ (ts : List T3) (k : Nat), flat (ts.drop k) = (flat ts).drop (k * 3)
  | [], k => by simp [flat]
  | t :: l, 0 => by simp
  | t :: l, k + 1 => by
    rw [List.drop_succ_cons, flat_drop l k, show (k + 1) * 3 = k * 3 + 1 + 1 + 1 by omega]
    rfl
theorem flat_one : ∀ (ts : List T3), ∀ u ∈ flat ts, u.oneCell' = true
  | [], u, h => by cases h
  | t :: l, u, h => by
    simp only [flat, List.mem_cons] at h
    rcases h with rfl | rfl | rfl | h
    · rfl
    · rfl
    · rfl
    · exact flat_one l u h
/-- Where the cells of a list lie. -/
theorem RowT.src {w : World} {g n cap : Nat} {ts : List T3} (h : RowT w (.slice (some ⟨g, 0, none⟩) n cap) ts) (i : Nat) (u : Value) (hu : (flat ts)[i]? = some u) : w.cell? ⟨g, i, none⟩ = some u := by
  have hi : i < ts.length * 3 := by
    rw [← flat_length]; exact (List.getElem?_eq_some_iff.1 hu).1
  have hq : i / 3 < ts.length := by omega
  obtain ⟨a, b, c⟩ := flat_get ts (i / 3) hq
  rcases h with ⟨h, _⟩ | ⟨g', cap', h, hg, hc⟩
  · cases h
  · simp only [Value.slice.injEq, Option.some.injEq, Addr.mk.injEq] at h
    obtain ⟨⟨rfl, _⟩, _⟩ := h
    obtain ⟨x, y, z⟩ := hc (i / 3) hq
    have hr : i = i / 3 * 3 ∨ i = i / 3 * 3 + 1 ∨ i = i / 3 * 3 + 2 := by omega
    rcases hr with hr | hr | hr
    · rw [← hr] at a x; rw [x, ← a, hu]
    · rw [← hr] at b y; rw [y, ← b, hu]
    · rw [← hr] at c z; rw [z, ← c, hu]

set_option maxRecDepth 100000 in
set_option maxHeartbeats 4000000 in
theorem insert_any (g cap : Nat) (ts : List T3) (p q r : Int) (w : World) (hR : RowT w (.slice (some ⟨g, 0, none⟩) ts.length cap) ts) (hl : ts.length ≤ 100) (hcap : ts.length ≤ cap ∧ cap ≤ maxLen) :
    Calls Tryd.prog 24 #[.slice (some ⟨g, 0, none⟩) ts.length cap, trip p q r] w fun e w' => ∃ g' cap', e = .returned (.slice (some ⟨g', 0, none⟩) (insT ts (p, q, r)).length cap') ∧ RowT w' (.slice (some ⟨g', 0, none⟩) (insT ts (p, q, r)).length cap') (insT ts (p, q, r)) ∧ ((insT ts (p, q, r)).length ≤ cap' ∧ cap' ≤ maxLen) ∧ (g' = g ∨ w.heap.size ≤ g') ∧ Below w.heap.size w w' := by
  obtain ⟨i0, hi, hz0, hz1, hz2⟩ := info_parts info22
  have B := Lib.hid fun x y z W => before_any x y z p q r W
  unfold trip at B ⊢
  obtain ⟨N, hN⟩ : ∃ N, N = ts.length := ⟨_, rfl⟩
  rw [← hN] at hR hl hcap ⊢
  have HMX := Lib.hid hcap.2
  have hmx : cap ≤ 9223372036854775807 := by have := hcap.2; unfold maxLen at this; omega
  have hcap := hcap.1
  have HN := Lib.hid hN
  have HR := Lib.hid hR
  obtain ⟨IT, hIT⟩ : ∃ IT, IT = insT ts (p, q, r) := ⟨_, rfl⟩
  rw [← hIT]
  have HIT := Lib.hid hIT
  have hg := (RowT.cellsAt (n := N) (cap := cap) hR).1
  clear hN hR hIT
  go_enter Tryd.func24, Tryd.ntmps24
  go_wp2_with fail
  go_loopw [5] (fun i wr => ∃ k : Nat, k ≤ N ∧ i = .int .i64 k ∧ Hid (∀ j (h : j < ts.length), j < k → Bef ts[j] (p, q, r)) ∧ Whole wr w.heap.size 32 #[.int .i64 p, .int .i64 q, .int .i64 r] ∧ Below w.heap.size w wr) (fun i _ => N - (intOf i).toNat)
  case atStart => exact ⟨0, Nat.zero_le _, rfl, fun j h k => absurd k (Nat.not_lt_zero _), Whole.new w _ _, bl_alloc (bl_refl _) _⟩
  case round =>
    obtain ⟨k, hk, rfl, HP, hX, hb⟩ := hrel
    have hRr := Lib.hid (HR.out.kept hb)
    have HX := Lib.hid hX
    have c3 : wr.cell? ⟨w.heap.size, 0, none⟩ = some (.int .i64 p) := (hX.cell 0).trans rfl
    have c4 : wr.cell? ⟨w.heap.size, 1, none⟩ = some (.int .i64 q) := (hX.cell 1).trans rfl
    have c5 : wr.cell? ⟨w.heap.size, 2, none⟩ = some (.int .i64 r) := (hX.cell 2).trans rfl
    have hxl := hX.lt
    have hgl := (RowT.cellsAt (n := N) (cap := cap) hRr.out).1
    have HB := Lib.hid hb
    clear hX
    by_cases hlt : k < N
    · have hk1 : k < ts.length := by have := HN.out; omega
      obtain ⟨c0, c1, c2⟩ := (RowT.cellsAt (n := N) (cap := cap) hRr.out).2 k hk1
      obtain ⟨⟨x, y, z⟩, hc⟩ : ∃ c, c = ts[k] := ⟨_, rfl⟩
      rw [← hc] at c0 c1 c2
      simp only at c0 c1 c2
      have HC := Lib.hid hc
      clear hc
      by_cases hbf : Bef (x, y, z) (p, q, r)
      · have B1 : Hid (∀ W, Calls Tryd.prog 43 #[.agg #[.int .i64 x, .int .i64 y, .int .i64 z], .agg #[.int .i64 p, .int .i64 q, .int .i64 r]] W fun e w' => e = .returned (.bool true) ∧ Below W.heap.size W w') := by
          intro W
          have := B.out x y z W
          rw [show decide (Bef (x, y, z) (p, q, r)) = true by simp [hbf]] at this
          exact this
        have HP2 : Hid (∀ j (h : j < ts.length), j < k + 1 → Bef ts[j] (p, q, r)) := by
          intro j h hj
          rcases Nat.lt_or_ge j k with h1 | h1
          · exact HP.out j h h1
          · obtain rfl : j = k := by omega
            rw [← HC.out]; exact hbf
        clear hbf HP
        go_wp2_with fail
        go_region_held3 (fun W => W.cell? ⟨g, k * 3, none⟩ = some (.int .i64 x) ∧ W.cell? ⟨g, k * 3 + 1, none⟩ = some (.int .i64 y) ∧ W.cell? ⟨g, k * 3 + 2, none⟩ = some (.int .i64 z) ∧ W.cell? ⟨w.heap.size, 0, none⟩ = some (.int .i64 p) ∧ W.cell? ⟨w.heap.size, 1, none⟩ = some (.int .i64 q) ∧ W.cell? ⟨w.heap.size, 2, none⟩ = some (.int .i64 r) ∧ Hid (Whole W w.heap.size 32 #[.int .i64 p, .int .i64 q, .int .i64 r]) ∧ Hid (Below w.heap.size w W))
          (first | exact ⟨c0, c1, c2, c3, c4, c5, HX, HB⟩ | exact ⟨c0, c1, c2, c3, c4, c5, Lib.hid (HX.out.drewN 1), Lib.hid (bl_drewN HB.out 1)⟩ | exact ⟨d0, d1, d2, d3, d4, d5, HX', HB'⟩)
          (first | (go_at_call 43; refine (B1.out _).mono ?_; rintro e w1 ⟨rfl, hb1⟩; have HX' := Lib.hid ((HX.out.drewN 1).kept hb1); have HB' := Lib.hid (bl_then (bl_drewN HB.out 1) hb1); have HR' := HR.out.kept HB'.out; obtain ⟨e0, e1, e2⟩ := (RowT.cellsAt (n := N) (cap := cap) HR').2 k (by have := HN.out; omega); rw [← HC.out] at e0 e1 e2; have d0 : w1.cell? ⟨g, k * 3, none⟩ = some (.int .i64 x) := e0; have d1 : w1.cell? ⟨g, k * 3 + 1, none⟩ = some (.int .i64 y) := e1; have d2 : w1.cell? ⟨g, k * 3 + 2, none⟩ = some (.int .i64 z) := e2; clear e0 e1 e2 HR'; have d3 : w1.cell? ⟨w.heap.size, 0, none⟩ = some (.int .i64 p) := (HX'.out.cell 0).trans rfl; have d4 : w1.cell? ⟨w.heap.size, 1, none⟩ = some (.int .i64 q) := (HX'.out.cell 1).trans rfl; have d5 : w1.cell? ⟨w.heap.size, 2, none⟩ = some (.int .i64 r) := (HX'.out.cell 2).trans rfl))
        all_goals
          go_wp2_with fail
          go_roundw
          case rel => exact ⟨k + 1, by omega, by go_num, HP2, HX'.out, HB'.out⟩
          case measure => simp [intOf]; omega
      · have B1 : Hid (∀ W, Calls Tryd.prog 43 #[.agg #[.int .i64 x, .int .i64 y, .int .i64 z], .agg #[.int .i64 p, .int .i64 q, .int .i64 r]] W fun e w' => e = .returned (.bool false) ∧ Below W.heap.size W w') := by
          intro W
          have := B.out x y z W
          rw [show decide (Bef (x, y, z) (p, q, r)) = false by simp [hbf]] at this
          exact this
        have HPL : Hid (k = place ts (p, q, r)) := by
          refine place_eq ts (p, q, r) k (by omega) HP.out (fun h => ?_)
          rw [← HC.out]; exact hbf
        have HIS : Hid ((x, y, z) = (p, q, r) → IT = ts) := by
          intro e
          rw [HIT.out]
          refine insT_same ts (p, q, r) (by rw [← HPL.out]; exact hk1) ?_
          have := HC.out
          simp only [← HPL.out]
          rw [← this]; exact e
        have HIN : Hid (¬ (x, y, z) = (p, q, r) → IT = ts.take k ++ (p, q, r) :: ts.drop k) := by
          intro e
          rw [HIT.out, insT_new ts (p, q, r) ?_, ← HPL.out]
          intro h he
          apply e
          have := HC.out
          simp only [← HPL.out] at he
          rw [this]; exact he
        clear hbf HP
        go_wp2_with fail
        go_region_held3 (fun W => W.cell? ⟨g, k * 3, none⟩ = some (.int .i64 x) ∧ W.cell? ⟨g, k * 3 + 1, none⟩ = some (.int .i64 y) ∧ W.cell? ⟨g, k * 3 + 2, none⟩ = some (.int .i64 z) ∧ W.cell? ⟨w.heap.size, 0, none⟩ = some (.int .i64 p) ∧ W.cell? ⟨w.heap.size, 1, none⟩ = some (.int .i64 q) ∧ W.cell? ⟨w.heap.size, 2, none⟩ = some (.int .i64 r) ∧ Hid (Whole W w.heap.size 32 #[.int .i64 p, .int .i64 q, .int .i64 r]) ∧ Hid (Below w.heap.size w W))
          (first | exact ⟨c0, c1, c2, c3, c4, c5, HX, HB⟩ | exact ⟨c0, c1, c2, c3, c4, c5, Lib.hid (HX.out.drewN 1), Lib.hid (bl_drewN HB.out 1)⟩ | exact ⟨d0, d1, d2, d3, d4, d5, HX', HB'⟩)
          (first | (go_at_call 43; refine (B1.out _).mono ?_; rintro e w1 ⟨rfl, hb1⟩; have HX' := Lib.hid ((HX.out.drewN 1).kept hb1); have HB' := Lib.hid (bl_then (bl_drewN HB.out 1) hb1); have HR' := HR.out.kept HB'.out; obtain ⟨e0, e1, e2⟩ := (RowT.cellsAt (n := N) (cap := cap) HR').2 k (by have := HN.out; omega); rw [← HC.out] at e0 e1 e2; have d0 : w1.cell? ⟨g, k * 3, none⟩ = some (.int .i64 x) := e0; have d1 : w1.cell? ⟨g, k * 3 + 1, none⟩ = some (.int .i64 y) := e1; have d2 : w1.cell? ⟨g, k * 3 + 2, none⟩ = some (.int .i64 z) := e2; clear e0 e1 e2 HR'; have hg1 : g < w1.heap.size := Nat.lt_of_lt_of_le hgl (by have := hb1.size; simpa using this); have d3 : w1.cell? ⟨w.heap.size, 0, none⟩ = some (.int .i64 p) := (HX'.out.cell 0).trans rfl; have d4 : w1.cell? ⟨w.heap.size, 1, none⟩ = some (.int .i64 q) := (HX'.out.cell 1).trans rfl; have d5 : w1.cell? ⟨w.heap.size, 2, none⟩ = some (.int .i64 r) := (HX'.out.cell 2).trans rfl))
        all_goals
          by_cases heq : x = p ∧ y = q ∧ z = r
          · have eqT := fun W => eqA x y z p q r W
            rw [show decide (x = p ∧ y = q ∧ z = r) = true by simp [heq]] at eqT
            have hIT := HIS.out (by obtain ⟨rfl, rfl, rfl⟩ := heq; rfl)
            clear heq
            have HT := Lib.hid hIT
            clear hIT
            go_wp2_with fail
            go_quiet (fail)
            go_wp2_with fail
            go_ret
            have hN := HN.out
            have hIT := HT.out
            subst hIT
            exact ⟨g, cap, by rw [← hN]; rfl, by rw [← hN]; exact HR.out.kept (bl_drewN HB'.out nq), ⟨by omega, HMX.out⟩, .inl rfl, bl_drewN HB'.out nq⟩
          · have eqT := fun W => eqA x y z p q r W
            rw [show decide (x = p ∧ y = q ∧ z = r) = false by simp [heq]] at eqT
            have HE : Hid (¬ (x, y, z) = (p, q, r)) := fun e => heq (by simpa using e)
            clear heq
            go_wp2_with fail
            go_quiet (fail)
            have FX := Lib.hid (HX'.out.drewN nq)
            have FB := Lib.hid (bl_drewN HB'.out nq)
            clear d0 d1 d2 d3 d4 d5 HX' HB' c0 c1 c2 c3 c4 c5 HX HB hxl hgl
            generalize w1.drewN nq = w5 at *
            have FR := Lib.hid (HR.out.kept FB.out)
            have x0 : w5.cell? ⟨w.heap.size, 0, none⟩ = some (.int .i64 p) := (FX.out.cell 0).trans rfl
            have x1 : w5.cell? ⟨w.heap.size, 1, none⟩ = some (.int .i64 q) := (FX.out.cell 1).trans rfl
            have x2 : w5.cell? ⟨w.heap.size, 2, none⟩ = some (.int .i64 r) := (FX.out.cell 2).trans rfl
            have hx5 := FX.out.lt
            have hg5 := (RowT.cellsAt (n := N) (cap := cap) FR.out).1
            have L1 : (flat (ts.take k)).length = k * 3 := by rw [flat_length, List.length_take]; have := HN.out; omega
            have L2 : (flat (ts.drop k)).length = (N - k) * 3 := by rw [flat_length, List.length_drop, HN.out]
            have S1 : Hid (∀ W, Below w.heap.size w W → ∀ j u, (flat (ts.take k))[j]? = some u → W.cell? ((⟨g, 0, none⟩ : Addr).add j) = some u) := by
              intro W hW j u hu
              rw [flat_take] at hu
              have hj : j < k * 3 := by have := (List.getElem?_eq_some_iff.1 hu).1; simp at this; omega
              rw [List.getElem?_take_of_lt hj] at hu
              have := RowT.src (n := N) (cap := cap) (HR.out.kept hW) j u hu
              rw [show (⟨g, 0, none⟩ : Addr).add j = ⟨g, j, none⟩ by simp [Addr.add] <;> omega]
              exact this
            have S3 : Hid (∀ W, Below w.heap.size w W → ∀ j u, (flat (ts.drop k))[j]? = some u → W.cell? ((⟨g, k * 3, none⟩ : Addr).add j) = some u) := by
              intro W hW j u hu
              rw [flat_drop, List.getElem?_drop] at hu
              have := RowT.src (n := N) (cap := cap) (HR.out.kept hW) (k * 3 + j) u hu
              rw [show (⟨g, k * 3, none⟩ : Addr).add j = ⟨g, k * 3 + j, none⟩ by simp [Addr.add] <;> omega]
              exact this
            have O1 := Lib.hid (flat_one (ts.take k))
            have O3 := Lib.hid (flat_one (ts.drop k))
            have HL1 := Lib.hid L1
            have HL2 := Lib.hid L2
            clear L1 L2
            go_wp2_with (first
              | (at_builtin; refine wpList_append_own _ rfl (.tmp 34) (.tmp 37) _ rfl w.heap.size 32 i0 _ 3 24 Tryd.underlying22 hi hz0 hz1 hz2 rfl (by decide) _ 0 [] rfl (World.ownsRow_nil _ _ _ _) ⟨g, 0, none⟩ k cap (flat (ts.take k)) rfl HL1.out (S1.out _ FB.out) O1.out (by unfold maxLen; omega) (by omega) (by have := FB.out.size; omega) ?_; intro v6 w6 hown6 hg6 _; have B6 := Lib.hid (grown_nil hg6); have FB6 := Lib.hid (bl_then FB.out B6.out); have FX6 := Lib.hid (FX.out.kept B6.out); have y0 : w6.cell? ⟨w.heap.size, 0, none⟩ = some (.int .i64 p) := (FX6.out.cell 0).trans rfl; have y1 : w6.cell? ⟨w.heap.size, 1, none⟩ = some (.int .i64 q) := (FX6.out.cell 1).trans rfl; have y2 : w6.cell? ⟨w.heap.size, 2, none⟩ = some (.int .i64 r) := (FX6.out.cell 2).trans rfl; have hx6 := FX6.out.lt; have OW6 : Hid (w6.ownsRow w.heap.size 32 3 v6 k (flat (ts.take k))) := (by simpa [Hid] using hown6); have sz6 := FB6.out.size; clear hown6 hg6 x0 x1 x2 hx5)
              | (at_builtin; refine wpList_append_own _ rfl (.tmp 39) (.tmp 41) _ rfl w.heap.size 32 i0 _ 3 24 Tryd.underlying22 hi hz0 hz1 hz2 rfl (by decide) v6 k (flat (ts.take k)) rfl (OW6.out.alloc _) ⟨w6.heap.size, 0, none⟩ 1 1 [.int .i64 p, .int .i64 q, .int .i64 r] rfl rfl (cells_new _ _ _) (three_one _ _ _) (by unfold maxLen; omega) (by omega) (by simp; omega) ?_; intro v7 w7 hown7 hg7 _; have FB7 := Lib.hid (bl_grown (bl_alloc FB6.out _) (OW6.out.alloc _) (Nat.le_refl _) hg7); have OW7 := Lib.hid hown7; have sz7 := FB7.out.size; clear hown7 hg7)
              | (at_builtin; refine wpList_append_own _ rfl (.tmp 43) (.tmp 46) _ rfl w.heap.size 32 i0 _ 3 24 Tryd.underlying22 hi hz0 hz1 hz2 rfl (by decide) v7 (k + 1) (flat (ts.take k) ++ [.int .i64 p, .int .i64 q, .int .i64 r]) rfl OW7.out ⟨g, k * 3, none⟩ (N - k) (cap - k) (flat (ts.drop k)) rfl HL2.out (S3.out _ FB7.out) O3.out (by unfold maxLen; omega) (by omega) (by omega) ?_; intro v8 w8 hown8 hg8 _; have FB8 := Lib.hid (bl_grown FB7.out OW7.out (Nat.le_refl _) hg8); have OW8 := Lib.hid hown8; clear hown8 hg8))
            go_ret
            have h8 := OW8.out
            obtain ⟨g8, cap8, rfl, hb8, _⟩ := own_form h8 (by omega)
            have hIT := HIN.out HE.out
            have hlen : k + 1 + (N - k) = IT.length := by
              rw [hIT]; simp only [List.length_append, List.length_cons, List.length_take, List.length_drop]; have := HN.out; omega
            have hfl : flat (ts.take k) ++ [.int .i64 p, .int .i64 q, .int .i64 r] ++ flat (ts.drop k) = flat IT := by
              rw [hIT, flat_append]; simp [flat]
            rw [hfl] at h8
            rw [hlen] at h8
            refine ⟨g8, cap8, by first | rfl | (rw [hlen]; rfl), rowT_own h8, ?_, .inr hb8, FB8.out⟩
            rcases h8.2 with ⟨h, _⟩ | ⟨g9, cap9, cur, h, _, _, h9, h10, _⟩
            · cases h
            · simp only [Value.slice.injEq] at h
              rw [h.2.2]; exact ⟨h9, h10⟩
    · have hkN : k = N := by omega
      have HIN : Hid (IT = ts.take k ++ (p, q, r) :: ts.drop k) := by
        rw [HIT.out]
        have hpl := place_eq ts (p, q, r) k (by have := HN.out; omega) HP.out (fun h => by have := HN.out; omega)
        rw [insT_new ts (p, q, r) (fun h => by have := HN.out; omega), ← hpl]
        exact rfl
      subst hkN
      clear HP
      go_wp2_with fail
      go_quiet (fail)
      have FX1 := Lib.hid (HX.out.drewN nq)
      have FB1 := Lib.hid (bl_drewN HB.out nq)
      clear c3 c4 c5 HX HB hxl hgl hRr
      generalize wr.drewN nq = w4 at *
      go_wp2_with fail
      go_quiet (fail)
      have FX := Lib.hid (FX1.out.drewN nq)
      have FB := Lib.hid (bl_drewN FB1.out nq)
      clear FX1 FB1
      generalize w4.drewN nq = w5 at *
      by_cases hcn : cap = k
      · have hcn' : k = cap := hcn.symm
        subst hcn'
        have FR := Lib.hid (HR.out.kept FB.out)
        have x0 : w5.cell? ⟨w.heap.size, 0, none⟩ = some (.int .i64 p) := (FX.out.cell 0).trans rfl
        have x1 : w5.cell? ⟨w.heap.size, 1, none⟩ = some (.int .i64 q) := (FX.out.cell 1).trans rfl
        have x2 : w5.cell? ⟨w.heap.size, 2, none⟩ = some (.int .i64 r) := (FX.out.cell 2).trans rfl
        have hx5 := FX.out.lt
        have hg5 := (RowT.cellsAt (n := k) (cap := k) FR.out).1
        have L1 : (flat (ts.take k)).length = k * 3 := by rw [flat_length, List.length_take]; have := HN.out; omega
        have L2 : (flat (ts.drop k)).length = (k - k) * 3 := by rw [flat_length, List.length_drop, HN.out]
        have S1 : Hid (∀ W, Below w.heap.size w W → ∀ j u, (flat (ts.take k))[j]? = some u → W.cell? ((⟨g, 0, none⟩ : Addr).add j) = some u) := by
          intro W hW j u hu
          rw [flat_take] at hu
          have hj : j < k * 3 := by have := (List.getElem?_eq_some_iff.1 hu).1; simp at this; omega
          rw [List.getElem?_take_of_lt hj] at hu
          have := RowT.src (n := k) (cap := k) (HR.out.kept hW) j u hu
          rw [show (⟨g, 0, none⟩ : Addr).add j = ⟨g, j, none⟩ by simp [Addr.add] <;> omega]
          exact this
        have S3 : Hid (∀ W, Below w.heap.size w W → ∀ j u, (flat (ts.drop k))[j]? = some u → W.cell? ((⟨g, k * 3, none⟩ : Addr).add j) = some u) := by
          intro W hW j u hu
          rw [flat_drop, List.getElem?_drop] at hu
          have := RowT.src (n := k) (cap := k) (HR.out.kept hW) (k * 3 + j) u hu
          rw [show (⟨g, k * 3, none⟩ : Addr).add j = ⟨g, k * 3 + j, none⟩ by simp [Addr.add] <;> omega]
          exact this
        have O1 := Lib.hid (flat_one (ts.take k))
        have O3 := Lib.hid (flat_one (ts.drop k))
        have HL1 := Lib.hid L1
        have HL2 := Lib.hid L2
        clear L1 L2
        go_wp2_with (first
          | (at_builtin; refine wpList_append_own _ rfl (.tmp 34) (.tmp 37) _ rfl w.heap.size 32 i0 _ 3 24 Tryd.underlying22 hi hz0 hz1 hz2 rfl (by decide) _ 0 [] rfl (World.ownsRow_nil _ _ _ _) ⟨g, 0, none⟩ k k (flat (ts.take k)) rfl HL1.out (S1.out _ FB.out) O1.out (by unfold maxLen; omega) (by omega) (by have := FB.out.size; omega) ?_; intro v6 w6 hown6 hg6 _; have B6 := Lib.hid (grown_nil hg6); have FB6 := Lib.hid (bl_then FB.out B6.out); have FX6 := Lib.hid (FX.out.kept B6.out); have y0 : w6.cell? ⟨w.heap.size, 0, none⟩ = some (.int .i64 p) := (FX6.out.cell 0).trans rfl; have y1 : w6.cell? ⟨w.heap.size, 1, none⟩ = some (.int .i64 q) := (FX6.out.cell 1).trans rfl; have y2 : w6.cell? ⟨w.heap.size, 2, none⟩ = some (.int .i64 r) := (FX6.out.cell 2).trans rfl; have hx6 := FX6.out.lt; have OW6 : Hid (w6.ownsRow w.heap.size 32 3 v6 k (flat (ts.take k))) := (by simpa [Hid] using hown6); have sz6 := FB6.out.size; clear hown6 hg6 x0 x1 x2 hx5)
          | (at_builtin; refine wpList_append_own _ rfl (.tmp 39) (.tmp 41) _ rfl w.heap.size 32 i0 _ 3 24 Tryd.underlying22 hi hz0 hz1 hz2 rfl (by decide) v6 k (flat (ts.take k)) rfl (OW6.out.alloc _) ⟨w6.heap.size, 0, none⟩ 1 1 [.int .i64 p, .int .i64 q, .int .i64 r] rfl rfl (cells_new _ _ _) (three_one _ _ _) (by unfold maxLen; omega) (by omega) (by simp; omega) ?_; intro v7 w7 hown7 hg7 _; have FB7 := Lib.hid (bl_grown (bl_alloc FB6.out _) (OW6.out.alloc _) (Nat.le_refl _) hg7); have OW7 := Lib.hid hown7; have sz7 := FB7.out.size; clear hown7 hg7)
          | (at_builtin; refine wpList_append_own _ rfl (.tmp 43) (.tmp 46) _ rfl w.heap.size 32 i0 _ 3 24 Tryd.underlying22 hi hz0 hz1 hz2 rfl (by decide) v7 (k + 1) (flat (ts.take k) ++ [.int .i64 p, .int .i64 q, .int .i64 r]) rfl OW7.out ⟨g, 0, none⟩ 0 0 [] rfl rfl (fun j u h => by simp at h) (fun u h => by cases h) (by unfold maxLen; omega) (by omega) (by omega) ?_; intro v8 w8 hown8 hg8 _; have FB8 := Lib.hid (bl_grown FB7.out OW7.out (Nat.le_refl _) hg8); have OW8 := Lib.hid hown8; clear hown8 hg8))
        go_ret
        have h8 := OW8.out
        obtain ⟨g8, cap8, rfl, hb8, _⟩ := own_form h8 (by omega)
        have hIT := HIN.out
        have hlen : k + 1 + 0 = IT.length := by
          rw [hIT]; simp only [List.length_append, List.length_cons, List.length_take, List.length_drop]; have := HN.out; omega
        have hfl : flat (ts.take k) ++ [.int .i64 p, .int .i64 q, .int .i64 r] ++ [] = flat IT := by
          rw [hIT, flat_append]; simp [flat]; have := HN.out; rw [List.drop_of_length_le (by omega)]; simp [flat]
        rw [hfl] at h8
        rw [hlen] at h8
        refine ⟨g8, cap8, by first | rfl | (rw [hlen]; rfl), rowT_own h8, ?_, .inr hb8, FB8.out⟩
        rcases h8.2 with ⟨h, _⟩ | ⟨g9, cap9, cur, h, _, _, h9, h10, _⟩
        · cases h
        · simp only [Value.slice.injEq] at h
          rw [h.2.2]; exact ⟨h9, h10⟩
      · have FR := Lib.hid (HR.out.kept FB.out)
        have x0 : w5.cell? ⟨w.heap.size, 0, none⟩ = some (.int .i64 p) := (FX.out.cell 0).trans rfl
        have x1 : w5.cell? ⟨w.heap.size, 1, none⟩ = some (.int .i64 q) := (FX.out.cell 1).trans rfl
        have x2 : w5.cell? ⟨w.heap.size, 2, none⟩ = some (.int .i64 r) := (FX.out.cell 2).trans rfl
        have hx5 := FX.out.lt
        have hg5 := (RowT.cellsAt (n := k) (cap := cap) FR.out).1
        have L1 : (flat (ts.take k)).length = k * 3 := by rw [flat_length, List.length_take]; have := HN.out; omega
        have L2 : (flat (ts.drop k)).length = (k - k) * 3 := by rw [flat_length, List.length_drop, HN.out]
        have S1 : Hid (∀ W, Below w.heap.size w W → ∀ j u, (flat (ts.take k))[j]? = some u → W.cell? ((⟨g, 0, none⟩ : Addr).add j) = some u) := by
          intro W hW j u hu
          rw [flat_take] at hu
          have hj : j < k * 3 := by have := (List.getElem?_eq_some_iff.1 hu).1; simp at this; omega
          rw [List.getElem?_take_of_lt hj] at hu
          have := RowT.src (n := k) (cap := cap) (HR.out.kept hW) j u hu
          rw [show (⟨g, 0, none⟩ : Addr).add j = ⟨g, j, none⟩ by simp [Addr.add] <;> omega]
          exact this
        have S3 : Hid (∀ W, Below w.heap.size w W → ∀ j u, (flat (ts.drop k))[j]? = some u → W.cell? ((⟨g, k * 3, none⟩ : Addr).add j) = some u) := by
          intro W hW j u hu
          rw [flat_drop, List.getElem?_drop] at hu
          have := RowT.src (n := k) (cap := cap) (HR.out.kept hW) (k * 3 + j) u hu
          rw [show (⟨g, k * 3, none⟩ : Addr).add j = ⟨g, k * 3 + j, none⟩ by simp [Addr.add] <;> omega]
          exact this
        have O1 := Lib.hid (flat_one (ts.take k))
        have O3 := Lib.hid (flat_one (ts.drop k))
        have HL1 := Lib.hid L1
        have HL2 := Lib.hid L2
        clear L1 L2
        go_wp2_with (first
          | (at_builtin; refine wpList_append_own _ rfl (.tmp 34) (.tmp 37) _ rfl w.heap.size 32 i0 _ 3 24 Tryd.underlying22 hi hz0 hz1 hz2 rfl (by decide) _ 0 [] rfl (World.ownsRow_nil _ _ _ _) ⟨g, 0, none⟩ k cap (flat (ts.take k)) rfl HL1.out (S1.out _ FB.out) O1.out (by unfold maxLen; omega) (by omega) (by have := FB.out.size; omega) ?_; intro v6 w6 hown6 hg6 _; have B6 := Lib.hid (grown_nil hg6); have FB6 := Lib.hid (bl_then FB.out B6.out); have FX6 := Lib.hid (FX.out.kept B6.out); have y0 : w6.cell? ⟨w.heap.size, 0, none⟩ = some (.int .i64 p) := (FX6.out.cell 0).trans rfl; have y1 : w6.cell? ⟨w.heap.size, 1, none⟩ = some (.int .i64 q) := (FX6.out.cell 1).trans rfl; have y2 : w6.cell? ⟨w.heap.size, 2, none⟩ = some (.int .i64 r) := (FX6.out.cell 2).trans rfl; have hx6 := FX6.out.lt; have OW6 : Hid (w6.ownsRow w.heap.size 32 3 v6 k (flat (ts.take k))) := (by simpa [Hid] using hown6); have sz6 := FB6.out.size; clear hown6 hg6 x0 x1 x2 hx5)
          | (at_builtin; refine wpList_append_own _ rfl (.tmp 39) (.tmp 41) _ rfl w.heap.size 32 i0 _ 3 24 Tryd.underlying22 hi hz0 hz1 hz2 rfl (by decide) v6 k (flat (ts.take k)) rfl (OW6.out.alloc _) ⟨w6.heap.size, 0, none⟩ 1 1 [.int .i64 p, .int .i64 q, .int .i64 r] rfl rfl (cells_new _ _ _) (three_one _ _ _) (by unfold maxLen; omega) (by omega) (by simp; omega) ?_; intro v7 w7 hown7 hg7 _; have FB7 := Lib.hid (bl_grown (bl_alloc FB6.out _) (OW6.out.alloc _) (Nat.le_refl _) hg7); have OW7 := Lib.hid hown7; have sz7 := FB7.out.size; clear hown7 hg7)
          | (at_builtin; refine wpList_append_own _ rfl (.tmp 43) (.tmp 46) _ rfl w.heap.size 32 i0 _ 3 24 Tryd.underlying22 hi hz0 hz1 hz2 rfl (by decide) v7 (k + 1) (flat (ts.take k) ++ [.int .i64 p, .int .i64 q, .int .i64 r]) rfl OW7.out ⟨g, k * 3, none⟩ 0 (cap - k) [] rfl rfl (fun j u h => by simp at h) (fun u h => by cases h) (by unfold maxLen; omega) (by omega) (by omega) ?_; intro v8 w8 hown8 hg8 _; have FB8 := Lib.hid (bl_grown FB7.out OW7.out (Nat.le_refl _) hg8); have OW8 := Lib.hid hown8; clear hown8 hg8))
        go_ret
        have h8 := OW8.out
        obtain ⟨g8, cap8, rfl, hb8, _⟩ := own_form h8 (by omega)
        have hIT := HIN.out
        have hlen : k + 1 + 0 = IT.length := by
          rw [hIT]; simp only [List.length_append, List.length_cons, List.length_take, List.length_drop]; have := HN.out; omega
        have hfl : flat (ts.take k) ++ [.int .i64 p, .int .i64 q, .int .i64 r] ++ [] = flat IT := by
          rw [hIT, flat_append]; simp [flat]; have := HN.out; rw [List.drop_of_length_le (by omega)]; simp [flat]
        rw [hfl] at h8
        rw [hlen] at h8
        refine ⟨g8, cap8, by first | rfl | (rw [hlen]; rfl), rowT_own h8, ?_, .inr hb8, FB8.out⟩
        rcases h8.2 with ⟨h, _⟩ | ⟨g9, cap9, cur, h, _, _, h9, h10, _⟩
        · cases h
        · simp only [Value.slice.injEq] at h
          rw [h.2.2]; exact ⟨h9, h10⟩
end Go.Proofs.YtpflmlnkflpbnaaDoor
