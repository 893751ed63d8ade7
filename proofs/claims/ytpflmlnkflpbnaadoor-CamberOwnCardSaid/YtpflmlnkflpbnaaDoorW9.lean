import Derived.Test.YtpflmlnkflpbnaaDoorW8
import Derived.Lib.OwnBridge
import Derived.Laws.BytesArg
import Derived.Maps.AppendAt
namespace Go.Proofs.YtpflmlnkflpbnaaDoor
open Go.RowKit Go.Sort Cam
set_option linter.unusedVariables false

/-- The package-level variable 'first' holds 1 2 5. -/
structure FirstAt (w : World) : Prop where
  c0 : w.cell? ⟨0, 0, none⟩ = some (.int .i64 1)
  c1 : w.cell? ⟨0, 1, none⟩ = some (.int .i64 2)
  c2 : w.cell? ⟨0, 2, none⟩ = some (.int .i64 5)
  lt : 0 < w.heap.size
theorem FirstAt.kept {w w' : World} (h : FirstAt w) (hb : Below w.heap.size w w') : FirstAt w' :=
  ⟨(hb.cell (p := ⟨_, _, none⟩) h.lt).trans h.c0, (hb.cell (p := ⟨_, _, none⟩) h.lt).trans h.c1, (hb.cell (p := ⟨_, _, none⟩) h.lt).trans h.c2, Nat.lt_of_lt_of_le h.lt hb.size⟩

theorem info5 : (Tryd.prog.info? 5).map (fun i => (i.zero, i.size, i.bytes)) = some (some (.int .u8 0), 1, 1) := by kernel_rfl

def byteV (c : UInt8) : Value := .int .u8 (c.toNat : Int)
def pathV (x y z : Int) : Value := .string ⟨(pathOf x y z).toArray⟩

theorem rev_own (base : Nat) (v : Value) (l : List UInt8) (w : World) (h : w.ownsRow base 5 1 v l.length (l.map byteV)) (hl : l.length ≤ 1000000000) :
    Calls Tryd.prog 34 #[v] w fun e w' => e = .returned (.tuple #[]) ∧ w'.ownsRow base 5 1 v l.length (l.reverse.map byteV) ∧ ∀ A : World, Below A.heap.size A w → A.heap.size ≤ base → Below A.heap.size A w' := by
  rcases own_forms h with ⟨rfl, h0⟩ | ⟨g, cap, rfl⟩
  · obtain rfl := List.eq_nil_of_length_eq_zero h0
    exact (AnyE.slices_Reverse_empty Tryd.laysRev none 0 w).mono fun e w' ⟨he, hw⟩ => ⟨he, by subst hw; exact h, fun A hA _ => by subst hw; exact hA⟩
  · obtain ⟨g', cap', hv, hb, hg, hn, hm, hlen, hH⟩ := Lib.holds_of_ownsRow (enc := byteV) h (by simp)
    obtain ⟨rfl, rfl⟩ : g = g' ∧ cap = cap' := by simpa using hv
    refine (AnyE.slices_Reverse Tryd.laysRev byteV (fun _ => rfl) g 0 cap l w hH (by omega)).mono ?_
    rintro e w' ⟨rfl, n, rfl⟩
    refine ⟨rfl, ?_, fun A hA hAb => Lib.below_putRow hA (by omega)⟩
    have := Lib.ownsRow_putRow (q := n) (ys := l.reverse) (k := l.length) h (by simp) (Nat.le_refl _)
    rwa [List.take_of_length_le (by simp)] at this

theorem own_string (base : Nat) (v : Value) (l : List UInt8) (w : World) (h : w.ownsRow base 5 1 v l.length (l.map byteV)) :
    (convert 62 9 v).run Tryd.prog w = .ok (.string ⟨l.toArray⟩) w := by
  rcases own_forms h with ⟨rfl, h0⟩ | ⟨g, cap, rfl⟩
  · obtain rfl := List.eq_nil_of_length_eq_zero h0
    exact run_convert_bytes_nil w _ _ Tryd.underlying62 Tryd.underlying5 0 0 _ Tryd.underlying9
  · refine run_convert_bytes_back w _ _ _ ⟨g, 0, none⟩ cap l Tryd.underlying62 Tryd.underlying5 Tryd.underlying9 fun j hj => ?_
    have e : (⟨g, 0, none⟩ : Addr).add j = ⟨g, j, none⟩ := by simp [Addr.add]; intro h; exact h.symm
    rw [e, h.cellAt j (by omega)]
    simp [List.getElem?_eq_getElem hj, byteV]

set_option maxRecDepth 100000 in
set_option maxHeartbeats 2000000 in
theorem Path_any (x y z : Int) (w : World) (h : Tri x y z) (h4 : z ≤ 1000000000) (h3 : 3 ≤ z) (hF : FirstAt w) :
    Calls Tryd.prog 20 #[trip x y z] w fun e w' => e = .returned (.tuple #[pathV x y z, .int .i64 0]) ∧ Below w.heap.size w w' := by
  have K := Lib.hid fun W => isTriple_yes 3 x y z W (by omega) (tri_triB h h4)
  have HT := Lib.hid h
  obtain ⟨i0, hi, hz0, hz1, hz2⟩ := info_parts info5
  unfold trip
  have hz3 : ¬ z ≤ 2 := by omega
  clear h
  go_enter Tryd.func20, Tryd.ntmps20
  go_wp2_with fail
  refine (K.out _).mono ?_
  rintro e w1 ⟨rfl, hb1⟩
  obtain ⟨hc1, hf1⟩ := bl_cells hb1
  have hbA := bl_then (bl_alloc (bl_alloc (bl_refl w) _) _) hb1
  have hW1 := (Whole.new2 w _ _ _).kept hb1
  go_wp2_with fail
  clear hc1 hf1
  go_loopg [5] z.toNat (fun k v wr => ∃ (a b c : Int) (l : List UInt8), Hid (Tri a b c) ∧ 3 ≤ c ∧ c ≤ 1000000000 ∧ c.toNat ≤ k ∧ Whole wr (w.heap.size + 1) 42 #[.int .i64 a, .int .i64 b, .int .i64 c] ∧
    wr.ownsRow w.heap.size 5 1 v l.length (l.map byteV) ∧ Hid (pathOf x y z = pathOf a b c ++ l.reverse) ∧ l.length ≤ 1000000000 - c.toNat ∧ Below w.heap.size w wr)
  case atStart => exact ⟨x, y, z, [], HT, h3, h4, Nat.le_refl _, hW1, World.ownsRow_nil _ _ _ _, by simp [Hid], by simp, hbA⟩
  case round =>
    obtain ⟨a, b, c, l, T, hc3, hc9, hck, hW, hown, HP, hll, hb⟩ := hrel
    have F := hF.kept hb
    have k0 : wr.cell? ⟨w.heap.size + 1, 0, none⟩ = some (.int .i64 a) := (hW.cell 0).trans rfl
    have k1 : wr.cell? ⟨w.heap.size + 1, 1, none⟩ = some (.int .i64 b) := (hW.cell 1).trans rfl
    have k2 : wr.cell? ⟨w.heap.size + 1, 2, none⟩ = some (.int .i64 c) := (hW.cell 2).trans rfl
    obtain ⟨g0, g1, g2, gl⟩ := F
    by_cases hf : a = 1 ∧ b = 2 ∧ c = 5
    · obtain ⟨rfl, rfl, rfl⟩ := hf
      have E := neT 1 2 5 1 2 5
      have ep : Hid (pathV x y z = .string ⟨l.reverse.toArray⟩) := by
        have := HP.out
        rw [path_first (by omega : (5 : Int) ≤ 5), List.nil_append] at this
        unfold pathV
        rw [this]
        rfl
      go_wp2_with fail
      refine (rev_own w.heap.size _ l _ hown (by omega)).mono ?_
      rintro e w2 ⟨rfl, hown2, hk⟩
      have hb2 := hk _ hb (Nat.le_refl _)
      have hcv := own_string w.heap.size _ l.reverse w2 (by simpa using hown2)
      clear hk hown hown2
      go_wp2_with fail
      go_ret2
      exact ⟨by rw [ep.out]; rfl, hb2⟩
    · have E := neT a b c 1 2 5
      rw [show decide (a = 1 ∧ b = 2 ∧ c = 5) = false from by simp [hf]] at E
      have hc5 : 5 < c := by
        rcases Int.lt_or_le 4 b with hb4 | hb4
        · have := T.out.lt_of_two (by omega); omega
        · exact absurd (T.out.small hc3 (by omega)) hf
      have TP := T.out.parent (by omega)
      have HS := Lib.hid (T.out.path_step hc5)
      have KP := Lib.hid fun W => parent_any a b c W T.out hc9 (by omega)
      have KL := Lib.hid fun W => left_any _ _ _ W TP.1 (by omega)
      have HL := Lib.hid (letter_says a b c)
      have hlb := T.out.lt_of_two (by omega)
      have hb5 : 5 ≤ b := by
        rcases Int.lt_or_le 4 b with hb4 | hb4
        · omega
        · exact absurd (T.out.small hc3 (by omega)) hf
      obtain ⟨TQ0, _⟩ := TP
      have TQ := Lib.hid TQ0
      have HS2 : Hid (∀ d, letterOf a b c = d → pathOf x y z = pathOf (min a (3 * a * b - c)) (max a (3 * a * b - c)) b ++ (l ++ [d]).reverse) := by
        intro d hd
        rw [HP.out, HS.out, hd]
        simp
      unfold trip at KP KL
      clear hf TQ0 HP HS
      generalize min a (3 * a * b - c) = p at *
      generalize max a (3 * a * b - c) = q at *
      by_cases hL : 3 * a * b - c ≤ a
      · obtain ⟨e1, e2⟩ := HL.out.1 hL
        have hok : 3 * q * b - p ≤ 1000000000 := by omega
        have E2 := eqT q b (3 * q * b - p) a b c
        rw [show decide (q = a ∧ b = b ∧ 3 * q * b - p = c) = true from by simp [e1, ← e2]] at E2
        have HQ := Lib.hid (HS2.out 76 (if_pos hL))
        clear e1 e2 HL HS2 hL
        go_wp2_with fail
        refine (KP.out _).mono ?_
        rintro e w2 ⟨rfl, hb2⟩
        obtain ⟨hc2, hf2⟩ := bl_cells hb2
        have hbB := bl_then hb hb2
        have hown2 := own_kept hown hb2
        have hW2 := hW.kept hb2
        go_wp2_with fail
        refine (KL.out _).mono ?_
        rintro e w3 ⟨rfl, hb3⟩
        have hbC := bl_then (bl_alloc hbB _) hb3
        have hown3 := own_kept (hown2.alloc _) hb3
        have hW3 := (hW2.alloc _).kept hb3
        have hP3 := (Whole.new w2 _ _).kept hb3
        have m0 : w3.cell? ⟨w.heap.size + 1, 0, none⟩ = some (.int .i64 a) := (hW3.cell 0).trans rfl
        have m1 : w3.cell? ⟨w.heap.size + 1, 1, none⟩ = some (.int .i64 b) := (hW3.cell 1).trans rfl
        have m2 : w3.cell? ⟨w.heap.size + 1, 2, none⟩ = some (.int .i64 c) := (hW3.cell 2).trans rfl
        have hs3 := hW3.lt
        clear hc2 hf2 hown hW hb hown2 hW2
        go_wp2_with (at_builtin
                     refine wpList_append_own _ rfl (.tmp 37) (.tmp 39) _ rfl w.heap.size 5 i0 _ 1 1 Tryd.underlying62 hi hz0 hz1 hz2 rfl (by decide) _ l.length (l.map byteV) rfl ((hown3.alloc _).alloc _) ⟨w3.heap.size + 1, 0, none⟩ 1 1 [.int .u8 76] rfl rfl (cells_new2 _ _ _ _) (one_one _ rfl) (by unfold maxLen; omega) (by omega) (by simp; omega) ?_
                     intro v4 w4 hown4 hg4 _
                     have hb4 := bl_grown (bl_alloc (bl_alloc hbC _) _) ((hown3.alloc _).alloc _) (Nat.le_refl _) hg4
                     have hW4 := ((hW3.alloc _).alloc _).grown_own ((hown3.alloc (.cells #[.int .i64 q, .int .i64 b, .int .i64 (3 * q * b - p)] 42)).alloc (.cells #[.int .u8 76] 5)) (by decide) hg4
                     have hP4 := ((hP3.alloc _).alloc _).grown_own ((hown3.alloc (.cells #[.int .i64 q, .int .i64 b, .int .i64 (3 * q * b - p)] 42)).alloc (.cells #[.int .u8 76] 5)) (by decide) hg4
                     have n0 : w4.cell? ⟨w2.heap.size, 0, none⟩ = some (.int .i64 p) := (hP4.cell 0).trans rfl
                     have n1 : w4.cell? ⟨w2.heap.size, 1, none⟩ = some (.int .i64 q) := (hP4.cell 1).trans rfl
                     have n2 : w4.cell? ⟨w2.heap.size, 2, none⟩ = some (.int .i64 b) := (hP4.cell 2).trans rfl
                     have o0 : w4.cell? ⟨w.heap.size + 1, 0, none⟩ = some (.int .i64 a) := (hW4.cell 0).trans rfl
                     have o1 : w4.cell? ⟨w.heap.size + 1, 1, none⟩ = some (.int .i64 b) := (hW4.cell 1).trans rfl
                     have o2 : w4.cell? ⟨w.heap.size + 1, 2, none⟩ = some (.int .i64 c) := (hW4.cell 2).trans rfl
                     have j0 := hW4.frozen 0
                     have j1 := hW4.frozen 1
                     have j2 := hW4.frozen 2
                     have hown5 : w4.ownsRow w.heap.size 5 1 v4 (l ++ [76]).length ((l ++ [76]).map byteV) := by simpa [byteV] using hown4
                     clear hown3 hown4 hg4 hW3 hP3 hP4 m0 m1 m2)
        go_roundg b.toNat
        case measure => omega
        case rel => exact ⟨p, q, b, l ++ [76], TQ, by omega, by omega, Nat.le_refl _, ((hW4.set 0 _).set 1 _).set 2 _, own_set (own_set (own_set hown5 hW4 (by decide) 0 _) (hW4.set 0 _) (by decide) 1 _) ((hW4.set 0 _).set 1 _) (by decide) 2 _, HQ, by simp; omega, bl_set (bl_set (bl_set hb4 (by simp) _) (by simp) _) (by simp) _⟩
      · have e1 := HL.out.2 hL
        have E2 := eqT q b (3 * q * b - p) a b c
        rw [show decide (q = a ∧ b = b ∧ 3 * q * b - p = c) = false from decide_eq_false e1] at E2
        have HQ := Lib.hid (HS2.out 82 (if_neg hL))
        clear e1 HL HS2 hL
        by_cases hok : 3 * q * b - p ≤ 1000000000
        · go_wp2_with fail
          refine (KP.out _).mono ?_
          rintro e w2 ⟨rfl, hb2⟩
          obtain ⟨hc2, hf2⟩ := bl_cells hb2
          have hbB := bl_then hb hb2
          have hown2 := own_kept hown hb2
          have hW2 := hW.kept hb2
          go_wp2_with fail
          refine (KL.out _).mono ?_
          rintro e w3 ⟨rfl, hb3⟩
          have hbC := bl_then (bl_alloc hbB _) hb3
          have hown3 := own_kept (hown2.alloc _) hb3
          have hW3 := (hW2.alloc _).kept hb3
          have hP3 := (Whole.new w2 _ _).kept hb3
          have m0 : w3.cell? ⟨w.heap.size + 1, 0, none⟩ = some (.int .i64 a) := (hW3.cell 0).trans rfl
          have m1 : w3.cell? ⟨w.heap.size + 1, 1, none⟩ = some (.int .i64 b) := (hW3.cell 1).trans rfl
          have m2 : w3.cell? ⟨w.heap.size + 1, 2, none⟩ = some (.int .i64 c) := (hW3.cell 2).trans rfl
          have hs3 := hW3.lt
          clear hc2 hf2 hown hW hb hown2 hW2
          go_wp2_with (at_builtin
                       refine wpList_append_own _ rfl (.tmp 37) (.tmp 39) _ rfl w.heap.size 5 i0 _ 1 1 Tryd.underlying62 hi hz0 hz1 hz2 rfl (by decide) _ l.length (l.map byteV) rfl ((hown3.alloc _).alloc _) ⟨w3.heap.size + 1, 0, none⟩ 1 1 [.int .u8 82] rfl rfl (cells_new2 _ _ _ _) (one_one _ rfl) (by unfold maxLen; omega) (by omega) (by simp; omega) ?_
                       intro v4 w4 hown4 hg4 _
                       have hb4 := bl_grown (bl_alloc (bl_alloc hbC _) _) ((hown3.alloc _).alloc _) (Nat.le_refl _) hg4
                       have hW4 := ((hW3.alloc _).alloc _).grown_own ((hown3.alloc (.cells #[.int .i64 q, .int .i64 b, .int .i64 (3 * q * b - p)] 42)).alloc (.cells #[.int .u8 82] 5)) (by decide) hg4
                       have hP4 := ((hP3.alloc _).alloc _).grown_own ((hown3.alloc (.cells #[.int .i64 q, .int .i64 b, .int .i64 (3 * q * b - p)] 42)).alloc (.cells #[.int .u8 82] 5)) (by decide) hg4
                       have n0 : w4.cell? ⟨w2.heap.size, 0, none⟩ = some (.int .i64 p) := (hP4.cell 0).trans rfl
                       have n1 : w4.cell? ⟨w2.heap.size, 1, none⟩ = some (.int .i64 q) := (hP4.cell 1).trans rfl
                       have n2 : w4.cell? ⟨w2.heap.size, 2, none⟩ = some (.int .i64 b) := (hP4.cell 2).trans rfl
                       have o0 : w4.cell? ⟨w.heap.size + 1, 0, none⟩ = some (.int .i64 a) := (hW4.cell 0).trans rfl
                       have o1 : w4.cell? ⟨w.heap.size + 1, 1, none⟩ = some (.int .i64 b) := (hW4.cell 1).trans rfl
                       have o2 : w4.cell? ⟨w.heap.size + 1, 2, none⟩ = some (.int .i64 c) := (hW4.cell 2).trans rfl
                       have j0 := hW4.frozen 0
                       have j1 := hW4.frozen 1
                       have j2 := hW4.frozen 2
                       have hown5 : w4.ownsRow w.heap.size 5 1 v4 (l ++ [82]).length ((l ++ [82]).map byteV) := by simpa [byteV] using hown4
                       clear hown3 hown4 hg4 hW3 hP3 hP4 m0 m1 m2)
          go_roundg b.toNat
          case measure => omega
          case rel => exact ⟨p, q, b, l ++ [82], TQ, by omega, by omega, Nat.le_refl _, ((hW4.set 0 _).set 1 _).set 2 _, own_set (own_set (own_set hown5 hW4 (by decide) 0 _) (hW4.set 0 _) (by decide) 1 _) ((hW4.set 0 _).set 1 _) (by decide) 2 _, HQ, by simp; omega, bl_set (bl_set (bl_set hb4 (by simp) _) (by simp) _) (by simp) _⟩
        · go_wp2_with fail
          refine (KP.out _).mono ?_
          rintro e w2 ⟨rfl, hb2⟩
          obtain ⟨hc2, hf2⟩ := bl_cells hb2
          have hbB := bl_then hb hb2
          have hown2 := own_kept hown hb2
          have hW2 := hW.kept hb2
          go_wp2_with fail
          refine (KL.out _).mono ?_
          rintro e w3 ⟨rfl, hb3⟩
          have hbC := bl_then (bl_alloc hbB _) hb3
          have hown3 := own_kept (hown2.alloc _) hb3
          have hW3 := (hW2.alloc _).kept hb3
          have hP3 := (Whole.new w2 _ _).kept hb3
          have m0 : w3.cell? ⟨w.heap.size + 1, 0, none⟩ = some (.int .i64 a) := (hW3.cell 0).trans rfl
          have m1 : w3.cell? ⟨w.heap.size + 1, 1, none⟩ = some (.int .i64 b) := (hW3.cell 1).trans rfl
          have m2 : w3.cell? ⟨w.heap.size + 1, 2, none⟩ = some (.int .i64 c) := (hW3.cell 2).trans rfl
          have hs3 := hW3.lt
          clear hc2 hf2 hown hW hb hown2 hW2
          go_wp2_with (at_builtin
                       refine wpList_append_own _ rfl (.tmp 37) (.tmp 39) _ rfl w.heap.size 5 i0 _ 1 1 Tryd.underlying62 hi hz0 hz1 hz2 rfl (by decide) _ l.length (l.map byteV) rfl ((hown3.alloc _).alloc _) ⟨w3.heap.size + 1, 0, none⟩ 1 1 [.int .u8 82] rfl rfl (cells_new2 _ _ _ _) (one_one _ rfl) (by unfold maxLen; omega) (by omega) (by simp; omega) ?_
                       intro v4 w4 hown4 hg4 _
                       have hb4 := bl_grown (bl_alloc (bl_alloc hbC _) _) ((hown3.alloc _).alloc _) (Nat.le_refl _) hg4
                       have hW4 := ((hW3.alloc _).alloc _).grown_own ((hown3.alloc (.cells #[.int .i64 q, .int .i64 b, .int .i64 (3 * q * b - p)] 42)).alloc (.cells #[.int .u8 82] 5)) (by decide) hg4
                       have hP4 := ((hP3.alloc _).alloc _).grown_own ((hown3.alloc (.cells #[.int .i64 q, .int .i64 b, .int .i64 (3 * q * b - p)] 42)).alloc (.cells #[.int .u8 82] 5)) (by decide) hg4
                       have n0 : w4.cell? ⟨w2.heap.size, 0, none⟩ = some (.int .i64 p) := (hP4.cell 0).trans rfl
                       have n1 : w4.cell? ⟨w2.heap.size, 1, none⟩ = some (.int .i64 q) := (hP4.cell 1).trans rfl
                       have n2 : w4.cell? ⟨w2.heap.size, 2, none⟩ = some (.int .i64 b) := (hP4.cell 2).trans rfl
                       have o0 : w4.cell? ⟨w.heap.size + 1, 0, none⟩ = some (.int .i64 a) := (hW4.cell 0).trans rfl
                       have o1 : w4.cell? ⟨w.heap.size + 1, 1, none⟩ = some (.int .i64 b) := (hW4.cell 1).trans rfl
                       have o2 : w4.cell? ⟨w.heap.size + 1, 2, none⟩ = some (.int .i64 c) := (hW4.cell 2).trans rfl
                       have j0 := hW4.frozen 0
                       have j1 := hW4.frozen 1
                       have j2 := hW4.frozen 2
                       have hown5 : w4.ownsRow w.heap.size 5 1 v4 (l ++ [82]).length ((l ++ [82]).map byteV) := by simpa [byteV] using hown4
                       clear hown3 hown4 hg4 hW3 hP3 hP4 m0 m1 m2)
          go_roundg b.toNat
          case measure => omega
          case rel => exact ⟨p, q, b, l ++ [82], TQ, by omega, by omega, Nat.le_refl _, ((hW4.set 0 _).set 1 _).set 2 _, own_set (own_set (own_set hown5 hW4 (by decide) 0 _) (hW4.set 0 _) (by decide) 1 _) ((hW4.set 0 _).set 1 _) (by decide) 2 _, HQ, by simp; omega, bl_set (bl_set (bl_set hb4 (by simp) _) (by simp) _) (by simp) _⟩
end Go.Proofs.YtpflmlnkflpbnaaDoor
