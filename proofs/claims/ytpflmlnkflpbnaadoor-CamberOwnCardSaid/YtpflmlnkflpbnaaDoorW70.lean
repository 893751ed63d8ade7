/-
  The reference's All: the search finds the solutions up to a bound, in order.
-/
import Derived.Test.YtpflmlnkflpbnaaDoorW69
import Derived.Deep.LoopGhost
import Derived.ArgAppend
import Derived.Laws.IdiomCopy
import Derived.Deep.MidRow
namespace Go.Proofs.YtpflmlnkflpbnaaDoor
open Go.RowKit Go.Sort Cam
set_option linter.unusedVariables false
set_option linter.unusedSimpArgs false

/-- A list of triples at a place of a block, with room behind it. -/
structure QueueAt (base : Nat) (w : World) (b off cap : Nat) (ts : List T3) : Prop where
  le : ts.length ≤ cap
  mx : cap ≤ maxLen
  new : base ≤ b
  lt : b < w.heap.size
  cells : ∀ i u, (flat ts)[i]? = some u → w.cell? ⟨b, off + i, none⟩ = some u
  there : ∀ j, j < cap * 3 → (w.cell? ⟨b, off + j, none⟩).isSome = true ∧ w.frozen? ⟨b, off + j, none⟩ = false
section
variable {base b off cap : Nat} {w w' : World} {ts : List T3} {t : T3}
theorem QueueAt.same (h : QueueAt base w b off cap ts) (hb : w'.heap[b]? = w.heap[b]?) (hs : w.heap.size ≤ w'.heap.size) : QueueAt base w' b off cap ts := by
  have hc : ∀ i, w'.cell? ⟨b, i, none⟩ = w.cell? ⟨b, i, none⟩ := fun i => by simp [World.cell?, hb]
  have hf : ∀ i, w'.frozen? ⟨b, i, none⟩ = w.frozen? ⟨b, i, none⟩ := fun i => by simp [World.frozen?, hb]
  exact ⟨h.le, h.mx, h.new, Nat.lt_of_lt_of_le h.lt hs, fun i u hu => (hc _).trans (h.cells i u hu), fun j hj => by rw [hc, hf]; exact h.there j hj⟩
theorem QueueAt.kept (h : QueueAt base w b off cap ts) (hb : Below w.heap.size w w') : QueueAt base w' b off cap ts := h.same (hb.block b h.lt) hb.size
theorem QueueAt.front (h : QueueAt base w b off cap (t :: ts)) : w.cell? ⟨b, off, none⟩ = some (.int .i64 t.1) ∧ w.cell? ⟨b, off + 1, none⟩ = some (.int .i64 t.2.1) ∧ w.cell? ⟨b, off + 2, none⟩ = some (.int .i64 t.2.2) :=
  ⟨h.cells 0 _ rfl, h.cells 1 _ rfl, h.cells 2 _ rfl⟩
theorem QueueAt.tail (h : QueueAt base w b off cap (t :: ts)) : QueueAt base w b (off + 3) (cap - 1) ts := by
  have hl : (t :: ts).length = ts.length + 1 := rfl
  have hle := h.le
  rw [hl] at hle
  refine ⟨by omega, by have := h.mx; omega, h.new, h.lt, fun i u hu => ?_, fun j hj => ?_⟩
  · rw [Nat.add_assoc, Nat.add_comm 3 i]
    exact h.cells (i + 3) u (by simpa [flat] using hu)
  · rw [Nat.add_assoc]
    exact h.there (3 + j) (by omega)
theorem QueueAt.last (h : QueueAt base w b off 1 [t]) : QueueAt base w b off 0 [] :=
  ⟨Nat.le_refl _, Nat.zero_le _, h.new, h.lt, fun i u hu => by simp [flat] at hu, fun j hj => by omega⟩
theorem QueueAt.push (h : QueueAt base w b off cap ts) (hr : ts.length + 1 ≤ cap) : QueueAt base (w.setCells b (off + ts.length * 3) [.int .i64 t.1, .int .i64 t.2.1, .int .i64 t.2.2]) b off cap (ts ++ [t]) := by
  have hfl := flat_length ts
  have hsome : ∀ j, j < [Value.int .i64 t.1, .int .i64 t.2.1, .int .i64 t.2.2].length → (w.cell? ⟨b, off + ts.length * 3 + j, none⟩).isSome = true := by
    intro j hj
    have hj : j < 3 := hj
    rw [Nat.add_assoc]
    exact (h.there (ts.length * 3 + j) (by omega)).1
  refine ⟨by simpa using hr, h.mx, h.new, ?_, fun i u hu => ?_, fun j hj => ⟨?_, ?_⟩⟩
  · have : (w.setCells b (off + ts.length * 3) [.int .i64 t.1, .int .i64 t.2.1, .int .i64 t.2.2]).heap.size = w.heap.size := by simp [World.setCells]
    rw [this]; exact h.lt
  · rw [flat_append] at hu
    by_cases hi : i < ts.length * 3
    · rw [World.cell?_setCells_out b _ _ _ _ (fun _ _ => Or.inl (by show off + i < off + ts.length * 3; omega))]
      rw [List.getElem?_append_left (by omega)] at hu
      exact h.cells i u hu
    · rw [List.getElem?_append_right (by omega), hfl] at hu
      have hj := (List.getElem?_eq_some_iff.1 hu).1
      have hin := World.cell?_setCells_in b [Value.int .i64 t.1, .int .i64 t.2.1, .int .i64 t.2.2] (off + ts.length * 3) w hsome (i - ts.length * 3) hj
      rw [show off + ts.length * 3 + (i - ts.length * 3) = off + i by omega] at hin
      rw [hin]
      have := (List.getElem?_eq_some_iff.1 hu).2
      exact congrArg some this
  · exact World.isSome_setCells b _ _ _ _ (h.there j hj).1
  · rw [World.frozen?_setCells]; exact (h.there j hj).2
theorem queue_own {n : Nat} {v : Value} (hown : w.ownsRow base 32 3 v ts.length (flat ts)) (h1 : 1 ≤ ts.length) : ∃ b' cap', v = .slice (some ⟨b', 0, none⟩) ts.length cap' ∧ QueueAt base w b' 0 cap' ts := by
  rcases hown.2 with ⟨_, h0⟩ | ⟨g, cap', cur, rfl, hb, hg, hn, hc, hs, ht⟩
  · omega
  · refine ⟨g, cap', rfl, hn, hc, hb, (Array.getElem?_eq_some_iff.1 hg).1, fun i u hu => ?_, fun j hj => ⟨?_, by simp [World.frozen?, hg]⟩⟩
    · rw [Nat.zero_add, hown.cellAt i (by rw [← flat_length]; exact (List.getElem?_eq_some_iff.1 hu).1)]
      exact hu
    · have hlt : j < cur.size := by rw [hs]; exact hj
      simp [World.cell?, hg, hlt]
end
theorem RowT.same {w w' : World} {g n cap : Nat} {ts : List T3} (h : RowT w (.slice (some ⟨g, 0, none⟩) n cap) ts) (hb : w'.heap[g]? = w.heap[g]?) (hs : w.heap.size ≤ w'.heap.size) : RowT w' (.slice (some ⟨g, 0, none⟩) n cap) ts := by
  have hc : ∀ i, w'.cell? ⟨g, i, none⟩ = w.cell? ⟨g, i, none⟩ := fun i => by simp [World.cell?, hb]
  rcases h with ⟨h, _⟩ | ⟨g', cap', h, hg, hx⟩
  · cases h
  · simp only [Value.slice.injEq, Option.some.injEq, Addr.mk.injEq] at h
    obtain ⟨⟨rfl, _⟩, rfl, rfl⟩ := h
    exact .inr ⟨g, cap, rfl, Nat.lt_of_lt_of_le hg hs, fun i hi => by rw [hc, hc, hc]; exact hx i hi⟩
theorem setCells3_other (w : World) (b o i : Nat) (x y z : Value) (hne : i ≠ b) : (w.setCells b o [x, y, z]).heap[i]? = w.heap[i]? := by
  unfold World.setCells World.setCells World.setCells World.setCells
  rw [Below.heap_setCell _ _ _ i hne, Below.heap_setCell _ _ _ i hne, Below.heap_setCell _ _ _ i hne]
theorem setCells3_size (w : World) (b o : Nat) (x y z : Value) : (w.setCells b o [x, y, z]).heap.size = w.heap.size := by simp [World.setCells]
theorem cnts_len {op : List T3'} (h : ∀ u ∈ op, u ∈ TT) : op.length ≤ cnts op := by
  induction op with
  | nil => exact Nat.zero_le _
  | cons t l ih =>
    have := cnt_kids (h t (List.mem_cons_self ..))
    have := ih fun u hu => h u (List.mem_cons_of_mem _ hu)
    have e : cnts (t :: l) = cnt t + cnts l := by simp [cnts]
    simp only [List.length_cons]
    omega
theorem insT_len : ∀ (l : List T3') (x : T3'), (insT l x).length ≤ l.length + 1
  | [], x => Nat.le_refl _
  | a :: l, x => by
    unfold insT
    split
    · have := insT_len l x; simp only [List.length_cons]; omega
    · split
      · simp
      · simp
theorem bl_cells3 {a W : World} {b o : Nat} (hb : Below a.heap.size a W) (hB : a.heap.size ≤ b) (x y z : Value) : Below a.heap.size a (W.setCells b o [x, y, z]) := by
  unfold World.setCells World.setCells World.setCells World.setCells
  exact bl_set (bl_set (bl_set hb hB _) hB _) hB _
theorem cnts_few {most : Int} {out op : List T3'} (h : Bfs most out op) : out.length ≤ 88 := by
  have hs : out.Pairwise (fun a b => a ≠ b) := h.sorted.imp fun {a b} hb e => by subst e; exact bef_asymm hb hb
  have hn : out.Nodup := hs
  have := List.Nodup.length_le_of_subset hn (fun x hx => (h.sub x hx).1 : out ⊆ TT)
  exact Nat.le_trans this (by decide)

set_option maxRecDepth 100000 in
set_option maxHeartbeats 8000000 in
theorem refAll_any (most : Int) (w : World) (hm : 1 ≤ most ∧ most ≤ 1000000000) :
    Calls Tryd.prog 13 #[.int .i64 most] w fun e w' => ∃ v, e = .returned v ∧ RowT w' v (upTo most) ∧ Below w.heap.size w w' := by
  obtain ⟨i0, hi, hz0, hz1, hz2⟩ := info_parts info22
  have CH := Lib.hid fun x y z W h h4 => refChildren_any x y z W h h4
  have IN := Lib.hid fun g cap ts p q r W h1 h2 h3 => insert_any g cap ts p q r W h1 h2 h3
  unfold trip at CH IN
  have BS := Lib.hid (Bfs.start (most := most) hm.1)
  obtain ⟨hm1, hm2⟩ := hm
  go_enter Tryd.func13, Tryd.ntmps13
  go_wp2_with fail
  go_loopg [3, 4] (cnts [(1, 1, 1)]) (fun gh vo vp wr => ∃ (out op : List T3) (go co b off cap : Nat), vo = .slice (some ⟨go, 0, none⟩) out.length co ∧ vp = .slice (some ⟨b, off, none⟩) op.length cap ∧ Hid (RowT wr (.slice (some ⟨go, 0, none⟩) out.length co) out) ∧ Hid (QueueAt w.heap.size wr b off cap op) ∧ Hid (out.length ≤ co ∧ co ≤ maxLen) ∧ Hid (go ≠ b) ∧ Hid (Bfs most out op) ∧ Hid (gh = cnts op ∧ gh ≤ 88) ∧ Below w.heap.size w wr)
  case atStart =>
    refine ⟨[(1, 1, 1)], [(1, 1, 1)], w.heap.size, 1, w.heap.size + 1, 0, 1, rfl, rfl, ?_, ?_, ⟨by decide, by unfold maxLen; omega⟩, by show _ ≠ _; omega, BS, ⟨rfl, by decide +kernel⟩, bl_alloc (bl_alloc (bl_refl _) _) _⟩
    · exact .inr ⟨w.heap.size, 1, rfl, by simp <;> omega, fun i hi => by
        obtain rfl : i = 0 := by simpa using hi
        exact ⟨(((Whole.new w _ _).alloc _).cell 0).trans rfl, (((Whole.new w _ _).alloc _).cell 1).trans rfl, (((Whole.new w _ _).alloc _).cell 2).trans rfl⟩⟩
    · refine ⟨Nat.le_refl _, by unfold maxLen; omega, by omega, by simp <;> omega, fun i u hu => ?_, fun j hj => ?_⟩
      · rw [(Whole.new2 w _ _ _).cell (0 + i)]
        simpa [flat] using hu
      · have : j = 0 ∨ j = 1 ∨ j = 2 := by omega
        rcases this with rfl | rfl | rfl
        · exact ⟨by rw [(Whole.new2 w _ _ _).cell]; rfl, (Whole.new2 w _ _ _).frozen _⟩
        · exact ⟨by rw [(Whole.new2 w _ _ _).cell]; rfl, (Whole.new2 w _ _ _).frozen _⟩
        · exact ⟨by rw [(Whole.new2 w _ _ _).cell]; rfl, (Whole.new2 w _ _ _).frozen _⟩
  case round =>
    obtain ⟨out, op, go, co, b, off, cap, rfl, rfl, HO, HQ, HC, HNE, HB, HG, hb⟩ := hrel
    have hol := cnts_few HB.out
    cases op with
    | nil =>
      have hlast := Lib.hid (HB.out.last hm2)
      go_wp2_with fail
      go_ret
      exact ⟨_, rfl, by rw [← hlast.out]; exact HO.out, hb⟩
    | cons t op =>
      obtain ⟨x, y, z⟩ := t
      obtain ⟨f0, f1, f2⟩ := HQ.out.front
      simp only at f0 f1 f2
      have hbl := HQ.out.lt
      have hcl := HQ.out.le
      have hcm : cap ≤ 9223372036854775807 := by have := HQ.out.mx; unfold maxLen at this; omega
      have htt := (HB.out.sub (x, y, z) (HB.out.opsub _ (List.mem_cons_self ..)))
      obtain ⟨hT, h4⟩ := TT_tri htt.1
      simp only at hT h4
      have C1 := Lib.hid fun W => CH.out x y z W hT h4
      have HS := Lib.hid (HB.out.step)
      have hkl : (kids x y z).length ≤ 2 := by unfold kids; split <;> split <;> simp
      have hlen1 : ((x, y, z) :: op).length = op.length + 1 := rfl
      have hopl : op.length ≤ 88 := by
        have h1 := cnts_len (fun u hu => (HB.out.sub u (HB.out.opsub u hu)).1 : ∀ u ∈ (x, y, z) :: op, u ∈ TT)
        have := HG.out
        rw [hlen1] at h1
        omega
      rw [hlen1] at hcl ⊢
      clear hT htt hlen1
      have hcc := HC.out.1
      go_wp2_with fail
      refine (C1.out _).mono ?_
      rintro e w1 ⟨cv, rfl, hown, hb1⟩
      have FO := Lib.hid (HO.out.kept hb1)
      have FQ := Lib.hid (HQ.out.kept hb1)
      have FB := Lib.hid (bl_then hb hb1)
      obtain ⟨L, hL⟩ : ∃ L, L = kids x y z := ⟨_, rfl⟩
      rw [← hL] at hown hkl
      have HL : Hid (kidsT (x, y, z) = L) := hL.symm
      clear hL
      have hbw : b < wr.heap.size := hbl
      obtain ⟨A, capc, rfl, hA⟩ : ∃ A capc, cv = .slice A L.length capc ∧ (0 < L.length → ∃ gc, A = some ⟨gc, 0, none⟩ ∧ gc ≠ b ∧ RowT w1 cv L) := by
        have hrow := rowT_own hown
        rcases hown.2 with ⟨rfl, h0⟩ | ⟨gc, capc, cur, rfl, hbc, _⟩
        · exact ⟨none, 0, by rw [h0], fun h => by omega⟩
        · exact ⟨_, capc, rfl, fun _ => ⟨gc, rfl, by omega, hrow⟩⟩
      have FC := Lib.hid hA
      clear hA hown f0 f1 f2
      by_cases hc1 : cap = 1
      · subst hc1
        obtain rfl : op = [] := List.eq_nil_of_length_eq_zero (by omega)
        have FQ1 := Lib.hid FQ.out.last
        clear FQ
        go_wp2_with fail
        go_loopw [3, 4, 6] (fun vo vp i W => ∃ (k : Nat) (out' op' : List T3) (go' co' b' off' cap' : Nat), i = .int .i64 k ∧ k ≤ L.length ∧ vo = .slice (some ⟨go', 0, none⟩) out'.length co' ∧ vp = .slice (some ⟨b', off', none⟩) op'.length cap' ∧ Hid (RowT W (.slice (some ⟨go', 0, none⟩) out'.length co') out') ∧ Hid (QueueAt w.heap.size W b' off' cap' op') ∧ Hid (out'.length ≤ co' ∧ co' ≤ maxLen) ∧ Hid (go' ≠ b') ∧ Hid ((L.take k).foldl (stepK most) (out, []) = (out', op')) ∧ Hid (out'.length ≤ 88 + k ∧ op'.length ≤ 88 + k) ∧ Hid (0 < L.length → ∃ gc, A = some ⟨gc, 0, none⟩ ∧ gc ≠ b' ∧ RowT W (.slice A L.length capc) L) ∧ Below w.heap.size w W) (fun _ _ i _ => L.length - (intOf i).toNat)
        case atStart => exact ⟨0, out, [], go, co, b, off, 0, rfl, Nat.zero_le _, rfl, rfl, FO, FQ1, HC, HNE, rfl, ⟨by omega, by first | omega | simp⟩, FC, FB.out⟩
        case round =>
          obtain ⟨k, out', op', go', co', b', off', cap', rfl, hk, rfl, rfl, RO, RQ, RC, RNE, RF, RL, RCH, hbW⟩ := hrel
          clear FO FQ1 FC FB
          have hq1 := RQ.out.lt
          have hq2 := RQ.out.le
          have hq3 : cap' ≤ 9223372036854775807 := by have := RQ.out.mx; unfold maxLen at this; omega
          have hco := RC.out.1
          have hol' : out'.length ≤ 100 := by have := RL.out; omega
          have hopl' : op'.length ≤ 100 := by have := RL.out; omega
          by_cases hlt : k < L.length
          · obtain ⟨gc, rfl, hgc, hrow⟩ := RCH.out (by omega)
            obtain ⟨c0, c1, c2⟩ := hrow.cellsAt.2 k hlt
            have hgl := hrow.cellsAt.1
            have RW := Lib.hid hrow
            clear RCH hrow
            have hfold : (L.take (k + 1)).foldl (stepK most) (out, []) = stepK most (out', op') L[k] := by
              rw [List.take_succ_eq_append_getElem hlt, List.foldl_append, RF.out]; rfl
            obtain ⟨⟨p, q, r⟩, hc⟩ : ∃ c, c = L[k] := ⟨_, rfl⟩
            rw [← hc] at c0 c1 c2 hfold
            simp only at c0 c1 c2
            clear RF
            by_cases hr : r ≤ most
            · have hf2 : (L.take (k + 1)).foldl (stepK most) (out, []) = (insT out' (p, q, r), op' ++ [(p, q, r)]) := by rw [hfold]; unfold stepK; rw [if_pos hr]
              have HF := Lib.hid hf2
              clear hf2 hfold
              have I := Lib.hid (IN.out go' co' out' p q r wr RO.out hol' RC.out)
              have hil := insT_len out' (p, q, r)
              generalize insT out' (p, q, r) = out2 at *
              have HC2 : Hid ((p, q, r) = L[k]) := hc
              clear hc
              go_wp2_with fail
              refine I.out.mono ?_
              rintro e w2 ⟨g2, co2, rfl, hR2, hC2, hg2, hb2⟩
              have RW2 := Lib.hid (RW.out.kept hb2)
              obtain ⟨d0, d1, d2⟩ := RW2.out.cellsAt.2 k hlt
              rw [← HC2.out] at d0 d1 d2
              simp only at d0 d1 d2
              have hgl2 := RW2.out.cellsAt.1
              have RQ2 := Lib.hid (RQ.out.kept hb2)
              have RB2 := Lib.hid (bl_then hbW hb2)
              have RNE2 : Hid (g2 ≠ b') := by
                rcases hg2 with h | h
                · rw [h]; exact RNE.out
                · show g2 ≠ b'; omega
              have RO2 := Lib.hid hR2
              have RC2 := Lib.hid hC2
              have RL2 : Hid (out2.length ≤ 88 + (k + 1) ∧ (op' ++ [(p, q, r)]).length ≤ 88 + (k + 1)) := ⟨by have := RL.out; omega, by have := RL.out; simp; omega⟩
              have hb2l := RQ2.out.lt
              have hsz2 := RB2.out.size
              clear c0 c1 c2 hR2 hC2 hg2 RO RQ RNE RW hgl hq1
              by_cases hroom : op'.length + 1 ≤ cap'
              · go_wp2_with (at_builtin; refine wpList_append_arg _ rfl (.tmp 39) (.tmp 44) _ rfl 32 i0 _ 3 24 Tryd.underlying22 hi hz0 hz1 hz2 rfl (by decide) b' off' op'.length cap' (flat op') rfl (flat_length _) (RQ2.out.kept (bl_alloc (bl_refl _) _)).cells ⟨w2.heap.size, 0, none⟩ 1 1 [.int .i64 p, .int .i64 q, .int .i64 r] rfl rfl (cells_new _ _ _) (three_one _ _ _) (fun h j hj => by rw [Nat.add_assoc]; exact (RQ2.out.kept (bl_alloc (bl_refl _) _)).there (op'.length * 3 + j) (by simp at hj; omega)) (by unfold maxLen; omega) (by omega) (fun _ => ?_) (fun h => absurd hroom (by omega)); have RQ3 := Lib.hid (QueueAt.push (t := (p, q, r)) (RQ2.out.kept (bl_alloc (bl_refl _) (.cells #[.int .i64 p, .int .i64 q, .int .i64 r] 32))) hroom); have RO3 := Lib.hid ((RO2.out.kept (bl_alloc (bl_refl _) (.cells #[.int .i64 p, .int .i64 q, .int .i64 r] 32))).same (setCells3_other _ b' (off' + op'.length * 3) g2 (.int .i64 p) (.int .i64 q) (.int .i64 r) RNE2.out) (Nat.le_of_eq (setCells3_size _ _ _ _ _ _).symm)); have RW3 := Lib.hid ((RW2.out.kept (bl_alloc (bl_refl _) (.cells #[.int .i64 p, .int .i64 q, .int .i64 r] 32))).same (setCells3_other _ b' (off' + op'.length * 3) gc (.int .i64 p) (.int .i64 q) (.int .i64 r) hgc) (Nat.le_of_eq (setCells3_size _ _ _ _ _ _).symm)); have RB3 := Lib.hid (bl_cells3 (o := off' + op'.length * 3) (bl_alloc RB2.out (.cells #[.int .i64 p, .int .i64 q, .int .i64 r] 32)) RQ2.out.new (.int .i64 p) (.int .i64 q) (.int .i64 r)); generalize World.setCells _ b' (off' + op'.length * 3) [.int .i64 p, .int .i64 q, .int .i64 r] = w3 at *)
                go_roundw
                case rel => exact ⟨k + 1, out2, op' ++ [(p, q, r)], g2, co2, b', off', cap', by go_num, by omega, rfl, by simp, RO3, RQ3, RC2, RNE2, HF, RL2, fun _ => ⟨gc, rfl, hgc, RW3.out⟩, RB3.out⟩
                case measure => simp [intOf]; omega
              · go_wp2_with (at_builtin; refine wpList_append_arg _ rfl (.tmp 39) (.tmp 44) _ rfl 32 i0 _ 3 24 Tryd.underlying22 hi hz0 hz1 hz2 rfl (by decide) b' off' op'.length cap' (flat op') rfl (flat_length _) (RQ2.out.kept (bl_alloc (bl_refl _) _)).cells ⟨w2.heap.size, 0, none⟩ 1 1 [.int .i64 p, .int .i64 q, .int .i64 r] rfl rfl (cells_new _ _ _) (three_one _ _ _) (fun h => absurd h hroom) (by unfold maxLen; omega) (by omega) (fun h => absurd h hroom) (fun _ v3 w3 hown3 hg3 => ?_); have hb3 := grown_none hg3; have RO3 := Lib.hid ((RO2.out.kept (bl_alloc (bl_refl _) (.cells #[.int .i64 p, .int .i64 q, .int .i64 r] 32))).kept hb3); have RW3 := Lib.hid ((RW2.out.kept (bl_alloc (bl_refl _) (.cells #[.int .i64 p, .int .i64 q, .int .i64 r] 32))).kept hb3); have RB3 := Lib.hid (bl_then (bl_alloc RB2.out (.cells #[.int .i64 p, .int .i64 q, .int .i64 r] 32)) hb3); obtain ⟨b3, cap3, rfl, hq3'⟩ := queue_own (n := 0) (ts := op' ++ [(p, q, r)]) (by rw [flat_append, List.length_append]; exact hown3) (by simp); have RQ3 : Hid (QueueAt w.heap.size w3 b3 0 cap3 (op' ++ [(p, q, r)])) := (⟨hq3'.le, hq3'.mx, Nat.le_trans (by simp; omega) hq3'.new, hq3'.lt, hq3'.cells, hq3'.there⟩ : QueueAt w.heap.size w3 b3 0 cap3 (op' ++ [(p, q, r)])); have hn3 := hq3'.new; clear hown3 hg3 hq3')
                have hx2 := RO2.out.cellsAt.1
                go_roundw
                case rel => exact ⟨k + 1, out2, op' ++ [(p, q, r)], g2, co2, b3, 0, cap3, by go_num, by omega, rfl, by simp, RO3, RQ3, RC2, by show g2 ≠ b3; simp at hn3; omega, HF, RL2, fun _ => ⟨gc, rfl, by simp at hn3; omega, RW3.out⟩, RB3.out⟩
                case measure => simp [intOf]; omega
            · have hf2 : (L.take (k + 1)).foldl (stepK most) (out, []) = (out', op') := by rw [hfold]; unfold stepK; rw [if_neg hr]
              have HF := Lib.hid hf2
              clear hf2 hfold hc
              go_wp2_with fail
              go_roundw
              case rel => exact ⟨k + 1, out', op', go', co', b', off', cap', by go_num, by omega, rfl, rfl, RO, RQ, RC, RNE, HF, ⟨by have := RL.out; omega, by have := RL.out; omega⟩, fun _ => ⟨gc, rfl, hgc, RW.out⟩, hbW⟩
              case measure => simp [intOf]; omega
          · have hfin := RF.out
            rw [List.take_of_length_le (by omega)] at hfin
            have hst := HS.out
            rw [HL.out, hfin] at hst
            have HT := Lib.hid hst
            clear hst hfin RF
            go_wp2_with fail
            go_roundg (cnts op')
            case measure => have := HT.out.2; have := HG.out; omega
            case rel => exact ⟨out', op', go', co', b', off', cap', rfl, rfl, RO, RQ, RC, RNE, HT.out.1, ⟨rfl, by have := HT.out.2; have := HG.out; omega⟩, hbW⟩
      · have FQ1 := Lib.hid FQ.out.tail
        clear FQ
        go_wp2_with fail
        go_loopw [3, 4, 6] (fun vo vp i W => ∃ (k : Nat) (out' op' : List T3) (go' co' b' off' cap' : Nat), i = .int .i64 k ∧ k ≤ L.length ∧ vo = .slice (some ⟨go', 0, none⟩) out'.length co' ∧ vp = .slice (some ⟨b', off', none⟩) op'.length cap' ∧ Hid (RowT W (.slice (some ⟨go', 0, none⟩) out'.length co') out') ∧ Hid (QueueAt w.heap.size W b' off' cap' op') ∧ Hid (out'.length ≤ co' ∧ co' ≤ maxLen) ∧ Hid (go' ≠ b') ∧ Hid ((L.take k).foldl (stepK most) (out, op) = (out', op')) ∧ Hid (out'.length ≤ 88 + k ∧ op'.length ≤ 88 + k) ∧ Hid (0 < L.length → ∃ gc, A = some ⟨gc, 0, none⟩ ∧ gc ≠ b' ∧ RowT W (.slice A L.length capc) L) ∧ Below w.heap.size w W) (fun _ _ i _ => L.length - (intOf i).toNat)
        case atStart => exact ⟨0, out, op, go, co, b, (off + 3), (cap - 1), rfl, Nat.zero_le _, rfl, rfl, FO, FQ1, HC, HNE, rfl, ⟨by omega, by first | omega | simp⟩, FC, FB.out⟩
        case round =>
          obtain ⟨k, out', op', go', co', b', off', cap', rfl, hk, rfl, rfl, RO, RQ, RC, RNE, RF, RL, RCH, hbW⟩ := hrel
          clear FO FQ1 FC FB
          have hq1 := RQ.out.lt
          have hq2 := RQ.out.le
          have hq3 : cap' ≤ 9223372036854775807 := by have := RQ.out.mx; unfold maxLen at this; omega
          have hco := RC.out.1
          have hol' : out'.length ≤ 100 := by have := RL.out; omega
          have hopl' : op'.length ≤ 100 := by have := RL.out; omega
          by_cases hlt : k < L.length
          · obtain ⟨gc, rfl, hgc, hrow⟩ := RCH.out (by omega)
            obtain ⟨c0, c1, c2⟩ := hrow.cellsAt.2 k hlt
            have hgl := hrow.cellsAt.1
            have RW := Lib.hid hrow
            clear RCH hrow
            have hfold : (L.take (k + 1)).foldl (stepK most) (out, op) = stepK most (out', op') L[k] := by
              rw [List.take_succ_eq_append_getElem hlt, List.foldl_append, RF.out]; rfl
            obtain ⟨⟨p, q, r⟩, hc⟩ : ∃ c, c = L[k] := ⟨_, rfl⟩
            rw [← hc] at c0 c1 c2 hfold
            simp only at c0 c1 c2
            clear RF
            by_cases hr : r ≤ most
            · have hf2 : (L.take (k + 1)).foldl (stepK most) (out, op) = (insT out' (p, q, r), op' ++ [(p, q, r)]) := by rw [hfold]; unfold stepK; rw [if_pos hr]
              have HF := Lib.hid hf2
              clear hf2 hfold
              have I := Lib.hid (IN.out go' co' out' p q r wr RO.out hol' RC.out)
              have hil := insT_len out' (p, q, r)
              generalize insT out' (p, q, r) = out2 at *
              have HC2 : Hid ((p, q, r) = L[k]) := hc
              clear hc
              go_wp2_with fail
              refine I.out.mono ?_
              rintro e w2 ⟨g2, co2, rfl, hR2, hC2, hg2, hb2⟩
              have RW2 := Lib.hid (RW.out.kept hb2)
              obtain ⟨d0, d1, d2⟩ := RW2.out.cellsAt.2 k hlt
              rw [← HC2.out] at d0 d1 d2
              simp only at d0 d1 d2
              have hgl2 := RW2.out.cellsAt.1
              have RQ2 := Lib.hid (RQ.out.kept hb2)
              have RB2 := Lib.hid (bl_then hbW hb2)
              have RNE2 : Hid (g2 ≠ b') := by
                rcases hg2 with h | h
                · rw [h]; exact RNE.out
                · show g2 ≠ b'; omega
              have RO2 := Lib.hid hR2
              have RC2 := Lib.hid hC2
              have RL2 : Hid (out2.length ≤ 88 + (k + 1) ∧ (op' ++ [(p, q, r)]).length ≤ 88 + (k + 1)) := ⟨by have := RL.out; omega, by have := RL.out; simp; omega⟩
              have hb2l := RQ2.out.lt
              have hsz2 := RB2.out.size
              clear c0 c1 c2 hR2 hC2 hg2 RO RQ RNE RW hgl hq1
              by_cases hroom : op'.length + 1 ≤ cap'
              · go_wp2_with (at_builtin; refine wpList_append_arg _ rfl (.tmp 39) (.tmp 44) _ rfl 32 i0 _ 3 24 Tryd.underlying22 hi hz0 hz1 hz2 rfl (by decide) b' off' op'.length cap' (flat op') rfl (flat_length _) (RQ2.out.kept (bl_alloc (bl_refl _) _)).cells ⟨w2.heap.size, 0, none⟩ 1 1 [.int .i64 p, .int .i64 q, .int .i64 r] rfl rfl (cells_new _ _ _) (three_one _ _ _) (fun h j hj => by rw [Nat.add_assoc]; exact (RQ2.out.kept (bl_alloc (bl_refl _) _)).there (op'.length * 3 + j) (by simp at hj; omega)) (by unfold maxLen; omega) (by omega) (fun _ => ?_) (fun h => absurd hroom (by omega)); have RQ3 := Lib.hid (QueueAt.push (t := (p, q, r)) (RQ2.out.kept (bl_alloc (bl_refl _) (.cells #[.int .i64 p, .int .i64 q, .int .i64 r] 32))) hroom); have RO3 := Lib.hid ((RO2.out.kept (bl_alloc (bl_refl _) (.cells #[.int .i64 p, .int .i64 q, .int .i64 r] 32))).same (setCells3_other _ b' (off' + op'.length * 3) g2 (.int .i64 p) (.int .i64 q) (.int .i64 r) RNE2.out) (Nat.le_of_eq (setCells3_size _ _ _ _ _ _).symm)); have RW3 := Lib.hid ((RW2.out.kept (bl_alloc (bl_refl _) (.cells #[.int .i64 p, .int .i64 q, .int .i64 r] 32))).same (setCells3_other _ b' (off' + op'.length * 3) gc (.int .i64 p) (.int .i64 q) (.int .i64 r) hgc) (Nat.le_of_eq (setCells3_size _ _ _ _ _ _).symm)); have RB3 := Lib.hid (bl_cells3 (o := off' + op'.length * 3) (bl_alloc RB2.out (.cells #[.int .i64 p, .int .i64 q, .int .i64 r] 32)) RQ2.out.new (.int .i64 p) (.int .i64 q) (.int .i64 r)); generalize World.setCells _ b' (off' + op'.length * 3) [.int .i64 p, .int .i64 q, .int .i64 r] = w3 at *)
                go_roundw
                case rel => exact ⟨k + 1, out2, op' ++ [(p, q, r)], g2, co2, b', off', cap', by go_num, by omega, rfl, by simp, RO3, RQ3, RC2, RNE2, HF, RL2, fun _ => ⟨gc, rfl, hgc, RW3.out⟩, RB3.out⟩
                case measure => simp [intOf]; omega
              · go_wp2_with (at_builtin; refine wpList_append_arg _ rfl (.tmp 39) (.tmp 44) _ rfl 32 i0 _ 3 24 Tryd.underlying22 hi hz0 hz1 hz2 rfl (by decide) b' off' op'.length cap' (flat op') rfl (flat_length _) (RQ2.out.kept (bl_alloc (bl_refl _) _)).cells ⟨w2.heap.size, 0, none⟩ 1 1 [.int .i64 p, .int .i64 q, .int .i64 r] rfl rfl (cells_new _ _ _) (three_one _ _ _) (fun h => absurd h hroom) (by unfold maxLen; omega) (by omega) (fun h => absurd h hroom) (fun _ v3 w3 hown3 hg3 => ?_); have hb3 := grown_none hg3; have RO3 := Lib.hid ((RO2.out.kept (bl_alloc (bl_refl _) (.cells #[.int .i64 p, .int .i64 q, .int .i64 r] 32))).kept hb3); have RW3 := Lib.hid ((RW2.out.kept (bl_alloc (bl_refl _) (.cells #[.int .i64 p, .int .i64 q, .int .i64 r] 32))).kept hb3); have RB3 := Lib.hid (bl_then (bl_alloc RB2.out (.cells #[.int .i64 p, .int .i64 q, .int .i64 r] 32)) hb3); obtain ⟨b3, cap3, rfl, hq3'⟩ := queue_own (n := 0) (ts := op' ++ [(p, q, r)]) (by rw [flat_append, List.length_append]; exact hown3) (by simp); have RQ3 : Hid (QueueAt w.heap.size w3 b3 0 cap3 (op' ++ [(p, q, r)])) := (⟨hq3'.le, hq3'.mx, Nat.le_trans (by simp; omega) hq3'.new, hq3'.lt, hq3'.cells, hq3'.there⟩ : QueueAt w.heap.size w3 b3 0 cap3 (op' ++ [(p, q, r)])); have hn3 := hq3'.new; clear hown3 hg3 hq3')
                have hx2 := RO2.out.cellsAt.1
                go_roundw
                case rel => exact ⟨k + 1, out2, op' ++ [(p, q, r)], g2, co2, b3, 0, cap3, by go_num, by omega, rfl, by simp, RO3, RQ3, RC2, by show g2 ≠ b3; simp at hn3; omega, HF, RL2, fun _ => ⟨gc, rfl, by simp at hn3; omega, RW3.out⟩, RB3.out⟩
                case measure => simp [intOf]; omega
            · have hf2 : (L.take (k + 1)).foldl (stepK most) (out, op) = (out', op') := by rw [hfold]; unfold stepK; rw [if_neg hr]
              have HF := Lib.hid hf2
              clear hf2 hfold hc
              go_wp2_with fail
              go_roundw
              case rel => exact ⟨k + 1, out', op', go', co', b', off', cap', by go_num, by omega, rfl, rfl, RO, RQ, RC, RNE, HF, ⟨by have := RL.out; omega, by have := RL.out; omega⟩, fun _ => ⟨gc, rfl, hgc, RW.out⟩, hbW⟩
              case measure => simp [intOf]; omega
          · have hfin := RF.out
            rw [List.take_of_length_le (by omega)] at hfin
            have hst := HS.out
            rw [HL.out, hfin] at hst
            have HT := Lib.hid hst
            clear hst hfin RF
            go_wp2_with fail
            go_roundg (cnts op')
            case measure => have := HT.out.2; have := HG.out; omega
            case rel => exact ⟨out', op', go', co', b', off', cap', rfl, rfl, RO, RQ, RC, RNE, HT.out.1, ⟨rfl, by have := HT.out.2; have := HG.out; omega⟩, hbW⟩
end Go.Proofs.YtpflmlnkflpbnaaDoor
