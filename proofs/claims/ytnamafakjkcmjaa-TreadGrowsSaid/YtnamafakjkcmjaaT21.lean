/-
  hasCycle.
-/
import Derived.Test.YtnamafakjkcmjaaT20
import Derived.Carry
namespace Go.Proofs.Ytnamafakjkcmjaa
open Go.RowKit Go.Shelf
set_option linter.unusedVariables false
set_option linter.unusedSimpArgs false

/-- The bridges that are left, as the map has them. -/
def brF (E : List Br) : Br → Option Bool := fun b => if b ∈ E then some true else none
theorem brF_some (E : List Br) (b : Br) : (brF E b).isSome = true ↔ b ∈ E := by
  unfold brF
  by_cases h : b ∈ E <;> simp [h]
theorem walkB_sub {E E' : List Br} (h : ∀ b ∈ E, b ∈ E') : ∀ {m : Nat} {s : Str}, walkB E m s → walkB E' m s
  | 0, s, _ => trivial
  | m + 1, s, ⟨t, h1, h2⟩ => ⟨t, h _ h1, walkB_sub h h2⟩
theorem cycB_same {E E' : List Br} (h : ∀ b, b ∈ E ↔ b ∈ E') : cycB E = cycB E' := by
  have key : ∀ {E E' : List Br}, (∀ b, b ∈ E → b ∈ E') → cycB E = true → cycB E' = true := fun {E E'} h hc => by
    obtain ⟨s, hs⟩ := (cyc_iff E).1 hc
    exact (cyc_iff E').2 ⟨s, fun m => walkB_sub h (hs m)⟩
  cases h1 : cycB E <;> cases h2 : cycB E'
  · rfl
  · rw [key (fun b hb => (h b).2 hb) h2] at h1; cases h1
  · rw [key (fun b hb => (h b).1 hb) h1] at h2; cases h2
  · rfl
theorem nodup_le {α : Type} [DecidableEq α] : ∀ {l l' : List α}, l.Nodup → (∀ x ∈ l, x ∈ l') → l.length ≤ l'.length
  | [], _, _, _ => Nat.zero_le _
  | a :: l, l', hn, h => by
    obtain ⟨h1, h2⟩ := List.nodup_cons.1 hn
    have ha := h a (List.mem_cons_self ..)
    have := nodup_le (l' := l'.erase a) h2 fun x hx => (List.mem_erase_of_ne (by rintro rfl; exact h1 hx)).2 (h x (List.mem_cons_of_mem _ hx))
    rw [List.length_erase_of_mem ha] at this
    have := List.length_pos_of_mem ha
    simp; omega
theorem RangeF.same {P : Program} {α β : Type} {k : MapKind P α β} {w : World} {b r n cnt : Nat} {f : α → Option β} {pend pend' : α → Prop} (h : RangeF k w b r n f pend cnt) (e : ∀ x, k.okK x → (pend x ↔ pend' x)) : RangeF k w b r n f pend' cnt := by
  obtain ⟨D, left, h1, h2, h3, h4⟩ := h
  exact ⟨D, left, h1, h2, h3, fun x kl hx hk => (h4 x kl hx hk).trans (e x hx)⟩
theorem key_str_inv {v : Value} {kl : Lit} (h : keyOf Try.prog 9 v = some kl) : ∃ x : ByteArray, v = Value.string x ∧ x.size ≤ maxLen := by
  cases v <;> simp [keyOf, Try.underlying9, mapKey] at h
  exact ⟨_, rfl, h.1⟩
theorem boxed_below {W W' : World} {B : Nat} {t : TypeId} {u : Value} (h : Boxed W B t u) (hb : Below W.heap.size W W') : Boxed W' B t u := (hb.block B h.lt).trans h
set_option maxRecDepth 100000 in
set_option maxHeartbeats 4000000 in
theorem hasCycle_any (E : List Br) (bL cL : Nat) (w : World) (hm : MapF kindBB w bL cL (brF E)) (hlen : ∀ b ∈ E, b.1.length ≤ 100 ∧ b.2.length ≤ 100) (hE : E.length ≤ 1000) :
    Calls Try.prog 54 #[.map (some bL)] w fun e w' => e = .returned (.bool (cycB E)) ∧ Below w.heap.size w w' := by
  have hmm := @run_makeMap Try.prog
  obtain ⟨j0, hj, jz0, jz1, jz2⟩ := info_parts infoS
  have hlL := hm.lt
  obtain ⟨W0, hW0⟩ : ∃ W0, W0 = (w.alloc (.map #[] 0)).alloc (.cells #[.map (some w.heap.size)] 117) := ⟨_, rfl⟩
  have hz0 : W0.heap.size = w.heap.size + 2 := by rw [hW0]; simp
  have hm0 : MapF kindBB W0 bL cL (brF E) := by rw [hW0]; exact hm.below (bl_alloc (bl_alloc (bl_refl w) _) _)
  obtain ⟨W1, cnt1, hrg, hR1, hg1, hz1⟩ := hm0.range
  dsimp only [kindBB] at hrg
  have hN1 : NextAt W1 w.heap.size w.heap.size 0 [] := by
    have := (NextAt.made w w.heap.size).below (bl_alloc (bl_refl _) (.cells #[.map (some w.heap.size)] 117))
    rw [← hW0] at this
    exact this.below ⟨hg1.os, hg1.tape, hg1.output, hg1.size, fun k hk => hg1.block k hk (by simp)⟩
  have hx1 : Boxed W1 (w.heap.size + 1) 117 (.map (some w.heap.size)) := by
    have := Boxed.new (w.alloc (.map #[] 0)) 117 (.map (some w.heap.size))
    rw [← hW0, World.size_alloc] at this
    exact this.kept hg1 (by simp)
  have hb1 : Below w.heap.size w W1 := by
    have h : Below w.heap.size w W0 := by rw [hW0]; exact bl_alloc (bl_alloc (bl_refl w) _) _
    exact h.grown hg1 h.size (fun k e => by cases e)
  rw [hz0] at hrg hR1
  have HR1 := Lib.hid hR1
  have HN1 := Lib.hid hN1
  have HX1 := Lib.hid hx1
  have HB1 := Lib.hid hb1
  have HZ1 := Lib.hid hz1
  rw [hW0] at hrg
  clear hm hm0 hR1 hg1 hN1 hx1 hb1 hW0 hz1
  go_enter Try.func54, Try.ntmps54
  go_wp2_with fail
  obtain ⟨n0, hn0⟩ : ∃ n0, n0 = w.heap.size := ⟨_, rfl⟩
  have HN0 := Lib.hid hn0
  rw [← hn0] at HR1 HN1 HX1 HB1 hlL hrg hz0
  clear hrg
  rw [← hn0]
  clear hn0
  go_loopw [5] (fun _ wr => ∃ (PE : List Br) (cnt n : Nat), Hid (RangeF kindBB wr bL (n0 + 2) cL (brF E) (fun b => b ∈ E ∧ b ∉ PE) cnt) ∧ Hid (NextAt wr n0 n0 n PE) ∧ Hid (Boxed wr (n0 + 1) 117 (.map (some n0))) ∧ Hid (Below n0 w wr) ∧ Hid (PE.Nodup ∧ ∀ b ∈ PE, b ∈ E) ∧ n = PE.length) (fun _ wr => wr.rangeLeft bL (n0 + 2))
  case atStart =>
    exact ⟨[], cnt1, 0, Lib.hid (HR1.out.same fun x _ => by rw [brF_some]; simp), HN1, HX1, HB1, Lib.hid ⟨.nil, fun b h => absurd h List.not_mem_nil⟩, rfl⟩
  case round =>
    obtain ⟨PE, cnt, n, HR, HN, HX, HB, HP, hnl⟩ := hrel
    clear HR1 HN1 HX1 HB1 HZ1
    have hPl : PE.length ≤ 1000 := Nat.le_trans (nodup_le HP.out.1 HP.out.2) hE
    rcases HR.out.next (fun v kl h => key_br_inv h) 0 with ⟨hc0, hl0, hrun⟩ | ⟨x, v, W2, cnt', hxo, hxp, hrun, hR2, hlt, hg2, hz2, hen⟩
    · have c3 : wr.cell? ⟨n0 + 1, 0, none⟩ = some (.map (some n0)) := HX.out.cell
      have l3 := HX.out.lt
      have l4 : n0 + 1 < wr.heap.size + 1 := by omega
      have l5 : n0 + 1 < wr.heap.size + 1 + 1 := by omega
      obtain ⟨S, hS⟩ : ∃ S, S = wr.heap.size := ⟨_, rfl⟩
      obtain ⟨W9, hW9⟩ : ∃ W9, W9 = ((wr.alloc (.map #[] 0)).alloc (.cells #[.map (some wr.heap.size)] 87)).alloc (.cells #[.func (.func 74) #[] #[.pointer (some ⟨wr.heap.size + 1, 0, none⟩), .pointer (some ⟨n0 + 1, 0, none⟩), .pointer (some ⟨wr.heap.size + 1 + 1, 0, none⟩)]] 103) := ⟨_, rfl⟩
      have hz9 : W9.heap.size = S + 3 := by rw [hW9, hS]; simp
      have hb9 : Below wr.heap.size wr W9 := by rw [hW9]; exact bl_alloc (bl_alloc (bl_alloc (bl_refl wr) _) _) _
      have hS0 : n0 + 2 < S := by rw [hS]; exact HR.out.lt
      have hE9 : HEnv PE (S + 1) (n0 + 1) (S + 1 + 1) S n0 n n0 W9 := by
        refine ⟨?_, boxed_below HX.out hb9, ?_, HN.out.below hb9, by omega⟩
        · have := Boxed.new (wr.alloc (.map #[] 0)) 87 (.map (some wr.heap.size))
          rw [World.size_alloc] at this
          rw [hW9, hS]
          exact this.alloc _
        · have := Boxed.new ((wr.alloc (.map #[] 0)).alloc (.cells #[.map (some wr.heap.size)] 87)) 103 (.func (.func 74) #[] #[.pointer (some ⟨wr.heap.size + 1, 0, none⟩), .pointer (some ⟨n0 + 1, 0, none⟩), .pointer (some ⟨wr.heap.size + 1 + 1, 0, none⟩)])
          simp only [World.size_alloc] at this
          rw [hW9, hS]
          exact this
      have hm9 : MapF kindSI W9 S 0 (dnF fun _ => 0) := by
        have := (MapF.made kindSI wr).same (g := dnF fun _ => 0) (fun x => by unfold dnF; rw [if_pos rfl])
        rw [hW9, hS]
        exact this.below (bl_alloc (bl_alloc (bl_refl _) _) _)
      obtain ⟨H, h1, h2, h3, h4⟩ := hE9.nx
      have hpos : ∀ s, (H s).isSome = true ↔ nx PE (sb s) ≠ [] := fun s => by
        constructor
        · intro hs e
          obtain ⟨⟨g, l, c⟩, hy⟩ := Option.isSome_iff_exists.1 hs
          obtain ⟨h5, h6⟩ := h3 s g l c hy
          rw [e] at h6
          have := h6.1
          simp [encS] at this
          omega
        · intro hne
          cases hs : H s with
          | none => exact absurd (h2 s hs) hne
          | some y => rfl
      obtain ⟨W10, cnt2, hrg2, hR10, hg10, hz10⟩ := h1.range
      dsimp only [kindSH] at hrg2
      rw [hz9] at hrg2 hR10
      have hb10 : Below W9.heap.size W9 W10 := ⟨hg10.os, hg10.tape, hg10.output, hg10.size, fun k hk => hg10.block k hk (by simp)⟩
      have HE10 : Hid (HEnv PE (S + 1) (n0 + 1) (S + 1 + 1) S n0 n n0 W10) := Lib.hid ⟨boxed_below hE9.d hb10, boxed_below hE9.b hb10, boxed_below hE9.v hb10, hE9.nx.below hb10, hE9.ne⟩
      have HM10 := Lib.hid (hm9.below hb10)
      have HR10 := Lib.hid hR10
      have HBA : Hid (Below n0 w W10) := Lib.hid ((HB.out.trans (hb9.mono (by omega))).trans (hb10.mono (by omega)))
      have HPOS := Lib.hid hpos
      have HSM : Hid (∀ b, b ∈ E ↔ b ∈ PE) := Lib.hid fun b => ⟨fun hb => Classical.byContradiction fun hn => hl0 b ⟨by have := (hlen b hb).1; unfold maxLen; omega, by have := (hlen b hb).2; unfold maxLen; omega⟩ ⟨hb, hn⟩, HP.out.2 b⟩
      rw [hW9] at hrg2
      have HS := Lib.hid hS
      clear hz9 hb9 hE9 hm9 h1 h2 h3 h4 hpos hR10 hg10 hz10 hb10 HX HN HB HR hW9 hl0 hS
      go_wp2_with fail
      have hS' := HS.out
      rw [← hS']
      clear hrun c3 l3 l4 l5 hrg2 hS'
      have hfree : freeB PE (fun _ => 0) ≤ 2000 := by
        unfold freeB
        refine Nat.le_trans List.countP_le_length ?_
        unfold nodesB
        simp; omega
      go_loopw [8] (fun _ wr => ∃ (pend : ByteArray → Prop) (cnt cntD : Nat) (K : Str → Nat), Hid (RangeF kindSH wr n0 (S + 3) n H pend cnt) ∧ Hid (HEnv PE (S + 1) (n0 + 1) (S + 1 + 1) S n0 n n0 wr) ∧ Hid (MapF kindSI wr S cntD (dnF K)) ∧ Hid (KnownB PE K []) ∧ cntD + 2 * freeB PE K ≤ 5000 ∧
        Hid (∀ s, pend s → (H s).isSome = true) ∧ Hid (∀ s, s.size ≤ maxLen → (H s).isSome = true → pend s ∨ ∃ m, ¬ walkB PE m (sb s)) ∧ Hid (Below n0 w wr)) (fun _ wr => wr.rangeLeft n0 (S + 3))
      case atStart => exact ⟨_, cnt2, 0, fun _ => 0, HR10, HE10, HM10, Lib.hid (KnownB.start PE), by omega, Lib.hid (fun s h => h), Lib.hid (fun s _ h => .inl h), HBA⟩
      case round =>
        obtain ⟨pend, cnt, cntD, K, HR, HE, HM, HK, hcnt, HP1, HP2, HB⟩ := hrel
        clear HR10 HE10 HM10 HBA hfree
        rcases HR.out.next (fun v kl h => key_str_inv h) 0 with ⟨hc0, hl0, hrun⟩ | ⟨x, v, W2, cnt', hxo, hxp, hrun, hR2, hlt, hg2, hz2, hen⟩
        · have hcyc : cycB E = false := by
            rw [cycB_same HSM.out]
            refine no_cyc fun s t hst => ?_
            have hsl := hlen _ ((HSM.out _).2 hst)
            have h5 : (H (bs s)).isSome = true := (HPOS.out (bs s)).2 fun e => by
              have := mem_nx.2 hst
              rw [sb_bs] at e
              rw [e] at this; cases this
            have hsz : (bs s).size ≤ maxLen := by have := hsl.1; show s.length ≤ maxLen; unfold maxLen; dsimp only at this; omega
            rcases HP2.out (bs s) hsz h5 with h6 | h6
            · exact absurd h6 (hl0 (bs s) hsz)
            · exact h6
          have HN0' := HN0.out
          go_wp2_with fail
          go_ret
          rw [hcyc, ← HN0']
          exact ⟨rfl, HB.out⟩
        · obtain ⟨i, rfl⟩ : ∃ i, x = bs i := ⟨sb x, rfl⟩
          have hni : nx PE i ≠ [] := (HPOS.out (bs i)).1 (HP1.out _ hxp)
          obtain ⟨t, ht⟩ := List.exists_mem_of_ne_nil _ hni
          have hin : i ∈ nodesB PE := node_from (mem_nx.1 ht)
          obtain ⟨o, ho1, ho2⟩ := HR.out.block
          have hE2 := HE.out.nc ho1 ho2 (by omega) hg2
          have hm2 := HM.out.kept hg2 (by simp)
          have hB2 := HB.out.grown hg2 (by have := HB.out.size; have := HN0.out; omega) (fun k e => by cases e; omega)
          have V := Lib.hid (hvisit_calls PE (S + 1) (n0 + 1) (S + 1 + 1) S n0 n n0 (fun s hs => by
            rcases List.mem_append.1 hs with h | h
            · obtain ⟨b, hb, rfl⟩ := List.mem_map.1 h
              exact (hlen b ((HSM.out b).2 hb)).1
            · obtain ⟨b, hb, rfl⟩ := List.mem_map.1 h
              exact (hlen b ((HSM.out b).2 hb)).2) (by omega) (freeB PE K) 5000 i cntD K [] W2 (Nat.le_refl _) (by omega) hin HK.out (fun s h => absurd h List.not_mem_nil) hE2 hm2 hcnt)
          have e3 := hE2.v.cell
          have l3 := hE2.v.lt
          have hen' : (Instr.entry (.pointer (some ⟨S + 3, 0, none⟩))).run Try.prog W2 = .ok (.tuple #[.string (bs i), v]) W2 := hen
          have hrun' : (Instr.next (.pointer (some ⟨S + 3, 0, none⟩)) false 0).run Try.prog wr = .ok (.tuple #[.bool true, .string (bs i), v]) W2 := hrun
          have hbD : S < W2.heap.size := hm2.lt
          have HE2 := Lib.hid hE2
          have HM2 := Lib.hid hm2
          have HR2 := Lib.hid hR2
          have HB2 := Lib.hid hB2
          clear hen hrun hE2 hm2 hR2 hB2 hg2 hz2 ht hni hin
          go_wp2_with fail
          refine V.out.mono ?_
          rintro e Y ⟨r, K2, cnt3, rfl, r1, r2, r3, r4, r5⟩
          have HBY : Hid (Below n0 w Y) := Lib.hid (HB2.out.grown r5 (by have := HB2.out.size; have := HN0.out; omega) (fun k e => by cases e; omega))
          cases r with
          | true =>
            have hcyc : cycB E = true := by
              rw [cycB_same HSM.out]
              exact (cyc_iff PE).2 (r1 rfl)
            clear r1 r2 r3 r5
            have HN0' := HN0.out
            go_wp2_with fail
            go_ret
            rw [hcyc, ← HN0']
            exact ⟨rfl, HBY.out⟩
          | false =>
            obtain ⟨q1, q2, q3⟩ := r2 rfl
            have HEY := Lib.hid (HE2.out.map HM2.out r5)
            have HRY := Lib.hid (HR2.out.kept r5 (by simp; omega) (by simp))
            have R3 := Lib.hid r3
            have Q1 := Lib.hid q1
            have HP3 : Hid (∀ s, (pend s ∧ s ≠ bs i) → (H s).isSome = true) := Lib.hid fun s h => HP1.out s h.1
            have HP4 : Hid (∀ s, s.size ≤ maxLen → (H s).isSome = true → (pend s ∧ s ≠ bs i) ∨ ∃ m, ¬ walkB PE m (sb s)) := Lib.hid fun s h h' => by
              by_cases e : s = bs i
              · right; rw [e, sb_bs]; exact q3
              · rcases HP2.out s h h' with h6 | h6
                · exact .inl ⟨h6, e⟩
                · exact .inr h6
            clear r1 r2 r3 r5 q1 q2 q3 hen' hrun' e3 l3
            go_wp2_with fail
            go_roundw
            case rel => exact ⟨_, cnt', cnt3, K2, HRY, HEY, R3, Q1, r4, HP3, HP4, HBY⟩
            case measure => rw [HRY.out.left_eq, HR.out.left_eq]; omega
    · have hob : ∃ o, wr.heap[n0 + 2]? = some o ∧ o.isCells = false := HR.out.block
      obtain ⟨o, ho1, ho2⟩ := hob
      have hN2 := HN.out.nc ho1 ho2 (by omega) hg2
      have hX2 := HX.out.kept hg2 (by simp)
      have hB2 := HB.out.grown hg2 (by have := HB.out.size; have := HN0.out; omega) (fun k e => by cases e; omega)
      obtain ⟨x1, x2⟩ := x
      have hxl := hlen _ hxp.1
      dsimp only at hxl
      obtain ⟨W3, hW3⟩ : ∃ W3, W3 = W2.alloc (.cells #[.string (bs x1), .string (bs x2)] 93) := ⟨_, rfl⟩
      have hb23 : Below W2.heap.size W2 W3 := by rw [hW3]; exact bl_alloc (bl_refl W2) _
      have hN3 := hN2.below hb23
      obtain ⟨v3, lk3, ho3⟩ := hN3.look (s := x1) (by unfold maxLen; omega)
      have c3 : W2.cell? ⟨n0 + 1, 0, none⟩ = some (.map (some n0)) := hX2.cell
      have l3 := hX2.lt
      have hen' : (Instr.entry (.pointer (some ⟨n0 + 2, 0, none⟩))).run Try.prog W2 = .ok (.tuple #[.agg #[.string (bs x1), .string (bs x2)], v]) W2 := hen
      have hrun' : (Instr.next (.pointer (some ⟨n0 + 2, 0, none⟩)) false 0).run Try.prog wr = .ok (.tuple #[.bool true, .agg #[.string (bs x1), .string (bs x2)], v]) W2 := hrun
      rw [hW3] at lk3
      clear hen hrun hz2
      go_wp2_with fail
      rw [← hW3]
      rw [← hW3] at lk3
      obtain ⟨kb, hkb⟩ : ∃ kb, kb = W2.heap.size := ⟨_, rfl⟩
      have hWh : Whole W3 W2.heap.size 93 #[.string (bs x1), .string (bs x2)] := by rw [hW3]; exact Whole.new W2 _ _
      have d1 : W3.cell? ⟨n0 + 1, 0, none⟩ = some (.map (some n0)) := (boxed_below hX2 hb23).cell
      have ag : v3.ownBlock ≠ some (n0 + 1) := by
        rcases own_ne ho3 (boxed_typ (boxed_below hX2 hb23) (by decide)) with h | h
        · rw [h]; simp
        · exact h
      have ak : v3.ownBlock ≠ some kb := by
        rcases own_ne ho3 (r := kb) (fun cur h => by
          rw [hkb] at h
          unfold Whole at hWh
          rw [hWh] at h
          injection h with h
          injection h with _ h
          exact absurd h (by decide)) with h | h
        · rw [h]; simp
        · exact h
      rw [← hkb]
      rw [← hkb] at hWh
      have d2 : W3.cell? ⟨kb, 0, none⟩ = some (.string (bs x1)) := (hWh.cell 0).trans rfl
      have d3 : W3.cell? ⟨kb, 1, none⟩ = some (.string (bs x2)) := (hWh.cell 1).trans rfl
      have lb := hWh.lt
      have lx := (boxed_below hX2 hb23).lt
      have hnk : n0 < kb := by rw [hkb]; have := hX2.lt; omega
      have hn0k : n0 < W3.heap.size := by omega
      have hnl3 : (Go.Proofs.Ytnamafakjkcmjaa.nx PE x1).length ≤ 1000 := by
        unfold Go.Proofs.Ytnamafakjkcmjaa.nx
        rw [List.length_map]
        exact Nat.le_trans (List.length_filter_le _ _) hPl
      have hnn : n < maxLen := by unfold maxLen; omega
      have hxs : x1.length ≤ maxLen := by unfold maxLen; omega
      have e1 : n0 + 1 ≠ n0 := by omega
      have e2 : kb ≠ n0 := by omega
      have HN3 := Lib.hid hN3
      have HO3 := Lib.hid ho3
      have HLK := Lib.hid lk3
      have HX3 := Lib.hid (boxed_below hX2 hb23)
      have HR3 := Lib.hid (hR2.below hb23)
      have HB3 := Lib.hid (hB2.trans (hb23.mono (by rw [← hkb]; omega)))
      have HHP : Hid ((PE ++ [(x1, x2)]).Nodup ∧ ∀ b ∈ PE ++ [(x1, x2)], b ∈ E) := Lib.hid ⟨List.nodup_append.2 ⟨HP.out.1, by simp, fun a ha b hb => by rw [List.mem_singleton.1 hb]; rintro rfl; exact hxp.2 ha⟩, fun b hb => by
        rcases List.mem_append.1 hb with h | h
        · exact HP.out.2 b h
        · rw [List.mem_singleton.1 h]; exact hxp.1⟩
      have hsz3 : n0 + 3 ≤ W3.heap.size := by have := hR2.lt; have := hb23.size; omega
      have HRC := Lib.hid HR.out.left_eq
      clear hN3 lk3 hX2 hN2 hR2 hB2 hb23 hW3 hrun' hen' c3 l3 hkb ho1 HR HX HN HB hWh
      obtain ⟨NX, hNX⟩ : ∃ NX, NX = (Go.Proofs.Ytnamafakjkcmjaa.nx PE x1).length := ⟨_, rfl⟩
      have HNX := Lib.hid hNX
      rw [← hNX] at ho3 hnl3
      clear hNX
      go_region_held3 (fun w' => w'.cell? ⟨n0 + 1, 0, none⟩ = some (.map (some n0)) ∧ w'.cell? ⟨kb, 0, none⟩ = some (.string (bs x1)) ∧ w'.cell? ⟨kb, 1, none⟩ = some (.string (bs x2)))
        (first
          | go_keep
          | (go_split_ands
             refine ⟨?_, ?_, ?_⟩
             · (rw [hgrow.cell_far _ (by simp; omega) (Ne.symm ag)]; assumption)
             · (rw [hgrow.cell_far _ (by simp; omega) (Ne.symm ak)]; assumption)
             · (rw [hgrow.cell_far _ (by simp; omega) (Ne.symm ak)]; assumption))
          | (go_split_ands
             refine ⟨?_, ?_, ?_⟩
             · (rw [hg5.cell_far _ (by simp; omega) (by simp)]; assumption)
             · (rw [hg5.cell_far _ (by simp; omega) (by simpa using e2)]; assumption)
             · (rw [hg5.cell_far _ (by simp; omega) (by simpa using e2)]; assumption)))
        ((refine step_append_lies _ (by rfl) _ _ _ (by rfl) n0 9 j0 _ 1 16 Try.underlying22 hj jz0 jz1 jz2 rfl (by omega) v3 NX _ (by rfl) ((ho3.alloc _).drew)
              ⟨W3.heap.size, 0, none⟩ 1 1 [.string (bs x2)] (by rfl) (by rfl) (World.news_of_block (cs := #[.string (bs x2)]) (t := 9) (fr := (0, 0)) (heap_alloc_new W3 _)) (by simp [Value.oneCell'])
              (by omega) (by unfold maxLen; omega) (by omega) (by simp; omega) (W3.heap.size + 1) (by simp) ?_; intro gg cap w1 hown1 hgrow hat hlt; (have hgg : W3.grownBy w1 v3.ownBlock := ((grown_alloc W3 (.cells #[.string (bs x2)] 9) _).trans (grown_drew _ 1 |>.but _)).trans hgrow); (have hw1 := hgg.size); (rw [HNX.out] at hown1); (obtain ⟨W5, hup, hN5, hg5⟩ := HN3.out.push hxs hnn HLK.out HO3.out hown1 hgg (hat.imp id (by omega))); (rw [← HNX.out] at hup)))
      have hnr : some (n0 + 2) ≠ v3.ownBlock := by
        obtain ⟨o', ho', hc'⟩ := HR3.out.block
        rcases own_ne HO3.out (r := n0 + 2) (fun cur h => by rw [h] at ho'; cases ho'; cases hc') with h | h
        · rw [h]; simp
        · exact fun e => h e.symm
      have HR5 := Lib.hid (((HR3.out.kept hgg (HR3.out.mapF.ne_own HO3.out) hnr).kept hg5 (by simp; omega) (by simp)).same (pend' := fun b => b ∈ E ∧ b ∉ PE ++ [(x1, x2)]) fun b _ => by
        rw [List.mem_append, List.mem_singleton, not_or, and_assoc])
      have HX5 := Lib.hid ((HX3.out.kept hgg (fun e => ag e.symm)).kept hg5 (by simp))
      have HB5 := Lib.hid ((HB3.out.grown hgg (by omega) (fun k e => (HO3.out.lt k e).1)).grown hg5 (by omega) (fun k e => by cases e; omega))
      clear hup hgrow hown1
      go_wp2_with fail
      go_roundw
      case rel => exact ⟨PE ++ [(x1, x2)], cnt', n + 1, HR5, hN5, HX5, HB5, HHP, by simp [hnl]⟩
      case measure => rw [HR5.out.left_eq, HRC.out]; omega
end Go.Proofs.Ytnamafakjkcmjaa
