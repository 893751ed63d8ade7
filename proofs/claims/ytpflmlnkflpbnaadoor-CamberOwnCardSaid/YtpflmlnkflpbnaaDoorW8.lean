import Derived.Test.YtpflmlnkflpbnaaDoorW7
namespace Go.Proofs.YtpflmlnkflpbnaaDoor
open Go.RowKit Go.Sort Cam
set_option linter.unusedVariables false

abbrev T3 := Int × Int × Int

theorem flat_length : ∀ ts : List T3, (flat ts).length = ts.length * 3
  | [] => rfl
  | t :: l => by simp [flat, flat_length l]; omega
theorem flat_append : ∀ ts us : List T3, flat (ts ++ us) = flat ts ++ flat us
  | [], _ => rfl
  | t :: l, us => by simp [flat, flat_append l us]
theorem flat_get : ∀ (ts : List T3) (i : Nat) (h : i < ts.length), (flat ts)[i * 3]? = some (.int .i64 ts[i].1) ∧ (flat ts)[i * 3 + 1]? = some (.int .i64 ts[i].2.1) ∧ (flat ts)[i * 3 + 2]? = some (.int .i64 ts[i].2.2)
  | [], i, h => by simp at h
  | t :: l, 0, h => ⟨rfl, rfl, rfl⟩
  | t :: l, i + 1, h => by
    have := flat_get l i (by simpa using h)
    have e : (i + 1) * 3 = i * 3 + 3 := by omega
    simpa [flat, e] using this

/-- The value v is a slice that reads as the triples ts. -/
def RowT (w : World) (v : Value) (ts : List T3) : Prop :=
  (v = .slice none 0 0 ∧ ts = []) ∨ ∃ g cap, v = .slice (some ⟨g, 0, none⟩) ts.length cap ∧ g < w.heap.size ∧
    ∀ i (h : i < ts.length), w.cell? ⟨g, i * 3, none⟩ = some (.int .i64 ts[i].1) ∧ w.cell? ⟨g, i * 3 + 1, none⟩ = some (.int .i64 ts[i].2.1) ∧ w.cell? ⟨g, i * 3 + 2, none⟩ = some (.int .i64 ts[i].2.2)

theorem rowT_own {w : World} {base : Nat} {e : TypeId} {v : Value} {ts : List T3} (h : w.ownsRow base e 3 v ts.length (flat ts)) : RowT w v ts := by
  rcases h.2 with ⟨rfl, h0⟩ | ⟨g, cap, cur, rfl, hb, hg, _⟩
  · exact .inl ⟨rfl, List.eq_nil_of_length_eq_zero h0⟩
  · refine .inr ⟨g, cap, rfl, (Array.getElem?_eq_some_iff.1 hg).1, fun i hi => ?_⟩
    obtain ⟨a, b, c⟩ := flat_get ts i hi
    exact ⟨(h.cellAt _ (by omega)).trans a, (h.cellAt _ (by omega)).trans b, (h.cellAt _ (by omega)).trans c⟩
theorem RowT.kept {w w' : World} {v : Value} {ts : List T3} (h : RowT w v ts) (hb : Below w.heap.size w w') : RowT w' v ts := by
  rcases h with h | ⟨g, cap, rfl, hg, hc⟩
  · exact .inl h
  · refine .inr ⟨g, cap, rfl, Nat.lt_of_lt_of_le hg hb.size, fun i hi => ?_⟩
    obtain ⟨a, b, c⟩ := hc i hi
    exact ⟨(hb.cell (p := ⟨g, _, none⟩) hg).trans a, (hb.cell (p := ⟨g, _, none⟩) hg).trans b, (hb.cell (p := ⟨g, _, none⟩) hg).trans c⟩

theorem t3_eq (t u : T3) : (decide (t.1 = u.1 ∧ t.2.1 = u.2.1 ∧ t.2.2 = u.2.2)) = decide (t = u) := by
  obtain ⟨a, b, c⟩ := t; obtain ⟨d, e, f⟩ := u; simp

theorem same_len (a b : Value) (A B : Option Addr) (n m c d : Nat) (w : World) (ha : a = .slice A n c) (hb : b = .slice B m d) (h : n ≠ m) (hn : n ≤ maxLen) (hm : m ≤ maxLen) :
    Calls Tryd.prog 8 #[a, b] w fun e w' => e = .returned (.bool false) ∧ w = w' := by
  subst ha hb
  unfold maxLen at hn hm
  have hne : ((n : Int) == (m : Int)) = false := by simp; omega
  clear h
  go_enter Tryd.func8, Tryd.ntmps8
  go_wp2
  go_ret
  exact ⟨rfl, rfl⟩

theorem same_nil (A B : Option Addr) (c d : Nat) (w : World) :
    Calls Tryd.prog 8 #[.slice A 0 c, .slice B 0 d] w fun e w' => e = .returned (.bool true) ∧ w = w' := by
  go_enter Tryd.func8, Tryd.ntmps8
  go_wp2
  refine wp_loop_rounds 1 ?_; rw [rounds_succ]
  go_wp2
  go_ret
  exact ⟨rfl, rfl⟩

set_option maxHeartbeats 400000 in
theorem same_any (a b : Value) (ts us : List T3) (w : World) (ha : RowT w a ts) (hb : RowT w b us) (hn : ts.length ≤ 1000000) (hm : us.length ≤ 1000000) :
    Calls Tryd.prog 8 #[a, b] w fun e w' => e = .returned (.bool (decide (ts = us))) ∧ ∃ n, w' = w.drewN n := by
  by_cases hl : ts.length = us.length
  · rcases ha with ⟨rfl, rfl⟩ | ⟨g, cap, rfl, hg, hc⟩
    · obtain rfl : us = [] := List.eq_nil_of_length_eq_zero hl.symm
      have fb : ∃ A c, b = .slice A 0 c := by
        rcases hb with ⟨rfl, _⟩ | ⟨g, cap, rfl, _⟩
        · exact ⟨_, _, rfl⟩
        · exact ⟨_, _, rfl⟩
      obtain ⟨A, c, rfl⟩ := fb
      exact (same_nil none A 0 c w).mono fun e w' ⟨he, hw⟩ => ⟨he, 0, hw.symm⟩
    · rcases hb with ⟨rfl, rfl⟩ | ⟨g', cap', rfl, hg', hc'⟩
      · obtain rfl : ts = [] := List.eq_nil_of_length_eq_zero hl
        exact (same_nil (some ⟨g, 0, none⟩) none cap 0 w).mono fun e w' ⟨he, hw⟩ => ⟨he, 0, hw.symm⟩
      · obtain ⟨N, hN⟩ : ∃ N, N = ts.length := ⟨_, rfl⟩
        rw [← hl, ← hN]
        have hNm : N ≤ 1000000 := by omega
        have HN := Lib.hid hN
        have HL := Lib.hid hl
        have HC := Lib.hid hc
        have HC' := Lib.hid hc'
        clear hl hc hc' hN hn hm
        go_enter Tryd.func8, Tryd.ntmps8
        go_wp2
        go_loopw [5] (fun i wr => ∃ k q : Nat, k ≤ N ∧ i = .int .i64 k ∧ wr = w.drewN q ∧ Hid (ts.take k = us.take k)) (fun i _ => N - (intOf i).toNat)
        case atStart => exact ⟨0, 0, Nat.zero_le _, rfl, rfl, rfl⟩
        case round =>
          obtain ⟨k, q, hk, rfl, rfl, HT⟩ := hrel
          by_cases hlt : k < N
          · have hk1 : k < ts.length := by have := HN.out; omega
            have hk2 : k < us.length := by have := HL.out; omega
            obtain ⟨a0, a1, a2⟩ := HC.out k hk1
            obtain ⟨b0, b1, b2⟩ := HC'.out k hk2
            have E1 : Hid (ts.take (k + 1) = ts.take k ++ [ts[k]]) := by rw [List.take_succ_eq_append_getElem hk1]; rfl
            have E2 : Hid (us.take (k + 1) = us.take k ++ [us[k]]) := by rw [List.take_succ_eq_append_getElem hk2]; rfl
            generalize ts[k] = t at *
            generalize us[k] = u at *
            clear hk1 hk2 HC HC'
            have E := neA t.1 t.2.1 t.2.2 u.1 u.2.1 u.2.2
            rw [t3_eq] at E
            by_cases htu : t = u
            · rw [show decide (t = u) = true from by simp [htu]] at E
              have HE : Hid (List.take (k + 1) ts = List.take (k + 1) us) := by rw [E1.out, E2.out, HT.out, htu]; exact rfl
              clear E1 E2 HT htu
              go_wp2
              go_quiet (fail)
              go_wp2
              go_roundw
              case rel => exact ⟨k + 1, _, by omega, by go_num, rfl, HE⟩
              case measure => simp [intOf]; omega
            · rw [show decide (t = u) = false from by simp [htu]] at E
              have HF : Hid (decide (ts = us) = false) := by
                simp only [Hid, decide_eq_false_iff_not]
                intro e
                have h1 := E1.out
                rw [e, E2.out, ← e, HT.out] at h1
                exact htu (by simpa using (List.append_cancel_left h1).symm)
              clear E1 E2 HT htu
              go_wp2
              go_quiet (fail)
              go_wp2
              go_ret
              exact ⟨ret_bool HF.out.symm, q + nq, World.drewN_drewN _ _ _⟩
          · have HF : Hid (decide (ts = us) = true) := by
              have h1 := HT.out
              rw [List.take_of_length_le (by have := HN.out; omega), List.take_of_length_le (by have := HN.out; have := HL.out; omega)] at h1
              simp [Hid, h1]
            clear HT HC HC'
            go_wp2
            go_ret
            exact ⟨ret_bool HF.out.symm, _, rfl⟩
  · have fa : ∃ A c, a = .slice A ts.length c := by
      rcases ha with ⟨rfl, rfl⟩ | ⟨g, cap, rfl, _⟩
      · exact ⟨_, _, rfl⟩
      · exact ⟨_, _, rfl⟩
    have fb : ∃ A c, b = .slice A us.length c := by
      rcases hb with ⟨rfl, rfl⟩ | ⟨g, cap, rfl, _⟩
      · exact ⟨_, _, rfl⟩
      · exact ⟨_, _, rfl⟩
    obtain ⟨A, c, ea⟩ := fa
    obtain ⟨B, d, eb⟩ := fb
    refine (same_len a b A B _ _ c d w ea eb hl (by unfold maxLen; omega) (by unfold maxLen; omega)).mono ?_
    rintro e w' ⟨rfl, rfl⟩
    exact ⟨ret_bool (by simp; intro e; exact hl (by rw [e])), 0, rfl⟩

theorem own_ne {w : World} {base base' : Nat} {e e' : TypeId} {size size' : Nat} {v v' : Value} {n n' : Nat} {xs xs' : List Value} (h : w.ownsRow base e size v n xs) (h' : w.ownsRow base' e' size' v' n' xs') (hne : e ≠ e') : v.ownBlock = none ∨ v.ownBlock ≠ v'.ownBlock := by
  rcases h.2 with ⟨rfl, _⟩ | ⟨g, cap, cur, rfl, _, hg, _⟩
  · exact .inl rfl
  · rcases h'.2 with ⟨rfl, _⟩ | ⟨g', cap', cur', rfl, _, hg', _⟩
    · exact .inr (by simp [Value.ownBlock])
    · refine .inr fun hq => ?_
      have : g = g' := by simpa [Value.ownBlock] using hq
      subst this
      rw [hg] at hg'
      injection hg' with hg'
      injection hg' with _ ht
      exact hne ht
theorem kids_len (x y z : Int) : (kids x y z).length ≤ 2 := by
  unfold kids; split <;> split <;> simp

set_option maxRecDepth 100000 in
set_option maxHeartbeats 1000000 in
theorem Children_any (x y z : Int) (w : World) (h : Tri x y z) (h4 : z ≤ 1000000000) :
    Calls Tryd.prog 12 #[trip x y z] w fun e w' => ∃ v, e = .returned (.tuple #[v, .int .i64 0]) ∧ RowT w' v (kids x y z) ∧ Below w.heap.size w w' := by
  have K := Lib.hid fun W => isTriple_yes 3 x y z W (by omega) (tri_triB h h4)
  have C := Lib.hid fun W => children_any x y z W h h4
  obtain ⟨i0, hi, hz0, hz1, hz2⟩ := info_parts info22
  have hkl := kids_len x y z
  clear h
  generalize kids x y z = ts at *
  unfold trip at C ⊢
  go_enter Tryd.func12, Tryd.ntmps12
  go_wp2_with fail
  refine (K.out _).mono ?_
  rintro e w1 ⟨rfl, hb1⟩
  obtain ⟨hc1, hf1⟩ := bl_cells hb1
  have hbA := bl_then (bl_alloc (bl_alloc (bl_refl w) _) _) hb1
  go_wp2_with fail
  refine (C.out _).mono ?_
  rintro e w2 ⟨v, rfl, hown, hb2⟩
  have hbB := bl_then hbA hb2
  have hs1 := hbA.size
  clear hc1 hf1
  rcases own_forms hown with ⟨rfl, h0⟩ | ⟨g, cap, rfl⟩
  · obtain rfl := List.eq_nil_of_length_eq_zero h0
    go_wp2_with fail
    refine wp_loop_rounds 1 ?_; rw [rounds_succ]
    go_wp2_with fail
    go_ret2
    exact ⟨_, rfl, .inl ⟨rfl, rfl⟩, hbB⟩
  · go_wp2_with fail
    obtain ⟨N, hN⟩ : ∃ N, N = ts.length := ⟨_, rfl⟩
    have HN := Lib.hid hN
    rw [← hN] at hown hkl ⊢
    clear hN
    go_loopw [5, 15] (fun v i wr => ∃ k : Nat, k ≤ N ∧ i = .int .i64 k ∧ wr.ownsRow w.heap.size 32 3 v k (flat (ts.take k)) ∧ wr.ownsRow w1.heap.size 42 3 (.slice (some ⟨g, 0, none⟩) N cap) N (flat ts) ∧ Below w.heap.size w wr) (fun _ i _ => N - (intOf i).toNat)
    case atStart => exact ⟨0, Nat.zero_le _, rfl, World.ownsRow_nil _ _ _ _, hown, hbB⟩
    case round =>
      obtain ⟨k, hk, rfl, ho, hs, hb⟩ := hrel
      by_cases hlt : k < N
      · have hk1 : k < ts.length := by have := HN.out; omega
        obtain ⟨x0, x1, x2⟩ := flat_get ts k hk1
        have s0 := (hs.cellAt (k * 3) (by omega)).trans x0
        have s1 := (hs.cellAt (k * 3 + 1) (by omega)).trans x1
        have s2 := (hs.cellAt (k * 3 + 2) (by omega)).trans x2
        have ET : Hid (flat (ts.take (k + 1)) = flat (ts.take k) ++ [.int .i64 ts[k].1, .int .i64 ts[k].2.1, .int .i64 ts[k].2.2]) := by
          rw [List.take_succ_eq_append_getElem hk1]; exact flat_append _ _
        generalize ts[k] = t at *
        clear x0 x1 x2 hk1
        have hsz := hb.size
        go_wp2_with (at_builtin; refine wpList_append_own _ rfl (.tmp 19) (.tmp 21) _ rfl w.heap.size 32 i0 _ 3 24 Tryd.underlying22 hi hz0 hz1 hz2 rfl (by decide) _ k (flat (ts.take k)) rfl ((ho.alloc _).alloc _) ⟨wr.heap.size + 1, 0, none⟩ 1 1 [.int .i64 t.1, .int .i64 t.2.1, .int .i64 t.2.2] rfl rfl (cells_new2 _ _ _ _) (three_one _ _ _) (by unfold maxLen; omega) (by omega) (by simp; omega) ?_; intro v3 w3 hown3 hg3 _)
        have hB := bl_grown (bl_alloc (bl_alloc hb _) _) ((ho.alloc _).alloc _) (Nat.le_refl _) hg3
        have hs3 := ((hs.alloc _).alloc _).kept hg3 (own_ne ((hs.alloc (.cells #[.int .i64 t.1, .int .i64 t.2.1, .int .i64 t.2.2] 32)).alloc (.cells #[.int .i64 t.1, .int .i64 t.2.1, .int .i64 t.2.2] 32)) ((ho.alloc _).alloc _) (by decide))
        rw [← ET.out] at hown3
        clear hg3 ho hs s0 s1 s2
        go_wp2_with fail
        go_roundw
        case rel => exact ⟨k + 1, by omega, by go_num, hown3, hs3, hB⟩
        case measure => simp [intOf]; omega
      · have ek : k = N := by omega
        rw [List.take_of_length_le (by have := HN.out; omega), ek, HN.out] at ho
        clear hs
        have hR := Lib.hid (rowT_own ho)
        have ek' := Lib.hid ek
        clear ek ho
        go_wp2_with fail
        go_ret2
        exact ⟨_, rfl, hR.out, hb⟩
end Go.Proofs.YtpflmlnkflpbnaaDoor
