/-
  rings.
-/
import Derived.Test.YtnamafakjkcmjaaMB
import Derived.Test.YtnamafakjkcmjaaT21
namespace Go.Proofs.Ytnamafakjkcmjaa
open Go.RowKit Go.Shelf
set_option linter.unusedVariables false
set_option linter.unusedSimpArgs false

/-- The words that are known. -/
def knB (L : List Str) : ByteArray → Option Bool := fun s => if sb s ∈ L then some true else none
theorem knB_at (L : List Str) (s : Str) : ((knB L (bs s)).getD false) = decide (s ∈ L) := by
  unfold knB
  rw [sb_bs]
  by_cases h : s ∈ L <;> simp [h]
theorem knB_add (L : List Str) (t : Str) (u : ByteArray) : (if u = bs t then some true else knB L u) = knB (t :: L) u := by
  unfold knB
  by_cases e : u = bs t
  · subst e; simp [sb_bs]
  · have e2 : ¬ sb u = t := fun h => e (by rw [← h]; rfl)
    rw [if_neg e]
    simp [e2]
theorem infoSs : (Try.prog.info? 22).map (fun i => (i.zero, i.size, i.bytes)) = some (some (.slice none 0 0), 1, 24) := by kernel_rfl
theorem turn_bs {s : Str} {i : Nat} (h : i ≤ s.length) : (bs s).extract i (bs s).size ++ (bs s).extract 0 i = bs (turnL s i) := by
  apply sb_inj
  rw [sb_append]
  unfold sb bs turnL
  simp [ByteArray.size]
  exact List.take_of_length_le (by simp)
theorem RowsV.map {α β : Type} {mk : MapKind Try.prog α β} {b n : Nat} {f : α → Option β} {w w' : World} {B : Nat} {e : TypeId} {hdrs : List Value} {R : List (List Value)} (h : RowsV w B e hdrs R) (hm : MapF mk w b n f) (hg : w.grownBy w' (some b)) : RowsV w' B e hdrs R := by
  obtain ⟨es, clock, hb⟩ := hm.block
  exact h.grown hg fun r hr => .inr (by cases hr; intro cur h6; rw [hb] at h6; cases h6)
theorem own_typ' {w : World} {base : Nat} {e e' : TypeId} {n : Nat} {v : Value} {xs : List Value} (h : w.ownsRow base e 1 v n xs) (hne : e ≠ e') : ∀ r, v.ownBlock = some r → ∀ cur, w.heap[r]? ≠ some (.cells cur e' (0, 0)) := by
  intro r hr
  rcases h.2 with ⟨rfl, _⟩ | ⟨g, cap, cur, rfl, h3⟩
  · cases hr
  · have e2 : g = r := by simpa [Value.ownBlock] using hr
    subst e2
    exact own_typ (cap := cap) (n := n) ⟨h.1, .inr ⟨g, cap, cur, rfl, h3⟩⟩ hne
set_option maxRecDepth 100000 in
set_option maxHeartbeats 4000000 in
theorem rings_any (q n : Nat) (hq : 1 ≤ q ∧ q ≤ 3) (hn : 1 ≤ n ∧ n ≤ 5) (w : World) :
    Calls Try.prog 51 #[.int .i64 q, .int .i64 n] w fun e w' => ∃ v hdrs, e = .returned v ∧ w'.ownsRow w.heap.size 22 1 v (ringsL q n).length hdrs ∧ RowsV w' w'.heap.size 9 hdrs ((ringsL q n).map encS) ∧ Below w.heap.size w w' := by
  have hmm := @run_makeMap Try.prog
  obtain ⟨i0, hi, hz0, hz1, hz2⟩ := info_parts infoS
  obtain ⟨j0, hj, jz0, jz1, jz2⟩ := info_parts infoSs
  have WA := Lib.hid fun W => words_any q n hq hn.2 W
  have SA := Lib.hid fun L b n c base W h1 h2 h3 h4 => sorted_any L b n c base W h1 h2 h3 h4
  have M0 := Lib.hid (MapF.made kindSB w)
  go_enter Try.func51, Try.ntmps51
  go_wp2_with fail
  refine (WA.out _).mono ?_
  rintro e w1 ⟨v1, rfl, ho, r1⟩
  have hfew := words_few hq.2 hn.2
  have hpos : 0 < (wordsL q n).length := by rw [words_len]; exact Nat.pow_pos hq.1
  obtain ⟨N, hN⟩ : ∃ N, N = (wordsL q n).length := ⟨_, rfl⟩
  have HN := Lib.hid hN
  rw [← hN] at ho hfew hpos
  clear hN
  obtain ⟨g1, c1, rfl, hg1, hg12⟩ := own_form ho hpos
  have hrd : Hid (∀ j, ∀ h : j < (wordsL q n).length, w1.cell? ⟨g1, j, none⟩ = some (.string (bs (wordsL q n)[j]))) := Lib.hid fun j h => by
    rw [ho.cellAt j (by have := HN.out; omega)]
    unfold encS
    rw [List.getElem?_map, List.getElem?_eq_getElem h]
    rfl
  have M1 := Lib.hid ((M0.out.below r1).same (g := knB []) fun x => by simp [knB])
  have hb1 : w.heap.size < w1.heap.size := (M0.out.below r1).lt
  have hgw : w.heap.size ≠ g1 := by simp at hg1; omega
  have B1 : Hid (Below w.heap.size w w1) := Lib.hid ((bl_alloc (bl_refl w) (.map #[] 0)).trans (r1.mono (by simp)))
  clear ho r1 M0 WA hmm hg1
  obtain ⟨b, hb⟩ : ∃ b, b = w.heap.size := ⟨_, rfl⟩
  have HBW := Lib.hid hb
  rw [← hb] at hgw hb1 B1 M1
  rw [← hb]
  clear hb
  go_wp2_with fail
  go_loopw [5, 17] (fun v i wr => ∃ (k : Nat) (hdrs : List Value) (cnt : Nat), k ≤ N ∧ i = .int .i64 k ∧ Hid (MapF kindSB wr b cnt (knB (ringsF n ((wordsL q n).take k)).1)) ∧ cnt ≤ 5 * k ∧ Hid (wr.ownsRow w1.heap.size 22 1 v (ringsF n ((wordsL q n).take k)).2.length hdrs) ∧
    Hid (RowsV wr wr.heap.size 9 hdrs ((ringsF n ((wordsL q n).take k)).2.map encS)) ∧ Hid (w1.grownBy wr (some b))) (fun _ i _ => N - (intOf i).toNat)
  case atStart =>
    refine ⟨0, [], 0, Nat.zero_le _, rfl, M1, Nat.le_refl _, Lib.hid (World.ownsRow_nil _ _ _ _), Lib.hid (RowsV.nil _ _ _), Lib.hid (grown_refl _ _)⟩
  case round =>
    obtain ⟨k, hdrs, cnt, hk, rfl, HM, hcnt, HO, HR, HG⟩ := hrel
    clear M1
    by_cases hkN : k < N
    · have hkw : k < (wordsL q n).length := by have := HN.out; omega
      have hrl := ringsF_len n (wordsL q n) k (by omega)
      have hst := ringsF_succ (n := n) hkw
      obtain ⟨s, hs⟩ : ∃ s, s = (wordsL q n)[k] := ⟨_, rfl⟩
      have hsl : s.length = n := by rw [hs]; exact ((mem_words q n _).1 (List.getElem_mem hkw)).1
      have ce : wr.cell? ⟨g1, k, none⟩ = some (.string (bs s)) := by
        rw [hs, ← hrd.out k hkw]
        exact World.cell?_of_block (HG.out.block g1 hg12 (by simpa using fun e => hgw e.symm))
      have lg : g1 < wr.heap.size := Nat.lt_of_lt_of_le hg12 HG.out.size
      rw [← hs] at hst
      have lk := HM.out.look (x := bs s) (by show s.length ≤ maxLen; unfold maxLen; omega)
      dsimp only [kindSB] at lk
      rw [knB_at] at lk
      obtain ⟨ko, hko⟩ : ∃ ko, ko = ringsF n ((wordsL q n).take k) := ⟨_, rfl⟩
      rw [← hko] at lk hst hrl HM HO HR
      have HST := Lib.hid hst
      clear hst hs hko
      have lb : b < wr.heap.size := Nat.lt_of_lt_of_le hb1 HG.out.size
      by_cases hmem : s ∈ ko.1
      · rw [decide_eq_true hmem] at lk
        have e : ringsF n ((wordsL q n).take (k + 1)) = ko := by rw [HST.out]; exact if_pos hmem
        have HM2 : Hid (MapF kindSB wr b cnt (knB (ringsF n ((wordsL q n).take (k + 1))).1)) := by rw [e]; exact HM
        have HO2 : Hid (wr.ownsRow w1.heap.size 22 1 u5 (ringsF n ((wordsL q n).take (k + 1))).2.length hdrs) := by rw [e]; exact HO
        have HR2 : Hid (RowsV wr wr.heap.size 9 hdrs ((ringsF n ((wordsL q n).take (k + 1))).2.map encS)) := by rw [e]; exact HR
        clear e hmem HM HO HR
        go_wp2_with fail
        go_roundw
        case rel => exact ⟨k + 1, hdrs, cnt, by omega, by go_num, HM2, by omega, HO2, HR2, HG⟩
        case measure => simp [intOf]; omega
      · rw [decide_eq_false hmem] at lk
        have HMEM := Lib.hid hmem
        clear hmem
        go_wp2_with fail
        clear lk ce lg
        generalize wr = W0 at *
        have HM0 := HM
        have HG0 := HG
        obtain ⟨b1, hb1', hb2'⟩ : ∃ es clock, W0.heap[b]? = some (.map es clock) := HM.out.block
        have HBM : Hid (∃ o, W0.heap[b]? = some o ∧ o.isCells = false) := Lib.hid ⟨_, hb2', rfl⟩
        clear hb2'
        go_loopw [9, 25] (fun v i wx => ∃ (j : Nat) (cnt' : Nat), j ≤ n ∧ i = .int .i64 j ∧ Hid (MapF kindSB wx b cnt' (knB (ringF s j (ko.1, [])).1)) ∧ cnt' ≤ cnt + j ∧ Hid (wx.ownsRow W0.heap.size 9 1 v (ringF s j (ko.1, [])).2.length (encS (ringF s j (ko.1, [])).2)) ∧ Hid (W0.grownBy wx (some b))) (fun _ i _ => n - (intOf i).toNat)
        case atStart => exact ⟨0, cnt, Nat.zero_le _, rfl, HM0, Nat.le_refl _, Lib.hid (World.ownsRow_nil _ _ _ _), Lib.hid (grown_refl _ _)⟩
        case round =>
          obtain ⟨j, cnt', hjle, rfl, HMj, hcj, HOj, HGj⟩ := hrel
          clear HM0 HG0
          by_cases hjn : j < n
          · have hsz : (bs s).size = n := hsl
            have htb := turn_bs (s := s) (i := j) (by omega)
            rw [hsz] at htb
            have hji : (j : Int) ≤ n := by omega
            go_wp2_with fail
            go_quiet (fail)
            have HMd := Lib.hid (HMj.out.kept (grown_drew wr nq) (by simp))
            have HOd := Lib.hid (HOj.out.kept (grown_drew wr nq) (by cases h : u9.ownBlock <;> simp))
            have HGd := Lib.hid (HGj.out.trans ((grown_drew wr nq).but _))
            generalize wr.drewN nq = W1 at *
            obtain ⟨tt, htt⟩ : ∃ tt, tt = turnL s j := ⟨_, rfl⟩
            have htl : tt.length = n := by rw [htt, turnL_len]; exact hsl
            have hok : (bs tt).size ≤ maxLen := by show tt.length ≤ maxLen; unfold maxLen; omega
            have lk := HMd.out.look (x := bs tt) hok
            dsimp only [kindSB] at lk
            rw [knB_at] at lk
            obtain ⟨kr, hkr⟩ : ∃ kr, kr = ringF s j (ko.1, []) := ⟨_, rfl⟩
            have hrl := ringF_len s ko.1 j
            have HOLD : Hid (tt ∈ kr.1 → ringF s (j + 1) (ko.1, []) = kr) := Lib.hid fun h => by rw [hkr]; exact ringF_old (by rw [← htt, ← hkr]; exact h)
            have HNEW : Hid (tt ∉ kr.1 → ringF s (j + 1) (ko.1, []) = (tt :: kr.1, kr.2 ++ [tt])) := Lib.hid fun h => by rw [hkr, htt]; exact ringF_new (by rw [← htt, ← hkr]; exact h)
            rw [← hkr] at lk HMd HOd hrl
            rw [← htt]
            clear htt hkr HMj HOj HGj
            by_cases hmem : tt ∈ kr.1
            · rw [decide_eq_true hmem] at lk
              have e := HOLD.out hmem
              have HM2 : Hid (MapF kindSB W1 b cnt' (knB (ringF s (j + 1) (ko.1, [])).1)) := by rw [e]; exact HMd
              have HO2 : Hid (W1.ownsRow W0.heap.size 9 1 u9 (ringF s (j + 1) (ko.1, [])).2.length (encS (ringF s (j + 1) (ko.1, [])).2)) := by rw [e]; exact HOd
              clear e hmem HMd HOd htb
              go_wp2_with fail
              go_roundw
              case rel => exact ⟨j + 1, cnt', by omega, by go_num, HM2, by omega, HO2, HGd⟩
              case measure => simp [intOf]; omega
            · rw [decide_eq_false hmem] at lk
              have e := HNEW.out hmem
              obtain ⟨W2, hup, hm2, hg2⟩ := HMd.out.store (x := bs tt) (y := true) hok trivial (by unfold maxLen; omega)
              have hm2 := Lib.hid (hm2.same (knB_add kr.1 tt))
              dsimp only [kindSB] at hup
              have ho2 := own_map HOd.out HMd.out hg2
              have HG2 := Lib.hid (HGd.out.trans hg2)
              have lw : W0.heap.size ≤ W2.heap.size := HG2.out.size
              clear hmem HMd HOd htb HGd hg2
              go_wp2_with (at_builtin; refine wpList_append_own _ rfl (.tmp 41) (.tmp 43) _ rfl W0.heap.size 9 i0 _ 1 16 Try.underlying22 hi hz0 hz1 hz2 rfl (by decide) _ kr.2.length (encS kr.2) rfl (ho2.alloc _) ⟨W2.heap.size, 0, none⟩ 1 1 [.string (bs tt)] rfl rfl (cells_new _ _ _) (by intro u hu; rw [List.mem_singleton.1 hu]; rfl) (by unfold maxLen; omega) (by omega) (by simp; omega) ?_; intro v6 w6 hown6 hg6 _)
              rw [← encS_snoc] at hown6
              have hoA := ho2.alloc (.cells #[.string (bs tt)] 9)
              have hmA := hm2.out.below (bl_alloc (bl_refl W2) (.cells #[.string (bs tt)] 9))
              have HM6 : Hid (MapF kindSB w6 b (cnt' + 1) (knB (ringF s (j + 1) (ko.1, [])).1)) := Lib.hid (by rw [e]; exact hmA.kept hg6 (hmA.ne_own hoA))
              have HO6 : Hid (w6.ownsRow W0.heap.size 9 1 v6 (ringF s (j + 1) (ko.1, [])).2.length (encS (ringF s (j + 1) (ko.1, [])).2)) := Lib.hid (by rw [e]; simpa using hown6)
              have HG6 : Hid (W0.grownBy w6 (some b)) := Lib.hid ((HG2.out.trans (World.grownBy_alloc W2 (.cells #[.string (bs tt)] 9) (some b))).andThen hg6 (fun r hr => .inl (hoA.lt r hr).1))
              clear hg6 hoA hmA hm2 ho2 hup hown6 e
              go_wp2_with fail
              go_roundw
              case rel => exact ⟨j + 1, cnt' + 1, by omega, by go_num, HM6, by omega, HO6, HG6⟩
              case measure => simp [intOf]; omega
          · have ej : n = j := by omega
            subst ej
            have e : ringsF n ((wordsL q n).take (k + 1)) = ((ringF s n (ko.1, [])).1, ko.2 ++ [sortS (ringF s n (ko.1, [])).2]) := by rw [HST.out]; exact if_neg HMEM.out
            have hrp : 0 < (ringF s n (ko.1, [])).2.length := by
              obtain ⟨m, rfl⟩ : ∃ m, n = m + 1 := ⟨n - 1, by omega⟩
              exact ringF_pos HMEM.out m
            have hrl5 := ringF_len s ko.1 n
            obtain ⟨kr, hkr⟩ : ∃ kr, kr = ringF s n (ko.1, []) := ⟨_, rfl⟩
            rw [← hkr] at HMj HOj e hrp hrl5
            obtain ⟨g9, c9, rfl, hg9, hg92⟩ := own_form HOj.out hrp
            have SO := Lib.hid (SA.out kr.2 g9 kr.2.length c9 W0.heap.size wr rfl hrp (by omega) HOj.out)
            have HO1 : Hid (wr.ownsRow w1.heap.size 22 1 u5 ko.2.length hdrs) := Lib.hid (own_nc HO.out HBM.out.choose_spec.1 HBM.out.choose_spec.2 HGj.out)
            have HR1 : Hid (RowsV wr wr.heap.size 9 hdrs (ko.2.map encS)) := Lib.hid ((HR.out.map HM.out HGj.out).mono HGj.out.size)
            have HG1 : Hid (w1.grownBy wr (some b)) := Lib.hid (HG.out.trans HGj.out)
            obtain ⟨RN, hRN⟩ : ∃ RN, RN = kr.2.length := ⟨_, rfl⟩
            have HRN := Lib.hid hRN
            rw [← hRN] at SO hrl5 hrp ⊢
            have hsW : w1.heap.size ≤ wr.heap.size := HG1.out.size
            clear hkr HO HR HG HGj hRN HM HBM HOj
            go_wp2_with fail
            refine SO.out.mono ?_
            rintro e2 w5 ⟨v5, rfl, hs5, hb5⟩
            obtain ⟨g5, c5, rfl, _, _⟩ := own_form hs5 hrp
            have hO5 := own_kept HO1.out hb5
            have hR5 := (HR1.out.kept hb5).mono hb5.size
            have hR6 := Lib.hid (hR5.snoc (Nat.le_refl _) hs5 hrp)
            have HM5 := Lib.hid (HMj.out.below hb5)
            have HG5 := Lib.hid (HG1.out.trans (show wr.grownBy w5 (some b) from ⟨hb5.os, hb5.tape, hb5.output, hb5.size, fun k hk _ => hb5.block k hk⟩))
            have hsw5 := hb5.size
            clear hR5 hb5 HMj HG1 HO1 HR1
            go_wp2_with (at_builtin; refine wpList_append_own _ rfl (.tmp 46) (.tmp 49) _ rfl w1.heap.size 22 j0 _ 1 24 Try.underlying89 hj jz0 jz1 jz2 rfl (by decide) _ ko.2.length hdrs rfl (hO5.alloc _) ⟨w5.heap.size, 0, none⟩ 1 1 [.slice (some ⟨g5, 0, none⟩) RN c5] rfl rfl (cells_new _ _ _) (by intro u hu; rw [List.mem_singleton.1 hu]; rfl) (by unfold maxLen; omega) (by omega) (by simp; omega) ?_; intro v6 w6 hown6 hg6 _)
            have hoA := hO5.alloc (.cells #[.slice (some ⟨g5, 0, none⟩) RN c5] 22)
            have hRA := (hR6.out.kept (bl_alloc (bl_refl w5) (.cells #[.slice (some ⟨g5, 0, none⟩) RN c5] 22))).grown hg6 (fun r hr => .inr (own_typ' hoA (by decide) r hr))
            have hmA := HM5.out.below (bl_alloc (bl_refl w5) (.cells #[.slice (some ⟨g5, 0, none⟩) RN c5] 22))
            have hs6 := hg6.size
            simp only [World.size_alloc] at hs6
            have HM6 : Hid (MapF kindSB w6 b cnt' (knB (ringsF n ((wordsL q n).take (k + 1))).1)) := Lib.hid (by rw [e]; exact hmA.kept hg6 (hmA.ne_own hoA))
            have HO6 : Hid (w6.ownsRow w1.heap.size 22 1 v6 (ringsF n ((wordsL q n).take (k + 1))).2.length (hdrs ++ [.slice (some ⟨g5, 0, none⟩) RN c5])) := Lib.hid (by rw [e]; simpa using hown6)
            have HR6 : Hid (RowsV w6 w6.heap.size 9 (hdrs ++ [.slice (some ⟨g5, 0, none⟩) RN c5]) ((ringsF n ((wordsL q n).take (k + 1))).2.map encS)) := Lib.hid (by
              rw [e]
              dsimp only
              rw [List.map_append]
              exact hRA.mono (by omega))
            have HG6 : Hid (w1.grownBy w6 (some b)) := Lib.hid ((HG5.out.trans (World.grownBy_alloc w5 (.cells #[.slice (some ⟨g5, 0, none⟩) RN c5] 22) (some b))).andThen hg6 (fun r hr => .inl (hoA.lt r hr).1))
            clear hg6 hoA hmA hRA hown6 e hO5 hR6 HM5 HG5 hs5
            go_wp2_with fail
            go_roundw
            case rel => exact ⟨k + 1, hdrs ++ [.slice (some ⟨g5, 0, none⟩) RN c5], cnt', by omega, by go_num, HM6, by omega, HO6, HR6, HG6⟩
            case measure => simp [intOf]; omega
    · have ek : N = k := by omega
      subst ek
      have e : (ringsF n ((wordsL q n).take N)).2 = ringsL q n := by rw [HN.out, List.take_length]; rfl
      rw [e] at HO HR
      have HF : Hid (∃ v hdrs, Ending.returned u5 = .returned v ∧ wr.ownsRow w.heap.size 22 1 v (ringsL q n).length hdrs ∧ RowsV wr wr.heap.size 9 hdrs ((ringsL q n).map encS) ∧ Below w.heap.size w wr) := Lib.hid ⟨u5, hdrs, rfl, own_low HO.out (by have := HBW.out; omega), HR.out, by
        have := B1.out
        rw [HBW.out] at this
        refine this.grown HG.out this.size (fun k e => by cases e; have := HBW.out; omega)⟩
      clear e HO HR
      go_wp2_with fail
      go_ret
      exact HF.out
end Go.Proofs.Ytnamafakjkcmjaa
