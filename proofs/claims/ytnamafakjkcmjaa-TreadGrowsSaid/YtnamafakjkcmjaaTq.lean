/-
  A region that draws its order and only reads, in the round of a loop over an iterator.
-/
import Derived.Test.YtnamafakjkcmjaaT8
import Derived.Sort.BigQuietIn
import Derived.StillTail
namespace Go.Proofs.Ytnamafakjkcmjaa
open Go.RowKit Go.Shelf
set_option linter.unusedVariables false

theorem operIn_round {F : Fence} {n : Nat} {P : Program} {o : Oper} {a : Act} {w : World} {K : Act → World → Prop} {Q : Exit → Act → World → Prop} (hro : F.round = none) (l : Nat) (hd : ∀ c, o.op ≠ .defer c) (h : o.wpIn F n P a w K Q) :
    o.wpIn (F.inRound l) n P a w K Q := by
  obtain ⟨h1, h2⟩ := h
  refine ⟨h1, ?_⟩
  rw [hro, Oper.semAt_none] at h2
  rw [show (F.inRound l).round = some l from rfl, Oper.semAt_some l _ _ hd]
  exact h2
theorem opIn_round {F : Fence} {n : Nat} {P : Program} {ops : Array Oper} {K K' : Act → World → Prop} {Q : Exit → Act → World → Prop} (hro : F.round = none) (l : Nat) (hd : ∀ o ∈ ops.toList, ∀ c, o.op ≠ .defer c) {i : Nat} {a : Act} {w : World} (hK : ∀ a w, K a w → K' a w) (h : wpOpIn F n P ops Q i K a w) :
    wpOpIn (F.inRound l) n P ops Q i K' a w := by
  have h := wpOpIn_mono hK h
  unfold wpOpIn at h ⊢
  cases ho : ops[i]? with
  | none => simp only [ho] at h ⊢; exact h
  | some o =>
    simp only [ho] at h ⊢
    split
    · rename_i hw
      simp only [hw, if_true] at h
      exact operIn_round hro l (hd o (Array.mem_toList_iff.2 (Array.mem_of_getElem? ho))) h
    · rename_i hw
      simp only [hw] at h
      exact h
theorem anyIn_round {F : Fence} {n : Nat} {P : Program} {md : Region.Mode} {ops : Array Oper} {Q : Exit → Act → World → Prop} (hro : F.round = none) (l : Nat) (hd : ∀ o ∈ ops.toList, ∀ c, o.op ≠ .defer c) : ∀ (fuel : Nat) (listed : Array Bool) (a : Act) (w : World),
    wpAnyIn F n P md ops Q fuel listed a w → wpAnyIn (F.inRound l) n P md ops Q fuel listed a w
  | 0, _, _, _, h => h
  | fuel + 1, _, _, _, h => ⟨h.1, fun i hi => opIn_round hro l hd (fun a w => anyIn_round hro l hd fuel _ a w) (h.2 i hi)⟩
theorem wpIn_region_quiet_round {F : Fence} {n : Nat} {P : Program} {id l₀ : Nat} {Q : Exit → Act → World → Prop} {a : Act} {w : World} {l : List Oper} (hro : F.round = none) (hm : P.follows .mixedOrders = true) (hB : Region.lexB .any l.toArray = true)
    (hd : ∀ o ∈ l, ∀ c, o.op ≠ .defer c)
    (h : wpQuietIn F n P l.toArray (fun w' => ∃ n, w' = w.drewN n) (fun a' => ∀ w', (∃ n, w' = w.drewN n) → Q .normal a' w') l a) : (Code.region id l.toArray true).wpIn (F.inRound l₀) n P Q a w := by
  simp only [Region.lexB, Bool.and_eq_true] at hB
  refine wpIn_region_any hm (anyIn_round hro l₀ (by simpa using hd) _ _ _ _ (wpAnyIn_of_quiet (C := fun w' => ∃ n, w' = w.drewN n) (Q := fun a' => ∀ w', (∃ n, w' = w.drewN n) → Q .normal a' w') hro (fun _ w' hw' h => h w' hw') _ _ _ _ ⟨1, rfl⟩ ?_))
  have := wpAnyQIn_lex (F := F) (n := n) (P := P) (C := fun w' => ∃ n, w' = w.drewN n) (md := .any) hB.1 l 0 (Array.replicate l.length false) a (by simp) (by simpa using hB.2) h
  simpa using this

/-! A region that draws its order, whose operations read in every order, but for the last ones, which wait for all the others. -/
section
variable {F : Fence} {n : Nat} {P : Program} {ops : Array Oper} {md : Region.Mode} {C : World → Prop}
/-- Whatever order of the first 'nt' operations is picked, 'L' holds behind them. -/
def headQ (F : Fence) (n : Nat) (P : Program) (md : Region.Mode) (ops : Array Oper) (C : World → Prop) (nt : Nat) (L : Array Bool → Act → Prop) : Nat → Array Bool → Act → Prop
  | 0, listed, a => L listed a
  | f + 1, listed, a => Region.ready md ops listed ≠ [] ∧ ∀ i ∈ Region.ready md ops listed, i < nt ∧ qOpIn F n P ops C i (headQ F n P md ops C nt L f (listed.setIfInBounds i true)) a
theorem any_of_headQ {nt g : Nat} {L : Array Bool → Act → Prop} {Q : Exit → Act → World → Prop} (hro : F.round = none) (hL : ∀ listed a w, C w → L listed a → wpAnyIn F n P md ops Q g listed a w) :
    ∀ (f : Nat) (listed : Array Bool) (a : Act) (w : World), C w → headQ F n P md ops C nt L f listed a → wpAnyIn F n P md ops Q (g + f) listed a w
  | 0, listed, a, w, hw, h => hL _ _ _ hw h
  | f + 1, listed, a, w, hw, h => ⟨fun h0 => absurd h0 h.1, fun i hi => wpOpIn_of_qOpIn hro hw (fun a' w' hw' h' => any_of_headQ hro hL f _ a' w' hw' h') (h.2 i hi).2⟩
theorem headQ_first {nt i : Nat} {oi : Oper} {v : Value} {L : Array Bool → Act → Prop} (hi : ops[i]? = some oi) (hsel : ∀ (j : Nat) (o : Oper) cs b, ops[j]? = some o → o.op ≠ .select cs b)
    (hw : ∀ listed, HeadInv md ops nt listed → listed.getD i true = false → ∀ t, nt ≤ t → t ∉ Region.ready md ops listed) (hin : i < nt) (hdone : ∀ listed a, L listed a → ∀ j ∈ Region.ready md ops listed, nt ≤ j) (f : Nat) :
    ∀ (listed : Array Bool) (a : Act), HeadInv md ops nt listed →
      (∀ j oj, ops[j]? = some oj → j ≠ i → listed.getD j true = false → (∀ e ∈ oj.after, Region.binds md e = true → e.on ≠ i) → oi.apart ops oj = true) →
      i ∈ Region.ready md ops listed → YieldsQuiet F n P ops C oi v a →
      headQ F n P md ops C nt L f (listed.setIfInBounds i true) (a.put oi.dst v) → headQ F n P md ops C nt L (f + 1) listed a := by
  induction f with
  | zero =>
    intro listed a inv _ hr hy H
    have hun := (mem_ready.1 hr).1
    refine ⟨fun h => (by rw [h] at hr; cases hr), fun j hj => ?_⟩
    rcases Nat.lt_or_ge j nt with hjn | hjn
    · refine ⟨hjn, ?_⟩
      by_cases hji : j = i
      · subst hji; exact hy.qOpIn hi H
      · exact absurd (hdone _ _ H j (ready_mono hj hji)) (by omega)
    · exact absurd hj (hw listed inv hun j hjn)
  | succ f ih =>
    intro listed a inv hfree hr hy H
    have hun := (mem_ready.1 hr).1
    refine ⟨fun h => (by rw [h] at hr; cases hr), fun j hj => ?_⟩
    rcases Nat.lt_or_ge j nt with hjn | hjn
    · refine ⟨hjn, ?_⟩
      by_cases hji : j = i
      · subst hji; exact hy.qOpIn hi H
      · obtain ⟨hjun, oj, hoj, hall⟩ := mem_ready.1 hj
        have hnot : ∀ e ∈ oj.after, Region.binds md e = true → e.on ≠ i := fun e he hb heq => by
          have h1 := hall e he hb
          rw [heq, getD_both hun] at h1
          cases h1
        have hfree' : ∀ k ok, ops[k]? = some ok → k ≠ i → (listed.setIfInBounds j true).getD k true = false →
            (∀ e ∈ ok.after, Region.binds md e = true → e.on ≠ i) → oi.apart ops ok = true := fun k ok hk hki hku hno => hfree k ok hk hki (by
          by_cases hjk : j = k
          · rw [← hjk]; exact hjun
          · rwa [getD_set_ne true hjk] at hku) hno
        refine qOpIn_mono (fun a' h3 => ih _ a' (inv.set hj hjn) hfree' (ready_mono hr (Ne.symm hji)) h3.1 ?_) (qOpIn_put hoj (hfree j oj hoj hji hjun hnot) (fun cs b => hsel i oi cs b hi) (fun cs b => hsel j oj cs b hoj) hy (H.2 j (ready_mono hj hji)).2)
        rw [Array.setIfInBounds_comm _ _ hji]
        exact h3.2
    · exact absurd hj (hw listed inv hun j hjn)
theorem anyIn_of_seq {Q : Exit → Act → World → Prop} : ∀ (l : List Oper) (k : Nat) (listed : Array Bool) (a : Act) (w : World), (∀ j, l[j]? = ops[k + j]?) →
    Region.seqB md ops l.length k listed = true → wpListIn F n P ops Q l a w → wpAnyIn F n P md ops Q l.length listed a w
  | [], _, _, _, _, _, hB, h => ⟨by simpa [Region.seqB] using hB, h⟩
  | o :: l, k, listed, a, w, hl, hB, h => by
    have h0 : ops[k]? = some o := by simpa using (hl 0).symm
    simp only [List.length_cons, Region.seqB, Bool.and_eq_true, decide_eq_true_eq] at hB
    refine ⟨fun h1 => (by rw [hB.1] at h1; cases h1), fun i hi => ?_⟩
    rw [hB.1, List.mem_singleton] at hi
    subst hi
    have hw : wpOpIn F n P ops Q i (wpListIn F n P ops Q l) a w := by unfold wpOpIn; simp only [h0]; exact h
    exact wpOpIn_mono (fun a' w' h' => anyIn_of_seq l (i + 1) _ a' w' (fun j => by have := hl (j + 1); rwa [List.getElem?_cons_succ, show i + (j + 1) = i + 1 + j by omega] at this) hB.2 h') hw
theorem headQ_lex {nt g : Nat} {Lq : Act → Prop} (hsel : Region.noSelect ops = true) (hs : Region.sinkB md ops nt = true) (hc : Region.chainB md ops nt = true) (hn : nt < ops.size) :
    ∀ (l : List Oper) (k : Nat) (listed : Array Bool) (a : Act), (∀ j, j < l.length → l[j]? = ops[k + j]?) → k + l.length = nt → HeadInv md ops nt listed →
    Region.lexHead md ops g l.length k listed = true → wpQuietIn F n P ops C Lq l a → headQ F n P md ops C nt (fun listed' a' => Region.seqB md ops g nt listed' = true ∧ Lq a') l.length listed a
  | [], k, listed, a, _, hk, _, hB, h => by
    obtain rfl : k = nt := by simpa using hk
    exact ⟨by simpa [Region.lexHead] using hB, h⟩
  | o :: l, k, listed, a, hl, hk, inv, hB, h => by
    have h0 : ops[k]? = some o := by simpa using (hl 0 (by simp)).symm
    simp only [List.length_cons, Region.lexHead, Bool.and_eq_true] at hB hk
    have hkn : k < nt := by omega
    have hr : k ∈ Region.ready md ops listed := by simpa using hB.1.1
    obtain ⟨v, hy, hK⟩ := yieldsQuiet_of_qOpIn (F := F) (n := n) (P := P) (C := C) (i := k) (K := wpQuietIn F n P ops C Lq l) h0 (by unfold qOpIn; simp only [h0]; exact h)
    exact headQ_first h0 (Region.noSelect_spec hsel) (fun listed' inv' hun => tail_waits hs hc hn inv' _ k rfl hkn hun) hkn (fun listed' a' hL => seqB_ready hL.1) l.length listed a inv (Region.free_spec h0 hB.1.2) hr hy
      (headQ_lex hsel hs hc hn l (k + 1) _ _ (fun j hj => by have := hl (j + 1) (by simp; omega); rwa [List.getElem?_cons_succ, show k + (j + 1) = k + 1 + j by omega] at this) (by omega) (inv.set hr hkn) hB.2 hK)
theorem anyIn_tail {Q : Exit → Act → World → Prop} {a : Act} {w : World} {l : List Oper} (nt : Nat) (hro : F.round = none) (hB : Region.lexTailB .any l.toArray nt = true)
    (h : wpQuietIn F n P l.toArray (fun w' => ∃ n, w' = w.drewN n) (fun a' => ∀ w', (∃ n, w' = w.drewN n) → wpListIn F n P l.toArray Q (l.drop nt) a' w') (l.take nt) a) :
    wpAnyIn F n P .any l.toArray Q l.toArray.size (Array.replicate l.toArray.size false) a { w with drawn := w.drawn + 1 } := by
  simp only [Region.lexTailB, Bool.and_eq_true, decide_eq_true_eq] at hB
  obtain ⟨⟨⟨⟨hsel, hn⟩, hs⟩, hc⟩, hlex⟩ := hB
  have hn' : nt < l.length := by simpa using hn
  have htl : (l.take nt).length = nt := by simp; omega
  have hdl : (l.drop nt).length = l.toArray.size - nt := by simp
  have inv0 : HeadInv .any l.toArray nt (Array.replicate l.toArray.size false) :=
    ⟨by simp, fun j oj _ hl => (by rw [getD_replicate_false] at hl; cases hl), fun t _ ht => getD_in (by simpa using ht) (getD_replicate_false _ _)⟩
  have H := headQ_lex (F := F) (n := n) (P := P) (C := fun w' => ∃ n, w' = w.drewN n) (md := .any) (g := l.toArray.size - nt) hsel hs hc hn (l.take nt) 0 _ a (fun j hj => by
    rw [htl] at hj
    simp [hj]) (by omega) inv0 (by rw [htl]; exact hlex) h
  have := any_of_headQ (Q := Q) (g := l.toArray.size - nt) hro (fun listed a' w' hw' hL => by
    have := anyIn_of_seq (md := .any) (Q := Q) (l.drop nt) nt listed a' w' (fun j => by simp [List.getElem?_drop]) (by rw [hdl]; exact hL.1) (hL.2 w' hw')
    rwa [hdl] at this) _ _ _ { w with drawn := w.drawn + 1 } ⟨1, rfl⟩ H
  rwa [htl, show l.toArray.size - nt + nt = l.toArray.size by omega] at this
/-- In the frame of a function. -/
theorem wpIn_region_tail {id : Nat} {Q : Exit → Act → World → Prop} {a : Act} {w : World} {l : List Oper} (nt : Nat) (hro : F.round = none) (hm : P.follows .mixedOrders = true) (hB : Region.lexTailB .any l.toArray nt = true)
    (h : wpQuietIn F n P l.toArray (fun w' => ∃ n, w' = w.drewN n) (fun a' => ∀ w', (∃ n, w' = w.drewN n) → wpListIn F n P l.toArray Q (l.drop nt) a' w') (l.take nt) a) : (Code.region id l.toArray true).wpIn F n P Q a w :=
  wpIn_region_any hm (anyIn_tail nt hro hB h)
/-- In a round of a loop over an iterator. -/
theorem wpIn_region_tail_round {id l₀ : Nat} {Q : Exit → Act → World → Prop} {a : Act} {w : World} {l : List Oper} (nt : Nat) (hro : F.round = none) (hm : P.follows .mixedOrders = true) (hB : Region.lexTailB .any l.toArray nt = true) (hd : ∀ o ∈ l, ∀ c, o.op ≠ .defer c)
    (h : wpQuietIn F n P l.toArray (fun w' => ∃ n, w' = w.drewN n) (fun a' => ∀ w', (∃ n, w' = w.drewN n) → wpListIn F n P l.toArray Q (l.drop nt) a' w') (l.take nt) a) : (Code.region id l.toArray true).wpIn (F.inRound l₀) n P Q a w :=
  wpIn_region_any hm (anyIn_round hro l₀ (by simpa using hd) _ _ _ _ (anyIn_tail nt hro hB h))
end
/-- What stands behind code that does not panic. -/
def noPanicE (Q : Exit → Act → World → Prop) : Exit → Act → World → Prop
  | .panic _, _, _ => False
  | e, a, w => Q e a w
theorem wpIn_noPanic {F : Fence} {n : Nat} {P : Program} {c : Code} {Q : Exit → Act → World → Prop} {a : Act} {w : World} (h : c.wpIn F n P (noPanicE Q) a w) : c.wpIn F n P Q a w := by
  refine wpIn_mono h ?_
  intro e a' w' hq
  cases e with
  | panic ch => exact hq.elim
  | normal => exact hq
  | exit id => exact hq
  | goto l => exact hq
  | ret => exact hq
  | outgrown => exact hq
/-- Code that comes to one frame and one world, whatever order is drawn. -/
theorem wpIn_to {F : Fence} {n : Nat} {P : Program} {c : Code} {Q : Exit → Act → World → Prop} {a : Act} {w : World} (a1 : Act) (w1 : World) (h : c.wpIn F n P (noPanicE fun e a w => e = .normal ∧ a = a1 ∧ w = w1) a w) (hQ : Q .normal a1 w1) : c.wpIn F n P Q a w := by
  refine wpIn_mono h ?_
  intro e a' w' hq
  cases e with
  | panic ch => exact hq.elim
  | normal => obtain ⟨_, rfl, rfl⟩ := hq; exact hQ
  | exit id => exact absurd hq.1 (by simp)
  | goto l => exact absurd hq.1 (by simp)
  | ret => exact absurd hq.1 (by simp)
  | outgrown => exact absurd hq.1 (by simp)
end Go.Proofs.Ytnamafakjkcmjaa
