/-
  How many words: products, letters, powers.
-/
import Derived.Test.YtpclkocfbkjababA24
import Derived.Test.YtpclkocfbkjababA23
namespace Go.Proofs.Ytpclkocfbkjabab
open Go
set_option linter.unusedVariables false
set_option linter.unusedSimpArgs false

theorem nodup_len : ∀ {l l' : List Str}, l.Nodup → (∀ x ∈ l, x ∈ l') → l.length ≤ l'.length
  | [], _, _, _ => Nat.zero_le _
  | a :: l, l', hn, hs => by
    have ha := hs a List.mem_cons_self
    rw [List.nodup_cons] at hn
    have h := nodup_len (l := l) (l' := l'.erase a) hn.2 fun x hx => by
      have hne : x ≠ a := fun e => hn.1 (by rw [← e]; exact hx)
      rw [List.mem_erase_of_ne hne]
      exact hs x (List.mem_cons_of_mem _ hx)
    rw [List.length_erase_of_mem ha] at h
    have := List.length_pos_of_mem ha
    simp only [List.length_cons]
    omega
theorem ok_left {set : List Str} {s t : Str} (h : okL set (s ++ t) = true) : okL set s = true :=
  ok_iff.2 fun p hp hi => ok_iff.1 h p hp (hi.trans (List.prefix_append s t).isInfix)
theorem ok_right {set : List Str} {s t : Str} (h : okL set (s ++ t) = true) : okL set t = true :=
  ok_iff.2 fun p hp hi => ok_iff.1 h p hp (hi.trans (List.suffix_append s t).isInfix)
theorem flat_const {α β : Type} (f : α → List β) (k : Nat) : ∀ l : List α, (∀ x ∈ l, (f x).length = k) → (l.flatMap f).length = l.length * k
  | [], _ => by simp
  | a :: l, h => by
    rw [List.flatMap_cons, List.length_append, h a List.mem_cons_self, flat_const f k l fun x hx => h x (List.mem_cons_of_mem _ hx), List.length_cons, Nat.succ_mul]
    omega
theorem acc_prod {set : List Str} {q : Nat} (h0 : okL set [] = true) (hp : ∀ p ∈ set, p.length ≤ 5) (hq : q ≤ 3) (n m : Nat) :
    (accL (tabL set q) (n + m) 0).length ≤ (accL (tabL set q) n 0).length * (accL (tabL set q) m 0).length := by
  have hM := fun k s => mem_acc0 h0 hp hq k s
  have hN : (accL (tabL set q) (n + m) 0).Nodup := by
    rw [acc_words h0 hp hq]
    refine List.Pairwise.filter _ ?_
    refine List.Pairwise.imp ?_ (words_sorted hq (n + m))
    intro a b h e
    rw [e] at h
    exact str_irrefl b h
  refine Nat.le_trans (nodup_len (l' := (accL (tabL set q) n 0).flatMap fun a => (accL (tabL set q) m 0).map (a ++ ·)) hN fun x hx => ?_) (Nat.le_of_eq (flat_const _ _ _ fun x _ => by rw [List.length_map]))
  obtain ⟨h1, h2, h3⟩ := (hM _ _).1 hx
  have e : x.take n ++ x.drop n = x := List.take_append_drop n x
  rw [← e] at h2 h3
  refine List.mem_flatMap.2 ⟨x.take n, (hM _ _).2 ⟨by rw [List.length_take]; omega, (lett_app.1 h2).1, ok_left h3⟩, List.mem_map.2 ⟨x.drop n, (hM _ _).2 ⟨by rw [List.length_drop]; omega, (lett_app.1 h2).2, ok_right h3⟩, e⟩⟩
theorem acc_bound {set : List Str} {q : Nat} (h0 : okL set [] = true) (hp : ∀ p ∈ set, p.length ≤ 5) (hq : q ≤ 3) (n : Nat) : (accL (tabL set q) n 0).length ≤ q ^ n := by
  rw [acc_words h0 hp hq, ← words_len q n]
  exact List.length_filter_le _ _
theorem pow3 {q n k : Nat} (hq : q ≤ 3) (hn : n ≤ k) : q ^ n ≤ 3 ^ k :=
  Nat.le_trans (Nat.pow_le_pow_left hq n) (Nat.pow_le_pow_right (by omega) hn)
/-- The numbers of the law TreadProduct. -/
theorem prod_law {L : List ByteArray} {q n m : Nat} (hs : setB q L = true) (hn : n ≤ 18) (hm : 1 ≤ m ∧ m ≤ 18) :
    ∃ a b c d : Nat, (∀ k, k ≤ 36 → fewB (tabL (pats L) q) k = true) ∧ cntT (tabL (pats L) q) n 0 = (a : Int) ∧ cntT (tabL (pats L) q) m 0 = (b : Int) ∧ cntT (tabL (pats L) q) (n + m) 0 = (c : Int) ∧ cntT (tabL (pats L) q) (n + m - 1) 0 = (d : Int) ∧
      c ≤ a * b ∧ c ≤ q * d ∧ a ≤ 387420489 ∧ b ≤ 387420489 ∧ d ≤ 150094635296999121 := by
  have hq : q ≤ 3 := by have := (setB_parts hs).1; omega
  have h0 := ok_nil (pats_some hs)
  have hp := pats_five hs
  have hb : ∀ k, k ≤ 36 → ((accL (tabL (pats L) q) k 0).length : Int) < most1 := fun k hk => by
    have h1 := acc_bound h0 hp hq k
    have h2 := pow3 hq hk
    have h3 : (3 : Nat) ^ 36 = 150094635296999121 := by decide +kernel
    unfold most1
    omega
  have hf : ∀ k, k ≤ 36 → fewB (tabL (pats L) q) k = true := fun k hk => few_all fun j hj => by
    rw [cnt_exact (hb j (by omega))]
    exact hb j (by omega)
  refine ⟨_, _, _, _, hf, cnt_exact (hb n (by omega)), cnt_exact (hb m (by omega)), cnt_exact (hb (n + m) (by omega)), cnt_exact (hb (n + m - 1) (by omega)), acc_prod h0 hp hq n m, ?_, ?_, ?_, ?_⟩
  · have h1 := acc_prod h0 hp hq (n + m - 1) 1
    have h2 := acc_bound h0 hp hq 1
    rw [show n + m - 1 + 1 = n + m by omega] at h1
    rw [Nat.pow_one] at h2
    exact Nat.le_trans h1 (by rw [Nat.mul_comm]; exact Nat.mul_le_mul_right _ h2)
  · exact Nat.le_trans (acc_bound h0 hp hq n) (Nat.le_trans (pow3 hq hn) (by decide))
  · exact Nat.le_trans (acc_bound h0 hp hq m) (Nat.le_trans (pow3 hq hm.2) (by decide))
  · exact Nat.le_trans (acc_bound h0 hp hq _) (Nat.le_trans (pow3 hq (k := 36) (by omega)) (by decide +kernel))
end Go.Proofs.Ytpclkocfbkjabab
