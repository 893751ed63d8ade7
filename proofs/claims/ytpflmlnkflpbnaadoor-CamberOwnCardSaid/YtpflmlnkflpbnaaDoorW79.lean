/-
  camber's Other: what the search by pairs has found so far. No walk stands in this text.
-/
import Derived.Test.YtpflmlnkflpbnaaDoorW78
namespace Go.Proofs.YtpflmlnkflpbnaaDoor
open Go.RowKit Go.Sort Cam
set_option linter.unusedVariables false
set_option linter.unusedSimpArgs false

structure Inv (k most y x : Int) (zs : List Int) (ts : List T3') : Prop where
  nodup : ts.Nodup
  mem : ∀ t, t ∈ ts ↔ (TriK k t.1 t.2.1 t.2.2 ∧ t.2.2 ≤ most ∧ (t.2.1 < y ∨ (t.2.1 = y ∧ t.1 < x) ∨ (t.2.1 = y ∧ t.1 = x ∧ t.2.2 ∈ zs)))
theorem Inv.start (k most : Int) : Inv k most 1 1 [] [] := by
  refine ⟨.nil, fun t => ⟨fun h => absurd h List.not_mem_nil, ?_⟩⟩
  rintro ⟨⟨h1, h2, _⟩, _, h | h | h⟩
  · omega
  · omega
  · exact absurd h.2.2 List.not_mem_nil
theorem Inv.push {k most y x z : Int} {zs : List Int} {ts : List T3'} (h : Inv k most y x zs ts) (hT : TriK k x y z) (hz : z ≤ most) (hn : (x, y, z) ∉ ts) : Inv k most y x (zs ++ [z]) (ts ++ [(x, y, z)]) := by
  refine ⟨?_, fun t => ?_⟩
  · rw [List.nodup_append]
    refine ⟨h.nodup, by simp, fun a ha b hb => ?_⟩
    simp only [List.mem_singleton] at hb
    subst hb
    rintro rfl
    exact hn ha
  · rw [List.mem_append, List.mem_singleton, h.mem]
    obtain ⟨a, b, c⟩ := t
    simp only [Prod.mk.injEq, List.mem_append, List.mem_singleton]
    constructor
    · rintro (⟨h1, h2, h3⟩ | ⟨rfl, rfl, rfl⟩)
      · refine ⟨h1, h2, h3.imp id (Or.imp id fun h => ⟨h.1, h.2.1, .inl h.2.2⟩)⟩
      · exact ⟨hT, hz, .inr (.inr ⟨rfl, rfl, .inr rfl⟩)⟩
    · rintro ⟨h1, h2, h3 | h3 | ⟨rfl, rfl, h3 | rfl⟩⟩
      · exact .inl ⟨h1, h2, .inl h3⟩
      · exact .inl ⟨h1, h2, .inr (.inl h3)⟩
      · exact .inl ⟨h1, h2, .inr (.inr ⟨rfl, rfl, h3⟩)⟩
      · exact .inr ⟨rfl, rfl, rfl⟩
theorem Inv.pass {k most y x z : Int} {zs : List Int} {ts : List T3'} (h : Inv k most y x zs ts) (hp : TriK k x y z → z ≤ most → (x, y, z) ∈ ts) : Inv k most y x (zs ++ [z]) ts := by
  refine ⟨h.nodup, fun t => ?_⟩
  obtain ⟨a, b, c⟩ := t
  simp only [List.mem_append, List.mem_singleton]
  constructor
  · intro hm
    obtain ⟨h1, h2, h3⟩ := (h.mem _).1 hm
    exact ⟨h1, h2, h3.imp id (Or.imp id fun h => ⟨h.1, h.2.1, .inl h.2.2⟩)⟩
  · rintro ⟨h1, h2, h3 | h3 | ⟨rfl, rfl, h3 | rfl⟩⟩
    · exact (h.mem _).2 ⟨h1, h2, .inl h3⟩
    · exact (h.mem _).2 ⟨h1, h2, .inr (.inl h3)⟩
    · exact (h.mem _).2 ⟨h1, h2, .inr (.inr ⟨rfl, rfl, h3⟩)⟩
    · exact hp h1 h2
theorem Inv.across {k most y x : Int} {zs : List Int} {ts : List T3'} (h : Inv k most y x zs ts) (hz : ∀ z, TriK k x y z → z ≤ most → z ∈ zs) : Inv k most y (x + 1) [] ts := by
  refine ⟨h.nodup, fun t => ?_⟩
  obtain ⟨a, b, c⟩ := t
  rw [h.mem]
  simp only
  constructor
  · rintro ⟨h1, h2, h3 | h3 | h3⟩
    · exact ⟨h1, h2, .inl h3⟩
    · exact ⟨h1, h2, .inr (.inl ⟨h3.1, by omega⟩)⟩
    · exact ⟨h1, h2, .inr (.inl ⟨h3.1, by omega⟩)⟩
  · rintro ⟨h1, h2, h3 | h3 | h3⟩
    · exact ⟨h1, h2, .inl h3⟩
    · rcases Int.lt_or_eq_of_le (show a ≤ x by omega) with h4 | h4
      · exact ⟨h1, h2, .inr (.inl ⟨h3.1, h4⟩)⟩
      · obtain ⟨h5, _⟩ := h3
        subst h4 h5
        exact ⟨h1, h2, .inr (.inr ⟨rfl, rfl, hz _ h1 h2⟩)⟩
    · exact absurd h3.2.2 List.not_mem_nil
theorem Inv.up {k most y : Int} {ts : List T3'} (h : Inv k most y (y + 1) [] ts) : Inv k most (y + 1) 1 [] ts := by
  refine ⟨h.nodup, fun t => ?_⟩
  obtain ⟨a, b, c⟩ := t
  rw [h.mem]
  simp only
  constructor
  · rintro ⟨h1, h2, h3 | h3 | h3⟩
    · exact ⟨h1, h2, .inl (by omega)⟩
    · exact ⟨h1, h2, .inl (by omega)⟩
    · exact absurd h3.2.2 List.not_mem_nil
  · rintro ⟨h1, h2, h3 | h3 | h3⟩
    · obtain ⟨k1, k2, _⟩ := id h1
      rcases Int.lt_or_eq_of_le (show b ≤ y by omega) with h4 | h4
      · exact ⟨h1, h2, .inl h4⟩
      · exact ⟨h1, h2, .inr (.inl ⟨h4, by omega⟩)⟩
    · obtain ⟨k1, k2, _⟩ := id h1
      omega
    · exact absurd h3.2.2 List.not_mem_nil
theorem bef_nodup {l : List T3'} (h : l.Pairwise Bef) : l.Nodup := h.imp fun {a b} hb e => by
  subst e
  exact bef_asymm hb hb
theorem Inv.last {k most : Int} {ts : List T3'} (h : Inv k most (most + 1) 1 [] ts) (hk : 1 ≤ k) (hm : most ≤ 1000000000) : ts.Perm (otherL k most) := by
  refine (List.perm_ext_iff_of_nodup h.nodup (bef_nodup (otherL_bef k most))).2 fun t => ?_
  obtain ⟨a, b, c⟩ := t
  rw [h.mem, mem_otherL hk hm]
  simp only
  constructor
  · rintro ⟨h1, h2, _⟩; exact ⟨h1, h2⟩
  · rintro ⟨h1, h2⟩
    obtain ⟨_, _, k3, _⟩ := id h1
    exact ⟨h1, h2, .inl (by omega)⟩
theorem nodup_le : ∀ (ts us : List T3'), ts.Nodup → (∀ t ∈ ts, t ∈ us) → ts.length ≤ us.length
  | [], _, _, _ => Nat.zero_le _
  | a :: l, us, hn, hs => by
    rw [List.nodup_cons] at hn
    have h1 := nodup_le l (us.erase a) hn.2 fun t ht => (List.mem_erase_of_ne (fun (e : t = a) => hn.1 (e ▸ ht))).2 (hs t (List.mem_cons_of_mem _ ht))
    have ha := hs a (List.mem_cons_self ..)
    have h2 := List.length_erase_of_mem ha
    have h3 := List.length_pos_of_mem ha
    simp only [List.length_cons]
    omega
theorem otherL_len (k most : Int) : (otherL k most).length ≤ 88 := by
  have h : ∀ m, (upTo m).length ≤ 88 := fun m => Nat.le_trans (List.length_filter_le _ _) (by decide +kernel)
  unfold otherL
  split
  · exact h _
  · split
    · rw [List.length_map]; exact h _
    · exact Nat.zero_le _
theorem Inv.few {k most y x : Int} {zs : List Int} {ts : List T3'} (h : Inv k most y x zs ts) (hk : 1 ≤ k) (hm : most ≤ 1000000000) : ts.length ≤ 88 :=
  Nat.le_trans (nodup_le ts (otherL k most) h.nodup fun t ht => by
    obtain ⟨a, b, c⟩ := t
    obtain ⟨h1, h2, _⟩ := (h.mem _).1 ht
    exact (mem_otherL hk hm).2 ⟨h1, h2⟩) (otherL_len k most)
theorem MapSet.congr {w : World} {b n : Nat} {L M : List T3'} (h : MapSet w b n L) (e : ∀ t, t ∈ L ↔ t ∈ M) : MapSet w b n M := by
  obtain ⟨D, h, k⟩ := h
  refine ⟨D, h, fun t kl hk => ?_⟩
  rw [k t kl hk]
  simp [e t]
theorem MapSet.below {w w' : World} {b n : Nat} {L : List T3'} (h : MapSet w b n L) (hb : Below w.heap.size w w') : MapSet w' b n L :=
  h.kept (row := none) ⟨hb.os, hb.tape, hb.output, hb.size, fun k hk _ => hb.block k hk⟩ (by simp)
end Go.Proofs.YtpflmlnkflpbnaaDoor
