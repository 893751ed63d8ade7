/-
  All solutions up to 10^9, in their order; the tree's visit and the reference's search find just these. No walk stands in this text.
-/
import Derived.Test.YtpflmlnkflpbnaaDoorW7
namespace Go.Proofs.YtpflmlnkflpbnaaDoor
open Go.RowKit Go.Sort Cam
set_option linter.unusedVariables false
set_option linter.unusedSimpArgs false

abbrev T3' := Int × Int × Int
/-- All solutions up to 10^9, by the greatest number. -/
def TT : List T3' := [
  (1, 1, 1), (1, 1, 2), (1, 2, 5), (1, 5, 13), (2, 5, 29), (1, 13, 34),
  (1, 34, 89), (2, 29, 169), (5, 13, 194), (1, 89, 233), (5, 29, 433), (1, 233, 610),
  (2, 169, 985), (13, 34, 1325), (1, 610, 1597), (5, 194, 2897), (1, 1597, 4181), (2, 985, 5741),
  (5, 433, 6466), (13, 194, 7561), (34, 89, 9077), (1, 4181, 10946), (29, 169, 14701), (1, 10946, 28657),
  (2, 5741, 33461), (29, 433, 37666), (5, 2897, 43261), (13, 1325, 51641), (89, 233, 62210), (1, 28657, 75025),
  (5, 6466, 96557), (34, 1325, 135137), (2, 33461, 195025), (1, 75025, 196418), (13, 7561, 294685), (233, 610, 426389),
  (169, 985, 499393), (1, 196418, 514229), (5, 43261, 646018), (34, 9077, 925765), (2, 195025, 1136689), (29, 14701, 1278818),
  (1, 514229, 1346269), (5, 96557, 1441889), (194, 2897, 1686049), (13, 51641, 2012674), (89, 9077, 2423525), (610, 1597, 2922509),
  (29, 37666, 3276509), (1, 1346269, 3524578), (194, 7561, 4400489), (2, 1136689, 6625109), (169, 14701, 7453378), (433, 6466, 8399329),
  (1, 3524578, 9227465), (5, 646018, 9647009), (13, 294685, 11485154), (34, 135137, 13782649), (89, 62210, 16609837), (985, 5741, 16964653),
  (1597, 4181, 20031170), (5, 1441889, 21531778), (1, 9227465, 24157817), (2, 6625109, 38613965), (233, 62210, 43484701), (433, 37666, 48928105),
  (1, 24157817, 63245986), (13, 2012674, 78442645), (34, 925765, 94418953), (29, 1278818, 111242465), (4181, 10946, 137295677), (5, 9647009, 144059117),
  (1, 63245986, 165580141), (1325, 51641, 205272962), (2, 38613965, 225058681), (169, 499393, 253191266), (29, 3276509, 285018617), (233, 426389, 298045301),
  (5, 21531778, 321534781), (2897, 43261, 375981346), (1, 165580141, 433494437), (13, 11485154, 447626321), (1325, 135137, 537169541), (5741, 33461, 576298801),
  (89, 2423525, 647072098), (610, 426389, 780291637), (10946, 28657, 941038565), (194, 1686049, 981277621)]
def kidsT (t : T3') : List T3' := kids t.1 t.2.1 t.2.2
def triT (t : T3') : Bool := decide (1 ≤ t.1) && decide (t.1 ≤ t.2.1) && decide (t.2.1 ≤ t.2.2) && decide (t.1 * t.1 + t.2.1 * t.2.1 + t.2.2 * t.2.2 = 3 * t.1 * t.2.1 * t.2.2) && decide (t.2.2 ≤ 1000000000)
theorem TT_tri' : (TT.all triT) = true := by decide +kernel
theorem TT_kids' : (TT.all fun t => (kidsT t).all fun u => TT.contains u) = true := by decide +kernel
theorem TT_tri {t : T3'} (h : t ∈ TT) : Tri t.1 t.2.1 t.2.2 ∧ t.2.2 ≤ 1000000000 := by
  have := List.all_eq_true.1 TT_tri' t h
  unfold triT at this
  simp only [Bool.and_eq_true, decide_eq_true_eq] at this
  exact ⟨⟨this.1.1.1.1, this.1.1.1.2, this.1.1.2, this.1.2⟩, this.2⟩
theorem TT_kids {t u : T3'} (h : t ∈ TT) (hu : u ∈ kidsT t) : u ∈ TT := by
  have := List.all_eq_true.1 (List.all_eq_true.1 TT_kids' t h) u hu
  simpa using this
theorem TT_sorted : TT.Pairwise (fun a b => a.2.2 < b.2.2) := by decide +kernel
/-- Each solution has its place in the tree. -/
theorem tri_kid {x y z : Int} (h : Tri x y z) (h2 : 2 ≤ z) (h4 : z ≤ 1000000000) : (x, y, z) ∈ kidsT (min x (3 * x * y - z), max x (3 * x * y - z), y) := by
  unfold kidsT kids
  simp only
  rcases Int.lt_or_le x (3 * x * y - z) with hc | hc
  · rw [show min x (3 * x * y - z) = x by omega, show max x (3 * x * y - z) = 3 * x * y - z by omega]
    have e : 3 * x * y - (3 * x * y - z) = z := by omega
    rw [e, List.mem_append]
    right
    rw [if_pos ⟨by omega, h4⟩]
    simp
  · rw [show min x (3 * x * y - z) = 3 * x * y - z by omega, show max x (3 * x * y - z) = x by omega]
    have e : 3 * x * y - (3 * x * y - z) = z := by omega
    rw [e, List.mem_append]
    left
    rw [if_pos h4]
    simp
theorem TT_all : ∀ (n : Nat) {x y z : Int}, z.toNat ≤ n → Tri x y z → z ≤ 1000000000 → (x, y, z) ∈ TT
  | 0, x, y, z, hn, h, h4 => by have := h.1; have := h.2.1; have := h.2.2.1; omega
  | n + 1, x, y, z, hn, h, h4 => by
    by_cases h2 : 2 ≤ z
    · have hp := (h.parent h2).1
      have hy : y < z := h.lt_of_two h2
      exact TT_kids (TT_all n (by omega) hp (by omega)) (tri_kid h h2 h4)
    · have h1 := h.1; have h3 := h.2.1; have h5 := h.2.2.1
      obtain rfl : z = 1 := by omega
      obtain rfl : y = 1 := by omega
      obtain rfl : x = 1 := by omega
      simp [TT]
theorem mem_TT {x y z : Int} : (x, y, z) ∈ TT ↔ Tri x y z ∧ z ≤ 1000000000 :=
  ⟨fun h => TT_tri h, fun h => TT_all _ (Nat.le_refl _) h.1 h.2⟩
/-- The solutions up to a bound. -/
def upTo (most : Int) : List T3' := TT.filter fun t => decide (t.2.2 ≤ most)
theorem mem_upTo {most : Int} {t : T3'} : t ∈ upTo most ↔ t ∈ TT ∧ t.2.2 ≤ most := by simp [upTo, List.mem_filter]
theorem upTo_sorted (most : Int) : (upTo most).Pairwise (fun a b => a.2.2 < b.2.2) := TT_sorted.filter _

/-! The visit. -/
def dfs (most : Int) : Nat → T3' → List T3'
  | 0, _ => []
  | n + 1, t => if most < t.2.2 then [] else t :: (kidsT t).flatMap (dfs most n)
/-- So deep is the tree at most. -/
def enough : Nat → T3' → Bool
  | 0, _ => false
  | n + 1, t => (kidsT t).all (enough n)
theorem enough_root : enough 30 (1, 1, 1) = true := by decide +kernel
theorem dfs_perm' : (dfs 1000000000 30 (1, 1, 1)).isPerm TT = true := by decide +kernel
theorem kid_more {t u : T3'} (h : Tri t.1 t.2.1 t.2.2) (hu : u ∈ kidsT t) : Tri u.1 u.2.1 u.2.2 ∧ t.2.2 ≤ u.2.2 := by
  unfold kidsT kids at hu
  rcases List.mem_append.1 hu with hu | hu
  · split at hu
    · simp only [List.mem_singleton] at hu; subst hu; exact ⟨h.left, h.left.2.2.1⟩
    · cases hu
  · split at hu
    · simp only [List.mem_singleton] at hu; subst hu; exact ⟨h.right, h.right.2.2.1⟩
    · cases hu
theorem dfs_more (most : Int) : ∀ (n : Nat) (t u : T3'), Tri t.1 t.2.1 t.2.2 → u ∈ dfs most n t → t.2.2 ≤ u.2.2
  | 0, t, u, h, hu => by cases hu
  | n + 1, t, u, h, hu => by
    rw [dfs] at hu
    split at hu
    · cases hu
    · rcases List.mem_cons.1 hu with rfl | hu
      · exact Int.le_refl _
      · obtain ⟨c, hc, hu⟩ := List.mem_flatMap.1 hu
        have := kid_more h hc
        exact Int.le_trans this.2 (dfs_more most n c u this.1 hu)
theorem filter_none {l : List T3'} {most : Int} (h : ∀ u ∈ l, most < u.2.2) : l.filter (fun t => decide (t.2.2 ≤ most)) = [] := by
  rw [List.filter_eq_nil_iff]
  intro u hu
  have := h u hu
  simp; omega
theorem dfs_filter (most : Int) (hm : most ≤ 1000000000) : ∀ (n : Nat) (t : T3'), Tri t.1 t.2.1 t.2.2 → dfs most n t = (dfs 1000000000 n t).filter fun t => decide (t.2.2 ≤ most)
  | 0, t, h => rfl
  | n + 1, t, h => by
    rw [dfs, dfs]
    by_cases h1 : most < t.2.2
    · rw [if_pos h1]
      split
      · rfl
      · symm
        apply filter_none
        intro u hu
        have := dfs_more 1000000000 (n + 1) t u h (by rw [dfs, if_neg (by assumption)]; exact hu)
        omega
    · rw [if_neg h1, if_neg (by omega), List.filter_cons, if_pos (by simp; omega)]
      congr 1
      have : ∀ l : List T3', (∀ c ∈ l, Tri c.1 c.2.1 c.2.2) → l.flatMap (dfs most n) = (l.flatMap (dfs 1000000000 n)).filter fun t => decide (t.2.2 ≤ most) := by
        intro l
        induction l with
        | nil => intro _; rfl
        | cons c l ih =>
          intro hl
          rw [List.flatMap_cons, List.flatMap_cons, List.filter_append, ih fun c hc => hl c (List.mem_cons_of_mem _ hc), dfs_filter most hm n c (hl c (List.mem_cons_self ..))]
      exact this _ fun c hc => (kid_more h hc).1
theorem tri111 : Tri 1 1 1 := by unfold Tri; decide
theorem dfs_perm {most : Int} (hm : most ≤ 1000000000) : (dfs most 30 (1, 1, 1)).Perm (upTo most) := by
  rw [dfs_filter most hm 30 (1, 1, 1) tri111]
  exact (List.isPerm_iff.1 dfs_perm').filter _
/-- What is sorted by the greatest number is one list. -/
theorem sorted_one {l m : List T3'} (hp : l.Perm m) (h1 : l.Pairwise fun a b => a.2.2 ≤ b.2.2) (h2 : m.Pairwise fun a b => a.2.2 < b.2.2) : l = m := by
  refine List.Perm.eq_of_pairwise (le := fun a b : T3' => a.2.2 ≤ b.2.2) (fun a b ha hb h3 h4 => ?_) h1 (h2.imp fun h => Int.le_of_lt h) hp
  have hz : a.2.2 = b.2.2 := by omega
  have ha' := hp.mem_iff.1 ha
  have hb' := hb
  have key : ∀ (m : List T3'), m.Pairwise (fun a b => a.2.2 < b.2.2) → a ∈ m → b ∈ m → a = b := by
    intro m
    induction m with
    | nil => intro _ h _; cases h
    | cons c m ih =>
      intro hm ha hb
      rw [List.pairwise_cons] at hm
      rcases List.mem_cons.1 ha with rfl | ha1 <;> rcases List.mem_cons.1 hb with rfl | hb1
      · rfl
      · have := hm.1 b hb1; omega
      · have := hm.1 a ha1; omega
      · exact ih hm.2 ha1 hb1
  exact key m h2 ha' hb'
end Go.Proofs.YtpflmlnkflpbnaaDoor
