/-
  counted, Count.
-/
import Derived.Test.YtpclkocfbkjababT41
import Derived.Test.YtpclkocfbkjababA23
namespace Go.Proofs.Ytpclkocfbkjabab
open Go.RowKit Go.Shelf
set_option linter.unusedVariables false
set_option linter.unusedSimpArgs false

theorem cv_facts {w : World} {base n N : Nat} {v : Value} {hdrs : List Value} {T : Tab} (h1 : w.ownsRow base 66 1 v (n + 1) hdrs) (h2 : RowsV w w.heap.size 3 hdrs (cvRows T N (n + 1))) (hN : 0 < N) :
    ∃ g c, v = .slice (some ⟨g, 0, none⟩) (n + 1) c ∧ g < w.heap.size ∧ ∀ m, m ≤ n → ∃ b cc, b < w.heap.size ∧ hdrs[m]? = some (.slice (some ⟨b, 0, none⟩) N cc) ∧ ∀ W', Below w.heap.size w W' → W'.cell? ⟨g, m, none⟩ = some (.slice (some ⟨b, 0, none⟩) N cc) ∧ ∀ j, j < N → W'.cell? ⟨b, j, none⟩ = some (.int .i64 (cntT T m j)) := by
  obtain ⟨g, c, rfl, _, hg⟩ := own_form h1 (by omega)
  refine ⟨g, c, rfl, hg, fun m hm => ?_⟩
  obtain ⟨b, cc, e1, e2, e3, e4⟩ := h2.at (i := m) (by rw [cvRows_len]; omega)
  rw [cvRows_at T N (by omega), cvRow_len] at e1 e4
  refine ⟨b, cc, e3, e1, fun W' hb => ⟨(hb.cell (p := ⟨g, m, none⟩) hg).trans ((h1.cellAt m (by omega)).trans e1), fun j hj => ?_⟩⟩
  exact (hb.cell (p := ⟨b, j, none⟩) e3).trans ((e4 j hj).trans (cvRow_at T hj))
def enH (n : Nat) (hdrs : List Value) (p : { m : Nat // m ≤ n }) : Value := hdrs.getD p.1 undef
def tooMany (T : Tab) (n : Nat) (p : { m : Nat // m ≤ n }) : Bool := decide (most1 ≤ cntT T p.1 0)
def upN (n : Nat) : List { m : Nat // m ≤ n } := (List.range (n + 1)).map fun j => ⟨min j n, Nat.min_le_right _ _⟩
instance (n : Nat) : Inhabited { m : Nat // m ≤ n } := ⟨⟨0, Nat.zero_le _⟩⟩
theorem up_any (T : Tab) (n : Nat) : ((upN n).take (n + 1)).any (tooMany T n) = !fewB T n := by
  rw [List.take_of_length_le (by simp [upN])]
  unfold upN fewB
  rw [List.any_map, Bool.eq_iff_iff, List.any_eq_true]
  simp only [Bool.not_eq_true', List.all_eq_false, List.mem_range, Function.comp_apply, tooMany, decide_eq_true_eq]
  constructor
  · rintro ⟨j, h1, h2⟩
    refine ⟨j, h1, ?_⟩
    rw [Nat.min_eq_left (by omega)] at h2
    omega
  · rintro ⟨j, h1, h2⟩
    refine ⟨j, h1, ?_⟩
    rw [Nat.min_eq_left (by omega)]
    omega
theorem many_pred (n N : Nat) (T : Tab) (hdrs : List Value) (w : World) (hN : 0 < N) (hh : ∀ m, m ≤ n → ∃ b cc, b < w.heap.size ∧ hdrs[m]? = some (.slice (some ⟨b, 0, none⟩) N cc) ∧ ∀ W', Below w.heap.size w W' → W'.cell? ⟨b, 0, none⟩ = some (.int .i64 (cntT T m 0))) :
    PredAt Try.prog 66 #[] (enH n hdrs) (tooMany T n) w := by
  rintro W ⟨m, hm⟩ hb
  obtain ⟨b, cc, h1, h2, h3⟩ := hh m hm
  have h4 := h3 W hb
  have lb := Nat.lt_of_lt_of_le h1 hb.size
  unfold FnGives enH tooMany
  rw [List.getD_eq_getElem?_getD, h2]
  simp only [Option.getD_some]
  obtain ⟨x, hx⟩ : ∃ x, x = cntT T m 0 := ⟨_, rfl⟩
  rw [← hx] at h4 ⊢
  have hN' : (0 : Int) < (N : Int) := by omega
  clear h2 h3 hh hx
  go_enter Try.func66, Try.ntmps66
  go_wp2_with fail
  go_ret
  exact ⟨ret_bool (by unfold most1; simp; omega), 0, rfl⟩
set_option maxRecDepth 100000 in
set_option maxHeartbeats 4000000 in
theorem counted_any (gm q n N : Nat) (S : List Str) (T : Tab) (w : World) (hM : MachAt w gm q S T) (hT : TabOk T S.length q) (hq : q ≤ 3) (hS : S.length ≤ 121) (hN : N = S.length) (hN0 : 0 < N) (hn : n ≤ 200) :
    Calls Try.prog 43 #[.pointer (some ⟨gm, 0, none⟩), .int .i64 n] w fun e w' => Below w.heap.size w w' ∧
      ((fewB T n = false ∧ e = .returned (.tuple #[.slice none 0 0, .int .i64 5])) ∨
       (fewB T n = true ∧ ∃ g c, e = .returned (.tuple #[.slice (some ⟨g, 0, none⟩) (n + 1) c, .int .i64 0]) ∧ g < w'.heap.size ∧ ∀ m, m ≤ n → ∃ b cc, b < w'.heap.size ∧ ∀ W', Below w'.heap.size w' W' → W'.cell? ⟨g, m, none⟩ = some (.slice (some ⟨b, 0, none⟩) N cc) ∧ ∀ j, j < N → W'.cell? ⟨b, j, none⟩ = some (.int .i64 (cntT T m j)))) := by
  have CT := Lib.hid (counts_any gm q n N S T w hM hT hq hS hN hN0 hn)
  clear hM hT hS hN
  go_enter Try.func43, Try.ntmps43
  go_wp2_with fail
  refine CT.out.mono ?_
  rintro e w1 ⟨v, hdrs, rfl, h1, h2, hb⟩
  obtain ⟨g, c, rfl, hg, hrow⟩ := cv_facts h1 h2 hN0
  have hlen : hdrs.length = n + 1 := by have := h1.1; omega
  have hcell : ∀ j, j < n + 1 → w1.cell? ⟨g, j, none⟩ = hdrs[j]? := fun j hj => h1.cellAt j (by omega)
  have C := Lib.hid (AnyE.slices_ContainsFunc Try.laysCG (enH n hdrs) (tooMany T n) 66 #[] (enters_of Try.func66 (by kernel_rfl) rfl) g 0 (n + 1) c (upN n) w1
    (many_pred n N T hdrs w1 hN0 (fun m hm => by
      obtain ⟨b, cc, e1, e2, e3⟩ := hrow m hm
      exact ⟨b, cc, e1, e2, fun W' hb => (e3 W' hb).2 0 hN0⟩)) (by simp [upN]) (by omega) (fun j hj => by
        have hj' : j < n + 1 := by simpa [upN] using hj
        rw [Nat.zero_add, hcell j hj', getElem!_pos (upN n) j hj]
        have : ((upN n)[j]).1 = j := by simp [upN]; omega
        unfold enH
        rw [this, List.getD_eq_getElem?_getD, List.getElem?_eq_getElem (by omega)]
        rfl))
  rw [up_any] at C
  have HR := Lib.hid hrow
  have HB := Lib.hid hb
  clear h1 h2 hrow hcell hb CT
  cases hf : fewB T n with
  | false =>
    rw [hf] at C
    have HF := Lib.hid hf
    clear hf
    go_wp2_with fail
    refine C.out.mono ?_
    rintro e w2 ⟨rfl, nq, rfl⟩
    go_wp2_with fail
    go_ret2
    exact ⟨bl_drewN HB.out nq, .inl ⟨HF.out, rfl⟩⟩
  | true =>
    rw [hf] at C
    have HF := Lib.hid hf
    clear hf
    go_wp2_with fail
    refine C.out.mono ?_
    rintro e w2 ⟨rfl, nq, rfl⟩
    go_wp2_with fail
    go_ret2
    refine ⟨bl_drewN HB.out nq, .inr ⟨HF.out, g, c, rfl, hg, fun m hm => ?_⟩⟩
    obtain ⟨b, cc, e1, e2, e3⟩ := HR.out m hm
    exact ⟨b, cc, e1, fun W' hb' => e3 W' (bl_then (bl_drewN (bl_refl w1) nq) hb')⟩

set_option maxRecDepth 100000 in
set_option maxHeartbeats 4000000 in
theorem Count_no (q n : Int) (v : Value) (ss : List ByteArray) (w : World) (hv : StrsAt w v ss) (hset : setB q ss = false ∨ n < 0 ∨ 60 < n) :
    Calls Try.prog 16 #[.int .i64 q, v, .int .i64 n] w fun e w' => e = .returned (.tuple #[.int .i64 0, .int .i64 2]) ∧ Below w.heap.size w w' := by
  have IS := Lib.hid fun W h => isSet_any q v ss W h
  have WI := Lib.hid fun W => within_any n 0 60 W
  have HV := Lib.hid hv
  clear hv
  cases hs : setB q ss with
  | false =>
    rw [hs] at IS
    clear hset hs
    go_enter Try.func16, Try.ntmps16
    go_wp2_with fail
    refine (IS.out _ HV.out).mono ?_
    rintro e w1 ⟨rfl, r1⟩
    go_wp2_with fail
    go_ret2
    exact ⟨rfl, r1⟩
  | true =>
    have hn : (decide (0 ≤ n) && decide (n ≤ 60)) = false := by
      rcases hset with h | h
      · rw [hs] at h; cases h
      · simp; omega
    rw [hs] at IS
    rw [hn] at WI
    clear hset hs hn
    go_enter Try.func16, Try.ntmps16
    go_wp2_with fail
    refine (IS.out _ HV.out).mono ?_
    rintro e w1 ⟨rfl, r1⟩
    go_wp2_with fail
    refine (WI.out _).mono ?_
    rintro e w2 ⟨rfl, rfl⟩
    go_wp2_with fail
    go_ret2
    exact ⟨rfl, r1⟩
set_option maxRecDepth 100000 in
set_option maxHeartbeats 4000000 in
theorem Count_any (q n : Nat) (v : Value) (ss : List ByteArray) (w : World) (T : Tab) (hT : T = tabL (pats ss) q) (hv : StrsAt w v ss) (hset : setB q ss = true) (hn : n ≤ 60) (hG : HasG w) :
    Calls Try.prog 16 #[.int .i64 q, v, .int .i64 n] w fun e w' => ((fewB T n = false ∧ e = .returned (.tuple #[.int .i64 0, .int .i64 5])) ∨ (fewB T n = true ∧ e = .returned (.tuple #[.int .i64 (cntT T n 0), .int .i64 0]))) ∧ Below w.heap.size w w' := by
  have hq : 1 ≤ q ∧ q ≤ 3 := by have := (setB_parts hset).1; omega
  have h0 := ok_nil (pats_some hset)
  have IS := Lib.hid fun W h => isSet_any q v ss W h
  rw [hset] at IS
  have WI := Lib.hid fun W => within_any n 0 60 W
  rw [show (decide ((0 : Int) ≤ n) && decide ((n : Int) ≤ 60)) = true by simp; omega] at WI
  have NM := Lib.hid fun W h1 h2 => newMachine_any q hq v ss W h1 h0 h2
  have hTo := tab_ok (q := q) h0
  have hS := stL_few (pats ss) hq.2
  have hn0 : 0 < (stL (pats ss) q).length := by rw [stL_fix h0]; simp
  rw [← hT] at NM hTo
  obtain ⟨S, hSd⟩ : ∃ S, S = stL (pats ss) q := ⟨_, rfl⟩
  rw [← hSd] at NM hTo hS hn0
  obtain ⟨N, hN⟩ : ∃ N, N = S.length := ⟨_, rfl⟩
  have CN := Lib.hid fun gm W h => counted_any gm q n N S T W h hTo hq.2 hS hN (by omega) (by omega)
  have HV := Lib.hid hv
  have HG := Lib.hid hG
  rw [← hN] at hn0
  clear hv hG hset hTo hSd hN hT
  go_enter Try.func16, Try.ntmps16
  go_wp2_with fail
  refine (IS.out _ HV.out).mono ?_
  rintro e w1 ⟨rfl, r1⟩
  go_wp2_with fail
  refine (WI.out _).mono ?_
  rintro e w2 ⟨rfl, rfl⟩
  go_wp2_with fail
  refine (NM.out _ (HV.out.kept r1) (HG.out.kept r1)).mono ?_
  rintro e w2 ⟨gm, rfl, hM, r2⟩
  go_wp2_with fail
  refine (CN.out gm _ hM).mono ?_
  rintro e w3 ⟨r3, hr⟩
  have HB := Lib.hid (bl_then (bl_then r1 r2) r3)
  rcases hr with ⟨hf, rfl⟩ | ⟨hf, g, c, rfl, hg, hrow⟩
  · have HF := Lib.hid hf
    clear hf r1 r2 r3 hM
    go_wp2_with fail
    go_ret2
    exact ⟨.inl ⟨HF.out, rfl⟩, HB.out⟩
  · have HF := Lib.hid hf
    obtain ⟨b, cc, e1, e2⟩ := hrow n (Nat.le_refl n)
    obtain ⟨z1, z2⟩ := e2 w3 (bl_refl w3)
    have z3 := z2 0 hn0
    obtain ⟨x, hx⟩ : ∃ x, x = cntT T n 0 := ⟨_, rfl⟩
    have HX := Lib.hid hx
    rw [← hx] at z3
    clear hf r1 r2 r3 hM hrow e2 z2 hx
    have hnn : (n : Int) < ((n + 1 : Nat) : Int) := by omega
    have hn1 : (0 : Int) < (N : Int) := by omega
    go_wp2_with fail
    go_ret2
    exact ⟨.inr ⟨HF.out, by rw [← HX.out]; rfl⟩, HB.out⟩
end Go.Proofs.Ytpclkocfbkjabab
