/-
  Growth: the chains of circles, a closure that calls itself.
-/
import Derived.Test.YtnamafakjkcmjaaT13
import Derived.Test.YtnamafakjkcmjaaMC
namespace Go.Proofs.Ytnamafakjkcmjaa
open Go.RowKit Go.Shelf
set_option linter.unusedVariables false
set_option linter.unusedSimpArgs false

/-- The boxes that the closure has captured. -/
def chBl (Bk Bn Bl Bc Br bK bR gL N : Nat) : List (Nat × TypeId × Value) :=
  [(Bk, 67, .map (some bK)), (Bn, 3, .int .i64 N), (Bl, 61, .slice (some ⟨gL, 0, none⟩) N N),
   (Bc, 68, .func (.func 35) #[] #[.pointer (some ⟨Bk, 0, none⟩), .pointer (some ⟨Bn, 0, none⟩), .pointer (some ⟨Bl, 0, none⟩), .pointer (some ⟨Bc, 0, none⟩), .pointer (some ⟨Br, 0, none⟩)]),
   (Br, 66, .map (some bR))]
def ChK (M : Nat → Nat → Bool) (R : Nat → Bool) (N : Nat) (K : Nat → Option Int) : Prop := ∀ k v, K k = some v → v = chC M R N k ∧ k < N
def ChPost (M : Nat → Nat → Bool) (R : Nat → Bool) (N C bK i : Nat) (K : Nat → Option Int) (W : World) (e : Ending) (W' : World) : Prop :=
  ∃ (K' : Nat → Option Int) (cnt' : Nat), e = .returned (.int .i64 (chC M R N i)) ∧ ChK M R N K' ∧ (∀ k u, K k = some u → (K' k).isSome = true) ∧ (∀ k, rkC M N i < rkC M N k → K' k = K k) ∧ MapF kindII W' bK cnt' (mapN K') ∧ cnt' + freeK N K' ≤ C ∧ W.grownBy W' (some bK)
theorem Mt.map {we : World} {bl : List (Nat × TypeId × Value)} {H : Nat} {ds : List Deferred} {gL N k : Nat} {rb : Nat → Nat} {M : Nat → Nat → Bool} {W W' : World} {α β : Type} {mk : MapKind Try.prog α β} {b n : Nat} {f : α → Option β} (h : Mt we bl H ds gL N k rb M W) (hm : MapF mk W b n f) (hb : we.heap.size ≤ b) (hH : H ≤ b) (hg : W.grownBy W' (some b)) : Mt we bl H ds gL N k rb M W' := by
  obtain ⟨es, clock, hmb⟩ := hm.block
  refine Mt.own (β := Unit) (B := b) hb hH () W W' (some b) h hg fun r e => ?_
  cases e
  exact ⟨Nat.le_refl _, _, hmb, rfl⟩

set_option maxRecDepth 100000 in
set_option maxHeartbeats 4000000 in
theorem chain_calls (we : World) (Bk Bn Bl Bc Br bK bR gL N H nR : Nat) (ds : List Deferred) (rb : Nat → Nat) (M : Nat → Nat → Bool) (R : Nat → Bool) (hN : N ≤ 121)
    (hM : ∀ a b c, a < N → b < N → c < N → M a b = true → M b c = true → M a c = true) (hR : bR < bK) (hwe : we.heap.size ≤ bK) (hH : H ≤ bK) :
    ∀ (f C i cnt : Nat) (K : Nat → Option Int) (W : World), rkC M N i ≤ f → C ≤ 1000 → i < N → ChK M R N K → Mt we (chBl Bk Bn Bl Bc Br bK bR gL N) H ds gL N N rb M W → MapF kindIB W bR nR (fun x => if 0 ≤ x ∧ x.toNat < N then some (R x.toNat) else none) → MapF kindII W bK cnt (mapN K) → cnt + freeK N K ≤ C →
      Calls Try.prog 35 #[.int .i64 i, .pointer (some ⟨Bk, 0, none⟩), .pointer (some ⟨Bn, 0, none⟩), .pointer (some ⟨Bl, 0, none⟩), .pointer (some ⟨Bc, 0, none⟩), .pointer (some ⟨Br, 0, none⟩)] W (ChPost M R N C bK i K W) := by
  intro f
  induction f with
  | zero => intro C i cnt K W hf hC hi; exact absurd (rk_pos (M := M) hi) (by omega)
  | succ f ih =>
    intro C i cnt K W hf hC hi hK hMt hmR hmK hcnt
    have hwf : (Lit.int .i64 (i : Int)).wf = true := WalkArith.wf_i64 (by omega)
    have lk := hmK.look_ok (x := (i : Int)) hwf
    dsimp only [kindII] at lk
    rw [mapN_at] at lk
    have e1 := (hMt.env.box (Bk, 67, .map (some bK)) (by simp [chBl])).cell
    have l1 := (hMt.env.box (Bk, 67, .map (some bK)) (by simp [chBl])).lt
    dsimp only at l1
    have HMt := Lib.hid hMt
    have HmR := Lib.hid hmR
    have HmK := Lib.hid hmK
    have HK := Lib.hid hK
    cases hKi : K i with
    | some x =>
      obtain ⟨rfl, _⟩ := hK i x hKi
      rw [hKi] at lk
      simp only [Option.getD_some, Option.isSome_some] at lk
      have lk2 := hmK.look (x := (i : Int)) hwf
      dsimp only [kindII] at lk2
      rw [mapN_at, hKi] at lk2
      simp only [Option.getD_some] at lk2
      clear hMt hmR hmK hK hKi
      go_enter Try.func35, Try.ntmps35
      go_wp2_with fail
      go_ret
      exact ⟨K, cnt, rfl, HK.out, (fun k u h => by rw [h]; rfl), (fun k h => rfl), HmK.out, hcnt, grown_refl _ _⟩
    | none =>
      rw [hKi] at lk
      simp only [Option.getD_none, Option.isSome_none] at lk
      have e2 := (hMt.env.box (Bn, 3, .int .i64 N) (by simp [chBl])).cell
      have l2 := (hMt.env.box (Bn, 3, .int .i64 N) (by simp [chBl])).lt
      dsimp only at l2
      have HKi := Lib.hid hKi
      clear hMt hmR hmK hK hKi
      go_enter Try.func35, Try.ntmps35
      go_wp2_with fail
      clear lk e1 l1 e2 l2
      go_loopw [10, 21] (fun x jj wr => ∃ (j : Nat) (K' : Nat → Option Int) (cnt' : Nat), j ≤ N ∧ jj = .int .i64 j ∧ x = .int .i64 (foldC (chC M R N) (fun j => M i j && !M j i) j) ∧ Hid (ChK M R N K') ∧ Hid (∀ k u, K k = some u → (K' k).isSome = true) ∧ Hid (∀ k, rkC M N i ≤ rkC M N k → K' k = K k) ∧
        Hid (MapF kindII wr bK cnt' (mapN K')) ∧ cnt' + freeK N K' ≤ C ∧ Hid (W.grownBy wr (some bK)) ∧ Hid (Mt we (chBl Bk Bn Bl Bc Br bK bR gL N) H ds gL N N rb M wr) ∧ Hid (MapF kindIB wr bR nR (fun x => if 0 ≤ x ∧ x.toNat < N then some (R x.toNat) else none))) (fun _ jj _ => N - (intOf jj).toNat)
      case atStart => exact ⟨0, K, cnt, Nat.zero_le _, rfl, rfl, HK, Lib.hid (fun k u h => by rw [h]; rfl), Lib.hid (fun k h => rfl), HmK, hcnt, Lib.hid (grown_refl _ _), HMt, HmR⟩
      case round =>
        obtain ⟨j, K', cnt', hj, rfl, rfl, HK', HKK, HKr, HmK', hcnt', HG, HMt', HmR'⟩ := hrel
        clear HMt HmR HmK HK
        have hfb := foldC_bound (g := chC M R N) (p := fun j => M i j && !M j i) (B := (N : Int)) (by omega) (j := j) fun k hk _ => ch_small hM (by omega)
        have hfs : Hid (foldC (chC M R N) (fun j => M i j && !M j i) (j + 1) = if (M i j && !M j i) then max (foldC (chC M R N) (fun j => M i j && !M j i) j) (chC M R N j) else foldC (chC M R N) (fun j => M i j && !M j i) j) := Lib.hid rfl
        obtain ⟨x, hx⟩ : ∃ x, x = foldC (chC M R N) (fun j => M i j && !M j i) j := ⟨_, rfl⟩
        rw [← hx] at hfs hfb ⊢
        have HX := Lib.hid hx
        clear hx
        have e1 := (HMt'.out.env.box (Bk, 67, .map (some bK)) (by simp [chBl])).cell
        have e2 := (HMt'.out.env.box (Bn, 3, .int .i64 N) (by simp [chBl])).cell
        have e3 := (HMt'.out.env.box (Bl, 61, .slice (some ⟨gL, 0, none⟩) N N) (by simp [chBl])).cell
        have e4 := (HMt'.out.env.box (Bc, 68, .func (.func 35) #[] #[.pointer (some ⟨Bk, 0, none⟩), .pointer (some ⟨Bn, 0, none⟩), .pointer (some ⟨Bl, 0, none⟩), .pointer (some ⟨Bc, 0, none⟩), .pointer (some ⟨Br, 0, none⟩)]) (by simp [chBl])).cell
        have e5 := (HMt'.out.env.box (Br, 66, .map (some bR)) (by simp [chBl])).cell
        have l1 := (HMt'.out.env.box (Bk, 67, .map (some bK)) (by simp [chBl])).lt
        have l2 := (HMt'.out.env.box (Bn, 3, .int .i64 N) (by simp [chBl])).lt
        have l3 := (HMt'.out.env.box (Bl, 61, .slice (some ⟨gL, 0, none⟩) N N) (by simp [chBl])).lt
        have l4 := (HMt'.out.env.box (Bc, 68, .func (.func 35) #[] #[.pointer (some ⟨Bk, 0, none⟩), .pointer (some ⟨Bn, 0, none⟩), .pointer (some ⟨Bl, 0, none⟩), .pointer (some ⟨Bc, 0, none⟩), .pointer (some ⟨Br, 0, none⟩)]) (by simp [chBl])).lt
        have l5 := (HMt'.out.env.box (Br, 66, .map (some bR)) (by simp [chBl])).lt
        dsimp only at l1 l2 l3 l4 l5
        by_cases hjN : j < N
        · have q1 := HMt'.out.at1 (i := i) (Nat.le_refl _) hi
          have q2 := HMt'.out.at1 (i := j) (Nat.le_refl _) hjN
          have q3 := HMt'.out.at2 (i := i) hi hjN
          have q4 := HMt'.out.at2 (i := j) hjN hi
          have q5 := HMt'.out.lt1
          have q6 := HMt'.out.lt2 (i := i) hi
          have q7 := HMt'.out.lt2 (i := j) hjN
          unfold rowS at q1 q2
          cases hij : M i j with
          | false =>
            rw [hij] at q3 hfs
            simp only [Bool.false_and, Bool.false_eq_true, if_false] at hfs
            clear hij
            go_wp2_with fail
            go_roundw
            case rel => exact ⟨j + 1, K', cnt', by omega, by go_num, by rw [hfs.out], HK', HKK, HKr, HmK', hcnt', HG, HMt', HmR'⟩
            case measure => simp [intOf]; omega
          | true =>
            cases hji : M j i with
            | true =>
              rw [hij] at q3 hfs
              rw [hji] at q4 hfs
              simp only [Bool.true_and, Bool.not_true, Bool.false_eq_true, if_false] at hfs
              clear hij hji
              go_wp2_with fail
              go_roundw
              case rel => exact ⟨j + 1, K', cnt', by omega, by go_num, by rw [hfs.out], HK', HKK, HKr, HmK', hcnt', HG, HMt', HmR'⟩
              case measure => simp [intOf]; omega
            | false =>
              have hrk := rk_lt hM hi hjN hij hji
              have IH := Lib.hid (ih C j cnt' K' wr (by omega) hC hjN HK'.out HMt'.out HmR'.out HmK'.out hcnt')
              rw [hij] at q3 hfs
              rw [hji] at q4 hfs
              simp only [Bool.true_and, Bool.not_false, if_true] at hfs
              clear hij hji
              have hcb := ch_small (R := R) hM hjN
              obtain ⟨cj, hcj⟩ : ∃ cj, cj = chC M R N j := ⟨_, rfl⟩
              obtain ⟨MX, hMX⟩ : ∃ MX, max x cj = MX := ⟨_, rfl⟩
              rw [← hcj, hMX] at hfs
              rw [← hcj] at hcb
              go_wp2_with fail
              refine IH.out.mono ?_
              rintro e Y ⟨K2, cnt2, rfl, r1, r2, r3, r4, r5, r6⟩
              rw [← hcj]
              have HG2 := Lib.hid (grown_trans HG.out r6 (fun r e => .inl (by cases e; rfl)))
              have HM2 := Lib.hid (HMt'.out.map HmK'.out hwe hH r6)
              have HR2 := Lib.hid (HmR'.out.kept r6 (by simp; omega))
              have HKK2 : Hid (∀ k u, K k = some u → (K2 k).isSome = true) := Lib.hid fun k u h => by obtain ⟨u', hu'⟩ := Option.isSome_iff_exists.1 (HKK.out k u h); exact r2 k u' hu'
              have HKr2 : Hid (∀ k, rkC M N i ≤ rkC M N k → K2 k = K k) := Lib.hid fun k h => (r3 k (by omega)).trans (HKr.out k h)
              have R1 := Lib.hid r1
              have R4 := Lib.hid r4
              clear r1 r2 r3 r4 r6 hcj HMt' HmR' HG HKK HKr HK' HmK' e1 e2 e3 e4 e5 q1 q2 q3 q4
              go_wp2_with fail
              go_roundw
              case rel => exact ⟨j + 1, K2, cnt2, by omega, by go_num, by rw [hfs.out], R1, HKK2, HKr2, R4, r5, HG2, HM2, HR2⟩
              case measure => simp [intOf]; omega
        · have ej : N = j := by omega
          subst ej
          have hKi' : K' i = none := (HKr.out i (Nat.le_refl _)).trans HKi.out
          have hfr := free_set (chC M R N i) hi hKi'
          have hch := ch_eq (R := R) hM hi
          rw [← HX.out] at hch
          have lkR := HmR'.out.look (x := (i : Int)) hwf
          dsimp only [kindIB] at lkR
          rw [if_pos ⟨by omega, by simpa using hi⟩] at lkR
          simp only [Option.getD_some, Int.toNat_natCast] at lkR
          obtain ⟨b, hb⟩ : ∃ b, b = R i := ⟨_, rfl⟩
          rw [← hb] at lkR hch
          obtain ⟨y, hy⟩ : ∃ y, y = chC M R N i := ⟨_, rfl⟩
          rw [← hy] at hch
          obtain ⟨w5, s5, hm5, hg5⟩ := HmK'.out.store (x := (i : Int)) (y := y) hwf (WalkArith.wf_i64 (by have := ch_small (R := R) hM hi; omega)) (by unfold maxLen; omega)
          have lk5 := hm5.look (x := (i : Int)) hwf
          have hm5 := hm5.same (mapN_set K' i y)
          dsimp only [kindII] at s5 lk5
          rw [if_pos rfl] at lk5
          simp only [Option.getD_some] at lk5
          have hM5 := HMt'.out.map HmK'.out hwe hH hg5
          have d1 := (hM5.env.box (Bk, 67, .map (some bK)) (by simp [chBl])).cell
          have m1 := (hM5.env.box (Bk, 67, .map (some bK)) (by simp [chBl])).lt
          dsimp only at m1
          have HF : Hid (ChPost M R N C bK i K W (.returned (.int .i64 y)) w5) := Lib.hid (by
            refine ⟨setK K' i y, cnt' + 1, by rw [hy], fun k v hk => ?_, fun k u h => ?_, fun k h => ?_, hm5, ?_, grown_trans HG.out hg5 (fun r e => .inl (by cases e; rfl))⟩
            · by_cases e : k = i
              · rw [e, setK_same] at hk
                injection hk with hk
                rw [← hk, hy, e]; exact ⟨rfl, hi⟩
              · rw [setK_other _ _ e] at hk
                exact HK'.out k v hk
            · by_cases e : k = i
              · rw [e, setK_same]; rfl
              · rw [setK_other _ _ e]; exact HKK.out k u h
            · have e : k ≠ i := fun e => by rw [e] at h; omega
              rw [setK_other _ _ e]; exact HKr.out k (by omega)
            · rw [hy]; omega)
          clear hM5 hm5 hg5 hy hb HMt' HmR' HG HKK HKr HK' HmK' HX hfs hfr HKi hKi'
          cases b with
          | false =>
            simp only [Bool.false_eq_true, if_false] at hch
            obtain rfl : y = x := by omega
            clear hch
            go_wp2_with fail
            go_ret
            exact HF.out
          | true =>
            simp only [if_true] at hch
            subst hch
            go_wp2_with fail
            go_ret
            exact HF.out
end Go.Proofs.Ytnamafakjkcmjaa
