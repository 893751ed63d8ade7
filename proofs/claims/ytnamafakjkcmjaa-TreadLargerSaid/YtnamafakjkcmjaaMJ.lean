/-
  Several texts in one: XT54, XT55, XT56.
-/
import Derived.Test.YtnamafakjkcmjaaMK
import Derived.Laws.BytesArg
import Derived.Laws.AppendOwnNone
namespace Go.Proofs.Ytnamafakjkcmjaa
open Go.RowKit Go.Shelf
set_option linter.unusedVariables false
set_option linter.unusedSimpArgs false

theorem infoU : (Try.prog.info? 5).map (fun i => (i.zero, i.size, i.bytes)) = some (some (.int .u8 0), 1, 1) := by kernel_rfl
def byteV (c : UInt8) : Value := .int .u8 (c.toNat : Int)
theorem own_string (base : Nat) (v : Value) (l : List UInt8) (w : World) (h : w.ownsRow base 5 1 v l.length (l.map byteV)) :
    (convert 81 9 v).run Try.prog w = .ok (.string ⟨l.toArray⟩) w := by
  rcases h.2 with ⟨rfl, h0⟩ | ⟨g, cap, cur, rfl, _⟩
  · obtain rfl := List.eq_nil_of_length_eq_zero h0
    exact run_convert_bytes_nil w _ _ Try.underlying81 Try.underlying5 0 0 _ Try.underlying9
  · refine run_convert_bytes_back w _ _ _ ⟨g, 0, none⟩ cap l Try.underlying81 Try.underlying5 Try.underlying9 fun j hj => ?_
    have e : (⟨g, 0, none⟩ : Addr).add j = ⟨g, j, none⟩ := by simp [Addr.add]; intro h; exact h.symm
    rw [e, h.cellAt j (by omega)]
    simp [List.getElem?_eq_getElem hj, byteV]
theorem byte_lt (c : UInt8) : (c.toNat : Int) ≤ 255 := by have := c.toNat_lt; omega
def tmB (q : Nat) (b : UInt8) : UInt8 := ltr (b.toNat % q)
/-- What 'letters' makes of a string. -/
def tmL (q n : Nat) (s : ByteArray) : Str := ((sb s).take n).map (tmB q)
theorem tm_lett {q : Nat} (hq : 1 ≤ q ∧ q ≤ 3) (n : Nat) (s : ByteArray) : lettB q (tmL q n s) = true := by
  rw [lettB_iff hq.2]
  intro b hb
  unfold tmL at hb
  obtain ⟨c, _, rfl⟩ := List.mem_map.1 hb
  exact ⟨c.toNat % q, Nat.mod_lt _ (by omega), rfl⟩
theorem tm_len (q n : Nat) (s : ByteArray) : (tmL q n s).length = min n s.size := by
  unfold tmL
  rw [List.length_map, List.length_take, sb_size]
theorem tm_succ {q n : Nat} {s : ByteArray} (h : n < s.size) : tmL q (n + 1) s = tmL q n s ++ [tmB q (s[n]'h)] := by
  unfold tmL
  rw [List.take_succ_eq_append_getElem (by rw [sb_size]; exact h), List.map_append]
  rfl
set_option maxRecDepth 100000 in
set_option maxHeartbeats 4000000 in
theorem letters_any (s : ByteArray) (q n : Nat) (hq : 1 ≤ q ∧ q ≤ 3) (w : World) (hs : s.size ≤ maxLen) (hn : n ≤ 1000) :
    Calls Try.prog 26 #[.string s, .int .i64 q, .int .i64 n] w fun e w' => e = .returned (.string (bs (tmL q n s))) ∧ Below w.heap.size w w' := by
  obtain ⟨i0, hi, hz0, hz1, hz2⟩ := info_parts infoU
  have hq0 : ¬ (q : Int) = 0 := by omega
  have hqb : ((q : Int) == 0) = false := by rw [beq_eq_false_iff_ne]; omega
  have hqw : (q : Int) % 256 = (q : Int) := by omega
  obtain ⟨Z, hZ⟩ : ∃ Z, Z = s.size := ⟨_, rfl⟩
  have HZ := Lib.hid hZ
  have hZ' : s.size = Z := hZ.symm
  rw [← hZ] at hs
  clear hZ
  go_enter Try.func26, Try.ntmps26
  go_wp2_with fail
  go_loopw [7, 8] (fun v i wr => ∃ (k : Nat), k ≤ Z ∧ k ≤ n ∧ i = .int .i64 k ∧ Hid (wr.ownsRow w.heap.size 5 1 v k ((tmL q k s).map byteV)) ∧ Hid (Below w.heap.size w wr)) (fun _ i _ => n - (intOf i).toNat)
  case atStart => exact ⟨0, Nat.zero_le _, Nat.zero_le _, rfl, Lib.hid (World.ownsRow_nil _ _ _ _), Lib.hid (bl_refl w)⟩
  case round =>
    obtain ⟨k, hk, hkn, rfl, HO, HB⟩ := hrel
    by_cases hlt : k < Z
    · have hlt' : (k : Int) < (Z : Int) := by omega
      by_cases hln : k < n
      · have hln' : (k : Int) < (n : Int) := by omega
        have hks : k < s.size := by omega
        have hsc := tm_succ (q := q) hks
        obtain ⟨b, hb⟩ : ∃ b, s[k]'hks = b := ⟨_, rfl⟩
        rw [hb] at hsc
        have hv := byte_lt b
        obtain ⟨c, hc⟩ : ∃ c, c = b.toNat % q := ⟨_, rfl⟩
        have hcq : c < q := by rw [hc]; exact Nat.mod_lt _ (by omega)
        have p2 : (b.toNat : Int) % (q : Int) = (c : Int) := by rw [hc, Int.natCast_emod]
        have p1 : Int.tmod (b.toNat : Int) (q : Int) = (c : Int) := by rw [Int.tmod_eq_emod_of_nonneg (by omega), p2]
        have p3 : (97 + (c : Int)) % 256 = 97 + (c : Int) := by omega
        have p4 : (c : Int) % 256 = (c : Int) := by omega
        have HE : Hid ((tmL q (k + 1) s).map byteV = (tmL q k s).map byteV ++ [.int .u8 (97 + (c : Int))]) := Lib.hid (by
          rw [hsc, List.map_append]
          congr 1
          show [byteV (tmB q b)] = _
          unfold byteV tmB
          rw [← hc, ltr_nat (by omega), Int.natCast_add]
          rfl)
        have ho := HO.out
        have hz := HB.out.size
        clear hsc hc
        go_wp2_with (at_builtin; refine wpList_append_own _ rfl (.tmp 20) (.tmp 28) _ rfl w.heap.size 5 i0 _ 1 1 Try.underlying81 hi hz0 hz1 hz2 rfl (by decide) _ k ((tmL q k s).map byteV) rfl (ho.alloc _) ⟨wr.heap.size, 0, none⟩ 1 1 [.int .u8 (97 + (c : Int))] rfl rfl (cells_new _ _ _) (by intro u hu; rw [List.mem_singleton.1 hu]; rfl) (by unfold maxLen; omega) (by omega) (by simp; omega) ?_; intro v3 w3 hown3 hg3 _)
        have hoA := ho.alloc (.cells #[.int .u8 (97 + (c : Int))] 5)
        have HB3 := Lib.hid (bl_grown (bl_alloc HB.out (.cells #[.int .u8 (97 + (c : Int))] 5)) hoA (Nat.le_refl _) hg3)
        have HO3 : Hid (w3.ownsRow w.heap.size 5 1 v3 (k + 1) ((tmL q (k + 1) s).map byteV)) := Lib.hid (by rw [HE.out]; exact hown3)
        clear hg3 hoA hown3 ho
        go_wp2_with fail
        go_roundw
        case rel => exact ⟨k + 1, by omega, by omega, by go_num, HO3, HB3⟩
        case measure => simp [intOf]; omega
      · have hkn' : k = n := by omega
        have hll : (tmL q k s).length = k := by rw [tm_len]; omega
        have hcv := own_string w.heap.size _ (tmL q k s) wr (by rw [hll]; exact HO.out)
        have HK := Lib.hid hkn'
        clear hll hkn'
        go_wp2_with fail
        go_ret
        exact ⟨by rw [← HK.out]; rfl, HB.out⟩
    · have hkn' : k = Z := by omega
      have hll : (tmL q k s).length = k := by rw [tm_len]; have := HZ.out; omega
      have hcv := own_string w.heap.size _ (tmL q k s) wr (by rw [hll]; exact HO.out)
      have HK : Hid (tmL q k s = tmL q n s) := Lib.hid (by
        unfold tmL
        rw [List.take_of_length_le (by rw [sb_size]; have := HZ.out; omega), List.take_of_length_le (by rw [sb_size]; have := HZ.out; omega)])
      clear hll hkn'
      go_wp2_with fail
      go_ret
      exact ⟨by rw [← HK.out]; rfl, HB.out⟩
end Go.Proofs.Ytnamafakjkcmjaa

namespace Go.Proofs.Ytnamafakjkcmjaa
open Go.RowKit Go.Shelf
set_option linter.unusedVariables false
set_option linter.unusedSimpArgs false

def withL (L : List ByteArray) (s : ByteArray) (k : Nat) : List ByteArray := L.take k ++ s :: L.drop k
theorem withL_len (L : List ByteArray) (s : ByteArray) (k : Nat) : (withL L s k).length ≤ L.length + 1 := by unfold withL; simp; omega
theorem withL_has (L : List ByteArray) (s : ByteArray) (k : Nat) : s ∈ withL L s k := by unfold withL; simp
theorem withL_ne (L : List ByteArray) (s : ByteArray) (k : Nat) : withL L s k ≠ [] := by unfold withL; simp
theorem withL_mem {L : List ByteArray} {s x : ByteArray} {k : Nat} (h : x ∈ withL L s k) : x = s ∨ x ∈ L := by
  unfold withL at h
  rcases List.mem_append.1 h with h | h
  · exact .inr (List.mem_of_mem_take h)
  · rcases List.mem_cons.1 h with h | h
    · exact .inl h
    · exact .inr (List.mem_of_mem_drop h)
theorem withL_old {L : List ByteArray} {s x : ByteArray} {k : Nat} (h : x ∈ L) : x ∈ withL L s k := by
  unfold withL
  rw [← List.take_append_drop k L] at h
  rcases List.mem_append.1 h with h | h
  · exact List.mem_append_left _ h
  · exact List.mem_append_right _ (List.mem_cons_of_mem _ h)
theorem withL_sorted {L : List ByteArray} {s : ByteArray} {k : Nat} (hs : L.Pairwise fun a b => sb a < sb b) (hlo : ∀ j (h : j < L.length), j < k → sb L[j] < sb s) (hhi : ∀ j (h : j < L.length), k ≤ j → sb s < sb L[j]) : (withL L s k).Pairwise fun a b => sb a < sb b := by
  unfold withL
  rw [List.pairwise_append]
  refine ⟨hs.sublist (List.take_sublist _ _), List.pairwise_cons.2 ⟨fun x hx => ?_, hs.sublist (List.drop_sublist _ _)⟩, fun a ha b hb => ?_⟩
  · obtain ⟨j, hj, rfl⟩ := List.mem_iff_getElem.1 hx
    rw [List.getElem_drop]
    exact hhi _ _ (by omega)
  · obtain ⟨i, hi, rfl⟩ := List.mem_iff_getElem.1 ha
    rw [List.length_take] at hi
    rw [List.getElem_take]
    rcases List.mem_cons.1 hb with rfl | hb
    · exact hlo i (by omega) (by omega)
    · obtain ⟨j, hj, rfl⟩ := List.mem_iff_getElem.1 hb
      rw [List.length_drop] at hj
      rw [List.getElem_drop]
      exact str_trans (hlo i (by omega) (by omega)) (hhi (k + j) (by omega) (by omega))
/-- What 'with' has made. -/
def WithOk (L : List ByteArray) (s : ByteArray) (w' : World) (v' : Value) : Prop := ∃ L', StrsAt w' v' L' ∧ (L'.Pairwise fun a b => sb a < sb b) ∧ (∀ x ∈ L', x = s ∨ x ∈ L) ∧ L'.length ≤ L.length + 1 ∧ s ∈ L' ∧ (∀ x ∈ L, x ∈ L') ∧ (L' = [] → v' = .slice none 0 0)
theorem str_total (a b : Str) : a < b ∨ a = b ∨ b < a := by
  rcases Classical.em (a < b) with h | h
  · exact .inl h
  · rcases Classical.em (b < a) with h2 | h2
    · exact .inr (.inr h2)
    · exact .inr (.inl (List.le_antisymm (List.not_lt.1 h2) (List.not_lt.1 h)))
set_option maxRecDepth 100000 in
set_option maxHeartbeats 4000000 in
theorem with_any (v : Value) (L : List ByteArray) (s : ByteArray) (w : World) (hv : StrsAt w v L) (hl : L.length ≤ 1000) (hs : L.Pairwise fun a b => sb a < sb b) (hnil : L = [] → v = .slice none 0 0) :
    Calls Try.prog 29 #[v, .string s] w fun e w' => ∃ v', e = .returned v' ∧ WithOk L s w' v' ∧ Below w.heap.size w w' := by
  obtain ⟨j0, hj, jz0, jz1, jz2⟩ := info_parts infoS
  by_cases hL0 : L = []
  · obtain rfl := hnil hL0
    subst hL0
    clear hv hs hnil hl
    go_enter Try.func29, Try.ntmps29
    go_wp2_with fail
    go_loopw [5] (fun iv wr => iv = .int .i64 0 ∧ wr = w) (fun _ _ => 0)
    case atStart => exact ⟨rfl, rfl⟩
    case round =>
      obtain ⟨rfl, rfl⟩ := hrel
      go_wp2_with (at_builtin; first | (refine wpList_append_own_none rfl (.tmp 34) (.tmp 37) _ rfl wr.heap.size 9 j0 1 Try.underlying22 hj (.slice none 0 0) 0 [] rfl (World.ownsRow_nil wr wr.heap.size 9 1) rfl ?_) | (refine wpList_append_own _ rfl (.tmp 39) (.tmp 41) _ rfl wr.heap.size 9 j0 _ 1 16 Try.underlying22 hj jz0 jz1 jz2 rfl (by decide) (.slice none 0 0) 0 [] rfl (World.ownsRow_nil _ wr.heap.size 9 1) ⟨wr.heap.size, 0, none⟩ 1 1 [.string s] rfl rfl (cells_new _ _ _) (by intro u hu; rw [List.mem_singleton.1 hu]; rfl) (by unfold maxLen; omega) (by omega) (by simp) ?_; intro v7 w7 hown7 hg7 _; have HB7 := Lib.hid (bl_grown (bl_alloc (bl_refl wr) (.cells #[.string s] 9)) (World.ownsRow_nil (wr.alloc (.cells #[.string s] 9)) wr.heap.size 9 1) (Nat.le_refl _) hg7); obtain ⟨g7, c7, rfl, _, _⟩ := own_form hown7 (by omega); have HO7 := Lib.hid hown7; clear hg7 hown7) | (refine wpList_append_own_none rfl (.tmp 43) (.tmp 46) _ rfl wr.heap.size 9 j0 1 Try.underlying22 hj (.slice (some ⟨g7, 0, none⟩) (0 + 1) c7) (0 + 1) ([] ++ [.string s]) rfl HO7.out rfl ?_))
      go_wp2_with fail
      go_ret
      exact ⟨_, rfl, ⟨[s], strs_own (base := wr.heap.size) (L := [s]) HO7.out (by simp), by simp, fun x hx => .inl (by simpa using hx), by simp, by simp, fun x hx => absurd hx List.not_mem_nil, fun h => by cases h⟩, HB7.out⟩
  · obtain ⟨N, hN⟩ : ∃ N, N = L.length := ⟨_, rfl⟩
    have hN0 : 0 < N := by rw [hN]; exact List.length_pos_iff.2 hL0
    obtain ⟨A, c, rfl, hlc, hcm, hA⟩ := hv
    obtain ⟨g, off, rfl, hg, hc⟩ := hA (by omega)
    have HN := Lib.hid hN
    have HS0 := Lib.hid hs
    rw [← hN] at hl hlc
    have HC := Lib.hid hc
    have e5 : Value.slice (some ⟨g, off, none⟩) L.length c = .slice (some ⟨g, off, none⟩) N c := by rw [hN]
    rw [e5]
    clear hN hA hs hnil hL0 e5 hc
    go_enter Try.func29, Try.ntmps29
    go_wp2_with fail
    go_loopw [5] (fun iv wr => ∃ k : Nat, k ≤ N ∧ iv = .int .i64 k ∧ Hid (∀ j (h : j < L.length), j < k → sb L[j] < sb s) ∧ Hid (Below w.heap.size w wr)) (fun iv _ => N - (intOf iv).toNat)
    case atStart => exact ⟨0, Nat.zero_le _, rfl, Lib.hid (fun j _ h => absurd h (Nat.not_lt_zero _)), Lib.hid (bl_refl w)⟩
    case round =>
      obtain ⟨k, hk, rfl, HLO, HB⟩ := hrel
      have hc := HC.out
      by_cases hlt : k < N
      · have hkl : k < L.length := by have := HN.out; omega
        have hkc0 := (HB.out.cell (p := ⟨g, off + k, none⟩) hg).trans (hc k hkl)
        rw [show L.getD k ByteArray.empty = L[k] by rw [List.getD_eq_getElem?_getD, List.getElem?_eq_getElem hkl]; rfl] at hkc0
        have hgw := Nat.lt_of_lt_of_le hg HB.out.size
        obtain ⟨t, ht⟩ : ∃ t, t = L[k] := ⟨_, rfl⟩
        have HT := Lib.hid ht
        have hli := less_iff t s
        have hbq := str_beq t s
        rw [← ht] at hkc0
        have hlt' : (k : Int) < (N : Int) := by omega
        clear ht
        by_cases hless : sb t < sb s
        · have hle := hli.2 hless
          have HLO2 : Hid (∀ j (h : j < L.length), j < k + 1 → sb L[j] < sb s) := Lib.hid fun j h hj => by
            rcases Nat.lt_or_ge j k with h1 | h1
            · exact HLO.out j h h1
            · obtain rfl : j = k := by omega
              rw [← HT.out]; exact hless
          clear hli hbq hless hc
          go_wp2_with fail
          go_roundw
          case rel => exact ⟨k + 1, by omega, by go_num, HLO2, HB⟩
          case measure => simp [intOf]; omega
        · have hle : Op.bytesLess t.toList s.toList = false := by
            cases h : Op.bytesLess t.toList s.toList with
            | true => exact absurd (hli.1 h) hless
            | false => rfl
          by_cases heq : t = s
          · have hbq2 : (t.toList == s.toList) = true := by rw [hbq]; simp [heq]
            have HEQ := Lib.hid heq
            have HST := Lib.hid (show StrsAt wr (.slice (some ⟨g, off, none⟩) N c) L from ⟨some ⟨g, off, none⟩, c, by rw [HN.out], by rw [← HN.out]; exact hlc, hcm, fun _ => ⟨g, off, rfl, hgw, fun i hi => (HB.out.cell (p := ⟨g, off + i, none⟩) hg).trans (hc i hi)⟩⟩)
            have HMEM : Hid (s ∈ L) := Lib.hid (by rw [← HEQ.out, HT.out]; exact List.getElem_mem hkl)
            clear hli hbq hless heq hc
            go_wp2_with fail
            go_ret
            exact ⟨_, rfl, ⟨L, HST.out, HS0.out, fun x hx => .inr hx, Nat.le_succ _, HMEM.out, fun x hx => hx, fun h => by have := HN.out; rw [h] at this; simp at this; omega⟩, HB.out⟩
          · have hbq2 : (t.toList == s.toList) = false := by rw [hbq]; simp [heq]
            have HHI : Hid (∀ j (h : j < L.length), k ≤ j → sb s < sb L[j]) := Lib.hid (fun j h hkj => by
              have h1 : sb s < sb L[k] := by
                rw [← HT.out]
                rcases str_total (sb t) (sb s) with h | h | h
                · exact absurd h hless
                · exact absurd (sb_inj h) heq
                · exact h
              rcases Nat.lt_or_ge k j with h2 | h2
              · exact str_trans h1 (List.pairwise_iff_getElem.1 HS0.out k j hkl h h2)
              · obtain rfl : j = k := by omega
                exact h1)
            have n1 : ∀ (j : Nat) u, (encB (L.take k))[j]? = some u → wr.cell? ((⟨g, off, none⟩ : Addr).add j) = some u := by
              have := src_cells (n := 0) hg hc HB.out 0 (L.take k) (fun j hj => by
                rw [List.length_take] at hj
                refine ⟨by omega, ?_⟩
                rw [Nat.zero_add, List.getD_eq_getElem?_getD, List.getD_eq_getElem?_getD, List.getElem?_take_of_lt (by omega)])
              exact this
            have n2 : ∀ W, Below wr.heap.size wr W → ∀ (j : Nat) u, (encB (L.drop k))[j]? = some u → W.cell? ((⟨g, off + k, none⟩ : Addr).add j) = some u := fun W hb =>
              src_cells (n := 0) hg hc (bl_then HB.out hb) k (L.drop k) (fun j hj => by
                rw [List.length_drop] at hj
                refine ⟨by omega, ?_⟩
                rw [List.getD_eq_getElem?_getD, List.getD_eq_getElem?_getD, List.getElem?_drop])
            have l1 : (encB (L.take k)).length = k * 1 := by rw [encB_len, List.length_take]; have := HN.out; omega
            have l2 : (encB (L.drop k)).length = (N - k) * 1 := by rw [encB_len, List.length_drop]; have := HN.out; omega
            have hsm : encB (L.take k) ++ [.string s] ++ encB (L.drop k) = encB (withL L s k) := by unfold withL encB; simp
            have hln : (withL L s k).length = N + 1 := by unfold withL; simp; have := HN.out; omega
            have o1 := encB_one (L.take k)
            have o2 := encB_one (L.drop k)
            obtain ⟨L1, hL1⟩ : ∃ l, l = encB (L.take k) := ⟨_, rfl⟩
            obtain ⟨L2, hL2⟩ : ∃ l, l = encB (L.drop k) := ⟨_, rfl⟩
            rw [← hL1] at n1 l1 hsm o1
            rw [← hL2] at n2 l2 hsm o2
            have N1 := Lib.hid n1
            have N2 := Lib.hid n2
            have M1 := Lib.hid l1
            have M2 := Lib.hid l2
            have O1 := Lib.hid o1
            have O2 := Lib.hid o2
            have HSM := Lib.hid hsm
            have HLN := Lib.hid hln
            have hkN : (k : Int) ≤ (N : Int) := by omega
            have hk0 : (0 : Int) ≤ (k : Int) := by omega
            have hkc : (k : Int) ≤ (c : Int) := by omega
            clear n1 n2 l1 l2 hsm hln o1 o2 hL1 hL2
            clear hli hbq hless heq hc
            have hci : ¬ c = k := by omega
            go_wp2_with (at_builtin; first | (refine wpList_append_own wr rfl (.tmp 34) (.tmp 37) _ rfl wr.heap.size 9 j0 _ 1 16 Try.underlying22 hj jz0 jz1 jz2 rfl (by decide) (.slice none 0 0) 0 [] rfl (World.ownsRow_nil wr wr.heap.size 9 1) ⟨g, off, none⟩ k c L1 rfl M1.out N1.out O1.out (by unfold maxLen; omega) (by omega) (Nat.le_refl _) ?_; intro v6 w6 hown6 hg6 _; rw [Nat.zero_add, List.nil_append] at hown6; have hb6 := bl_grown (bl_refl wr) (World.ownsRow_nil wr wr.heap.size 9 1) (Nat.le_refl _) hg6; have HB6 := Lib.hid hb6; have hz6 := hb6.size; obtain ⟨A6, c6, rfl, hA6⟩ := own_any hown6; have HO6 := Lib.hid hown6; clear hb6 hg6 hown6) | (refine wpList_append_own _ rfl (.tmp 39) (.tmp 41) _ rfl wr.heap.size 9 j0 _ 1 16 Try.underlying22 hj jz0 jz1 jz2 rfl (by decide) (.slice A6 k c6) k L1 rfl (HO6.out.alloc _) ⟨w6.heap.size, 0, none⟩ 1 1 [.string s] rfl rfl (cells_new _ _ _) (by intro u hu; rw [List.mem_singleton.1 hu]; rfl) (by unfold maxLen; omega) (by omega) (by simp; omega) ?_; intro v7 w7 hown7 hg7 _; have hb7 := bl_grown (bl_alloc HB6.out (.cells #[.string s] 9)) (HO6.out.alloc (.cells #[.string s] 9)) (Nat.le_refl _) hg7; have HB7 := Lib.hid hb7; have N7 := Lib.hid (N2.out w7 hb7); have hz7 := hb7.size; obtain ⟨g7, c7, rfl, _, _⟩ := own_form hown7 (by omega); have HO7 := Lib.hid hown7; clear hb7 hg7 hown7) | (refine wpList_append_own w7 rfl (.tmp 43) (.tmp 46) _ rfl wr.heap.size 9 j0 _ 1 16 Try.underlying22 hj jz0 jz1 jz2 rfl (by decide) (.slice (some ⟨g7, 0, none⟩) (k + 1) c7) (k + 1) (L1 ++ [.string s]) rfl HO7.out ⟨g, off + k, none⟩ (N - k) (c - k) L2 rfl (by first | rfl | (have := M2.out; simp at this ⊢; omega)) (N7.out) O2.out (by unfold maxLen; omega) (by omega) hz7 ?_; intro v8 w8 hown8 hg8 _; have HB8 := Lib.hid (bl_grown HB7.out HO7.out (Nat.le_refl _) hg8); have HO8 := Lib.hid hown8; clear hg8 hown8))
            go_wp2_with fail
            go_ret
            refine ⟨_, rfl, ⟨withL L s k, ?_, withL_sorted HS0.out HLO.out HHI.out, fun x hx => withL_mem hx, withL_len _ _ _, withL_has _ _ _, fun x hx => withL_old hx, fun h => absurd h (withL_ne _ _ _)⟩, bl_then HB.out HB8.out⟩
            refine strs_own (base := wr.heap.size) ?_ (by have := withL_len L s k; have := HN.out; omega)
            have h := HO8.out
            rw [HSM.out, show k + 1 + (N - k) = (withL L s k).length by have := HLN.out; omega] at h
            exact h
      · have ek : k = N := by omega
        have HHI : Hid (∀ j (h : j < L.length), k ≤ j → sb s < sb L[j]) := Lib.hid (fun j h hkj => by have := HN.out; omega)
        have n1 : ∀ (j : Nat) u, (encB (L.take k))[j]? = some u → wr.cell? ((⟨g, off, none⟩ : Addr).add j) = some u := by
          have := src_cells (n := 0) hg hc HB.out 0 (L.take k) (fun j hj => by
            rw [List.length_take] at hj
            refine ⟨by omega, ?_⟩
            rw [Nat.zero_add, List.getD_eq_getElem?_getD, List.getD_eq_getElem?_getD, List.getElem?_take_of_lt (by omega)])
          exact this
        have n2 : ∀ W, Below wr.heap.size wr W → ∀ (j : Nat) u, (encB (L.drop k))[j]? = some u → W.cell? ((⟨g, off + k, none⟩ : Addr).add j) = some u := fun W hb =>
          src_cells (n := 0) hg hc (bl_then HB.out hb) k (L.drop k) (fun j hj => by
            rw [List.length_drop] at hj
            refine ⟨by omega, ?_⟩
            rw [List.getD_eq_getElem?_getD, List.getD_eq_getElem?_getD, List.getElem?_drop])
        have l1 : (encB (L.take k)).length = k * 1 := by rw [encB_len, List.length_take]; have := HN.out; omega
        have l2 : (encB (L.drop k)).length = (N - k) * 1 := by rw [encB_len, List.length_drop]; have := HN.out; omega
        have hsm : encB (L.take k) ++ [.string s] ++ encB (L.drop k) = encB (withL L s k) := by unfold withL encB; simp
        have hln : (withL L s k).length = N + 1 := by unfold withL; simp; have := HN.out; omega
        have o1 := encB_one (L.take k)
        have o2 := encB_one (L.drop k)
        obtain ⟨L1, hL1⟩ : ∃ l, l = encB (L.take k) := ⟨_, rfl⟩
        obtain ⟨L2, hL2⟩ : ∃ l, l = encB (L.drop k) := ⟨_, rfl⟩
        rw [← hL1] at n1 l1 hsm o1
        rw [← hL2] at n2 l2 hsm o2
        have N1 := Lib.hid n1
        have N2 := Lib.hid n2
        have M1 := Lib.hid l1
        have M2 := Lib.hid l2
        have O1 := Lib.hid o1
        have O2 := Lib.hid o2
        have HSM := Lib.hid hsm
        have HLN := Lib.hid hln
        have hkN : (k : Int) ≤ (N : Int) := by omega
        have hk0 : (0 : Int) ≤ (k : Int) := by omega
        have hkc : (k : Int) ≤ (c : Int) := by omega
        clear n1 n2 l1 l2 hsm hln o1 o2 hL1 hL2
        clear hc ek
        by_cases hci : c = k
        · have hN1 : N = k := by omega
          have hL2 : L2 = [] := List.eq_nil_of_length_eq_zero (by have := M2.out; omega)
          subst hL2
          obtain rfl : k = N := hN1.symm
          obtain rfl : k = c := hci.symm
          go_wp2_with (at_builtin; first | (refine wpList_append_own wr rfl (.tmp 34) (.tmp 37) _ rfl wr.heap.size 9 j0 _ 1 16 Try.underlying22 hj jz0 jz1 jz2 rfl (by decide) (.slice none 0 0) 0 [] rfl (World.ownsRow_nil wr wr.heap.size 9 1) ⟨g, off, none⟩ k k L1 rfl M1.out N1.out O1.out (by unfold maxLen; omega) (by omega) (Nat.le_refl _) ?_; intro v6 w6 hown6 hg6 _; rw [Nat.zero_add, List.nil_append] at hown6; have hb6 := bl_grown (bl_refl wr) (World.ownsRow_nil wr wr.heap.size 9 1) (Nat.le_refl _) hg6; have HB6 := Lib.hid hb6; have hz6 := hb6.size; obtain ⟨A6, c6, rfl, hA6⟩ := own_any hown6; have HO6 := Lib.hid hown6; clear hb6 hg6 hown6) | (refine wpList_append_own _ rfl (.tmp 39) (.tmp 41) _ rfl wr.heap.size 9 j0 _ 1 16 Try.underlying22 hj jz0 jz1 jz2 rfl (by decide) (.slice A6 k c6) k L1 rfl (HO6.out.alloc _) ⟨w6.heap.size, 0, none⟩ 1 1 [.string s] rfl rfl (cells_new _ _ _) (by intro u hu; rw [List.mem_singleton.1 hu]; rfl) (by unfold maxLen; omega) (by omega) (by simp; omega) ?_; intro v7 w7 hown7 hg7 _; have hb7 := bl_grown (bl_alloc HB6.out (.cells #[.string s] 9)) (HO6.out.alloc (.cells #[.string s] 9)) (Nat.le_refl _) hg7; have HB7 := Lib.hid hb7; have N7 := Lib.hid (N2.out w7 hb7); have hz7 := hb7.size; obtain ⟨g7, c7, rfl, _, _⟩ := own_form hown7 (by omega); have HO7 := Lib.hid hown7; clear hb7 hg7 hown7) | (refine wpList_append_own w7 rfl (.tmp 43) (.tmp 46) _ rfl wr.heap.size 9 j0 _ 1 16 Try.underlying22 hj jz0 jz1 jz2 rfl (by decide) (.slice (some ⟨g7, 0, none⟩) (k + 1) c7) (k + 1) (L1 ++ [.string s]) rfl HO7.out ⟨g, off, none⟩ (0) (0) [] rfl (by first | rfl | (have := M2.out; simp at this ⊢; omega)) (by intro j u hu; simp at hu) O2.out (by unfold maxLen; omega) (by omega) hz7 ?_; intro v8 w8 hown8 hg8 _; have HB8 := Lib.hid (bl_grown HB7.out HO7.out (Nat.le_refl _) hg8); have HO8 := Lib.hid hown8; clear hg8 hown8))
          go_wp2_with fail
          go_ret
          refine ⟨_, rfl, ⟨withL L s k, ?_, withL_sorted HS0.out HLO.out HHI.out, fun x hx => withL_mem hx, withL_len _ _ _, withL_has _ _ _, fun x hx => withL_old hx, fun h => absurd h (withL_ne _ _ _)⟩, bl_then HB.out HB8.out⟩
          refine strs_own (base := wr.heap.size) ?_ (by have := withL_len L s k; have := HN.out; omega)
          have h := HO8.out
          rw [HSM.out, show k + 1 + 0 = (withL L s k).length by have := HLN.out; omega] at h
          exact h
        · go_wp2_with (at_builtin; first | (refine wpList_append_own wr rfl (.tmp 34) (.tmp 37) _ rfl wr.heap.size 9 j0 _ 1 16 Try.underlying22 hj jz0 jz1 jz2 rfl (by decide) (.slice none 0 0) 0 [] rfl (World.ownsRow_nil wr wr.heap.size 9 1) ⟨g, off, none⟩ k c L1 rfl M1.out N1.out O1.out (by unfold maxLen; omega) (by omega) (Nat.le_refl _) ?_; intro v6 w6 hown6 hg6 _; rw [Nat.zero_add, List.nil_append] at hown6; have hb6 := bl_grown (bl_refl wr) (World.ownsRow_nil wr wr.heap.size 9 1) (Nat.le_refl _) hg6; have HB6 := Lib.hid hb6; have hz6 := hb6.size; obtain ⟨A6, c6, rfl, hA6⟩ := own_any hown6; have HO6 := Lib.hid hown6; clear hb6 hg6 hown6) | (refine wpList_append_own _ rfl (.tmp 39) (.tmp 41) _ rfl wr.heap.size 9 j0 _ 1 16 Try.underlying22 hj jz0 jz1 jz2 rfl (by decide) (.slice A6 k c6) k L1 rfl (HO6.out.alloc _) ⟨w6.heap.size, 0, none⟩ 1 1 [.string s] rfl rfl (cells_new _ _ _) (by intro u hu; rw [List.mem_singleton.1 hu]; rfl) (by unfold maxLen; omega) (by omega) (by simp; omega) ?_; intro v7 w7 hown7 hg7 _; have hb7 := bl_grown (bl_alloc HB6.out (.cells #[.string s] 9)) (HO6.out.alloc (.cells #[.string s] 9)) (Nat.le_refl _) hg7; have HB7 := Lib.hid hb7; have N7 := Lib.hid (N2.out w7 hb7); have hz7 := hb7.size; obtain ⟨g7, c7, rfl, _, _⟩ := own_form hown7 (by omega); have HO7 := Lib.hid hown7; clear hb7 hg7 hown7) | (refine wpList_append_own w7 rfl (.tmp 43) (.tmp 46) _ rfl wr.heap.size 9 j0 _ 1 16 Try.underlying22 hj jz0 jz1 jz2 rfl (by decide) (.slice (some ⟨g7, 0, none⟩) (k + 1) c7) (k + 1) (L1 ++ [.string s]) rfl HO7.out ⟨g, off + k, none⟩ (N - k) (c - k) L2 rfl (by first | rfl | (have := M2.out; simp at this ⊢; omega)) (N7.out) O2.out (by unfold maxLen; omega) (by omega) hz7 ?_; intro v8 w8 hown8 hg8 _; have HB8 := Lib.hid (bl_grown HB7.out HO7.out (Nat.le_refl _) hg8); have HO8 := Lib.hid hown8; clear hg8 hown8))
          go_wp2_with fail
          go_ret
          refine ⟨_, rfl, ⟨withL L s k, ?_, withL_sorted HS0.out HLO.out HHI.out, fun x hx => withL_mem hx, withL_len _ _ _, withL_has _ _ _, fun x hx => withL_old hx, fun h => absurd h (withL_ne _ _ _)⟩, bl_then HB.out HB8.out⟩
          refine strs_own (base := wr.heap.size) ?_ (by have := withL_len L s k; have := HN.out; omega)
          have h := HO8.out
          rw [HSM.out, show k + 1 + (N - k) = (withL L s k).length by have := HLN.out; omega] at h
          exact h
end Go.Proofs.Ytnamafakjkcmjaa

namespace Go.Proofs.Ytnamafakjkcmjaa
open Go.RowKit Go.Shelf
set_option linter.unusedVariables false
set_option linter.unusedSimpArgs false

def OutOk (q k : Nat) (w : World) (v : Value) : Prop := ∃ L, StrsAt w v L ∧ (L.Pairwise fun a b => sb a < sb b) ∧ (∀ x ∈ L, 1 ≤ x.size ∧ x.size ≤ 5 ∧ lettB q (sb x) = true) ∧ L.length ≤ k ∧ (L = [] → v = .slice none 0 0)
theorem OutOk.kept {q k : Nat} {w w' : World} {v : Value} (h : OutOk q k w v) (hb : Below w.heap.size w w') : OutOk q k w' v := by
  obtain ⟨L, h1, h2⟩ := h
  exact ⟨L, h1.kept hb, h2⟩
theorem OutOk.le {q k k' : Nat} {w : World} {v : Value} (h : OutOk q k w v) (hk : k ≤ k') : OutOk q k' w v := by
  obtain ⟨L, h1, h2, h3, h4, h5⟩ := h
  exact ⟨L, h1, h2, h3, by omega, h5⟩
/-- What 'tame' makes: a set. -/
def TameOk (q most : Nat) (w : World) (v : Value) : Prop := ∃ L, StrsAt w v L ∧ setB q L = true ∧ L.length ≤ most ∧ (L = [] → v = .slice none 0 0)
set_option maxRecDepth 100000 in
set_option maxHeartbeats 4000000 in
theorem tame_any (x : Int) (v : Value) (ss : List ByteArray) (most : Nat) (w : World) (hv : StrsAt w v ss) (hl : ss.length * 16 ≤ 140737488351232) (hz : ∀ s ∈ ss, s.size ≤ maxLen) (hm : most ≤ 12) :
    Calls Try.prog 23 #[.int .i64 x, v, .int .i64 most] w fun e w' => ∃ (q : Nat) (v' : Value), e = .returned (.tuple #[.int .i64 q, v']) ∧ (1 ≤ q ∧ q ≤ 3) ∧ TameOk q most w' v' ∧ Below w.heap.size w w' := by
  have MD3 := Lib.hid fun x W => mod_any x 3 W (by omega)
  have LT := Lib.hid fun s q W h h1 => letters_any s q 5 h W h1 (by omega)
  have WI := Lib.hid fun v L s W h1 h2 h3 h4 => with_any v L s W h1 h2 h3 h4
  obtain ⟨N, hN⟩ : ∃ N, N = ss.length := ⟨_, rfl⟩
  have HN := Lib.hid hN
  obtain ⟨A, c, rfl, hlc, hcm, hA⟩ := hv
  have HA := Lib.hid hA
  have HZ := Lib.hid hz
  rw [← hN] at hl hlc ⊢
  clear hN hA hz
  go_enter Try.func23, Try.ntmps23
  go_wp2_with fail
  refine (MD3.out x _).mono ?_
  rintro e w1 ⟨⟨r1, hr1, rfl⟩, rfl⟩
  go_wp2_with fail
  obtain ⟨q, hq⟩ : ∃ q, q = r1 + 1 := ⟨_, rfl⟩
  have e1 : 1 + (r1 : Int) = (q : Int) := by omega
  have hq3 : 1 ≤ q ∧ q ≤ 3 := by omega
  rw [e1]
  clear e1 hq hr1
  go_loopw [8, 9] (fun ov iv wr => ∃ k : Nat, k ≤ N ∧ k ≤ most ∧ iv = .int .i64 k ∧ Hid (OutOk q k wr ov) ∧ Hid (Below w.heap.size w wr)) (fun _ iv _ => N - (intOf iv).toNat)
  case atStart => exact ⟨0, Nat.zero_le _, Nat.zero_le _, rfl, Lib.hid ⟨[], StrsAt.nil w, by simp, fun x hx => absurd hx List.not_mem_nil, Nat.le_refl _, fun _ => rfl⟩, Lib.hid (bl_refl w)⟩
  case round =>
    obtain ⟨k, hk, hkm, rfl, HO, HB⟩ := hrel
    by_cases hlt : k < N
    · have hlt' : (k : Int) < (N : Int) := by omega
      by_cases hlm : k < most
      · have hlm' : (k : Int) < (most : Int) := by omega
        obtain ⟨g, off, rfl, hg, hc⟩ := HA.out (by have := HN.out; omega)
        have hkl : k < ss.length := by have := HN.out; omega
        have ct := (HB.out.cell (p := ⟨g, off + k, none⟩) hg).trans (hc k hkl)
        have lg := Nat.lt_of_lt_of_le hg HB.out.size
        have hsz : (ss.getD k ByteArray.empty).size ≤ maxLen := by
          rw [List.getD_eq_getElem?_getD, List.getElem?_eq_getElem hkl]
          exact HZ.out _ (List.getElem_mem hkl)
        obtain ⟨s, hs⟩ : ∃ s, s = ss.getD k ByteArray.empty := ⟨_, rfl⟩
        rw [← hs] at ct hsz
        have HSZ := Lib.hid hsz
        clear hc hs hsz
        go_wp2_with fail
        refine (LT.out s q _ hq3 HSZ.out).mono ?_
        rintro e w2 ⟨rfl, r2⟩
        have HB2 := Lib.hid (bl_then HB.out r2)
        have HO2 := Lib.hid (HO.out.kept r2)
        have htl := tm_len q 5 s
        have htt := tm_lett hq3 5 s
        obtain ⟨t, ht⟩ : ∃ t, t = tmL q 5 s := ⟨_, rfl⟩
        rw [← ht] at htl htt ⊢
        have HTT := Lib.hid htt
        clear ht htt r2
        have hbq := str_beq (bs t) ⟨#[]⟩
        by_cases he : t = []
        · have hbt : bs t = ⟨#[]⟩ := by rw [he]; rfl
          rw [hbt]
          have HO3 := Lib.hid (HO2.out.le (Nat.le_succ k))
          clear hbq htl hbt he HTT
          go_wp2_with fail
          go_roundw
          case rel => exact ⟨k + 1, by omega, by omega, by go_num, HO3, HB2⟩
          case measure => simp [intOf]; omega
        · have hb2 : ((bs t).toList == (⟨#[]⟩ : ByteArray).toList) = false := by
            rw [hbq]
            refine decide_eq_false fun h => he ?_
            exact congrArg sb h
          have hsize : 1 ≤ (bs t).size ∧ (bs t).size ≤ 5 := by
            refine ⟨?_, ?_⟩
            · rcases Nat.eq_zero_or_pos t.length with h | h
              · exact absurd (List.eq_nil_of_length_eq_zero h) he
              · exact h
            · show t.length ≤ 5
              omega
          have HSI := Lib.hid hsize
          obtain ⟨L, o1, o2, o3, o4, o5⟩ := HO2.out
          have WW := Lib.hid (WI.out _ L (bs t) w2 o1 (by omega) o2 o5)
          have O3 := Lib.hid o3
          have O4 := Lib.hid o4
          have t1 := bs_toList t
          have t2 : (⟨#[]⟩ : ByteArray).toList = [] := bs_toList []
          have t3 : List.isEmpty t = false := by cases t with | nil => exact absurd rfl he | cons a l => rfl
          clear hbq htl hsize o1 o2 o3 o4 o5 hb2
          go_wp2_with fail
          refine WW.out.mono ?_
          rintro e w3 ⟨v3, rfl, ⟨L', p1, p2, p3, p4, p5, p6, p7⟩, r3⟩
          have HO3 : Hid (OutOk q (k + 1) w3 v3) := Lib.hid ⟨L', p1, p2, fun x hx => by
            rcases p3 x hx with rfl | h
            · exact ⟨HSI.out.1, HSI.out.2, HTT.out⟩
            · exact O3.out x h, by have := O4.out; omega, p7⟩
          have HB3 := Lib.hid (bl_then HB2.out r3)
          clear p1 p2 p3 p4 p5 p6 p7 r3
          go_wp2_with fail
          go_roundw
          case rel => exact ⟨k + 1, by omega, by omega, by go_num, HO3, HB3⟩
          case measure => simp [intOf]; omega
      · have hlm' : ¬ (k : Int) < (most : Int) := by omega
        go_wp2_with fail
        go_ret2
        obtain ⟨L, o1, o2, o3, o4, o5⟩ := HO.out
        exact ⟨q, _, rfl, hq3, ⟨L, o1, setB_iff.2 ⟨hq3, by omega, o3, o2⟩, by omega, o5⟩, HB.out⟩
    · have hlt' : ¬ (k : Int) < (N : Int) := by omega
      go_wp2_with fail
      go_ret2
      obtain ⟨L, o1, o2, o3, o4, o5⟩ := HO.out
      exact ⟨q, _, rfl, hq3, ⟨L, o1, setB_iff.2 ⟨hq3, by omega, o3, o2⟩, by omega, o5⟩, HB.out⟩
end Go.Proofs.Ytnamafakjkcmjaa
