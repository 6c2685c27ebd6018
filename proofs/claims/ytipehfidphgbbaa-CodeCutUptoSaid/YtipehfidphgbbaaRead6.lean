/- List and Nums of both readers. -/
import Derived.Test.YtipehfidphgbbaaRead5
namespace Go.Proofs.Ytipehfidphgbbaa
open Go.RowKit

theorem rNum_pos {st : Vi.St} (hf : Vi.Fit st) (h : 0 < (Vi.rNum st).1) : (Vi.rNum st).2.2 = false := by
  cases hb : (Vi.rNum st).2.2 with
  | false => rfl
  | true =>
    cases hs : st.2 with
    | true => rw [Vi.rNum_bad hf hs] at h; simp at h
    | false =>
      unfold Vi.rNum at hb h
      split at hb
      · rw [hs] at hb; cases hb
      · rename_i he
        rw [he] at h
        simp at h
theorem rMany_zero {α : Type} {f : Vi.St → α × Vi.St} {st : Vi.St} (hf : Vi.Fit st) (h : (Vi.rNum st).1 = 0) : Vi.rMany f st = ([], (Vi.rNum st).2) := by
  unfold Vi.rMany
  rw [if_neg (by omega), h]
  simp only [Vi.many]
  unfold Vi.shut
  split
  · rename_i hb
    rw [fit_true (Vi.rNum_fit hf) hb]
  · rfl

theorem rd_bad {T : TypeId} {w : World} {b : Nat} {st : Vi.St} (h : Rd T w b st) {f : Bool} (hb : st.2 = f) : w.cell? ⟨b, 1, none⟩ = some (.bool f) := by
  obtain ⟨s, _, hk⟩ := h
  rw [Lib.cell_of_heap hk, hb]
  rfl

theorem List_c (b : Nat) (st : Vi.St) (w : World) (h : Rd 61 w b st) (hf : Vi.Fit st) (hl : st.1.length ≤ 1099511627776) :
    Calls Try.prog 26 #[.pointer (some ⟨b, 0, none⟩)] w fun e w' =>
      ∃ v, e = .returned v ∧ w'.ownsRow w.heap.size 9 1 v (Vi.rMany Vi.rText st).1.length ((Vi.rMany Vi.rText st).1.map sv) ∧ Rd 61 w' b (Vi.rMany Vi.rText st).2 ∧ w.grownBy w' (some b) := by
  have hmf : ∀ (fn : Fn) (first cap : Array Value) (w : World), (Instr.makeFunc fn first cap).run Try.prog w = .ok (.func fn first cap) w := fun _ _ _ _ => rfl
  go_enter Try.func26, Try.ntmps26
  go_wp2_with fail
  refine (decodeTexts b st w h hf hl).mono ?_
  rintro e w1 ⟨v, rfl, hown, h1, g1⟩
  go_wp2_with fail
  go_ret
  exact ⟨v, rfl, hown, h1, g1⟩

set_option maxHeartbeats 4000000 in
theorem ListR_c (b : Nat) (st : Vi.St) (w : World) (h : Rd 63 w b st) (hf : Vi.Fit st) (hl : st.1.length ≤ 1099511627776) :
    Calls Try.prog 27 #[.pointer (some ⟨b, 0, none⟩)] w fun e w' =>
      ∃ v, e = .returned v ∧ w'.ownsRow w.heap.size 9 1 v (Vi.rMany Vi.rText st).1.length ((Vi.rMany Vi.rText st).1.map sv) ∧ Rd 63 w' b (Vi.rMany Vi.rText st).2 ∧ w.grownBy w' (some b) := by
  obtain ⟨i0, hi, hz0, hz1, hz2⟩ := info_parts infoStr
  have hbw := h.lt
  have hl1 := Vi.rNum_le st
  have hf1 : Vi.Fit (Vi.rNum st).2 := Vi.rNum_fit hf
  have FIT := Lib.hid hf1; clear hf1
  go_enter Try.func27, Try.ntmps27
  go_wp2_with fail
  refine (NumR_c b st w h (by unfold maxLen; omega)).mono ?_
  rintro e w1 ⟨rfl, h1, g1⟩
  obtain ⟨s1, hs1, hb1⟩ := id h1
  have c0 : w1.cell? ⟨b, 0, none⟩ = some (.string s1) := by rw [Lib.cell_of_heap hb1]; rfl
  have hz : s1.size = (Vi.rNum st).2.1.length := by rw [← hs1]; rfl
  have hzl : s1.size ≤ 1099511627776 := by omega
  have HZ := Lib.hid hz; clear hz hs1 hb1
  by_cases k0 : s1.size < (Vi.rNum st).1
  · go_wp2_with (go_at_call 45; refine (failR_c b _ _ h1).mono ?_; rintro e w2 ⟨rfl, h2, g2⟩)
    go_ret
    have hr : Vi.rMany Vi.rText st = ([], ([], true)) := by unfold Vi.rMany; rw [if_pos (by rw [← HZ.out]; exact k0)]
    rw [hr]
    exact ⟨_, rfl, World.ownsRow_nil _ _ _ _, h2, grown_trans g1 g2⟩
  · go_wp2
    have hn : (Vi.rNum st).1 ≤ 1099511627776 := by omega
    go_loopw [4, 5] (fun v i wr => ∃ (k : Nat) (acc : List (List UInt8)) (stk : Vi.St), k ≤ (Vi.rNum st).1 ∧ i = .int .i64 k ∧ acc.length = k ∧ wr.ownsRow w.heap.size 9 1 v acc.length (acc.map sv) ∧ Rd 63 wr b stk ∧ w.grownBy wr (some b) ∧
        Mid Vi.rText (Vi.rNum st).1 (Vi.rNum st).2 k acc stk ∧ Vi.Fit stk ∧ stk.1.length ≤ 1099511627776 ∧ (0 < (Vi.rNum st).1 → stk.2 = false) ∧ ((Vi.rNum st).1 = 0 → stk = (Vi.rNum st).2)) (fun _ i _ => (Vi.rNum st).1 - (intOf i).toNat)
    case atStart => exact ⟨0, [], _, by omega, rfl, rfl, World.ownsRow_nil _ _ _ _, h1, g1, Mid.start _ _ _, FIT.out, by omega, fun h0 => rNum_pos hf h0, fun _ => rfl⟩
    case round =>
      obtain ⟨k, acc, stk, hk, rfl, hlen, hown, hr, hg, hmid, hfit, hlk, hnb, hze⟩ := hrel
      have HL := Lib.hid hlen; clear hlen
      have HZE := Lib.hid hze; clear hze
      have hacc : acc.length ≤ 1099511627776 := by rw [HL.out]; omega
      by_cases k1 : k < (Vi.rNum st).1
      · have hbad := hnb (by omega)
        have HM := Lib.hid (hmid.step k1 hbad)
        clear hmid
        have HB := Lib.hid hbad; clear hbad
        have HNB := Lib.hid hnb; clear hnb
        have hsz := hg.size
        have hle := (Vi.rText_le stk).1
        cases hb2 : (Vi.rText stk).2.2 with
        | true =>
          have HS := Lib.hid (fit_true (rText_fit' stk hfit) hb2)
          have HB2 := Lib.hid hb2; clear hb2
          go_wp2_with (first | (go_at_call 24; refine (TextR_c b stk _ hr (by unfold maxLen; omega)).mono ?_; rintro e w2 ⟨t, ht, rfl, h2, g2⟩; have HT := Lib.hid ht; clear ht; have hown2 := hown.kept g2 (own_ne hown hbw)) | (at_builtin; refine wpList_append_own _ rfl _ _ 22 rfl w.heap.size 9 i0 _ 1 16 Try.underlying22 hi hz0 hz1 hz2 rfl (by decide) _ _ _ rfl (hown2.alloc _) ⟨w2.heap.size, 0, none⟩ 1 1 [.string t] rfl rfl (cell_one_new _ _ _) (by simp [Value.oneCell']) (by unfold maxLen; omega) (by omega) (by have := g2.size; simp; omega) ?_; intro v' w3 hown3 hg3 _; have hown4 := (hown2.alloc (.cells #[.string t] 9)).lt; have h3 := (h2.of_block (Below.heap_alloc w2 _ b h2.lt)).grown hg3 (fun e => by have := (hown4 b e.symm).1; omega); have d1 := rd_bad h3 HB2.out))
          go_ret
          have hr2 : Vi.rMany Vi.rText st = ([], ([], true)) := by
            have hm2 := Mid.stop HM.out (.inr HB2.out)
            unfold Vi.rMany
            rw [if_neg (by rw [← HZ.out]; exact k0), hm2]
            unfold Vi.shut
            rw [if_pos HB2.out]
          rw [hr2]
          exact ⟨_, rfl, World.ownsRow_nil _ _ _ _, by rw [← HS.out]; exact h3, grown_own (grown_alloc (grown_trans hg g2) _) hg3 (fun g e => (hown4 g e).1)⟩
        | false =>
          have HB2 := Lib.hid hb2; clear hb2
          go_wp2_with (first | (go_at_call 24; refine (TextR_c b stk _ hr (by unfold maxLen; omega)).mono ?_; rintro e w2 ⟨t, ht, rfl, h2, g2⟩; have HT := Lib.hid ht; clear ht; have hown2 := hown.kept g2 (own_ne hown hbw)) | (at_builtin; refine wpList_append_own _ rfl _ _ 22 rfl w.heap.size 9 i0 _ 1 16 Try.underlying22 hi hz0 hz1 hz2 rfl (by decide) _ _ _ rfl (hown2.alloc _) ⟨w2.heap.size, 0, none⟩ 1 1 [.string t] rfl rfl (cell_one_new _ _ _) (by simp [Value.oneCell']) (by unfold maxLen; omega) (by omega) (by have := g2.size; simp; omega) ?_; intro v' w3 hown3 hg3 _; have hown4 := (hown2.alloc (.cells #[.string t] 9)).lt; have h3 := (h2.of_block (Below.heap_alloc w2 _ b h2.lt)).grown hg3 (fun e => by have := (hown4 b e.symm).1; omega); have d1 := rd_bad h3 HB2.out))
          go_roundw
          case rel =>
            refine ⟨k + 1, acc ++ [(Vi.rText stk).1], (Vi.rText stk).2, by omega, by go_num, by simp [HL.out], ?_, h3, ?_, HM.out, rText_fit' stk hfit, by omega, fun _ => HB2.out, fun e => by omega⟩
            · simpa [sv, bs_of HT.out] using hown3
            · exact grown_own (grown_alloc (grown_trans hg g2) _) hg3 (fun g e => (hown4 g e).1)
          case measure => simp [intOf] <;> omega
      · have HM := Lib.hid (hmid.stop (.inl (by omega)))
        clear hmid
        have HNB := Lib.hid hnb; clear hnb
        go_wp2
        go_ret
        have hr2 : Vi.rMany Vi.rText st = (acc, stk) := by
          rcases Nat.eq_zero_or_pos (Vi.rNum st).1 with h0 | h0
          · rw [rMany_zero hf h0, HZE.out h0]
            have : acc = [] := List.eq_nil_of_length_eq_zero (by rw [HL.out]; omega)
            rw [this]
          · unfold Vi.rMany
            rw [if_neg (by rw [← HZ.out]; exact k0), HM.out]
            unfold Vi.shut
            rw [if_neg (by simp [HNB.out h0])]
        rw [hr2]
        exact ⟨_, rfl, hown, hr, hg⟩

theorem Nums_c (b : Nat) (st : Vi.St) (w : World) (h : Rd 61 w b st) (hf : Vi.Fit st) (hl : st.1.length ≤ 1099511627776) :
    Calls Try.prog 29 #[.pointer (some ⟨b, 0, none⟩)] w fun e w' =>
      ∃ v, e = .returned v ∧ w'.ownsRow w.heap.size 3 1 v (Vi.rMany Vi.rNum st).1.length ((Vi.rMany Vi.rNum st).1.map nv) ∧ Rd 61 w' b (Vi.rMany Vi.rNum st).2 ∧ w.grownBy w' (some b) := by
  have hmf : ∀ (fn : Fn) (first cap : Array Value) (w : World), (Instr.makeFunc fn first cap).run Try.prog w = .ok (.func fn first cap) w := fun _ _ _ _ => rfl
  go_enter Try.func29, Try.ntmps29
  go_wp2_with fail
  refine (decodeInts b st w h hf hl).mono ?_
  rintro e w1 ⟨v, rfl, hown, h1, g1⟩
  go_wp2_with fail
  go_ret
  exact ⟨v, rfl, hown, h1, g1⟩

set_option maxHeartbeats 4000000 in
theorem NumsR_c (b : Nat) (st : Vi.St) (w : World) (h : Rd 63 w b st) (hf : Vi.Fit st) (hl : st.1.length ≤ 1099511627776) :
    Calls Try.prog 30 #[.pointer (some ⟨b, 0, none⟩)] w fun e w' =>
      ∃ v, e = .returned v ∧ w'.ownsRow w.heap.size 3 1 v (Vi.rMany Vi.rNum st).1.length ((Vi.rMany Vi.rNum st).1.map nv) ∧ Rd 63 w' b (Vi.rMany Vi.rNum st).2 ∧ w.grownBy w' (some b) := by
  obtain ⟨i0, hi, hz0, hz1, hz2⟩ := info_parts infoInt
  have hbw := h.lt
  have hl1 := Vi.rNum_le st
  have hf1 : Vi.Fit (Vi.rNum st).2 := Vi.rNum_fit hf
  have FIT := Lib.hid hf1; clear hf1
  go_enter Try.func30, Try.ntmps30
  go_wp2_with fail
  refine (NumR_c b st w h (by unfold maxLen; omega)).mono ?_
  rintro e w1 ⟨rfl, h1, g1⟩
  obtain ⟨s1, hs1, hb1⟩ := id h1
  have c0 : w1.cell? ⟨b, 0, none⟩ = some (.string s1) := by rw [Lib.cell_of_heap hb1]; rfl
  have hz : s1.size = (Vi.rNum st).2.1.length := by rw [← hs1]; rfl
  have hzl : s1.size ≤ 1099511627776 := by omega
  have HZ := Lib.hid hz; clear hz hs1 hb1
  by_cases k0 : s1.size < (Vi.rNum st).1
  · go_wp2_with (go_at_call 45; refine (failR_c b _ _ h1).mono ?_; rintro e w2 ⟨rfl, h2, g2⟩)
    go_ret
    have hr : Vi.rMany Vi.rNum st = ([], ([], true)) := by unfold Vi.rMany; rw [if_pos (by rw [← HZ.out]; exact k0)]
    rw [hr]
    exact ⟨_, rfl, World.ownsRow_nil _ _ _ _, h2, grown_trans g1 g2⟩
  · go_wp2
    have hn : (Vi.rNum st).1 ≤ 1099511627776 := by omega
    go_loopw [4, 5] (fun v i wr => ∃ (k : Nat) (acc : List Nat) (stk : Vi.St), k ≤ (Vi.rNum st).1 ∧ i = .int .i64 k ∧ acc.length = k ∧ wr.ownsRow w.heap.size 3 1 v acc.length (acc.map nv) ∧ Rd 63 wr b stk ∧ w.grownBy wr (some b) ∧
        Mid Vi.rNum (Vi.rNum st).1 (Vi.rNum st).2 k acc stk ∧ Vi.Fit stk ∧ stk.1.length ≤ 1099511627776 ∧ (0 < (Vi.rNum st).1 → stk.2 = false) ∧ ((Vi.rNum st).1 = 0 → stk = (Vi.rNum st).2)) (fun _ i _ => (Vi.rNum st).1 - (intOf i).toNat)
    case atStart => exact ⟨0, [], _, by omega, rfl, rfl, World.ownsRow_nil _ _ _ _, h1, g1, Mid.start _ _ _, FIT.out, by omega, fun h0 => rNum_pos hf h0, fun _ => rfl⟩
    case round =>
      obtain ⟨k, acc, stk, hk, rfl, hlen, hown, hr, hg, hmid, hfit, hlk, hnb, hze⟩ := hrel
      have HL := Lib.hid hlen; clear hlen
      have HZE := Lib.hid hze; clear hze
      have hacc : acc.length ≤ 1099511627776 := by rw [HL.out]; omega
      by_cases k1 : k < (Vi.rNum st).1
      · have hbad := hnb (by omega)
        have HM := Lib.hid (hmid.step k1 hbad)
        clear hmid
        have HB := Lib.hid hbad; clear hbad
        have HNB := Lib.hid hnb; clear hnb
        have hsz := hg.size
        have hle := Vi.rNum_le stk
        cases hb2 : (Vi.rNum stk).2.2 with
        | true =>
          have HS := Lib.hid (fit_true (rNum_fit' stk hfit) hb2)
          have HB2 := Lib.hid hb2; clear hb2
          go_wp2_with (first | (go_at_call 22; refine (NumR_c b stk _ hr (by unfold maxLen; omega)).mono ?_; rintro e w2 ⟨rfl, h2, g2⟩; have HT : True := trivial; have hown2 := hown.kept g2 (own_ne hown hbw)) | (at_builtin; refine wpList_append_own _ rfl _ _ 23 rfl w.heap.size 3 i0 _ 1 8 Try.underlying23 hi hz0 hz1 hz2 rfl (by decide) _ _ _ rfl (hown2.alloc _) ⟨w2.heap.size, 0, none⟩ 1 1 [.int .i64 ((Vi.rNum stk).1 : Nat)] rfl rfl (cell_one_new _ _ _) (by simp [Value.oneCell']) (by unfold maxLen; omega) (by omega) (by have := g2.size; simp; omega) ?_; intro v' w3 hown3 hg3 _; have hown4 := (hown2.alloc (.cells #[.int .i64 ((Vi.rNum stk).1 : Nat)] 3)).lt; have h3 := (h2.of_block (Below.heap_alloc w2 _ b h2.lt)).grown hg3 (fun e => by have := (hown4 b e.symm).1; omega); have d1 := rd_bad h3 HB2.out))
          go_ret
          have hr2 : Vi.rMany Vi.rNum st = ([], ([], true)) := by
            have hm2 := Mid.stop HM.out (.inr HB2.out)
            unfold Vi.rMany
            rw [if_neg (by rw [← HZ.out]; exact k0), hm2]
            unfold Vi.shut
            rw [if_pos HB2.out]
          rw [hr2]
          exact ⟨_, rfl, World.ownsRow_nil _ _ _ _, by rw [← HS.out]; exact h3, grown_own (grown_alloc (grown_trans hg g2) _) hg3 (fun g e => (hown4 g e).1)⟩
        | false =>
          have HB2 := Lib.hid hb2; clear hb2
          go_wp2_with (first | (go_at_call 22; refine (NumR_c b stk _ hr (by unfold maxLen; omega)).mono ?_; rintro e w2 ⟨rfl, h2, g2⟩; have HT : True := trivial; have hown2 := hown.kept g2 (own_ne hown hbw)) | (at_builtin; refine wpList_append_own _ rfl _ _ 23 rfl w.heap.size 3 i0 _ 1 8 Try.underlying23 hi hz0 hz1 hz2 rfl (by decide) _ _ _ rfl (hown2.alloc _) ⟨w2.heap.size, 0, none⟩ 1 1 [.int .i64 ((Vi.rNum stk).1 : Nat)] rfl rfl (cell_one_new _ _ _) (by simp [Value.oneCell']) (by unfold maxLen; omega) (by omega) (by have := g2.size; simp; omega) ?_; intro v' w3 hown3 hg3 _; have hown4 := (hown2.alloc (.cells #[.int .i64 ((Vi.rNum stk).1 : Nat)] 3)).lt; have h3 := (h2.of_block (Below.heap_alloc w2 _ b h2.lt)).grown hg3 (fun e => by have := (hown4 b e.symm).1; omega); have d1 := rd_bad h3 HB2.out))
          go_roundw
          case rel =>
            refine ⟨k + 1, acc ++ [(Vi.rNum stk).1], (Vi.rNum stk).2, by omega, by go_num, by simp [HL.out], ?_, h3, ?_, HM.out, rNum_fit' stk hfit, by omega, fun _ => HB2.out, fun e => by omega⟩
            · simpa [nv] using hown3
            · exact grown_own (grown_alloc (grown_trans hg g2) _) hg3 (fun g e => (hown4 g e).1)
          case measure => simp [intOf] <;> omega
      · have HM := Lib.hid (hmid.stop (.inl (by omega)))
        clear hmid
        have HNB := Lib.hid hnb; clear hnb
        go_wp2
        go_ret
        have hr2 : Vi.rMany Vi.rNum st = (acc, stk) := by
          rcases Nat.eq_zero_or_pos (Vi.rNum st).1 with h0 | h0
          · rw [rMany_zero hf h0, HZE.out h0]
            have : acc = [] := List.eq_nil_of_length_eq_zero (by rw [HL.out]; omega)
            rw [this]
          · unfold Vi.rMany
            rw [if_neg (by rw [← HZ.out]; exact k0), HM.out]
            unfold Vi.shut
            rw [if_neg (by simp [HNB.out h0])]
        rw [hr2]
        exact ⟨_, rfl, hown, hr, hg⟩

end Go.Proofs.Ytipehfidphgbbaa
