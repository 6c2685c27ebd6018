/- List and Nums of the program's reader. -/
import Derived.Test.YtipehfidphgbbaaRead4
import Derived.Maps.AppendAt
namespace Go.Proofs.Ytipehfidphgbbaa
open Go.RowKit

theorem infoStr : (Try.prog.info? 9).map (fun i => (i.zero, i.size, i.bytes)) = some (some (.string ⟨#[]⟩), 1, 16) := by kernel_rfl
theorem infoInt : (Try.prog.info? 3).map (fun i => (i.zero, i.size, i.bytes)) = some (some (.int .i64 0), 1, 8) := by kernel_rfl

def sv (l : List UInt8) : Value := .string (bs l)
def nv (n : Nat) : Value := .int .i64 (n : Int)
theorem own_ne {w : World} {base b : Nat} {e : TypeId} {size n : Nat} {v : Value} {xs : List Value} (h : w.ownsRow base e size v n xs) (hb : b < base) : v.ownBlock = none ∨ v.ownBlock ≠ some b := by
  right
  intro e
  have := (h.lt b e).1
  omega
/-- what a loop over 'many' holds between two rounds -/
def Mid {α : Type} (f : Vi.St → α × Vi.St) (n : Nat) (st : Vi.St) (k : Nat) (acc : List α) (stk : Vi.St) : Prop :=
  Vi.many f n st = (acc ++ (Vi.many f (n - k) stk).1, (Vi.many f (n - k) stk).2)
theorem Mid.start {α : Type} (f : Vi.St → α × Vi.St) (n : Nat) (st : Vi.St) : Mid f n st 0 [] st := by unfold Mid; simp
theorem Mid.step {α : Type} {f : Vi.St → α × Vi.St} {n : Nat} {st : Vi.St} {k : Nat} {acc : List α} {stk : Vi.St} (h : Mid f n st k acc stk) (hk : k < n) (hb : stk.2 = false) : Mid f n st (k + 1) (acc ++ [(f stk).1]) (f stk).2 := by
  unfold Mid at h ⊢
  rw [h]
  obtain ⟨m, hm⟩ : ∃ m, n - k = m + 1 := ⟨n - k - 1, by omega⟩
  rw [hm, show n - (k + 1) = m from by omega]
  simp only [Vi.many]
  rw [if_neg (by simp [hb])]
  simp
theorem Mid.stop {α : Type} {f : Vi.St → α × Vi.St} {n : Nat} {st : Vi.St} {k : Nat} {acc : List α} {stk : Vi.St} (h : Mid f n st k acc stk) (hk : n ≤ k ∨ stk.2 = true) : Vi.many f n st = (acc, stk) := by
  unfold Mid at h
  rw [h]
  rcases hk with hk | hk
  · rw [show n - k = 0 from by omega]; simp [Vi.many]
  · rw [Vi.many_bad _ _ hk]; simp
theorem rText_fit' (st : Vi.St) (_h : Vi.Fit st) : Vi.Fit (Vi.rText st).2 := Vi.rText_fit
theorem rNum_fit' (st : Vi.St) (h : Vi.Fit st) : Vi.Fit (Vi.rNum st).2 := Vi.rNum_fit h
theorem fit_true {st : Vi.St} (h : Vi.Fit st) (hb : st.2 = true) : st = ([], true) := Prod.ext (h hb) hb

set_option maxHeartbeats 4000000 in
theorem decodeTexts (b : Nat) (st : Vi.St) (w : World) (h : Rd 61 w b st) (hf : Vi.Fit st) (hl : st.1.length ≤ 1099511627776) :
    Calls Try.prog 46 #[.pointer (some ⟨b, 0, none⟩), .func (.func 23) #[.pointer (some ⟨b, 0, none⟩)] #[]] w fun e w' =>
      ∃ v, e = .returned v ∧ w'.ownsRow w.heap.size 9 1 v (Vi.rMany Vi.rText st).1.length ((Vi.rMany Vi.rText st).1.map sv) ∧ Rd 61 w' b (Vi.rMany Vi.rText st).2 ∧ w.grownBy w' (some b) := by
  obtain ⟨i0, hi, hz0, hz1, hz2⟩ := info_parts infoStr
  have hbw := h.lt
  have hl1 := Vi.rNum_le st
  have hf1 : Vi.Fit (Vi.rNum st).2 := Vi.rNum_fit hf
  have FIT := Lib.hid hf1; clear hf1
  go_enter Try.func46, Try.ntmps46
  go_wp2_with fail
  refine (Num_c b st w h (by unfold maxLen; omega)).mono ?_
  rintro e w1 ⟨rfl, h1, g1⟩
  obtain ⟨s1, hs1, hb1⟩ := id h1
  have c0 : w1.cell? ⟨b, 0, none⟩ = some (.string s1) := by rw [Lib.cell_of_heap hb1]; rfl
  have hz : s1.size = (Vi.rNum st).2.1.length := by rw [← hs1]; rfl
  have hzl : s1.size ≤ 1099511627776 := by omega
  have HZ := Lib.hid hz; clear hz hs1 hb1
  by_cases k0 : s1.size < (Vi.rNum st).1
  · go_wp2_with (go_at_call 44; refine (fail_c b _ _ h1).mono ?_; rintro e w2 ⟨rfl, h2, g2⟩)
    have hr : Vi.rMany Vi.rText st = ([], ([], true)) := by unfold Vi.rMany; rw [if_pos (by rw [← HZ.out]; exact k0)]
    have HR := Lib.hid hr; clear hr
    obtain ⟨s2, hs2, hb2⟩ := id h2
    have d1 : w2.cell? ⟨b, 1, none⟩ = some (.bool true) := by rw [Lib.cell_of_heap hb2]; rfl
    clear hb2 hs2
    have hn : (Vi.rNum st).1 < 9223372036854775808 := Vi.rNum_lt st
    have hpos : 0 < (Vi.rNum st).1 := by omega
    go_wp2
    go_loopw [6, 7] (fun v i wr => v = .slice none 0 0 ∧ i = .int .i64 0 ∧ wr = w2) (fun _ _ _ => 0)
    case atStart => exact ⟨rfl, rfl, rfl⟩
    case round =>
      obtain ⟨rfl, rfl, rfl⟩ := hrel
      go_wp2
      go_ret
      rw [HR.out]
      exact ⟨_, rfl, World.ownsRow_nil _ _ _ _, h2, grown_trans g1 g2⟩
  · go_wp2
    have hn : (Vi.rNum st).1 ≤ 1099511627776 := by omega
    go_loopw [6, 7] (fun v i wr => ∃ (k : Nat) (acc : List (List UInt8)) (stk : Vi.St), k ≤ (Vi.rNum st).1 ∧ i = .int .i64 k ∧ acc.length = k ∧ wr.ownsRow w.heap.size 9 1 v acc.length (acc.map sv) ∧ Rd 61 wr b stk ∧ w.grownBy wr (some b) ∧
        Mid Vi.rText (Vi.rNum st).1 (Vi.rNum st).2 k acc stk ∧ Vi.Fit stk ∧ stk.1.length ≤ 1099511627776) (fun _ i _ => (Vi.rNum st).1 - (intOf i).toNat)
    case atStart => exact ⟨0, [], _, by omega, rfl, rfl, World.ownsRow_nil _ _ _ _, h1, g1, Mid.start _ _ _, FIT.out, by omega⟩
    case round =>
      obtain ⟨k, acc, stk, hk, rfl, hlen, hown, hr, hg, hmid, hfit, hlk⟩ := hrel
      obtain ⟨s2, hs2, hb2⟩ := id hr
      have d0 : wr.cell? ⟨b, 0, none⟩ = some (.string s2) := by rw [Lib.cell_of_heap hb2]; rfl
      have d1 : wr.cell? ⟨b, 1, none⟩ = some (.bool stk.2) := by rw [Lib.cell_of_heap hb2]; rfl
      clear hs2 hb2 d0
      have HL := Lib.hid hlen; clear hlen
      have hacc : acc.length ≤ 1099511627776 := by rw [HL.out]; omega
      cases hbad : stk.2 with
      | true =>
        rw [hbad] at d1
        have HM := Lib.hid (hmid.stop (.inr hbad))
        have HS := Lib.hid (fit_true hfit hbad)
        clear hbad hmid hfit
        by_cases k1 : k < (Vi.rNum st).1
        all_goals
          go_wp2
          go_ret
          have hr2 : Vi.rMany Vi.rText st = ([], ([], true)) := by
            unfold Vi.rMany
            rw [if_neg (by rw [← HZ.out]; exact k0), HM.out, HS.out]
            rfl
          rw [hr2]
          exact ⟨_, rfl, World.ownsRow_nil _ _ _ _, by rw [← HS.out]; exact hr, hg⟩
      | false =>
        rw [hbad] at d1
        by_cases k1 : k < (Vi.rNum st).1
        · have HM := Lib.hid (hmid.step k1 hbad)
          clear hmid
          have HB := Lib.hid hbad; clear hbad
          have hsz := hg.size
          go_wp2_with (first | (go_at_call 23; refine (Text_c b stk _ hr (by unfold maxLen; omega)).mono ?_; rintro e w2 ⟨t, ht, rfl, h2, g2⟩; have HT := Lib.hid ht; clear ht; have hown2 := hown.kept g2 (own_ne hown hbw)) | (at_builtin; refine wpList_append_own _ rfl _ _ 22 rfl w.heap.size 9 i0 _ 1 16 Try.underlying22 hi hz0 hz1 hz2 rfl (by decide) _ _ _ rfl (hown2.alloc _) ⟨w2.heap.size, 0, none⟩ 1 1 [.string t] rfl rfl (cell_one_new _ _ _) (by simp [Value.oneCell']) (by unfold maxLen; omega) (by omega) (by have := g2.size; simp; omega) ?_; intro v' w3 hown3 hg3 _))
          go_roundw
          case rel =>
            have hle := (Vi.rText_le stk).1
            have hown4 := (hown2.alloc (.cells #[.string t] 9)).lt
            refine ⟨k + 1, acc ++ [(Vi.rText stk).1], (Vi.rText stk).2, by omega, by go_num, by simp [HL.out], ?_, ?_, ?_, HM.out, rText_fit' stk hfit, by omega⟩
            · simpa [sv, bs_of HT.out] using hown3
            · exact (h2.of_block (Below.heap_alloc w2 _ b h2.lt)).grown hg3 (fun e => by have := (hown4 b e.symm).1; omega)
            · exact grown_own (grown_alloc (grown_trans hg g2) _) hg3 (fun g e => (hown4 g e).1)
          case measure => simp [intOf] <;> omega
        · have HM := Lib.hid (hmid.stop (.inl (by omega)))
          clear hmid
          have HB := Lib.hid hbad; clear hbad
          go_wp2
          go_ret
          have hr2 : Vi.rMany Vi.rText st = (acc, stk) := by
            unfold Vi.rMany
            rw [if_neg (by rw [← HZ.out]; exact k0), HM.out]
            unfold Vi.shut
            rw [if_neg (by simp [HB.out])]
          rw [hr2]
          exact ⟨_, rfl, hown, hr, hg⟩

set_option maxHeartbeats 4000000 in
theorem decodeInts (b : Nat) (st : Vi.St) (w : World) (h : Rd 61 w b st) (hf : Vi.Fit st) (hl : st.1.length ≤ 1099511627776) :
    Calls Try.prog 47 #[.pointer (some ⟨b, 0, none⟩), .func (.func 21) #[.pointer (some ⟨b, 0, none⟩)] #[]] w fun e w' =>
      ∃ v, e = .returned v ∧ w'.ownsRow w.heap.size 3 1 v (Vi.rMany Vi.rNum st).1.length ((Vi.rMany Vi.rNum st).1.map nv) ∧ Rd 61 w' b (Vi.rMany Vi.rNum st).2 ∧ w.grownBy w' (some b) := by
  obtain ⟨i0, hi, hz0, hz1, hz2⟩ := info_parts infoInt
  have hbw := h.lt
  have hl1 := Vi.rNum_le st
  have hf1 : Vi.Fit (Vi.rNum st).2 := Vi.rNum_fit hf
  have FIT := Lib.hid hf1; clear hf1
  go_enter Try.func47, Try.ntmps47
  go_wp2_with fail
  refine (Num_c b st w h (by unfold maxLen; omega)).mono ?_
  rintro e w1 ⟨rfl, h1, g1⟩
  obtain ⟨s1, hs1, hb1⟩ := id h1
  have c0 : w1.cell? ⟨b, 0, none⟩ = some (.string s1) := by rw [Lib.cell_of_heap hb1]; rfl
  have hz : s1.size = (Vi.rNum st).2.1.length := by rw [← hs1]; rfl
  have hzl : s1.size ≤ 1099511627776 := by omega
  have HZ := Lib.hid hz; clear hz hs1 hb1
  by_cases k0 : s1.size < (Vi.rNum st).1
  · go_wp2_with (go_at_call 44; refine (fail_c b _ _ h1).mono ?_; rintro e w2 ⟨rfl, h2, g2⟩)
    have hr : Vi.rMany Vi.rNum st = ([], ([], true)) := by unfold Vi.rMany; rw [if_pos (by rw [← HZ.out]; exact k0)]
    have HR := Lib.hid hr; clear hr
    obtain ⟨s2, hs2, hb2⟩ := id h2
    have d1 : w2.cell? ⟨b, 1, none⟩ = some (.bool true) := by rw [Lib.cell_of_heap hb2]; rfl
    clear hb2 hs2
    have hn : (Vi.rNum st).1 < 9223372036854775808 := Vi.rNum_lt st
    have hpos : 0 < (Vi.rNum st).1 := by omega
    go_wp2
    go_loopw [6, 7] (fun v i wr => v = .slice none 0 0 ∧ i = .int .i64 0 ∧ wr = w2) (fun _ _ _ => 0)
    case atStart => exact ⟨rfl, rfl, rfl⟩
    case round =>
      obtain ⟨rfl, rfl, rfl⟩ := hrel
      go_wp2
      go_ret
      rw [HR.out]
      exact ⟨_, rfl, World.ownsRow_nil _ _ _ _, h2, grown_trans g1 g2⟩
  · go_wp2
    have hn : (Vi.rNum st).1 ≤ 1099511627776 := by omega
    go_loopw [6, 7] (fun v i wr => ∃ (k : Nat) (acc : List Nat) (stk : Vi.St), k ≤ (Vi.rNum st).1 ∧ i = .int .i64 k ∧ acc.length = k ∧ wr.ownsRow w.heap.size 3 1 v acc.length (acc.map nv) ∧ Rd 61 wr b stk ∧ w.grownBy wr (some b) ∧
        Mid Vi.rNum (Vi.rNum st).1 (Vi.rNum st).2 k acc stk ∧ Vi.Fit stk ∧ stk.1.length ≤ 1099511627776) (fun _ i _ => (Vi.rNum st).1 - (intOf i).toNat)
    case atStart => exact ⟨0, [], _, by omega, rfl, rfl, World.ownsRow_nil _ _ _ _, h1, g1, Mid.start _ _ _, FIT.out, by omega⟩
    case round =>
      obtain ⟨k, acc, stk, hk, rfl, hlen, hown, hr, hg, hmid, hfit, hlk⟩ := hrel
      obtain ⟨s2, hs2, hb2⟩ := id hr
      have d0 : wr.cell? ⟨b, 0, none⟩ = some (.string s2) := by rw [Lib.cell_of_heap hb2]; rfl
      have d1 : wr.cell? ⟨b, 1, none⟩ = some (.bool stk.2) := by rw [Lib.cell_of_heap hb2]; rfl
      clear hs2 hb2 d0
      have HL := Lib.hid hlen; clear hlen
      have hacc : acc.length ≤ 1099511627776 := by rw [HL.out]; omega
      cases hbad : stk.2 with
      | true =>
        rw [hbad] at d1
        have HM := Lib.hid (hmid.stop (.inr hbad))
        have HS := Lib.hid (fit_true hfit hbad)
        clear hbad hmid hfit
        by_cases k1 : k < (Vi.rNum st).1
        all_goals
          go_wp2
          go_ret
          have hr2 : Vi.rMany Vi.rNum st = ([], ([], true)) := by
            unfold Vi.rMany
            rw [if_neg (by rw [← HZ.out]; exact k0), HM.out, HS.out]
            rfl
          rw [hr2]
          exact ⟨_, rfl, World.ownsRow_nil _ _ _ _, by rw [← HS.out]; exact hr, hg⟩
      | false =>
        rw [hbad] at d1
        by_cases k1 : k < (Vi.rNum st).1
        · have HM := Lib.hid (hmid.step k1 hbad)
          clear hmid
          have HB := Lib.hid hbad; clear hbad
          have hsz := hg.size
          go_wp2_with (first | (go_at_call 21; refine (Num_c b stk _ hr (by unfold maxLen; omega)).mono ?_; rintro e w2 ⟨rfl, h2, g2⟩; have HT : True := trivial; have hown2 := hown.kept g2 (own_ne hown hbw)) | (at_builtin; refine wpList_append_own _ rfl _ _ 23 rfl w.heap.size 3 i0 _ 1 8 Try.underlying23 hi hz0 hz1 hz2 rfl (by decide) _ _ _ rfl (hown2.alloc _) ⟨w2.heap.size, 0, none⟩ 1 1 [.int .i64 ((Vi.rNum stk).1 : Nat)] rfl rfl (cell_one_new _ _ _) (by simp [Value.oneCell']) (by unfold maxLen; omega) (by omega) (by have := g2.size; simp; omega) ?_; intro v' w3 hown3 hg3 _))
          go_roundw
          case rel =>
            have hle := Vi.rNum_le stk
            have hown4 := (hown2.alloc (.cells #[.int .i64 ((Vi.rNum stk).1 : Nat)] 3)).lt
            refine ⟨k + 1, acc ++ [(Vi.rNum stk).1], (Vi.rNum stk).2, by omega, by go_num, by simp [HL.out], ?_, ?_, ?_, HM.out, rNum_fit' stk hfit, by omega⟩
            · simpa [nv] using hown3
            · exact (h2.of_block (Below.heap_alloc w2 _ b h2.lt)).grown hg3 (fun e => by have := (hown4 b e.symm).1; omega)
            · exact grown_own (grown_alloc (grown_trans hg g2) _) hg3 (fun g e => (hown4 g e).1)
          case measure => simp [intOf] <;> omega
        · have HM := Lib.hid (hmid.stop (.inl (by omega)))
          clear hmid
          have HB := Lib.hid hbad; clear hbad
          go_wp2
          go_ret
          have hr2 : Vi.rMany Vi.rNum st = (acc, stk) := by
            unfold Vi.rMany
            rw [if_neg (by rw [← HZ.out]; exact k0), HM.out]
            unfold Vi.shut
            rw [if_neg (by simp [HB.out])]
          rw [hr2]
          exact ⟨_, rfl, hown, hr, hg⟩

end Go.Proofs.Ytipehfidphgbbaa
