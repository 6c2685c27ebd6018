/- Num of both readers: a varint at the head of the unread bytes. -/
import Derived.Test.YtijbkflbklbemaaRead1
namespace Go.Proofs.Ytijbkflbklbemaa
open Go.RowKit

theorem two_pow (k : Nat) : (2 : Nat) ^ (7 * k) = 128 ^ k := by rw [Nat.pow_mul]
theorem take_succ' (l : List UInt8) (k : Nat) (h : k < l.length) : l.take (k + 1) = l.take k ++ [l.getD k 0] := by
  rw [List.take_succ_eq_append_getElem h, List.getD_eq_getElem?_getD, List.getElem?_eq_getElem h]; rfl
theorem num_step (l : List UInt8) (k : Nat) (hk : k < 9) (h : k < l.length) (x : Nat) (hx : (l.getD k 0).toNat = x) :
    wrap64 ((Vi.val (l.take k) : Int) + wrap64 ((x : Int) % 128 * 2 ^ (7 * k))) = ((Vi.val (l.take (k + 1)) : Nat) : Int) := by
  have h1 := Vi.val_lt (l.take k)
  have hlen : (l.take k).length = k := by simp; omega
  rw [hlen] at h1
  rw [take_succ' l k h, Vi.val_snoc, hlen, hx]
  have h2 : x % 128 < 128 := Nat.mod_lt _ (by decide)
  have h3 : x % 128 * 128 ^ k ≤ 127 * 128 ^ k := Nat.mul_le_mul_right _ (by omega)
  have h4 : (128 : Nat) ^ (k + 1) ≤ 128 ^ 9 := Nat.pow_le_pow_right (by decide) (by omega)
  have h5 : (128 : Nat) ^ 9 = 9223372036854775808 := by decide
  rw [Nat.pow_succ] at h4
  have e : (x : Int) % 128 * 2 ^ (7 * k) = ((x % 128 * 128 ^ k : Nat) : Int) := by
    rw [← two_pow]; simp
  rw [e]
  generalize x % 128 * 128 ^ k = y at *
  generalize (128 : Nat) ^ k = z at *
  generalize Vi.val (l.take k) = v at *
  rw [IntWalk.wrap64_in (y : Int) ⟨by omega, by omega⟩, IntWalk.wrap64_in _ ⟨by omega, by omega⟩]
  omega

theorem rNum_none {st : Vi.St} (h : ¬ (Vi.pos st.1 < st.1.length ∧ Vi.pos st.1 ≤ 8 ∧ (Vi.pos st.1 = 0 ∨ (st.1.getD (Vi.pos st.1) 0).toNat ≠ 0))) : Vi.rNum st = (0, ([], true)) := by
  unfold Vi.rNum Vi.dec
  rw [if_neg h]
theorem rNum_some {st : Vi.St} {k : Nat} (hp : Vi.pos st.1 = k) (h : k < st.1.length) (h8 : k ≤ 8) (h0 : k = 0 ∨ (st.1.getD k 0).toNat ≠ 0) : Vi.rNum st = (Vi.val (st.1.take (k + 1)), (st.1.drop (k + 1), st.2)) := by
  subst hp
  unfold Vi.rNum Vi.dec
  rw [if_pos ⟨h, h8, h0⟩]

set_option maxHeartbeats 2000000 in
theorem Num_c (b : Nat) (st : Vi.St) (w : World) (h : Rd 76 w b st) (hl : st.1.length ≤ maxLen) :
    Calls Try.prog 34 #[.pointer (some ⟨b, 0, none⟩)] w fun e w' =>
      e = .returned (.int .i64 ((Vi.rNum st).1 : Nat)) ∧ Rd 76 w' b (Vi.rNum st).2 ∧ w.grownBy w' (some b) := by
  have h' := h
  obtain ⟨s, hs, hb⟩ := h'
  have c0 : w.cell? ⟨b, 0, none⟩ = some (.string s) := by rw [Lib.cell_of_heap hb]; rfl
  have c1 : w.cell? ⟨b, 1, none⟩ = some (.bool st.2) := by rw [Lib.cell_of_heap hb]; rfl
  have f0 : w.frozen? ⟨b, 0, none⟩ = false := Lib.frozen_of_heap hb 0
  have f1 : w.frozen? ⟨b, 1, none⟩ = false := Lib.frozen_of_heap hb 1
  have hz : s.size = st.1.length := by rw [← hs]; rfl
  have HX : Hid (∀ (k : Nat) (hk : k < s.size), (st.1.getD k 0).toNat = s[k].toNat) := by
    show ∀ (k : Nat) (hk : k < s.size), _
    intro k hk
    rw [← hs, List.getD_eq_getElem?_getD, List.getElem?_eq_getElem (by simpa using hk)]
    rfl
  have HS := Lib.hid hs; clear hs
  have HZ := Lib.hid hz; clear hz
  have hsz : s.size ≤ maxLen := by rw [HZ.out]; exact hl
  unfold maxLen at hsz
  have hd : ∀ k : Nat, (s.extract k s.size).data.toList = st.1.drop k := fun k => by rw [Lib.extract_to_end, HS.out]
  have HD := Lib.hid hd; clear hd
  have HB := Lib.hid hb; clear hb
  go_enter Try.func34, Try.ntmps34
  go_wp2
  go_loop [3, 4] (fun n i => ∃ k : Nat, k ≤ 9 ∧ k ≤ s.size ∧ Hid (∀ j, j < k → 128 ≤ (st.1.getD j 0).toNat) ∧ i = .int .i64 k ∧ n = .int .i64 (Vi.val (st.1.take k) : Nat)) (fun _ i => 9 - (intOf i).toNat)
  case atStart => exact ⟨0, by omega, by omega, fun j hj => by omega, rfl, rfl⟩
  case round =>
    obtain ⟨k, hk9, hks, hge, rfl, rfl⟩ := hrel
    by_cases k0 : k < s.size
    · by_cases k1 : k < 9
      · have hx : s[k].toNat < 256 := s[k].toNat_lt
        have HN := Lib.hid (num_step st.1 k k1 (by rw [← HZ.out]; exact k0) _ (HX.out k k0))
        by_cases k2 : (128 : Int) ≤ (s[k].toNat : Int)
        · go_wp2
          go_round
          case rel =>
            refine ⟨k + 1, by omega, by omega, fun j hj => ?_, by go_num, by rw [HN.out]⟩
            rcases Nat.lt_or_ge j k with hj' | hj'
            · exact hge.out j hj'
            · obtain rfl : j = k := by omega
              rw [HX.out j k0]; omega
          case measure => simp [intOf]; omega
        · have HP : Hid (Vi.pos st.1 = k) := Vi.pos_eq _ _ (by rw [← HZ.out]; omega) hge.out (fun _ => by rw [HX.out k k0]; omega)
          by_cases k3 : (s[k].toNat : Int) = 0
          · by_cases k4 : 0 < k
            · have K3 := Lib.hid k3
              have k3' : ((s[k].toNat : Int) == 0) = true := by simpa using k3
              clear k3
              go_wp2_with (go_at_call 55; refine (fail_c b st _ h).mono ?_; rintro e w1 ⟨rfl, h1, g1⟩)
              go_ret
              rw [rNum_none (by rw [HP.out, HX.out k k0]; have := K3.out; omega)]
              exact ⟨rfl, h1, g1⟩
            · have k3' : ((s[k].toNat : Int) == 0) = true := by simpa using k3
              clear k3
              go_wp2
              go_ret
              rw [rNum_some HP.out (by rw [← HZ.out]; exact k0) (by omega) (.inl (by omega))]
              exact ⟨congrArg (fun z => Ending.returned (.int .i64 z)) HN.out, ⟨_, HD.out (k + 1), by exact blk_set HB.out 0 _⟩, grown_set (grown_refl _ _) _ _⟩
          · have k3' : ((s[k].toNat : Int) == 0) = false := by simpa using k3
            have k3'' : s[k].toNat ≠ 0 := by omega
            have K3 := Lib.hid k3''; clear k3'' k3
            go_wp2
            go_ret
            rw [rNum_some HP.out (by rw [← HZ.out]; exact k0) (by omega) (.inr (by rw [HX.out k k0]; exact K3.out))]
            exact ⟨congrArg (fun z => Ending.returned (.int .i64 z)) HN.out, ⟨_, HD.out (k + 1), by exact blk_set HB.out 0 _⟩, grown_set (grown_refl _ _) _ _⟩
      · have HP : Hid (9 ≤ Vi.pos st.1) := Nat.le_trans (by omega) (Vi.pos_ge _ k (by rw [← HZ.out]; omega) hge.out)
        go_wp2_with (go_at_call 55; refine (fail_c b st _ h).mono ?_; rintro e w1 ⟨rfl, h1, g1⟩)
        go_ret
        rw [rNum_none (by have := HP.out; omega)]
        exact ⟨rfl, h1, g1⟩
    · have HP : Hid (st.1.length ≤ Vi.pos st.1) := Nat.le_trans (by rw [← HZ.out]; omega) (Vi.pos_ge _ k (by rw [← HZ.out]; omega) hge.out)
      go_wp2_with (go_at_call 55; refine (fail_c b st _ h).mono ?_; rintro e w1 ⟨rfl, h1, g1⟩)
      go_ret
      rw [rNum_none (by have := HP.out; omega)]
      exact ⟨rfl, h1, g1⟩
end Go.Proofs.Ytijbkflbklbemaa
