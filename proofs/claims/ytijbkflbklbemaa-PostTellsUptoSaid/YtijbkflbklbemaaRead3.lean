/- Num of the reference's reader. -/
import Derived.Test.YtijbkflbklbemaaRead2
namespace Go.Proofs.Ytijbkflbklbemaa
open Go.RowKit

theorem and127 : ∀ x : Fin 256, bits BinOp.and IntKind.u8 ((x.val : Nat) : Int) 127 = ((x.val % 128 : Nat) : Int) := by decide +kernel
theorem num_back (L : List UInt8) (j : Nat) (hj : j < L.length) (hL : L.length ≤ 9) (x : Nat) (hx : (L.getD j 0).toNat = x) (h256 : x < 256) :
    wrap64 (wrap64 ((Vi.val (L.drop (j + 1)) : Int) * 128) + wrap64 (bits BinOp.and IntKind.u8 (x : Int) 127)) = ((Vi.val (L.drop j) : Nat) : Int) := by
  rw [and127 ⟨x, h256⟩]
  have e : L.drop j = L.getD j 0 :: L.drop (j + 1) := by
    rw [List.drop_eq_getElem_cons hj, List.getD_eq_getElem?_getD, List.getElem?_eq_getElem hj]; rfl
  have h1 := Vi.val_lt (L.drop j)
  have h2 : (128 : Nat) ^ (L.drop j).length ≤ 128 ^ 9 := Nat.pow_le_pow_right (by decide) (by simp; omega)
  have h5 : (128 : Nat) ^ 9 = 9223372036854775808 := by decide
  rw [e] at h1 ⊢
  simp only [Vi.val, hx] at h1 ⊢
  rw [← e] at h1
  have h6 : x % 128 < 128 := Nat.mod_lt _ (by decide)
  generalize Vi.val (L.drop (j + 1)) = v at *
  generalize x % 128 = y at *
  generalize (128 : Nat) ^ (L.drop j).length = z at *
  rw [IntWalk.wrap64_in ((v : Int) * 128) ⟨by omega, by omega⟩, IntWalk.wrap64_in (y : Int) ⟨by omega, by omega⟩, IntWalk.wrap64_in _ ⟨by omega, by omega⟩]
  omega

set_option maxHeartbeats 2000000 in
theorem NumR_c (b : Nat) (st : Vi.St) (w : World) (h : Rd 78 w b st) (hl : st.1.length ≤ maxLen) :
    Calls Try.prog 39 #[.pointer (some ⟨b, 0, none⟩)] w fun e w' =>
      e = .returned (.int .i64 ((Vi.rNum st).1 : Nat)) ∧ Rd 78 w' b (Vi.rNum st).2 ∧ w.grownBy w' (some b) := by
  have h' := h
  obtain ⟨s, hs, hb⟩ := h'
  have c0 : w.cell? ⟨b, 0, none⟩ = some (.string s) := by rw [Lib.cell_of_heap hb]; rfl
  have c1 : w.cell? ⟨b, 1, none⟩ = some (.bool st.2) := by rw [Lib.cell_of_heap hb]; rfl
  have f0 : w.frozen? ⟨b, 0, none⟩ = false := Lib.frozen_of_heap hb 0
  have f1 : w.frozen? ⟨b, 1, none⟩ = false := Lib.frozen_of_heap hb 1
  have hz : s.size = st.1.length := by rw [← hs]; rfl
  have HX : Hid (∀ (k : Nat) (hk : k < s.size), (st.1.getD k 0).toNat = s[k].toNat) := by
    show ∀ (k : Nat) (hk : k < s.size), _
    intro k hk
    rw [← hs, List.getD_eq_getElem?_getD, List.getElem?_eq_getElem (by simpa using hk)]
    rfl
  have HS := Lib.hid hs; clear hs
  have HZ := Lib.hid hz; clear hz
  have hsz : s.size ≤ maxLen := by rw [HZ.out]; exact hl
  unfold maxLen at hsz
  have hd : ∀ k : Nat, (s.extract k s.size).data.toList = st.1.drop k := fun k => by rw [Lib.extract_to_end, HS.out]
  have HD := Lib.hid hd; clear hd
  have HB := Lib.hid hb; clear hb
  go_enter Try.func39, Try.ntmps39
  go_wp2
  go_loop [3] (fun i => ∃ k : Nat, k ≤ s.size ∧ Hid (∀ j, j < k → 128 ≤ (st.1.getD j 0).toNat) ∧ i = .int .i64 k) (fun i => s.size - (intOf i).toNat)
  case atStart => exact ⟨0, by omega, fun j hj => by omega, rfl⟩
  case round =>
    obtain ⟨k, hks, hge, rfl⟩ := hrel
    by_cases k0 : k < s.size
    · have hx : s[k].toNat < 256 := s[k].toNat_lt
      by_cases k2 : (128 : Int) ≤ (s[k].toNat : Int)
      · go_wp2
        go_round
        case rel =>
          refine ⟨k + 1, by omega, fun j hj => ?_, by go_num⟩
          rcases Nat.lt_or_ge j k with hj' | hj'
          · exact hge.out j hj'
          · obtain rfl : j = k := by omega
            rw [HX.out j k0]; omega
        case measure => simp [intOf]; omega
      · have HP : Hid (Vi.pos st.1 = k) := Vi.pos_eq _ _ (by rw [← HZ.out]; omega) hge.out (fun _ => by rw [HX.out k k0]; omega)
        by_cases k1 : 8 < k
        · go_wp2_with (go_at_call 56; refine (failR_c b st _ h).mono ?_; rintro e w1 ⟨rfl, h1, g1⟩)
          go_ret
          rw [rNum_none (by rw [HP.out]; omega)]
          exact ⟨rfl, h1, g1⟩
        · by_cases k3 : 0 < k ∧ (s[k].toNat : Int) = 0
          · obtain ⟨k4, k3⟩ := k3
            have K3 := Lib.hid k3
            have k3' : ((s[k].toNat : Int) == 0) = true := by simpa using k3
            clear k3
            go_wp2_with (go_at_call 56; refine (failR_c b st _ h).mono ?_; rintro e w1 ⟨rfl, h1, g1⟩)
            go_ret
            rw [rNum_none (by rw [HP.out, HX.out k k0]; have := K3.out; omega)]
            exact ⟨rfl, h1, g1⟩
          · have HV := Lib.hid (rNum_some HP.out (by rw [← HZ.out]; exact k0) (by omega) (by rw [HX.out k k0]; omega))
            have hdec : ¬ 0 < k ∨ (0 < k ∧ ((s[k].toNat : Int) == 0) = false) := by
              rcases Nat.eq_zero_or_pos k with h0 | h0
              · exact .inl (by omega)
              · exact .inr ⟨h0, by simp; omega⟩
            clear k3
            have kn : ¬ s.size ≤ k := by omega
            have k8 : (k : Int) ≤ 8 := by omega
            have k9 : decide ((8 : Int) < (k : Int)) = false := by simp; omega
            rcases hdec with k4 | ⟨k4, k5⟩
            all_goals
              go_wp2
              go_loop [4, 5] (fun n i => (i = .int .i64 (-1) ∧ n = .int .i64 (Vi.val (st.1.take (k + 1)) : Nat)) ∨ ∃ j : Nat, j ≤ k ∧ i = .int .i64 j ∧ n = .int .i64 (Vi.val ((st.1.take (k + 1)).drop (j + 1)) : Nat)) (fun _ i => (intOf i + 1).toNat)
              case atStart => exact .inr ⟨k, by omega, rfl, by rw [List.drop_eq_nil_of_le (by simp; omega)]; rfl⟩
              case round =>
                rcases hrel with ⟨rfl, rfl⟩ | ⟨j, hj, rfl, rfl⟩
                · go_wp2
                  go_ret
                  rw [HV.out]
                  exact ⟨rfl, ⟨_, HD.out (k + 1), by exact blk_set HB.out 0 _⟩, grown_set (grown_refl _ _) _ _⟩
                · have hj' : j < s.size := by omega
                  have hxj : s[j].toNat < 256 := s[j].toNat_lt
                  go_wp2
                  go_round
                  case rel =>
                    have hlen : (st.1.take (k + 1)).length = k + 1 := by rw [List.length_take, ← HZ.out]; omega
                    rw [num_back (st.1.take (k + 1)) j (by omega) (by omega) _ (by rw [List.getD_eq_getElem?_getD, List.getElem?_take, if_pos (by omega), ← List.getD_eq_getElem?_getD]; exact HX.out j hj') hxj]
                    rcases Nat.eq_zero_or_pos j with h0 | h0
                    · left
                      subst h0
                      exact ⟨by simp, by simp⟩
                    · right
                      exact ⟨j - 1, by omega, by congr 1; omega, by rw [show j - 1 + 1 = j from by omega]⟩
                  case measure => simp [intOf] <;> omega
    · have k0' : s.size ≤ k := by omega
      have HP : Hid (st.1.length ≤ Vi.pos st.1) := Nat.le_trans (by rw [← HZ.out]; omega) (Vi.pos_ge _ k (by rw [← HZ.out]; omega) hge.out)
      go_wp2_with (go_at_call 56; refine (failR_c b st _ h).mono ?_; rintro e w1 ⟨rfl, h1, g1⟩)
      go_ret
      rw [rNum_none (by have := HP.out; omega)]
      exact ⟨rfl, h1, g1⟩
end Go.Proofs.Ytijbkflbklbemaa
