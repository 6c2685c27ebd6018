/- Walks: Crc of the program and of the reference. -/
import Derived.Test.YtjijmgmobdoliaaCrcL
import Derived.Test.YtjijmgmobdoliaaProg
import Derived.Lib.VarintMem
import Derived.Deep.LoopGhost
namespace Go.Proofs.Ytjijmgmobdoliaa
open Go.RowKit

theorem run_drop {l : List UInt8} {k c : Nat} {T : Nat} (hk : k < l.length) (h : Sm.run c (l.drop k) = T) : Sm.run (Sm.byte c l[k].toNat) (l.drop (k + 1)) = T := by
  rw [List.drop_eq_getElem_cons hk] at h
  exact h

set_option maxHeartbeats 4000000 in
theorem Crc_c (s : ByteArray) (w : World) (hs : s.size ≤ maxLen) :
    Calls Try.prog 10 #[.string s] w fun e w' => e = .returned (.int .u32 (Sm.crc s.data.toList : Nat)) ∧ w' = w := by
  unfold maxLen at hs
  have hl : s.data.toList.length = s.size := rfl
  have HL := Lib.hid hl; clear hl
  go_enter Try.func10, Try.ntmps10
  go_wp2_with fail
  go_loopw [3, 8] (fun cv i wr => ∃ (k c : Nat), k ≤ s.size ∧ i = .int .i64 k ∧ cv = .int .u32 c ∧ c < 4294967296 ∧ wr = w ∧ Hid (Sm.run c (s.data.toList.drop k) = Sm.run 4294967295 s.data.toList)) (fun _ i _ => s.size - (intOf i).toNat)
  case atStart => exact ⟨0, 4294967295, by omega, rfl, rfl, by omega, rfl, Lib.hid rfl⟩
  case round =>
    obtain ⟨k, c, hk, rfl, rfl, hc, rfl, heq⟩ := hrel
    by_cases k1 : k < s.size
    · have hx : s[k].toNat < 256 := s[k].toNat_lt
      have hkl : k < s.data.toList.length := by rw [HL.out]; exact k1
      have hnx := run_drop hkl heq.out
      rw [show s.data.toList[k] = s[k] from rfl] at hnx
      have HN := Lib.hid hnx; clear hnx
      have i0 : (0 : Int) ≤ (k : Int) := by omega
      have i1 : (k : Int) < (s.size : Int) := by omega
      have hxor := bits_xor_u32 c s[k].toNat hc (by omega)
      have hcx := Sm.xor_lt (a := c) (b := s[k].toNat) hc (by omega)
      have HM := Lib.hid (show Sm.byte c s[k].toNat = Sm.many 8 (c ^^^ s[k].toNat) from rfl)
      have HXO := Lib.hid hxor
      generalize c ^^^ s[k].toNat = C at hxor hcx HM HXO
      clear hxor
      go_wp2_with fail
      go_loopw [3, 17] (fun cv i wq => ∃ (j d : Nat), j ≤ 8 ∧ i = .int .i64 j ∧ cv = .int .u32 d ∧ d < 4294967296 ∧ wq = wr ∧ Hid (Sm.many (8 - j) d = Sm.many 8 C)) (fun _ i _ => 8 - (intOf i).toNat)
      case atStart => exact ⟨0, C, by omega, rfl, by rw [HXO.out], hcx, rfl, Lib.hid rfl⟩
      case round =>
        obtain ⟨j, d, hj, rfl, rfl, hd, hwq, heq2⟩ := hrel
        obtain rfl := hwq.symm
        by_cases j1 : j < 8
        · obtain ⟨m, hm⟩ : ∃ m, 8 - j = m + 1 := ⟨8 - j - 1, by omega⟩
          have hst : Sm.many (8 - (j + 1)) (Sm.T d) = Sm.many 8 C := by
            have h := heq2.out
            rw [hm, Sm.many] at h
            rw [show 8 - (j + 1) = m from by omega]
            exact h
          have hT := Sm.T_lt hd
          have HST := Lib.hid hst; clear hst hm
          have hand := bits_and1_u32 d hd
          have j0 : (0 : Int) ≤ (j : Int) := by omega
          have j2 : (j : Int) < 8 := by omega
          by_cases od : d % 2 = 1
          · have ht : Sm.T d = (d / 2) ^^^ 2197175160 := by unfold Sm.T; rw [if_pos od]; rfl
            rw [od] at hand
            have hx2 : bits .xor .u32 ((d : Int) / 2) 2197175160 = (Sm.T d : Nat) := by
              rw [ht]
              have h := bits_xor_u32 (d / 2) 2197175160 (by omega) (by omega)
              rw [Int.natCast_ediv] at h
              exact h
            have HX2 := Lib.hid hx2; clear hx2
            go_wp2_with fail
            go_roundw
            case rel => exact ⟨j + 1, Sm.T d, by omega, by go_num, by rw [HX2.out], hT, trivial, HST⟩
            case measure => simp [intOf] <;> omega
          · have ht : Sm.T d = d / 2 := by unfold Sm.T; rw [if_neg od]
            have od0 : d % 2 = 0 := by omega
            rw [od0] at hand
            go_wp2_with fail
            go_roundw
            case rel => exact ⟨j + 1, Sm.T d, by omega, by go_num, by rw [ht]; simp, hT, trivial, HST⟩
            case measure => simp [intOf] <;> omega
        · have hd8 : d = Sm.many 8 C := by rw [← heq2.out, show 8 - j = 0 from by omega]; rfl
          have HN2 := Lib.hid (show Sm.run d (s.data.toList.drop (k + 1)) = Sm.run 4294967295 s.data.toList from by rw [hd8, ← HM.out]; exact HN.out)
          clear hd8
          go_wp2_with fail
          go_roundw
          case rel => exact ⟨k + 1, d, by omega, by go_num, rfl, hd, trivial, HN2⟩
          case measure => simp [intOf] <;> omega
    · have hd : Sm.run c (s.data.toList.drop k) = c := by rw [List.drop_of_length_le (by rw [HL.out]; omega)]; rfl
      have hr : Sm.crc s.data.toList = c ^^^ 4294967295 := by unfold Sm.crc; rw [← heq.out, hd]
      have HR := Lib.hid hr
      clear hd hr
      have hfin : bits .xor .u32 IntKind.u32.max (c : Int) = ((c ^^^ 4294967295 : Nat) : Int) := by
        rw [Nat.xor_comm]
        exact bits_xor_u32 4294967295 c (by decide) hc
      go_wp2_with fail
      go_ret
      rw [HR.out]
      exact ⟨rfl, rfl⟩
set_option maxHeartbeats 4000000 in
theorem CrcR_c (s : ByteArray) (w : World) (hs : s.size ≤ maxLen) :
    Calls Try.prog 11 #[.string s] w fun e w' => e = .returned (.int .u32 (Sm.crc s.data.toList : Nat)) ∧ w' = w := by
  unfold maxLen at hs
  have hl : s.data.toList.length = s.size := rfl
  have HL := Lib.hid hl; clear hl
  go_enter Try.func11, Try.ntmps11
  go_wp2_with fail
  go_loopw [3, 4] (fun cv i wr => ∃ (k c : Nat), k ≤ s.size ∧ i = .int .i64 k ∧ cv = .int .u32 c ∧ c < 4294967296 ∧ wr = w ∧ Hid (Sm.run c (s.data.toList.drop k) = Sm.run 4294967295 s.data.toList)) (fun _ i _ => s.size - (intOf i).toNat)
  case atStart => exact ⟨0, 4294967295, by omega, rfl, rfl, by omega, rfl, Lib.hid rfl⟩
  case round =>
    obtain ⟨k, c, hk, rfl, rfl, hc, rfl, heq⟩ := hrel
    by_cases k1 : k < s.size
    · have hx : s[k].toNat < 256 := s[k].toNat_lt
      have hkl : k < s.data.toList.length := by rw [HL.out]; exact k1
      have hnx := run_drop hkl heq.out
      rw [show s.data.toList[k] = s[k] from rfl] at hnx
      have HN := Lib.hid hnx; clear hnx
      have i0 : (0 : Int) ≤ (k : Int) := by omega
      have i1 : (k : Int) < (s.size : Int) := by omega
      have hxor := bits_xor_u32 c s[k].toNat hc (by omega)
      have hcx := Sm.xor_lt (a := c) (b := s[k].toNat) hc (by omega)
      have HM := Lib.hid (show Sm.byte c s[k].toNat = Sm.many 8 (c ^^^ s[k].toNat) from rfl)
      have HXO := Lib.hid hxor
      generalize c ^^^ s[k].toNat = C at hxor hcx HM HXO
      clear hxor
      go_wp2_with fail
      go_loopw [3, 5] (fun cv i wq => ∃ (j d : Nat), j ≤ 8 ∧ i = .int .i64 j ∧ cv = .int .u32 d ∧ d < 4294967296 ∧ wq = wr ∧ Hid (Sm.many (8 - j) d = Sm.many 8 C)) (fun _ i _ => 8 - (intOf i).toNat)
      case atStart => exact ⟨0, C, by omega, rfl, by rw [HXO.out], hcx, rfl, Lib.hid rfl⟩
      case round =>
        obtain ⟨j, d, hj, rfl, rfl, hd, hwq, heq2⟩ := hrel
        obtain rfl := hwq.symm
        by_cases j1 : j < 8
        · obtain ⟨m, hm⟩ : ∃ m, 8 - j = m + 1 := ⟨8 - j - 1, by omega⟩
          have hst : Sm.many (8 - (j + 1)) (Sm.T d) = Sm.many 8 C := by
            have h := heq2.out
            rw [hm, Sm.many] at h
            rw [show 8 - (j + 1) = m from by omega]
            exact h
          have hT := Sm.T_lt hd
          have HST := Lib.hid hst; clear hst hm
          have j0 : (0 : Int) ≤ (j : Int) := by omega
          have j2 : (j : Int) < 8 := by omega
          by_cases od : d % 2 = 1
          · have ht : Sm.T d = (d / 2) ^^^ 2197175160 := by unfold Sm.T; rw [if_pos od]; rfl
            have hand : (d : Int) % 2 = 1 := by omega
            have hx2 : bits .xor .u32 ((d : Int) / 2) 2197175160 = (Sm.T d : Nat) := by
              rw [ht]
              have h := bits_xor_u32 (d / 2) 2197175160 (by omega) (by omega)
              rw [Int.natCast_ediv] at h
              exact h
            have HX2 := Lib.hid hx2; clear hx2
            go_wp2_with fail
            go_roundw
            case rel => exact ⟨j + 1, Sm.T d, by omega, by go_num, by rw [HX2.out], hT, trivial, HST⟩
            case measure => simp [intOf] <;> omega
          · have ht : Sm.T d = d / 2 := by unfold Sm.T; rw [if_neg od]
            have od0 : d % 2 = 0 := by omega
            have hand : (d : Int) % 2 = 0 := by omega
            go_wp2_with fail
            go_roundw
            case rel => exact ⟨j + 1, Sm.T d, by omega, by go_num, by rw [ht]; simp, hT, trivial, HST⟩
            case measure => simp [intOf] <;> omega
        · have hd8 : d = Sm.many 8 C := by rw [← heq2.out, show 8 - j = 0 from by omega]; rfl
          have HN2 := Lib.hid (show Sm.run d (s.data.toList.drop (k + 1)) = Sm.run 4294967295 s.data.toList from by rw [hd8, ← HM.out]; exact HN.out)
          clear hd8
          go_wp2_with fail
          go_roundw
          case rel => exact ⟨k + 1, d, by omega, by go_num, rfl, hd, trivial, HN2⟩
          case measure => simp [intOf] <;> omega
    · have hd : Sm.run c (s.data.toList.drop k) = c := by rw [List.drop_of_length_le (by rw [HL.out]; omega)]; rfl
      have hr : Sm.crc s.data.toList = c ^^^ 4294967295 := by unfold Sm.crc; rw [← heq.out, hd]
      have HR := Lib.hid hr
      clear hd hr
      have hfin : bits .xor .u32 (c : Int) 4294967295 = ((c ^^^ 4294967295 : Nat) : Int) := bits_xor_u32 c 4294967295 hc (by decide)
      go_wp2_with fail
      go_ret
      rw [HR.out]
      exact ⟨rfl, rfl⟩
end Go.Proofs.Ytjijmgmobdoliaa
