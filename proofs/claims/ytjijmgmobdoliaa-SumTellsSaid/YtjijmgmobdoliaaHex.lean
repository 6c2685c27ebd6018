/- Walks: hexadecimal digits. -/
import Derived.Test.YtjijmgmobdoliaaHexL
import Derived.Test.YtjijmgmobdoliaaSha
import Derived.Test.YtjijmgmobdoliaaBuild
import Derived.Laws.MakeOwn
namespace Go.Proofs.Ytjijmgmobdoliaa
open Go.RowKit

theorem bs_ofArr (l : List UInt8) : (⟨l.toArray⟩ : ByteArray) = bs l := rfl
theorem digit_at (n : Nat) (hn : n < 16) (h : n < (⟨#[48, 49, 50, 51, 52, 53, 54, 55, 56, 57, 97, 98, 99, 100, 101, 102]⟩ : ByteArray).size) : ((⟨#[48, 49, 50, 51, 52, 53, 54, 55, 56, 57, 97, 98, 99, 100, 101, 102]⟩ : ByteArray)[n]'h) = UInt8.ofNat (Hx.dg n) := by
  match n, hn, h with
  | 0, _, _ => rfl
  | 1, _, _ => rfl
  | 2, _, _ => rfl
  | 3, _, _ => rfl
  | 4, _, _ => rfl
  | 5, _, _ => rfl
  | 6, _, _ => rfl
  | 7, _, _ => rfl
  | 8, _, _ => rfl
  | 9, _, _ => rfl
  | 10, _, _ => rfl
  | 11, _, _ => rfl
  | 12, _, _ => rfl
  | 13, _, _ => rfl
  | 14, _, _ => rfl
  | 15, _, _ => rfl
  | n + 16, hn, _ => omega
theorem cells_snoc (acc : List UInt8) (m : Nat) (h : m < 256) : Lib.byteCells acc ++ [Value.int .u8 (m : Int)] = Lib.byteCells (acc ++ [UInt8.ofNat m]) := by
  rw [Lib.byteCells_append]
  simp [Lib.byteCells, Vi.ofNat_toNat h]
theorem hex_take (l : List UInt8) (k : Nat) (hk : k < l.length) : Hx.hex ((l.take (k + 1)).map UInt8.toNat) = Hx.hex ((l.take k).map UInt8.toNat) ++ [UInt8.ofNat (Hx.dg (l[k].toNat / 16))] ++ [UInt8.ofNat (Hx.dg (l[k].toNat % 16))] := by
  rw [List.take_succ_eq_append_getElem hk, List.map_append]
  unfold Hx.hex
  rw [List.flatMap_append, List.append_assoc]
  rfl
theorem and15 (a : Nat) (ha : a < 256) : bits .and .u8 (a : Int) 15 = ((a % 16 : Nat) : Int) := by
  have h1 : (BitVec.ofInt 8 (a : Int)).toNat = a := by
    rw [BitVec.ofInt_natCast, BitVec.toNat_ofNat]; exact Nat.mod_eq_of_lt (by omega)
  show IntKind.u8.wrap ((BitVec.ofInt 8 (a : Int) &&& BitVec.ofInt 8 15).toNat : Int) = _
  rw [BitVec.toNat_and, h1, show (BitVec.ofInt 8 15).toNat = 15 from rfl, show a &&& 15 = a % 2 ^ 4 from Nat.and_two_pow_sub_one_eq_mod a 4, IntKind.wrap_u8]
  omega

set_option maxHeartbeats 4000000 in
set_option maxRecDepth 100000 in
theorem NumHex_c (s : ByteArray) (w : World) (hs : s.size ≤ 70368744177664) :
    Calls Try.prog 19 #[.string s] w fun e w' => e = .returned (.string (bs (Hx.hex (s.data.toList.map UInt8.toNat)))) ∧ Below w.heap.size w w' := by
  have hl : s.data.toList.length = s.size := rfl
  have HL := Lib.hid hl; clear hl
  have hfr := Lib.IsBuilderF.of (Lib.fresh_isBuilder 56 5 w)
  go_enter Try.func19, Try.ntmps19
  go_wp2_with fail
  go_loopw [7] (fun iv wr => ∃ k : Nat, iv = .int .i64 k ∧ k ≤ s.size ∧ Hid (Lib.IsBuilderF 56 5 w.heap.size w.heap.size (Lib.byteCells (Hx.hex ((s.data.toList.take k).map UInt8.toNat))) wr) ∧ Hid (Below w.heap.size w wr)) (fun iv _ => s.size - (intOf iv).toNat)
  case atStart => exact ⟨0, rfl, Nat.zero_le _, Lib.hid hfr, Lib.hid ((Below.refl _ w).alloc (Nat.le_refl _) _)⟩
  case round =>
    obtain ⟨k, rfl, hk, HI, HB⟩ := hrel
    by_cases hks : k < s.size
    · have hx : s[k].toNat < 256 := s[k].toNat_lt
      have hnx := hex_take s.data.toList k (by rw [HL.out]; exact hks)
      rw [show s.data.toList[k] = s[k] from rfl] at hnx
      have hlen : (Hx.hex ((s.data.toList.take k).map UInt8.toNat)).length = 2 * k := by rw [Hx.hex_len, List.length_map, List.length_take, HL.out, Nat.min_eq_left hk]
      generalize Hx.hex ((s.data.toList.take k).map UInt8.toNat) = acc at hnx HI hlen
      have h15 := and15 s[k].toNat hx
      have l1 := Hx.dg_lt (n := s[k].toNat / 16) (by omega)
      have l2 := Hx.dg_lt (n := s[k].toNat % 16) (by omega)
      have HN := Lib.hid hnx; clear hnx
      have HLn := Lib.hid hlen; clear hlen
      have hwz := HB.out.size
      have hk2 : 2 * k + 2 ≤ 140737488355328 := by omega
      go_wp2_with (go_at_call 29; refine (WriteByte_k w.heap.size w.heap.size _ _ _ HI.out (by rw [Lib.byteCells_length, HLn.out]; omega) hwz).mono ?_; rintro e w1 ⟨rfl, h1, b1, _⟩)
      rw [digit_at _ (by omega), Vi.ofNat_toNat l1, cells_snoc _ _ l1] at h1
      refine (WriteByte_k w.heap.size w.heap.size _ _ _ (.inr h1) (by rw [Lib.byteCells_length, List.length_append, HLn.out]; simp; omega) (Nat.le_trans hwz b1.size)).mono ?_
      rintro e w2 ⟨rfl, h2, b2, _⟩
      rw [digit_at _ (by omega), Vi.ofNat_toNat l2, cells_snoc _ _ l2, ← HN.out] at h2
      have H2 := Lib.hid h2
      have B2 := Lib.hid ((HB.out.trans b1).trans b2)
      clear h1 h2 b1 b2 hwz h15
      go_wp2_with fail
      go_roundw
      case rel => exact ⟨k + 1, by go_num, by omega, Lib.hid (.inr H2.out), B2⟩
      case measure => simp [intOf] <;> omega
    · have he : k = s.size := by omega
      subst he
      have h := HI.out
      rw [List.take_of_length_le (by rw [HL.out]; exact Nat.le_refl _)] at h
      have HI2 := Lib.hid h
      have hz := HB.out.size
      clear h HI hks
      go_wp2_with fail
      refine (Try.Builder_String_any_k w.heap.size w.heap.size _ _ HI2.out hz).mono ?_
      rintro e w1 ⟨rfl, _, b1, _⟩
      go_wp2_with fail
      go_ret
      rw [bs_ofArr]
      exact ⟨rfl, HB.out.trans b1⟩

set_option maxHeartbeats 4000000 in
theorem digit_c (c : Nat) (hc : c < 256) (w : World) :
    Calls Try.prog 27 #[.int .u8 c] w fun e w' => e = .returned (.int .i64 (Hx.val c)) ∧ w' = w := by
  have hv := Hx.index_val ⟨c, hc⟩
  simp only at hv
  by_cases hu : 65 ≤ c ∧ c ≤ 70
  · obtain ⟨h1, h2⟩ := hu
    rw [if_pos ⟨h1, h2⟩] at hv
    have HV := Lib.hid hv; clear hv
    have g1 : (65 : Int) ≤ (c : Int) := by omega
    have g2 : (c : Int) ≤ 70 := by omega
    go_enter Try.func27, Try.ntmps27
    go_wp2_with fail
    refine (Try.strings_IndexByte _ _ w).mono ?_
    rintro e w1 ⟨rfl, rfl⟩
    go_wp2_with fail
    go_ret
    refine ⟨?_, rfl⟩
    rw [← HV.out, show ((c : Int) + 32).toNat = c + 32 from by omega]
    rfl
  · rw [if_neg hu] at hv
    have HV := Lib.hid hv; clear hv
    by_cases h1 : 65 ≤ c
    · have g1 : (65 : Int) ≤ (c : Int) := by omega
      have g2 : ¬ (c : Int) ≤ 70 := by omega
      clear hu
      go_enter Try.func27, Try.ntmps27
      go_wp2_with fail
      refine (Try.strings_IndexByte _ _ w).mono ?_
      rintro e w1 ⟨rfl, rfl⟩
      go_wp2_with fail
      go_ret
      exact ⟨by rw [← HV.out]; rfl, rfl⟩
    · have g1 : ¬ (65 : Int) ≤ (c : Int) := by omega
      clear hu
      go_enter Try.func27, Try.ntmps27
      go_wp2_with fail
      refine (Try.strings_IndexByte _ _ w).mono ?_
      rintro e w1 ⟨rfl, rfl⟩
      go_wp2_with fail
      go_ret
      exact ⟨by rw [← HV.out]; rfl, rfl⟩
end Go.Proofs.Ytjijmgmobdoliaa
