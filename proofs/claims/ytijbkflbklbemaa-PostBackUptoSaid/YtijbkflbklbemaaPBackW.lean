/- The walk of PostBack. -/
import Derived.Test.YtijbkflbklbemaaBackL
import Derived.Test.YtijbkflbklbemaaSmall
namespace Go.Proofs.Ytijbkflbklbemaa
open Go.RowKit

set_option maxHeartbeats 8000000 in
set_option maxRecDepth 100000 in
theorem postBack_k (va : Value) (l : List Po.P) (s : List UInt8) (w : World) (ha : SeqP w va l) (hl : l.length ≤ 4398046511104) (hc : cnt l ≤ 4611686018427387904) (hs : s.length ≤ 140737488355328) :
    Calls Try.prog 6 #[va, .string (bs s)] w fun e w' => e = .returned (.bool true) ∧ Below w.heap.size w w' := by
  have HA := Lib.hid ha; clear ha
  go_enter Try.func6, Try.ntmps6
  go_wp2_with fail
  refine (small_c w).mono ?_
  rintro e w1 ⟨rfl, b1⟩
  have HB1 := Lib.hid b1; clear b1
  go_wp2_with fail
  refine (Few_c va l w1 (HA.out.keep HB1.out.block)).mono ?_
  rintro e w2 ⟨f1, rfl, hw2, hf⟩
  obtain rfl := hw2.symm
  have hf' := Lib.hid (hf hc)
  clear hf
  cases f1 with
  | false =>
    go_wp2_with fail
    go_ret
    exact ⟨rfl, HB1.out⟩
  | true =>
  have hcn : cnt l ≤ 300 := of_decide_eq_true hf'.out.symm
  clear hf'
  have hss : (bs s).size = s.length := rfl
  by_cases h2 : 2000 < s.length
  · have h2' : decide ((2000 : Int) < ((bs s).size : Int)) = true := decide_eq_true (by omega)
    go_wp2_with fail
    go_ret
    exact ⟨rfl, HB1.out⟩
  have h2' : decide ((2000 : Int) < ((bs s).size : Int)) = false := decide_eq_false (by omega)
  have h3 : s.length ≤ 2000 := by omega
  clear h2 hss
  go_wp2_with fail
  have hr := Right_c va l w1 (HA.out.keep HB1.out.block) hl
  have hel := encL_le l
  cases hrx : Po.rightB l with
  | true =>
    rw [hrx] at hr
    refine hr.mono ?_
    rintro e w2 ⟨rfl, b2⟩
    have HB2 := Lib.hid (chain HB1.out b2)
    have OX := (Po.right_iff l).1 hrx
    obtain ⟨d1, d2⟩ := dec_enc OX (by omega)
    have hE := Encode_c va l w2 (HA.out.keep HB2.out.block) hl (by omega)
    have HEE := Lib.hid hE
    clear hE hr b2 OX hrx
    go_wp2_with fail
    refine HEE.out.mono ?_
    rintro e w3 ⟨rfl, b3⟩
    have HB3 := Lib.hid (chain HB2.out b3)
    have hD := Decode_c (encL l) w3 (by omega)
    rw [d1, d2] at hD
    have HDD := Lib.hid hD
    clear hD b3 d1 d2
    go_wp2_with fail
    refine HDD.out.mono ?_
    rintro e w4 ⟨v4, rfl, hv4, b4⟩
    have HB4 := Lib.hid (chain HB3.out b4)
    have HV4 := Lib.hid hv4
    clear b4 hv4
    go_wp2_with fail
    refine (same_t v4 va l w4 HV4.out (HA.out.keep HB4.out.block)).mono ?_
    rintro e w5 ⟨rfl, b5⟩
    have HB5 := Lib.hid (chain HB4.out b5)
    clear b5
    go_wp2_with fail
    refine (Decode_c s w5 (by omega)).mono ?_
    rintro e w6 ⟨v6, rfl, hv6, b6⟩
    have HB6 := Lib.hid (chain HB5.out b6)
    clear b6
    cases hok : decOk s with
    | false =>
      rw [dec_none hok] at hv6
      obtain ⟨A6, c6, rfl, _⟩ := hv6
      rw [List.length_nil]
      go_wp2_with fail
      go_ret
      exact ⟨rfl, HB6.out⟩
    | true =>
      obtain ⟨hr6, he6⟩ := dec_right hok
      have hl6 : (decL s).length ≤ 4398046511104 := by
        obtain ⟨_, _, _, h1, h2, _⟩ := id hv6
        have h3 := okSz ((Po.right_iff _).1 hr6)
        have := h3.len
        omega
      have hR := Right_c v6 _ w6 hv6 hl6
      rw [hr6] at hR
      have HRR := Lib.hid hR; clear hR
      have HV6 := Lib.hid hv6; clear hv6
      clear hok hr6
      go_wp2_with fail
      refine HRR.out.mono ?_
      rintro e w7 ⟨rfl, b7⟩
      have hE := Encode_c v6 _ w7 (HV6.out.keep b7.block) hl6 (by rw [he6]; omega)
      rw [he6] at hE
      have HEE := Lib.hid hE; clear hE
      have HB7 := Lib.hid (chain HB6.out b7)
      clear b7 he6 hl6
      go_wp2_with fail
      refine HEE.out.mono ?_
      rintro e w8 ⟨rfl, b8⟩
      go_wp2_with fail
      go_ret
      exact ⟨rfl, chain HB7.out b8⟩

  | false =>
    rw [hrx] at hr
    refine hr.mono ?_
    rintro e w2 ⟨rfl, b2⟩
    have HB2 := Lib.hid (chain HB1.out b2)
    have hE := Encode_c va l w2 (HA.out.keep HB2.out.block) hl (by omega)
    rw [enc_none hrx] at hE
    have HEE := Lib.hid hE
    clear hE hr b2 hrx
    go_wp2_with fail
    refine HEE.out.mono ?_
    rintro e w3 ⟨rfl, b3⟩
    have HB5 := Lib.hid (chain HB2.out b3)
    clear b3
    have hemp : ((bs []).toList == []) = true := by decide +kernel
    go_wp2_with fail
    refine (Decode_c s w3 (by omega)).mono ?_
    rintro e w6 ⟨v6, rfl, hv6, b6⟩
    have HB6 := Lib.hid (chain HB5.out b6)
    clear b6
    cases hok : decOk s with
    | false =>
      rw [dec_none hok] at hv6
      obtain ⟨A6, c6, rfl, _⟩ := hv6
      rw [List.length_nil]
      go_wp2_with fail
      go_ret
      exact ⟨rfl, HB6.out⟩
    | true =>
      obtain ⟨hr6, he6⟩ := dec_right hok
      have hl6 : (decL s).length ≤ 4398046511104 := by
        obtain ⟨_, _, _, h1, h2, _⟩ := id hv6
        have h3 := okSz ((Po.right_iff _).1 hr6)
        have := h3.len
        omega
      have hR := Right_c v6 _ w6 hv6 hl6
      rw [hr6] at hR
      have HRR := Lib.hid hR; clear hR
      have HV6 := Lib.hid hv6; clear hv6
      clear hok hr6
      go_wp2_with fail
      refine HRR.out.mono ?_
      rintro e w7 ⟨rfl, b7⟩
      have hE := Encode_c v6 _ w7 (HV6.out.keep b7.block) hl6 (by rw [he6]; omega)
      rw [he6] at hE
      have HEE := Lib.hid hE; clear hE
      have HB7 := Lib.hid (chain HB6.out b7)
      clear b7 he6 hl6
      go_wp2_with fail
      refine HEE.out.mono ?_
      rintro e w8 ⟨rfl, b8⟩
      go_wp2_with fail
      go_ret
      exact ⟨rfl, chain HB7.out b8⟩

end Go.Proofs.Ytijbkflbklbemaa
