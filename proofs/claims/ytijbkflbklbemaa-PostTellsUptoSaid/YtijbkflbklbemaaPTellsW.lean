/- The walk of PostTells. -/
import Derived.Test.YtijbkflbklbemaaDecRW
import Derived.Test.YtijbkflbklbemaaSmall
namespace Go.Proofs.Ytijbkflbklbemaa
open Go.RowKit

set_option maxHeartbeats 8000000 in
set_option maxRecDepth 100000 in
theorem postTells_k (va : Value) (l : List Po.P) (s : List UInt8) (w : World) (ha : SeqP w va l) (hl : l.length ≤ 4398046511104) (hc : cnt l ≤ 4611686018427387904) (hs : s.length ≤ 140737488355328) :
    Calls Try.prog 5 #[va, .string (bs s)] w fun e w' => e = .returned (.bool true) ∧ Below w.heap.size w w' := by
  have HA := Lib.hid ha; clear ha
  go_enter Try.func5, Try.ntmps5
  go_wp2_with fail
  refine (small_c w).mono ?_
  rintro e w1 ⟨rfl, b1⟩
  have HB1 := Lib.hid b1; clear b1
  go_wp2_with fail
  refine (Few_c va l w1 (HA.out.keep HB1.out.block)).mono ?_
  rintro e w2 ⟨f1, rfl, hw2, hf⟩
  obtain rfl := hw2.symm
  have hf' := Lib.hid (hf hc)
  clear hf
  cases f1 with
  | false =>
    go_wp2_with fail
    go_ret
    exact ⟨rfl, HB1.out⟩
  | true =>
  have hcn : cnt l ≤ 300 := of_decide_eq_true hf'.out.symm
  clear hf'
  have hss : (bs s).size = s.length := rfl
  by_cases h2 : 2000 < s.length
  · have h2' : decide ((2000 : Int) < ((bs s).size : Int)) = true := decide_eq_true (by omega)
    go_wp2_with fail
    go_ret
    exact ⟨rfl, HB1.out⟩
  have h2' : decide ((2000 : Int) < ((bs s).size : Int)) = false := decide_eq_false (by omega)
  have h3 : s.length ≤ 2000 := by omega
  clear h2 hss
  have hel := encL_le l
  go_wp2_with fail
  refine (Decode_c s w1 (by omega)).mono ?_
  rintro e w2 ⟨v2, rfl, hv2, b2⟩
  have HB2 := Lib.hid (chain HB1.out b2)
  have HV2 := Lib.hid hv2
  clear b2 hv2
  go_wp2_with fail
  refine (DecodeR_c s w2 (by omega)).mono ?_
  rintro e w3 ⟨v3, rfl, hv3, b3⟩
  have HB3 := Lib.hid (chain HB2.out b3)
  have HV2' := Lib.hid (HV2.out.keep b3.block)
  have HV3 := Lib.hid hv3
  clear b3 hv3 HV2
  go_wp2_with fail
  refine (Right_c va l w3 (HA.out.keep HB3.out.block) hl).mono ?_
  rintro e w4 ⟨rfl, b4⟩
  have HB4 := Lib.hid (chain HB3.out b4)
  have HV2'' := Lib.hid (HV2'.out.keep b4.block)
  have HV3' := Lib.hid (HV3.out.keep b4.block)
  clear b4 HV2' HV3
  go_wp2_with fail
  refine (RightR_c va l w4 (HA.out.keep HB4.out.block)).mono ?_
  rintro e w5 ⟨rfl, hw5⟩
  obtain rfl := hw5.symm
  have hrr : (Po.rightB l == Po.rightB l) = true := by simp
  generalize Po.rightB l = R at hrr
  go_wp2_with fail
  refine (Encode_c va l w4 (HA.out.keep HB4.out.block) hl (by omega)).mono ?_
  rintro e w5 ⟨rfl, b5⟩
  have HB5 := Lib.hid (chain HB4.out b5)
  have HV2 := Lib.hid (HV2''.out.keep b5.block)
  have HV3 := Lib.hid (HV3'.out.keep b5.block)
  clear b5 HV2'' HV3'
  go_wp2_with fail
  refine (EncodeR_c va l w5 (HA.out.keep HB5.out.block) hl (by omega)).mono ?_
  rintro e w6 ⟨rfl, b6⟩
  have HB6 := Lib.hid (chain HB5.out b6)
  have HV2' := Lib.hid (HV2.out.keep b6.block)
  have HV3' := Lib.hid (HV3.out.keep b6.block)
  clear b6 HV2 HV3
  generalize bs (encL l) = E
  go_wp2_with fail
  refine (same_t v2 v3 (decL s) w6 HV2'.out HV3'.out).mono ?_
  rintro e w7 ⟨rfl, b7⟩
  have HB7 := Lib.hid (chain HB6.out b7)
  clear b7
  generalize decOk s = K
  have hkk : (K == K) = true := by simp
  go_wp2_with fail
  go_ret
  exact ⟨rfl, HB7.out⟩
end Go.Proofs.Ytijbkflbklbemaa
