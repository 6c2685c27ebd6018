/- Num and Text of the program and of the reference: the bytes of a varint, of a string behind its length. -/
import Derived.Test.YtijbkflbklbemaaBuild
import Derived.Test.YtijbkflbklbemaaSame
import Derived.Maps.AppendAt
import Derived.Laws.IdiomStrings
import Derived.Lib.VarintMem
namespace Go.Proofs.Ytijbkflbklbemaa
open Go.RowKit

theorem bs_append (a b : List UInt8) : bs a ++ bs b = bs (a ++ b) := by
  unfold bs
  rw [ByteArray.mk_append_mk]
theorem bs_ofArr (l : List UInt8) : (⟨l.toArray⟩ : ByteArray) = bs l := rfl
theorem viF_small {f m : Nat} (h : m < 128) : Vi.viF f m = [UInt8.ofNat m] := by
  cases f with
  | zero => rfl
  | succ f => simp only [Vi.viF]; rw [if_pos h]
theorem viF_big {f m : Nat} (h : ¬ m < 128) (hm : m < 128 ^ (f + 1)) : ∃ g, f = g + 1 ∧ m / 128 < 128 ^ (g + 1) ∧ Vi.viF f m = UInt8.ofNat (m % 128 + 128) :: Vi.viF g (m / 128) := by
  cases f with
  | zero => exact absurd (by simpa using hm) h
  | succ g =>
    refine ⟨g, rfl, ?_, by simp only [Vi.viF]; rw [if_neg h]⟩
    rw [Nat.div_lt_iff_lt_mul (by decide)]
    rw [Nat.pow_succ] at hm
    exact hm
theorem cells_snoc (acc : List UInt8) (m : Nat) (h : m < 256) (c : Int) (hc : c = (m : Int)) : Lib.byteCells acc ++ [Value.int .u8 c] = Lib.byteCells (acc ++ [UInt8.ofNat m]) := by
  rw [Lib.byteCells_append, hc]
  simp [Lib.byteCells, Vi.ofNat_toNat h]
theorem vi_eq (n : Nat) : Vi.vi n = Vi.viF 8 n := rfl

set_option maxHeartbeats 4000000 in
set_option maxRecDepth 100000 in
theorem enc_c (n : Int) (w : World) (hlo : -9223372036854775808 ≤ n) (hhi : n ≤ 9223372036854775807) :
    Calls Try.prog 44 #[.int .i64 n] w fun e w' => e = .returned (.string (bs (Vi.eNum n))) ∧ Below w.heap.size w w' := by
  have hmf : ∀ (fn : Fn) (first cap : Array Value) (w : World), (Instr.makeFunc fn first cap).run Try.prog w = .ok (.func fn first cap) w := fun _ _ _ _ => rfl
  have hfr := Lib.IsBuilderF.of (Lib.fresh_isBuilder 58 5 w)
  by_cases hneg : n < 0
  · have he : Vi.eNum n = [] := by unfold Vi.eNum; rw [if_pos hneg]
    rw [he]
    clear he
    go_enter Try.func44, Try.ntmps44
    go_wp2
    go_loopw [0] (fun nv wr => nv = .int .i64 n ∧ wr = w.alloc (.cells #[.pointer none, .slice none 0 0] 58)) (fun _ _ => 0)
    case atStart => exact ⟨rfl, rfl⟩
    case round =>
      obtain ⟨rfl, rfl⟩ := hrel
      go_wp2_with fail
      refine (Try.Builder_String_any_k w.heap.size w.heap.size [] _ hfr (by simp)).mono ?_
      rintro e w1 ⟨rfl, _, hb1, _⟩
      go_wp2_with fail
      go_ret
      exact ⟨rfl, ((Below.refl _ w).alloc (Nat.le_refl _) _).trans hb1⟩
  · obtain ⟨m0, rfl⟩ := Int.eq_ofNat_of_zero_le (Int.not_lt.1 hneg)
    have he : Vi.eNum (m0 : Int) = Vi.viF 8 m0 := by unfold Vi.eNum; rw [if_neg hneg]; simp [Vi.vi]
    rw [he]
    clear he hneg
    have hm0 : m0 < 128 ^ (8 + 1) := by have : (128 : Nat) ^ (8 + 1) = 9223372036854775808 := by decide
                                        omega
    have HM0 := Lib.hid hm0; clear hm0
    go_enter Try.func44, Try.ntmps44
    go_wp2
    go_loopw [0] (fun nv wr => ∃ (m f : Nat) (acc : List UInt8), nv = .int .i64 m ∧ m ≤ m0 ∧ Lib.IsBuilderF 58 5 w.heap.size w.heap.size (Lib.byteCells acc) wr ∧ Below w.heap.size w wr ∧ Hid (acc ++ Vi.viF f m = Vi.viF 8 m0) ∧ Hid (m < 128 ^ (f + 1)) ∧ acc.length + f ≤ 8) (fun nv _ => (intOf nv).toNat)
    case atStart => exact ⟨m0, 8, [], rfl, Nat.le_refl _, hfr, (Below.refl _ w).alloc (Nat.le_refl _) _, rfl, HM0.out, by simp⟩
    case round =>
      obtain ⟨m, f, acc, rfl, hle, hI, hbw, hacc, hmf2, hlen⟩ := hrel
      have hwz := hbw.size
      by_cases hm : m < 128
      · have hm' : ¬ (128 : Int) ≤ (m : Int) := by omega
        have h0 : (0 : Int) ≤ (m : Int) := by omega
        go_wp2_with (go_at_call 58; refine (WriteByte_k w.heap.size w.heap.size _ _ _ hI (by rw [Lib.byteCells_length]; omega) hwz).mono ?_; rintro e w1 ⟨rfl, h1, b1, _⟩)
        rw [cells_snoc acc m (by omega) _ rfl] at h1
        refine (Try.Builder_String_any_k w.heap.size w.heap.size _ _ (.inr h1) (Nat.le_trans hwz b1.size)).mono ?_
        rintro e w2 ⟨rfl, _, b2, _⟩
        go_wp2_with fail
        go_ret
        refine ⟨?_, (hbw.trans b1).trans b2⟩
        rw [bs_ofArr, ← hacc.out, viF_small hm]
        rfl
      · have HV := Lib.hid (viF_big hm hmf2.out)
        have hr : m / 128 < m := Nat.div_lt_self (by omega) (by decide)
        have hr2 : m % 128 < 128 := Nat.mod_lt _ (by decide)
        go_wp2_with (go_at_call 58; refine (WriteByte_k w.heap.size w.heap.size _ _ _ hI (by rw [Lib.byteCells_length]; omega) hwz).mono ?_; rintro e w1 ⟨rfl, h1, b1, _⟩)
        go_roundw
        case rel =>
          obtain ⟨g, rfl, hg1, hg2⟩ := HV.out
          rw [cells_snoc acc (m % 128 + 128) (by omega) _ (by omega)] at h1
          refine ⟨m / 128, g, acc ++ [UInt8.ofNat (m % 128 + 128)], by go_num, by omega, .inr h1, hbw.trans b1, ?_, hg1, by simp; omega⟩
          show _ = _
          rw [← hacc.out, hg2]
          simp
        case measure => simp [intOf]; omega

theorem own_succ {w : World} {B : Nat} {e : TypeId} {v : Value} {n : Nat} {xs : List Value} (h : w.ownsRow B e 1 v (n + 1) xs) : ∃ g cap, v = .slice (some ⟨g, 0, none⟩) (n + 1) cap := by
  rcases h.2 with ⟨_, h0⟩ | ⟨g, cap, cur, hv, _⟩
  · omega
  · exact ⟨g, cap, hv⟩
theorem back_own {w : World} {B g cap n : Nat} {l : List UInt8} {xs : List Value} (h : w.ownsRow B 5 1 (.slice (some ⟨g, 0, none⟩) n cap) n xs) (hx : xs = Lib.byteCells l) :
    (convert 56 9 (.slice (some ⟨g, 0, none⟩) n cap)).run Try.prog w = .ok (.string (bs l)) w := by
  subst hx
  have hl : n = l.length := by have := h.1; simp [Lib.byteCells_length] at this; omega
  subst hl
  exact run_convert_bytes_back w 56 9 5 ⟨g, 0, none⟩ cap l Try.underlying56 Try.underlying5 Try.underlying9 (fun j hj => h.cells (g := g) rfl j _ (by simp [Lib.byteCells, hj]))

set_option maxHeartbeats 4000000 in
set_option maxRecDepth 100000 in
theorem encR_c (n : Int) (w : World) (hlo : -9223372036854775808 ≤ n) (hhi : n ≤ 9223372036854775807) :
    Calls Try.prog 46 #[.int .i64 n] w fun e w' => e = .returned (.string (bs (Vi.eNum n))) ∧ Below w.heap.size w w' := by
  obtain ⟨i0, hi, hz0, hz1, hz2⟩ := info_parts infoByte
  by_cases hneg : n < 0
  · have he : Vi.eNum n = [] := by unfold Vi.eNum; rw [if_pos hneg]
    rw [he]
    clear he
    go_enter Try.func46, Try.ntmps46
    go_wp2
    go_ret
    exact ⟨rfl, Below.refl _ _⟩
  · obtain ⟨m0, rfl⟩ := Int.eq_ofNat_of_zero_le (Int.not_lt.1 hneg)
    have he : Vi.eNum (m0 : Int) = Vi.viF 8 m0 := by unfold Vi.eNum; rw [if_neg hneg]; simp [Vi.vi]
    rw [he]
    clear he hneg
    have hm0 : m0 < 128 ^ (8 + 1) := by have : (128 : Nat) ^ (8 + 1) = 9223372036854775808 := by decide
                                        omega
    have HM0 := Lib.hid hm0; clear hm0
    go_enter Try.func46, Try.ntmps46
    go_wp2
    go_loopw [0, 3] (fun nv v wr => ∃ (m f : Nat) (acc : List UInt8), nv = .int .i64 m ∧ m ≤ m0 ∧ wr.ownsRow w.heap.size 5 1 v acc.length (Lib.byteCells acc) ∧ Below w.heap.size w wr ∧ Hid (acc ++ Vi.viF f m = Vi.viF 8 m0) ∧ Hid (m < 128 ^ (f + 1)) ∧ acc.length + f ≤ 8) (fun nv _ _ => (intOf nv).toNat)
    case atStart => exact ⟨m0, 8, [], rfl, Nat.le_refl _, World.ownsRow_nil _ _ _ _, Below.refl _ w, rfl, HM0.out, by simp⟩
    case round =>
      obtain ⟨m, f, acc, rfl, hle, hown, hbw, hacc, hmf2, hlen⟩ := hrel
      have hwz := hbw.size
      by_cases hm : m < 128
      · have hm' : ¬ (128 : Int) ≤ (m : Int) := by omega
        have h0 : (0 : Int) ≤ (m : Int) := by omega
        have HS := Lib.hid (cells_snoc acc m (by omega) _ rfl)
        go_wp2_with (at_builtin; refine wpList_append_own _ rfl _ _ 56 rfl w.heap.size 5 i0 _ 1 1 Try.underlying56 hi hz0 hz1 hz2 rfl (by decide) _ _ _ rfl (hown.alloc _) ⟨wr.heap.size, 0, none⟩ 1 1 [.int .u8 (m : Int)] rfl rfl (cell_one_new _ _ _) (by simp [Value.oneCell']) (by unfold maxLen; omega) (by omega) (by simp; omega) ?_; intro v' w3 hown3 hg3 _; obtain ⟨g', cap', rfl⟩ := own_succ hown3; have hcv := back_own hown3 HS.out)
        go_ret
        refine ⟨?_, (hbw.alloc hwz _).grown hg3 (by simp; omega) (fun k hk => ((hown.alloc (.cells #[.int .u8 (m : Int)] 5)).lt k hk).1)⟩
        rw [← hacc.out, viF_small hm]
        rfl
      · have HV := Lib.hid (viF_big hm hmf2.out)
        have hr : m / 128 < m := Nat.div_lt_self (by omega) (by decide)
        have hr2 : m % 128 < 128 := Nat.mod_lt _ (by decide)
        go_wp2_with (at_builtin; refine wpList_append_own _ rfl _ _ 56 rfl w.heap.size 5 i0 _ 1 1 Try.underlying56 hi hz0 hz1 hz2 rfl (by decide) _ _ _ rfl (hown.alloc _) ⟨wr.heap.size, 0, none⟩ 1 1 [.int .u8 ((m : Int) % 128 + 128)] rfl rfl (cell_one_new _ _ _) (by simp [Value.oneCell']) (by unfold maxLen; omega) (by omega) (by simp; omega) ?_; intro v' w3 hown3 hg3 _)
        go_roundw
        case rel =>
          obtain ⟨g, rfl, hg1, hg2⟩ := HV.out
          rw [cells_snoc acc (m % 128 + 128) (by omega) _ (by omega)] at hown3
          refine ⟨m / 128, g, acc ++ [UInt8.ofNat (m % 128 + 128)], by go_num, by omega, by simpa using hown3, (hbw.alloc hwz _).grown hg3 (by simp; omega) (fun k hk => ((hown.alloc (.cells #[.int .u8 ((m : Int) % 128 + 128)] 5)).lt k hk).1), ?_, hg1, by simp; omega⟩
          show _ = _
          rw [← hacc.out, hg2]
          simp
        case measure => simp [intOf]; omega

end Go.Proofs.Ytijbkflbklbemaa
