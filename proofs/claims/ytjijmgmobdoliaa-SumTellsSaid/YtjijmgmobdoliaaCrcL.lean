/- Checksums, in plain numbers: what the program computes bit by bit, and that it loses nothing. -/
import Derived.Test.YtjijmgmobdoliaaRead0
import Derived.Laws.BitsLemmas
namespace Go.Proofs.Ytjijmgmobdoliaa
open Go.RowKit

namespace Sm
def poly : Nat := 2197175160
def T (c : Nat) : Nat := if c % 2 = 1 then (c / 2) ^^^ poly else c / 2
def many : Nat → Nat → Nat
  | 0, c => c
  | k + 1, c => many k (T c)
def byte (c b : Nat) : Nat := many 8 (c ^^^ b)
def run (c : Nat) (l : List UInt8) : Nat := l.foldl (fun c b => byte c b.toNat) c
def crc (l : List UInt8) : Nat := run 4294967295 l ^^^ 4294967295

theorem xor_lt {a b : Nat} (ha : a < 4294967296) (hb : b < 4294967296) : a ^^^ b < 4294967296 := Nat.xor_lt_two_pow (n := 32) ha hb
theorem T_lt {c : Nat} (h : c < 4294967296) : T c < 4294967296 := by
  unfold T
  split
  · exact xor_lt (by omega) (by decide)
  · omega
theorem many_lt : ∀ (k : Nat) {c : Nat}, c < 4294967296 → many k c < 4294967296
  | 0, _, h => h
  | k + 1, _, h => many_lt k (T_lt h)
theorem byte_lt {c b : Nat} (h : c < 4294967296) (hb : b < 256) : byte c b < 4294967296 := many_lt 8 (xor_lt h (by omega))
theorem run_lt : ∀ (l : List UInt8) {c : Nat}, c < 4294967296 → run c l < 4294967296
  | [], _, h => h
  | b :: l, c, h => run_lt l (c := byte c b.toNat) (byte_lt h b.toNat_lt)
theorem crc_lt (l : List UInt8) : crc l < 4294967296 := xor_lt (run_lt l (by decide)) (by decide)
theorem run_append (c : Nat) (a b : List UInt8) : run c (a ++ b) = run (run c a) b := List.foldl_append ..

theorem top_T {c : Nat} (h : c < 4294967296) : (T c).testBit 31 = decide (c % 2 = 1) := by
  unfold T
  have h2 : (c / 2).testBit 31 = false := Nat.testBit_lt_two_pow (by omega)
  split
  · rename_i hc
    rw [Nat.testBit_xor, h2, hc]
    decide
  · rename_i hc
    rw [h2]
    simp [hc]
theorem xor_cancel {a b p : Nat} (h : a ^^^ p = b ^^^ p) : a = b := by
  have := congrArg (· ^^^ p) h
  simpa [Nat.xor_assoc, Nat.xor_self, Nat.xor_zero] using this
theorem T_inj {c d : Nat} (hc : c < 4294967296) (hd : d < 4294967296) (h : T c = T d) : c = d := by
  have hb : decide (c % 2 = 1) = decide (d % 2 = 1) := by rw [← top_T hc, ← top_T hd, h]
  by_cases h1 : c % 2 = 1
  · have h2 : d % 2 = 1 := by simpa [h1] using hb
    unfold T at h
    rw [if_pos h1, if_pos h2] at h
    have := xor_cancel h
    omega
  · have h2 : ¬ d % 2 = 1 := by simpa [h1] using hb
    unfold T at h
    rw [if_neg h1, if_neg h2] at h
    omega
theorem many_inj : ∀ (k : Nat) {c d : Nat}, c < 4294967296 → d < 4294967296 → many k c = many k d → c = d
  | 0, _, _, _, _, h => h
  | k + 1, _, _, hc, hd, h => T_inj hc hd (many_inj k (T_lt hc) (T_lt hd) h)
theorem byte_inj {c d b : Nat} (hc : c < 4294967296) (hd : d < 4294967296) (hb : b < 256) (h : byte c b = byte d b) : c = d :=
  xor_cancel (many_inj 8 (xor_lt hc (by omega)) (xor_lt hd (by omega)) h)
theorem run_inj : ∀ (l : List UInt8) {c d : Nat}, c < 4294967296 → d < 4294967296 → run c l = run d l → c = d
  | [], _, _, _, _, h => h
  | b :: l, c, d, hc, hd, h => byte_inj hc hd b.toNat_lt (run_inj l (c := byte c b.toNat) (d := byte d b.toNat) (byte_lt hc b.toNat_lt) (byte_lt hd b.toNat_lt) h)
/-- the law of SumGoes -/
theorem goes (a b t : List UInt8) : crc a = crc b ↔ crc (a ++ t) = crc (b ++ t) := by
  unfold crc
  rw [run_append, run_append]
  constructor
  · intro h
    rw [xor_cancel h]
  · intro h
    rw [run_inj t (run_lt a (by decide)) (run_lt b (by decide)) (xor_cancel h)]
theorem many_succ' : ∀ (k c : Nat), many (k + 1) c = T (many k c)
  | 0, _ => rfl
  | k + 1, c => many_succ' k (T c)
end Sm
theorem bits_xor_u32 (a b : Nat) (ha : a < 4294967296) (hb : b < 4294967296) : bits .xor .u32 (a : Int) (b : Int) = ((a ^^^ b : Nat) : Int) := by
  have hx : a ^^^ b < 2 ^ 32 := Nat.xor_lt_two_pow (by omega) (by omega)
  have h1 : (BitVec.ofInt 32 (a : Int)).toNat = a := by
    rw [BitVec.ofInt_natCast, BitVec.toNat_ofNat]; exact Nat.mod_eq_of_lt (by omega)
  have h2 : (BitVec.ofInt 32 (b : Int)).toNat = b := by
    rw [BitVec.ofInt_natCast, BitVec.toNat_ofNat]; exact Nat.mod_eq_of_lt (by omega)
  show IntKind.u32.wrap ((BitVec.ofInt 32 (a : Int) ^^^ BitVec.ofInt 32 (b : Int)).toNat : Int) = _
  rw [BitVec.toNat_xor, h1, h2, IntKind.wrap_u32]
  omega
theorem bits_and1_u32 (a : Nat) (ha : a < 4294967296) : bits .and .u32 (a : Int) 1 = ((a % 2 : Nat) : Int) := by
  have h1 : (BitVec.ofInt 32 (a : Int)).toNat = a := by
    rw [BitVec.ofInt_natCast, BitVec.toNat_ofNat]; exact Nat.mod_eq_of_lt (by omega)
  show IntKind.u32.wrap ((BitVec.ofInt 32 (a : Int) &&& BitVec.ofInt 32 1).toNat : Int) = _
  rw [BitVec.toNat_and, h1, show (BitVec.ofInt 32 1).toNat = 1 from rfl, Nat.and_one_is_mod, IntKind.wrap_u32]
  omega
end Go.Proofs.Ytjijmgmobdoliaa
