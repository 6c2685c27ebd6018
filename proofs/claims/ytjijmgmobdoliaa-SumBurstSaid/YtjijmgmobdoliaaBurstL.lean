/- Checksums, in plain numbers: a burst of at most 32 bits is seen. -/
import Derived.Test.YtjijmgmobdoliaaCrcL
namespace Go.Proofs.Ytjijmgmobdoliaa

namespace Sm
theorem T_xor (a b : Nat) : T (a ^^^ b) = T a ^^^ T b := by
  have hd : (a ^^^ b) / 2 = a / 2 ^^^ b / 2 := by
    have := @Nat.xor_div_two_pow a b 1
    simpa using this
  have hm : (a ^^^ b) % 2 = (a % 2) ^^^ (b % 2) := by
    have := @Nat.xor_mod_two_pow a b 1
    simpa using this
  unfold T
  rcases Nat.mod_two_eq_zero_or_one a with ha | ha <;> rcases Nat.mod_two_eq_zero_or_one b with hb | hb <;> rw [hm, ha, hb, hd]
  · rfl
  · show (a / 2 ^^^ b / 2) ^^^ poly = a / 2 ^^^ (b / 2 ^^^ poly)
    rw [Nat.xor_assoc]
  · show (a / 2 ^^^ b / 2) ^^^ poly = (a / 2 ^^^ poly) ^^^ b / 2
    rw [Nat.xor_assoc, Nat.xor_assoc, Nat.xor_comm (b / 2)]
  · show a / 2 ^^^ b / 2 = (a / 2 ^^^ poly) ^^^ (b / 2 ^^^ poly)
    rw [Nat.xor_assoc, Nat.xor_comm poly, Nat.xor_assoc, Nat.xor_self, Nat.xor_zero]
theorem many_xor : ∀ (k a b : Nat), many k (a ^^^ b) = many k a ^^^ many k b
  | 0, _, _ => rfl
  | k + 1, a, b => by rw [many, many, many, T_xor, many_xor k]
theorem T_two (a : Nat) : T (2 * a) = a := by
  unfold T
  rw [if_neg (by omega)]
  omega
theorem many_pow : ∀ (k a : Nat), many k (2 ^ k * a) = a
  | 0, a => by simp [many]
  | k + 1, a => by
    rw [many, show 2 ^ (k + 1) * a = 2 * (2 ^ k * a) from by rw [Nat.pow_succ, Nat.mul_comm (2 ^ k) 2, Nat.mul_assoc], T_two, many_pow k]
theorem many_add : ∀ (k m a : Nat), many (k + m) a = many m (many k a)
  | 0, m, a => by rw [Nat.zero_add]; rfl
  | k + 1, m, a => by rw [show k + 1 + m = (k + m) + 1 from by omega, many, many, many_add k]
theorem many_zero : ∀ k : Nat, many k 0 = 0
  | 0 => rfl
  | k + 1 => by rw [many]; exact many_zero k
/-- the number of bytes, the first the least -/
def le : List Nat → Nat
  | [] => 0
  | b :: l => b ^^^ (2 ^ 8 * le l)
def runN (c : Nat) (l : List Nat) : Nat := l.foldl byte c
theorem runN_le : ∀ (l : List Nat) (c : Nat), runN c l = many (8 * l.length) (c ^^^ le l)
  | [], c => by show c = c ^^^ 0; rw [Nat.xor_zero]
  | b :: l, c => by
    have h := runN_le l (byte c b)
    show runN (byte c b) l = _
    rw [h, List.length_cons, show 8 * (l.length + 1) = 8 + 8 * l.length from by omega, many_add 8, le, ← Nat.xor_assoc, many_xor 8, many_pow 8]
    rfl
theorem run_runN (c : Nat) (l : List UInt8) : run c l = runN c (l.map UInt8.toNat) := by
  unfold run runN
  rw [List.foldl_map]
/-- five bytes, changed by the bytes of x -/
theorem le_five (a0 a1 a2 a3 a4 x : Nat) (hx : x < 1099511627776) :
    le [a0 ^^^ x % 256, a1 ^^^ x / 256 % 256, a2 ^^^ x / 65536 % 256, a3 ^^^ x / 16777216 % 256, a4 ^^^ x / 4294967296 % 256] = le [a0, a1, a2, a3, a4] ^^^ x := by
  have key : ∀ b A y : Nat, (b ^^^ y % 256) ^^^ (2 ^ 8 * (A ^^^ y / 256)) = (b ^^^ 2 ^ 8 * A) ^^^ y := by
    intro b A y
    apply Nat.eq_of_testBit_eq
    intro i
    rw [Nat.testBit_xor, Nat.testBit_xor, Nat.testBit_xor, Nat.testBit_xor, Nat.testBit_two_pow_mul, Nat.testBit_two_pow_mul, show (256 : Nat) = 2 ^ 8 from rfl, Nat.testBit_mod_two_pow, Nat.testBit_xor, Nat.testBit_div_two_pow]
    by_cases hi : i < 8
    · have h2 : ¬ i ≥ 8 := by omega
      simp [hi, h2]
    · have h2 : i ≥ 8 := by omega
      rw [show i - 8 + 8 = i from by omega]
      simp [hi, h2]
  have e1 : x / 65536 = x / 256 / 256 := by rw [Nat.div_div_eq_div_mul]
  have e2 : x / 16777216 = x / 256 / 256 / 256 := by rw [Nat.div_div_eq_div_mul, Nat.div_div_eq_div_mul]
  have e3 : x / 4294967296 = x / 256 / 256 / 256 / 256 := by rw [Nat.div_div_eq_div_mul, Nat.div_div_eq_div_mul, Nat.div_div_eq_div_mul]
  have e4 : x / 256 / 256 / 256 / 256 / 256 = 0 := by omega
  rw [e1, e2, e3]
  simp only [le]
  have k5 := key a4 0 (x / 256 / 256 / 256 / 256)
  rw [e4, Nat.xor_zero] at k5
  rw [k5, key, key, key, key]
theorem lin {k c M x : Nat} (h : many k (c ^^^ M) = many k (c ^^^ (M ^^^ x))) : many k x = 0 := by
  rw [← Nat.xor_assoc, many_xor k (c ^^^ M)] at h
  have h2 := congrArg (many k (c ^^^ M) ^^^ ·) h
  rw [← Nat.xor_assoc, Nat.xor_self, Nat.zero_xor] at h2
  exact h2.symm
/-- the law of SumBurst -/
theorem burst (p q : List UInt8) (a0 a1 a2 a3 a4 b0 b1 b2 b3 b4 : UInt8) (v s : Nat) (hv : v < 4294967296) (h0 : v ≠ 0) (hs : s ≤ 7)
    (e0 : b0.toNat = a0.toNat ^^^ (v * 2 ^ s) % 256) (e1 : b1.toNat = a1.toNat ^^^ (v * 2 ^ s) / 256 % 256) (e2 : b2.toNat = a2.toNat ^^^ (v * 2 ^ s) / 65536 % 256)
    (e3 : b3.toNat = a3.toNat ^^^ (v * 2 ^ s) / 16777216 % 256) (e4 : b4.toNat = a4.toNat ^^^ (v * 2 ^ s) / 4294967296 % 256) :
    crc (p ++ [a0, a1, a2, a3, a4] ++ q) ≠ crc (p ++ [b0, b1, b2, b3, b4] ++ q) := by
  intro h
  unfold crc at h
  have h := xor_cancel h
  rw [run_append, run_append, run_append, run_append] at h
  have hp := run_lt p (c := 4294967295) (by decide)
  generalize run 4294967295 p = c at h hp
  have h := run_inj q (run_lt _ hp) (run_lt _ hp) h
  have hx : v * 2 ^ s < 1099511627776 := by
    have : 2 ^ s ≤ 2 ^ 7 := Nat.pow_le_pow_right (by decide) hs
    have := Nat.mul_le_mul_left v this
    omega
  rw [run_runN, run_runN, runN_le, runN_le] at h
  simp only [List.map_cons, List.map_nil] at h
  rw [e0, e1, e2, e3, e4, le_five _ _ _ _ _ _ hx] at h
  have hz : many 40 (v * 2 ^ s) = 0 := lin h
  rw [show 40 = s + (40 - s) from by omega, many_add, Nat.mul_comm, many_pow, ← many_zero (40 - s)] at hz
  exact h0 (many_inj _ hv (by decide) hz)
end Sm
end Go.Proofs.Ytjijmgmobdoliaa
