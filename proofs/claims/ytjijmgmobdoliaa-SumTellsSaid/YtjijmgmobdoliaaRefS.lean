/- The reference's SHA-256, in plain numbers: its choice and majority are the program's. -/
import Derived.Test.YtjijmgmobdoliaaShaL
namespace Go.Proofs.Ytjijmgmobdoliaa

namespace Sm
theorem choice_eq {e f g : Nat} (he : e < 4294967296) (hf : f < 4294967296) (hg : g < 4294967296) : (e &&& f) ^^^ ((4294967295 ^^^ e) &&& g) = g ^^^ (e &&& (f ^^^ g)) := by
  apply Nat.eq_of_testBit_eq
  intro i
  have hm : (4294967295 : Nat).testBit i = decide (i < 32) := by
    have := Nat.testBit_two_pow_sub_one (n := 32) (i := i)
    simpa using this
  by_cases hi : i < 32
  · simp only [Nat.testBit_xor, Nat.testBit_and, hm, decide_eq_true hi]
    cases e.testBit i <;> cases f.testBit i <;> cases g.testBit i <;> rfl
  · have h0 : ∀ x, x < 4294967296 → x.testBit i = false := fun x hx => Nat.testBit_lt_two_pow (Nat.lt_of_lt_of_le hx (Nat.pow_le_pow_right (n := 2) (i := 32) (by decide) (by omega)))
    simp only [Nat.testBit_xor, Nat.testBit_and, h0 e he, h0 f hf, h0 g hg]
    simp
theorem most_eq (a b c : Nat) : ((a &&& b) ^^^ (a &&& c)) ^^^ (b &&& c) = (a &&& b) ||| (c &&& (a ||| b)) := by
  apply Nat.eq_of_testBit_eq
  intro i
  simp only [Nat.testBit_xor, Nat.testBit_and, Nat.testBit_or]
  cases a.testBit i <;> cases b.testBit i <;> cases c.testBit i <;> rfl
end Sm
end Go.Proofs.Ytjijmgmobdoliaa
