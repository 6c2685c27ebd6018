/- Walks: rotations of 32-bit words, the word of four bytes. -/
import Derived.Test.YtjijmgmobdoliaaCrc
namespace Go.Proofs.Ytjijmgmobdoliaa
open Go.RowKit

namespace Sm
def M : Nat := 4294967296
def rot (r x : Nat) : Nat := ((x * 2 ^ (32 - r)) % 4294967296) ||| (x / 2 ^ r)
theorem or_lt {a b : Nat} (ha : a < 4294967296) (hb : b < 4294967296) : a ||| b < 4294967296 := Nat.or_lt_two_pow (n := 32) ha hb
theorem rot_lt {r x : Nat} (h : x < 4294967296) : rot r x < 4294967296 := or_lt (Nat.mod_lt _ (by decide)) (Nat.lt_of_le_of_lt (Nat.div_le_self _ _) h)
end Sm
theorem bits_or_u32 (a b : Nat) (ha : a < 4294967296) (hb : b < 4294967296) : bits .or .u32 (a : Int) (b : Int) = ((a ||| b : Nat) : Int) :=
  (bits_nat .u32 32 (by decide) (fun n h0 h1 => by rw [IntKind.wrap_u32]; omega) a b (by omega) (by omega)).2
theorem bits_and_u32 (a b : Nat) (ha : a < 4294967296) (hb : b < 4294967296) : bits .and .u32 (a : Int) (b : Int) = ((a &&& b : Nat) : Int) :=
  (bits_nat .u32 32 (by decide) (fun n h0 h1 => by rw [IntKind.wrap_u32]; omega) a b (by omega) (by omega)).1
theorem rot_bits (r x : Nat) (hx : x < 4294967296) : bits .or .u32 ((x : Int) * 2 ^ (32 - r) % 4294967296) ((x : Int) / 2 ^ r) = (Sm.rot r x : Nat) := by
  have h := bits_or_u32 ((x * 2 ^ (32 - r)) % 4294967296) (x / 2 ^ r) (Nat.mod_lt _ (by decide)) (Nat.lt_of_le_of_lt (Nat.div_le_self _ _) hx)
  unfold Sm.rot
  rw [← h]
  simp

theorem rot2_c (x : Nat) (w : World) (hx : x < 4294967296) :
    Calls Try.prog 33 #[.int .u32 x, .int .i64 (-2)] w fun e w' => e = .returned (.int .u32 (Sm.rot 2 x : Nat)) ∧ w' = w := by
  have h := rot_bits 2 x hx
  simp only [Nat.reduceSub, Int.reducePow] at h
  have h2 : bits .and .u64 18446744073709551614 31 = 30 := by decide +kernel
  have h3 : IntKind.u64.wrap (-2) = 18446744073709551614 := by decide +kernel
  go_enter Try.func33, Try.ntmps33
  go_wp2_with fail
  go_ret
  rw [← h]
  exact ⟨rfl, rfl⟩
theorem rot6_c (x : Nat) (w : World) (hx : x < 4294967296) :
    Calls Try.prog 33 #[.int .u32 x, .int .i64 (-6)] w fun e w' => e = .returned (.int .u32 (Sm.rot 6 x : Nat)) ∧ w' = w := by
  have h := rot_bits 6 x hx
  simp only [Nat.reduceSub, Int.reducePow] at h
  have h2 : bits .and .u64 18446744073709551610 31 = 26 := by decide +kernel
  have h3 : IntKind.u64.wrap (-6) = 18446744073709551610 := by decide +kernel
  go_enter Try.func33, Try.ntmps33
  go_wp2_with fail
  go_ret
  rw [← h]
  exact ⟨rfl, rfl⟩
theorem rot7_c (x : Nat) (w : World) (hx : x < 4294967296) :
    Calls Try.prog 33 #[.int .u32 x, .int .i64 (-7)] w fun e w' => e = .returned (.int .u32 (Sm.rot 7 x : Nat)) ∧ w' = w := by
  have h := rot_bits 7 x hx
  simp only [Nat.reduceSub, Int.reducePow] at h
  have h2 : bits .and .u64 18446744073709551609 31 = 25 := by decide +kernel
  have h3 : IntKind.u64.wrap (-7) = 18446744073709551609 := by decide +kernel
  go_enter Try.func33, Try.ntmps33
  go_wp2_with fail
  go_ret
  rw [← h]
  exact ⟨rfl, rfl⟩
theorem rot11_c (x : Nat) (w : World) (hx : x < 4294967296) :
    Calls Try.prog 33 #[.int .u32 x, .int .i64 (-11)] w fun e w' => e = .returned (.int .u32 (Sm.rot 11 x : Nat)) ∧ w' = w := by
  have h := rot_bits 11 x hx
  simp only [Nat.reduceSub, Int.reducePow] at h
  have h2 : bits .and .u64 18446744073709551605 31 = 21 := by decide +kernel
  have h3 : IntKind.u64.wrap (-11) = 18446744073709551605 := by decide +kernel
  go_enter Try.func33, Try.ntmps33
  go_wp2_with fail
  go_ret
  rw [← h]
  exact ⟨rfl, rfl⟩
theorem rot13_c (x : Nat) (w : World) (hx : x < 4294967296) :
    Calls Try.prog 33 #[.int .u32 x, .int .i64 (-13)] w fun e w' => e = .returned (.int .u32 (Sm.rot 13 x : Nat)) ∧ w' = w := by
  have h := rot_bits 13 x hx
  simp only [Nat.reduceSub, Int.reducePow] at h
  have h2 : bits .and .u64 18446744073709551603 31 = 19 := by decide +kernel
  have h3 : IntKind.u64.wrap (-13) = 18446744073709551603 := by decide +kernel
  go_enter Try.func33, Try.ntmps33
  go_wp2_with fail
  go_ret
  rw [← h]
  exact ⟨rfl, rfl⟩
theorem rot17_c (x : Nat) (w : World) (hx : x < 4294967296) :
    Calls Try.prog 33 #[.int .u32 x, .int .i64 (-17)] w fun e w' => e = .returned (.int .u32 (Sm.rot 17 x : Nat)) ∧ w' = w := by
  have h := rot_bits 17 x hx
  simp only [Nat.reduceSub, Int.reducePow] at h
  have h2 : bits .and .u64 18446744073709551599 31 = 15 := by decide +kernel
  have h3 : IntKind.u64.wrap (-17) = 18446744073709551599 := by decide +kernel
  go_enter Try.func33, Try.ntmps33
  go_wp2_with fail
  go_ret
  rw [← h]
  exact ⟨rfl, rfl⟩
theorem rot18_c (x : Nat) (w : World) (hx : x < 4294967296) :
    Calls Try.prog 33 #[.int .u32 x, .int .i64 (-18)] w fun e w' => e = .returned (.int .u32 (Sm.rot 18 x : Nat)) ∧ w' = w := by
  have h := rot_bits 18 x hx
  simp only [Nat.reduceSub, Int.reducePow] at h
  have h2 : bits .and .u64 18446744073709551598 31 = 14 := by decide +kernel
  have h3 : IntKind.u64.wrap (-18) = 18446744073709551598 := by decide +kernel
  go_enter Try.func33, Try.ntmps33
  go_wp2_with fail
  go_ret
  rw [← h]
  exact ⟨rfl, rfl⟩
theorem rot19_c (x : Nat) (w : World) (hx : x < 4294967296) :
    Calls Try.prog 33 #[.int .u32 x, .int .i64 (-19)] w fun e w' => e = .returned (.int .u32 (Sm.rot 19 x : Nat)) ∧ w' = w := by
  have h := rot_bits 19 x hx
  simp only [Nat.reduceSub, Int.reducePow] at h
  have h2 : bits .and .u64 18446744073709551597 31 = 13 := by decide +kernel
  have h3 : IntKind.u64.wrap (-19) = 18446744073709551597 := by decide +kernel
  go_enter Try.func33, Try.ntmps33
  go_wp2_with fail
  go_ret
  rw [← h]
  exact ⟨rfl, rfl⟩
theorem rot22_c (x : Nat) (w : World) (hx : x < 4294967296) :
    Calls Try.prog 33 #[.int .u32 x, .int .i64 (-22)] w fun e w' => e = .returned (.int .u32 (Sm.rot 22 x : Nat)) ∧ w' = w := by
  have h := rot_bits 22 x hx
  simp only [Nat.reduceSub, Int.reducePow] at h
  have h2 : bits .and .u64 18446744073709551594 31 = 10 := by decide +kernel
  have h3 : IntKind.u64.wrap (-22) = 18446744073709551594 := by decide +kernel
  go_enter Try.func33, Try.ntmps33
  go_wp2_with fail
  go_ret
  rw [← h]
  exact ⟨rfl, rfl⟩
theorem rot25_c (x : Nat) (w : World) (hx : x < 4294967296) :
    Calls Try.prog 33 #[.int .u32 x, .int .i64 (-25)] w fun e w' => e = .returned (.int .u32 (Sm.rot 25 x : Nat)) ∧ w' = w := by
  have h := rot_bits 25 x hx
  simp only [Nat.reduceSub, Int.reducePow] at h
  have h2 : bits .and .u64 18446744073709551591 31 = 7 := by decide +kernel
  have h3 : IntKind.u64.wrap (-25) = 18446744073709551591 := by decide +kernel
  go_enter Try.func33, Try.ntmps33
  go_wp2_with fail
  go_ret
  rw [← h]
  exact ⟨rfl, rfl⟩
end Go.Proofs.Ytjijmgmobdoliaa
