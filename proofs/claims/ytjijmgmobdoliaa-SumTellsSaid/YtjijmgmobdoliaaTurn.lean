/- Walks: the reference's rotations. -/
import Derived.Test.YtjijmgmobdoliaaRot
import Derived.Deep.QuietTactic
import Derived.BigQuiet
namespace Go.Proofs.Ytjijmgmobdoliaa
open Go.RowKit

theorem turn_bits (r x : Nat) (hx : x < 4294967296) : bits .or .u32 ((x : Int) / 2 ^ r) ((x : Int) * 2 ^ (32 - r) % 4294967296) = (Sm.rot r x : Nat) := by
  have h := bits_or_u32 (x / 2 ^ r) ((x * 2 ^ (32 - r)) % 4294967296) (Nat.lt_of_le_of_lt (Nat.div_le_self _ _) hx) (Nat.mod_lt _ (by decide))
  unfold Sm.rot
  rw [Nat.or_comm, ← h]
  simp
theorem turn2_c (x : Nat) (w : World) (hx : x < 4294967296) :
    Calls Try.prog 36 #[.int .u32 x, .int .i64 2] w fun e w' => e = .returned (.int .u32 (Sm.rot 2 x : Nat)) ∧ ∃ q, w' = w.drewN q := by
  have h := turn_bits 2 x hx
  simp only [Nat.reduceSub, Int.reducePow] at h
  have w1 : IntKind.u32.wrap ((x : Int) * 1073741824) = (x : Int) * 1073741824 % 4294967296 := by rw [IntKind.wrap_u32]
  go_enter Try.func36, Try.ntmps36
  go_wp2_with fail
  go_quiet (fail)
  go_wp2_with fail
  go_ret
  rw [← h]
  exact ⟨rfl, _, rfl⟩
theorem turn6_c (x : Nat) (w : World) (hx : x < 4294967296) :
    Calls Try.prog 36 #[.int .u32 x, .int .i64 6] w fun e w' => e = .returned (.int .u32 (Sm.rot 6 x : Nat)) ∧ ∃ q, w' = w.drewN q := by
  have h := turn_bits 6 x hx
  simp only [Nat.reduceSub, Int.reducePow] at h
  have w1 : IntKind.u32.wrap ((x : Int) * 67108864) = (x : Int) * 67108864 % 4294967296 := by rw [IntKind.wrap_u32]
  go_enter Try.func36, Try.ntmps36
  go_wp2_with fail
  go_quiet (fail)
  go_wp2_with fail
  go_ret
  rw [← h]
  exact ⟨rfl, _, rfl⟩
theorem turn7_c (x : Nat) (w : World) (hx : x < 4294967296) :
    Calls Try.prog 36 #[.int .u32 x, .int .i64 7] w fun e w' => e = .returned (.int .u32 (Sm.rot 7 x : Nat)) ∧ ∃ q, w' = w.drewN q := by
  have h := turn_bits 7 x hx
  simp only [Nat.reduceSub, Int.reducePow] at h
  have w1 : IntKind.u32.wrap ((x : Int) * 33554432) = (x : Int) * 33554432 % 4294967296 := by rw [IntKind.wrap_u32]
  go_enter Try.func36, Try.ntmps36
  go_wp2_with fail
  go_quiet (fail)
  go_wp2_with fail
  go_ret
  rw [← h]
  exact ⟨rfl, _, rfl⟩
theorem turn11_c (x : Nat) (w : World) (hx : x < 4294967296) :
    Calls Try.prog 36 #[.int .u32 x, .int .i64 11] w fun e w' => e = .returned (.int .u32 (Sm.rot 11 x : Nat)) ∧ ∃ q, w' = w.drewN q := by
  have h := turn_bits 11 x hx
  simp only [Nat.reduceSub, Int.reducePow] at h
  have w1 : IntKind.u32.wrap ((x : Int) * 2097152) = (x : Int) * 2097152 % 4294967296 := by rw [IntKind.wrap_u32]
  go_enter Try.func36, Try.ntmps36
  go_wp2_with fail
  go_quiet (fail)
  go_wp2_with fail
  go_ret
  rw [← h]
  exact ⟨rfl, _, rfl⟩
theorem turn13_c (x : Nat) (w : World) (hx : x < 4294967296) :
    Calls Try.prog 36 #[.int .u32 x, .int .i64 13] w fun e w' => e = .returned (.int .u32 (Sm.rot 13 x : Nat)) ∧ ∃ q, w' = w.drewN q := by
  have h := turn_bits 13 x hx
  simp only [Nat.reduceSub, Int.reducePow] at h
  have w1 : IntKind.u32.wrap ((x : Int) * 524288) = (x : Int) * 524288 % 4294967296 := by rw [IntKind.wrap_u32]
  go_enter Try.func36, Try.ntmps36
  go_wp2_with fail
  go_quiet (fail)
  go_wp2_with fail
  go_ret
  rw [← h]
  exact ⟨rfl, _, rfl⟩
theorem turn17_c (x : Nat) (w : World) (hx : x < 4294967296) :
    Calls Try.prog 36 #[.int .u32 x, .int .i64 17] w fun e w' => e = .returned (.int .u32 (Sm.rot 17 x : Nat)) ∧ ∃ q, w' = w.drewN q := by
  have h := turn_bits 17 x hx
  simp only [Nat.reduceSub, Int.reducePow] at h
  have w1 : IntKind.u32.wrap ((x : Int) * 32768) = (x : Int) * 32768 % 4294967296 := by rw [IntKind.wrap_u32]
  go_enter Try.func36, Try.ntmps36
  go_wp2_with fail
  go_quiet (fail)
  go_wp2_with fail
  go_ret
  rw [← h]
  exact ⟨rfl, _, rfl⟩
theorem turn18_c (x : Nat) (w : World) (hx : x < 4294967296) :
    Calls Try.prog 36 #[.int .u32 x, .int .i64 18] w fun e w' => e = .returned (.int .u32 (Sm.rot 18 x : Nat)) ∧ ∃ q, w' = w.drewN q := by
  have h := turn_bits 18 x hx
  simp only [Nat.reduceSub, Int.reducePow] at h
  have w1 : IntKind.u32.wrap ((x : Int) * 16384) = (x : Int) * 16384 % 4294967296 := by rw [IntKind.wrap_u32]
  go_enter Try.func36, Try.ntmps36
  go_wp2_with fail
  go_quiet (fail)
  go_wp2_with fail
  go_ret
  rw [← h]
  exact ⟨rfl, _, rfl⟩
theorem turn19_c (x : Nat) (w : World) (hx : x < 4294967296) :
    Calls Try.prog 36 #[.int .u32 x, .int .i64 19] w fun e w' => e = .returned (.int .u32 (Sm.rot 19 x : Nat)) ∧ ∃ q, w' = w.drewN q := by
  have h := turn_bits 19 x hx
  simp only [Nat.reduceSub, Int.reducePow] at h
  have w1 : IntKind.u32.wrap ((x : Int) * 8192) = (x : Int) * 8192 % 4294967296 := by rw [IntKind.wrap_u32]
  go_enter Try.func36, Try.ntmps36
  go_wp2_with fail
  go_quiet (fail)
  go_wp2_with fail
  go_ret
  rw [← h]
  exact ⟨rfl, _, rfl⟩
theorem turn22_c (x : Nat) (w : World) (hx : x < 4294967296) :
    Calls Try.prog 36 #[.int .u32 x, .int .i64 22] w fun e w' => e = .returned (.int .u32 (Sm.rot 22 x : Nat)) ∧ ∃ q, w' = w.drewN q := by
  have h := turn_bits 22 x hx
  simp only [Nat.reduceSub, Int.reducePow] at h
  have w1 : IntKind.u32.wrap ((x : Int) * 1024) = (x : Int) * 1024 % 4294967296 := by rw [IntKind.wrap_u32]
  go_enter Try.func36, Try.ntmps36
  go_wp2_with fail
  go_quiet (fail)
  go_wp2_with fail
  go_ret
  rw [← h]
  exact ⟨rfl, _, rfl⟩
theorem turn25_c (x : Nat) (w : World) (hx : x < 4294967296) :
    Calls Try.prog 36 #[.int .u32 x, .int .i64 25] w fun e w' => e = .returned (.int .u32 (Sm.rot 25 x : Nat)) ∧ ∃ q, w' = w.drewN q := by
  have h := turn_bits 25 x hx
  simp only [Nat.reduceSub, Int.reducePow] at h
  have w1 : IntKind.u32.wrap ((x : Int) * 128) = (x : Int) * 128 % 4294967296 := by rw [IntKind.wrap_u32]
  go_enter Try.func36, Try.ntmps36
  go_wp2_with fail
  go_quiet (fail)
  go_wp2_with fail
  go_ret
  rw [← h]
  exact ⟨rfl, _, rfl⟩
end Go.Proofs.Ytjijmgmobdoliaa
