/- Walk: the word of four bytes. -/
import Derived.Test.YtjijmgmobdoliaaRot
import Derived.Deep.QuietTactic
import Derived.BigQuiet
namespace Go.Proofs.Ytjijmgmobdoliaa
open Go.RowKit

namespace Sm
def be (a b c d : Nat) : Nat := ((a * 16777216 ||| b * 65536) ||| c * 256) ||| d
theorem be_lt {a b c d : Nat} (ha : a < 256) (hb : b < 256) (hc : c < 256) (hd : d < 256) : be a b c d < 4294967296 :=
  or_lt (or_lt (or_lt (by omega) (by omega)) (by omega)) (by omega)
end Sm
theorem binary_c (B o n c : Nat) (x0 x1 x2 x3 : Nat) (w : World) (hn : 4 ≤ n) (h0 : x0 < 256) (h1 : x1 < 256) (h2 : x2 < 256) (h3 : x3 < 256)
    (c0 : w.cell? ⟨B, o, none⟩ = some (.int .u8 x0)) (c1 : w.cell? ⟨B, o + 1, none⟩ = some (.int .u8 x1)) (c2 : w.cell? ⟨B, o + 2, none⟩ = some (.int .u8 x2)) (c3 : w.cell? ⟨B, o + 3, none⟩ = some (.int .u8 x3)) :
    Calls Try.prog 40 #[.slice (some ⟨B, o, none⟩) n c] w fun e w' => e = .returned (.int .u32 (Sm.be x0 x1 x2 x3 : Nat)) ∧ ∃ q, w' = w.drewN q := by
  have e1 := bits_or_u32 (x0 * 16777216) (x1 * 65536) (by omega) (by omega)
  have e2 := bits_or_u32 (x0 * 16777216 ||| x1 * 65536) (x2 * 256) (Sm.or_lt (by omega) (by omega)) (by omega)
  have e3 := bits_or_u32 ((x0 * 16777216 ||| x1 * 65536) ||| x2 * 256) x3 (Sm.or_lt (Sm.or_lt (by omega) (by omega)) (by omega)) (by omega)
  rw [Int.natCast_mul, Int.natCast_mul] at e1
  rw [Int.natCast_mul] at e2
  have e4 : bits .or .u32 (bits .or .u32 (bits .or .u32 ((x0 : Int) * 16777216) ((x1 : Int) * 65536)) ((x2 : Int) * 256)) (x3 : Int) = (Sm.be x0 x1 x2 x3 : Nat) := by
    rw [show ((x0 : Int) * 16777216) = ((x0 : Int) * ((16777216 : Nat) : Int)) from rfl, show ((x1 : Int) * 65536) = ((x1 : Int) * ((65536 : Nat) : Int)) from rfl, show ((x2 : Int) * 256) = ((x2 : Int) * ((256 : Nat) : Int)) from rfl, e1, e2, e3]
    rfl
  have E4 := Lib.hid e4
  clear e1 e2 e3 e4
  have n0 : (0 : Int) < (n : Int) := by omega
  have n1 : (1 : Int) < (n : Int) := by omega
  have n2 : (2 : Int) < (n : Int) := by omega
  have n3 : (3 : Int) < (n : Int) := by omega
  go_enter Try.func40, Try.ntmps40
  go_wp2_with fail
  go_quiet (fail)
  all_goals go_wp2_with fail
  go_ret
  rw [E4.out]
  exact ⟨rfl, _, rfl⟩
end Go.Proofs.Ytjijmgmobdoliaa
