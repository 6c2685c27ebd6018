/- SumOrder at every input. -/
import Derived.Test.YtjijmgmobdoliaaOrderW
namespace Go.Proofs.Ytjijmgmobdoliaa
open Go.RowKit

theorem sumOrder_w {x y z : Value} (hx : ∃ l : List Nat, l.length = 32 ∧ (∀ x ∈ l, x < 256) ∧ x = .agg (l.map yv).toArray) (hy : ∃ l : List Nat, l.length = 32 ∧ (∀ x ∈ l, x < 256) ∧ y = .agg (l.map yv).toArray)
    (hz : ∃ l : List Nat, l.length = 32 ∧ (∀ x ∈ l, x < 256) ∧ z = .agg (l.map yv).toArray) (s : ByteArray) (hs : s.data.toList.length ≤ 140737488355328) (w : World) :
    Calls Try.prog 6 #[x, y, z, .string s] w fun e w' => e = .returned (.bool true) ∧ Below w.heap.size w w' := by
  obtain ⟨a, la, ha, rfl⟩ := hx
  obtain ⟨b, lb, hb, rfl⟩ := hy
  obtain ⟨c, lc, hc, rfl⟩ := hz
  exact sumOrder_yes a b c la lb lc ha hb hc s hs w
end Go.Proofs.Ytjijmgmobdoliaa
