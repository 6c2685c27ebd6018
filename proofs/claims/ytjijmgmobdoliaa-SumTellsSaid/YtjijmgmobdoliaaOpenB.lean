/- Slices of integers, of strings as arguments over this translation. -/
import Derived.Test.YtjijmgmobdoliaaProg
import Derived.Test.YtjijmgmobdoliaaOpen
import Derived.Test.YtjijmgmobdoliaaRead0
namespace Go.Proofs.Ytjijmgmobdoliaa
open Go.RowKit Go.WideShapes

theorem reach_le : reachBytes ≤ 140737488355328 := by decide
theorem wf_bd {n : Int} (h : (Lit.int .i64 n).wf = true) : -9223372036854775808 ≤ n ∧ n ≤ 9223372036854775807 := by
  simp only [Lit.wf, Bool.and_eq_true, decide_eq_true_eq] at h
  exact h

section
variable {H : Type} {enc : TypeId × Value → H} {w : World} {base : Nat} {spare : Nat → Bool} {held : Bool}
theorem cells_one {v : Value} {u : Value} (hne : ∀ l, v ≠ .agg l) (h : v.cells.toList = [u]) : v = u := by
  cases v <;> simp_all [Value.cells]
end
end Go.Proofs.Ytjijmgmobdoliaa
