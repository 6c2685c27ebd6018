/- List and Nums of the program's reader. -/
import Derived.Test.YtijbkflbklbemaaRead4
import Derived.Maps.AppendAt
namespace Go.Proofs.Ytijbkflbklbemaa
open Go.RowKit

theorem infoStr : (Try.prog.info? 9).map (fun i => (i.zero, i.size, i.bytes)) = some (some (.string ⟨#[]⟩), 1, 16) := by kernel_rfl
theorem infoInt : (Try.prog.info? 3).map (fun i => (i.zero, i.size, i.bytes)) = some (some (.int .i64 0), 1, 8) := by kernel_rfl

def sv (l : List UInt8) : Value := .string (bs l)
def nv (n : Nat) : Value := .int .i64 (n : Int)
theorem own_ne {w : World} {base b : Nat} {e : TypeId} {size n : Nat} {v : Value} {xs : List Value} (h : w.ownsRow base e size v n xs) (hb : b < base) : v.ownBlock = none ∨ v.ownBlock ≠ some b := by
  right
  intro e
  have := (h.lt b e).1
  omega
/-- what a loop over 'many' holds between two rounds -/
def Mid {α : Type} (f : Vi.St → α × Vi.St) (n : Nat) (st : Vi.St) (k : Nat) (acc : List α) (stk : Vi.St) : Prop :=
  Vi.many f n st = (acc ++ (Vi.many f (n - k) stk).1, (Vi.many f (n - k) stk).2)
theorem Mid.start {α : Type} (f : Vi.St → α × Vi.St) (n : Nat) (st : Vi.St) : Mid f n st 0 [] st := by unfold Mid; simp
theorem Mid.step {α : Type} {f : Vi.St → α × Vi.St} {n : Nat} {st : Vi.St} {k : Nat} {acc : List α} {stk : Vi.St} (h : Mid f n st k acc stk) (hk : k < n) (hb : stk.2 = false) : Mid f n st (k + 1) (acc ++ [(f stk).1]) (f stk).2 := by
  unfold Mid at h ⊢
  rw [h]
  obtain ⟨m, hm⟩ : ∃ m, n - k = m + 1 := ⟨n - k - 1, by omega⟩
  rw [hm, show n - (k + 1) = m from by omega]
  simp only [Vi.many]
  rw [if_neg (by simp [hb])]
  simp
theorem Mid.stop {α : Type} {f : Vi.St → α × Vi.St} {n : Nat} {st : Vi.St} {k : Nat} {acc : List α} {stk : Vi.St} (h : Mid f n st k acc stk) (hk : n ≤ k ∨ stk.2 = true) : Vi.many f n st = (acc, stk) := by
  unfold Mid at h
  rw [h]
  rcases hk with hk | hk
  · rw [show n - k = 0 from by omega]; simp [Vi.many]
  · rw [Vi.many_bad _ _ hk]; simp
theorem rText_fit' (st : Vi.St) (_h : Vi.Fit st) : Vi.Fit (Vi.rText st).2 := Vi.rText_fit
theorem rNum_fit' (st : Vi.St) (h : Vi.Fit st) : Vi.Fit (Vi.rNum st).2 := Vi.rNum_fit h
theorem fit_true {st : Vi.St} (h : Vi.Fit st) (hb : st.2 = true) : st = ([], true) := Prod.ext (h hb) hb

end Go.Proofs.Ytijbkflbklbemaa
