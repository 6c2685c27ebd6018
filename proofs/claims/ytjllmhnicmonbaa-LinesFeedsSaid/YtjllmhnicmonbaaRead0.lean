/- A reader in memory: the block that holds its two fields; what a call that writes that block alone leaves. -/
import Derived.Test.YtjllmhnicmonbaaVi
import Derived.WalkKit
import Derived.Lib.Hide
import Derived.Deep.QuietTactic
import Derived.BigQuiet
import Derived.Lib.Builder
namespace Go.Proofs.Ytjllmhnicmonbaa
open Go.RowKit

/-- block b holds a reader (type T) in state st -/
def Rd (T : TypeId) (w : World) (b : Nat) (st : Vi.St) : Prop := ∃ s : ByteArray, s.data.toList = st.1 ∧ w.heap[b]? = some (.cells #[.string s, .bool st.2] T (0, 0))

theorem blk_set {w : World} {b : Nat} {t : TypeId} {cs : Array Value} (h : w.heap[b]? = some (.cells cs t (0, 0))) (i : Nat) (u : Value) : (w.setCell ⟨b, i, none⟩ u).heap[b]? = some (.cells (cs.setIfInBounds i u) t (0, 0)) := by
  simp [World.setCell, Array.getElem?_modify, h]
theorem blk_lt {w : World} {b : Nat} {o : Obj} (h : w.heap[b]? = some o) : b < w.heap.size := (Array.getElem?_eq_some_iff.1 h).1
theorem grown_set {a w : World} {b : Nat} (h : a.grownBy w (some b)) (i : Nat) (u : Value) : a.grownBy (w.setCell ⟨b, i, none⟩ u) (some b) :=
  ⟨h.os, h.tape, h.output, by simpa [World.setCell] using h.size, fun k hk hne => (Below.heap_setCell w _ u k (fun e => hne (by rw [e]))).trans (h.block k hk hne)⟩
theorem grown_refl (w : World) (r : Option Nat) : w.grownBy w r := ⟨rfl, rfl, rfl, Nat.le_refl _, fun _ _ _ => rfl⟩
theorem grown_trans {a w w' : World} {r : Option Nat} (h : a.grownBy w r) (k : w.grownBy w' r) : a.grownBy w' r :=
  ⟨k.os.trans h.os, k.tape.trans h.tape, k.output.trans h.output, Nat.le_trans h.size k.size, fun i hi hne => (k.block i (Nat.lt_of_lt_of_le hi h.size) hne).trans (h.block i hi hne)⟩
theorem grown_drew {a w : World} {r : Option Nat} (h : a.grownBy w r) : a.grownBy w.drew r := ⟨h.os, h.tape, h.output, h.size, h.block⟩
theorem grown_drewN {a w : World} {r : Option Nat} (h : a.grownBy w r) (n : Nat) : a.grownBy (w.drewN n) r := ⟨h.os, h.tape, h.output, h.size, h.block⟩
theorem grown_alloc {a w : World} {r : Option Nat} (h : a.grownBy w r) (o : Obj) : a.grownBy (w.alloc o) r :=
  ⟨h.os, h.tape, h.output, Nat.le_trans h.size (by simp), fun i hi hne => (Below.heap_alloc w o i (Nat.lt_of_lt_of_le hi h.size)).trans (h.block i hi hne)⟩
theorem grown_of_below {a w w' : World} {r : Option Nat} (h : a.grownBy w r) (k : Below w.heap.size w w') : a.grownBy w' r :=
  ⟨k.os.trans h.os, k.tape.trans h.tape, k.output.trans h.output, Nat.le_trans h.size k.size, fun i hi hne => (k.block i (Nat.lt_of_lt_of_le hi h.size)).trans (h.block i hi hne)⟩
theorem grown_own {a w w' : World} {r row : Option Nat} (h : a.grownBy w r) (k : w.grownBy w' row) (hr : ∀ g, row = some g → a.heap.size ≤ g) : a.grownBy w' r :=
  ⟨k.os.trans h.os, k.tape.trans h.tape, k.output.trans h.output, Nat.le_trans h.size k.size,
    fun i hi hne => (k.block i (Nat.lt_of_lt_of_le hi h.size) (fun e => by have := hr i e.symm; omega)).trans (h.block i hi hne)⟩
theorem below_of_grown {a w w' : World} {B b : Nat} (h : Below B a w) (k : w.grownBy w' (some b)) (hB : B ≤ w.heap.size) (hb : B ≤ b) : Below B a w' :=
  h.grown k hB (fun g e => by injection e with e; omega)

theorem chain {a w w' : World} (h : Below a.heap.size a w) (k : Below w.heap.size w w') : Below a.heap.size a w' := h.trans (k.mono h.size)
theorem chain_alloc {a w w' : World} {o : Obj} (h : Below a.heap.size a w) (k : Below (w.alloc o).heap.size (w.alloc o) w') : Below a.heap.size a w' :=
  (h.alloc h.size o).trans (k.mono (Nat.le_trans h.size (by simp)))
theorem chain_grown {a w w' : World} {b : Nat} (h : Below a.heap.size a w) (k : w.grownBy w' (some b)) (hb : a.heap.size ≤ b) : Below a.heap.size a w' := below_of_grown h k h.size hb

/-- the string of a list of bytes -/
def bs (l : List UInt8) : ByteArray := ⟨l.toArray⟩
theorem bs_data (l : List UInt8) : (bs l).data.toList = l := rfl
theorem bs_size (l : List UInt8) : (bs l).size = l.length := rfl
theorem bs_of {t : ByteArray} {l : List UInt8} (h : t.data.toList = l) : t = bs l := by
  obtain ⟨⟨x⟩⟩ := t
  subst h
  rfl
theorem bs_inj {a b : List UInt8} (h : bs a = bs b) : a = b := by rw [← bs_data a, h, bs_data]

section
variable {T : TypeId} {w : World} {b : Nat} {st : Vi.St}
theorem Rd.lt (h : Rd T w b st) : b < w.heap.size := by
  obtain ⟨s, _, hb⟩ := h
  exact blk_lt hb
theorem Rd.of_block {w' : World} (h : Rd T w b st) (hk : w'.heap[b]? = w.heap[b]?) : Rd T w' b st := by
  obtain ⟨s, hs, hb⟩ := h
  exact ⟨s, hs, hk.trans hb⟩
theorem Rd.below {w' : World} {B : Nat} (h : Rd T w b st) (hk : Below B w w') (hb : b < B) : Rd T w' b st := h.of_block (hk.block b hb)
theorem Rd.grown {w' : World} {r : Option Nat} (h : Rd T w b st) (hk : w.grownBy w' r) (hb : some b ≠ r) : Rd T w' b st := h.of_block (hk.block b h.lt hb)
end
end Go.Proofs.Ytjllmhnicmonbaa
