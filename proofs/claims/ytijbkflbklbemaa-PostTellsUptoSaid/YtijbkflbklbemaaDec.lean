/- Decode: what it computes, and what holds between its steps. -/
import Derived.Test.YtijbkflbklbemaaEncP
namespace Go.Proofs.Ytijbkflbklbemaa
open Go.RowKit

def stp (n m : Int) : Int := if m > 1099511627776 then 1099511627777 else min (n + m) 1099511627777
theorem stp_rng {n m : Int} (h0 : 0 ≤ n) (g0 : 0 ≤ m) : 0 ≤ stp n m ∧ stp n m ≤ 1099511627777 := by
  unfold stp
  split <;> omega
def decI : Nat → Int → Vi.St → List Int × Vi.St
  | 0, _, st => ([], st)
  | k + 1, a, st => if st.1 = [] then ([], st) else
    ((stp a (Vi.rNum st).1) :: (decI k (stp a (Vi.rNum st).1) (Vi.rNum st).2).1, (decI k (stp a (Vi.rNum st).1) (Vi.rNum st).2).2)
def decB : Nat → Int → Vi.St → List Po.P × Vi.St
  | 0, _, st => ([], st)
  | k + 1, d, st => if st.1 = [] then ([], st) else
    let q := decI (Vi.rNum (Vi.rNum st).2).1 0 (Vi.rNum (Vi.rNum st).2).2
    let r := decB k (stp d (Vi.rNum st).1) q.2
    (⟨stp d (Vi.rNum st).1, q.1⟩ :: r.1, r.2)
def decP (s : List UInt8) : List Po.P × Vi.St := decB (Vi.rNum (s, false)).1 0 (Vi.rNum (s, false)).2
def decOk (s : List UInt8) : Bool := isDone (decP s).2 && decide (encL (decP s).1 = s)
def decL (s : List UInt8) : List Po.P := if decOk s then (decP s).1 else []

theorem rNum_shorter {st : Vi.St} (h : st.1 ≠ []) : (Vi.rNum st).2.1.length + 1 ≤ st.1.length := by
  have h0 : 0 < st.1.length := List.length_pos_iff.2 h
  unfold Vi.rNum
  split
  · rename_i n r he
    have := Vi.dec_length he
    exact this
  · exact h0
theorem encI_le : ∀ (a : Int) (l : List Int), (encI a l).length ≤ 9 * l.length
  | _, [] => by simp [encI]
  | a, n :: r => by
    have := encI_le n r
    have := Vi.eNum_le (n - a)
    simp only [encI, List.length_append, List.length_cons]
    omega
theorem encB_le : ∀ (d : Int) (l : List Po.P), (encB d l).length ≤ 18 * cnt l
  | _, [] => by simp [encB]
  | d, p :: r => by
    have := encB_le p.doc r
    have := Vi.eNum_le (p.doc - d)
    have := (Vi.vi_len p.places.length).2
    have := encI_le 0 p.places
    have hc : cnt (p :: r) = (1 + p.places.length) + cnt r := by simp [cnt]
    simp only [encB, List.length_append]
    omega
theorem encL_le (l : List Po.P) : (encL l).length ≤ 9 + 18 * cnt l := by
  unfold encL
  split
  · have := encB_le 0 l
    have := (Vi.vi_len l.length).2
    simp only [List.length_append]
    omega
  · simp
theorem cnt_snoc (l : List Po.P) (p : Po.P) : cnt (l ++ [p]) = cnt l + (1 + p.places.length) := by simp [cnt]
theorem cnt_len (l : List Po.P) : l.length ≤ cnt l := by
  induction l with
  | nil => simp
  | cons p r ih => simp [cnt] at ih ⊢; omega

theorem grown_new {a w : World} {r : Option Nat} (h : a.grownBy w r) {p : Addr} (hp : a.heap.size ≤ p.block) (u : Value) : a.grownBy (w.setCell p u) r :=
  ⟨h.os, h.tape, h.output, by simpa [World.setCell] using h.size, fun k hk hne => (Below.heap_setCell w _ u k (by omega)).trans (h.block k hk hne)⟩
/-- the inner loop: T is the posting, b the reader -/
structure InI (w4 : World) (b T : Nat) (d : Int) (wq : World) (st : Vi.St) (A : Option Addr) (k c : Nat) (zs : List Int) : Prop where
  rd : Rd 76 wq b st
  grown : w4.grownBy wq (some b)
  hT : T = w4.heap.size
  hb : b < T
  blk : wq.heap[T]? = some (.cells #[.int .i64 d, .slice A k c] 40 (0, 0))
  own : wq.ownsRow (T + 1) 3 1 (.slice A k c) zs.length (zs.map iv)
theorem InI.start {w4 : World} {b : Nat} {d : Int} {st : Vi.St} (h : Rd 76 w4 b st) : InI w4 b w4.heap.size d (w4.alloc (.cells #[.int .i64 d, .slice none 0 0] 40)) st none 0 0 [] :=
  ⟨h.of_block (Below.heap_alloc _ _ _ h.lt), grown_alloc (grown_refl _ _) _, rfl, h.lt, heap_alloc_new _ _, World.ownsRow_nil _ _ _ _⟩
theorem InI.num {w4 wq w5 : World} {b T : Nat} {d : Int} {st st' : Vi.St} {A : Option Addr} {k c : Nat} {zs : List Int} (h : InI w4 b T d wq st A k c zs) (rd5 : Rd 76 w5 b st') (g : wq.grownBy w5 (some b)) : InI w4 b T d w5 st' A k c zs :=
  ⟨rd5, grown_trans h.grown g, h.hT, h.hb, (g.block T (blk_lt h.blk) (by have := h.hb; simp; omega)).trans h.blk, h.own.kept g (own_ne h.own (by have := h.hb; omega))⟩
theorem InI.two {w4 w5 w6 : World} {b T : Nat} {d : Int} {st : Vi.St} {A : Option Addr} {k c : Nat} {zs : List Int} {o : Obj} (h : InI w4 b T d w5 st A k c zs) (g : (w5.alloc o).grownBy w6 (Value.slice A k c).ownBlock) :
    w6.heap[T]? = some (.cells #[.int .i64 d, .slice A k c] 40 (0, 0)) := by
  have hlt := blk_lt h.blk
  exact (g.block T (by simp; omega) (fun e => by have := (h.own.lt T e.symm).1; omega)).trans ((Below.heap_alloc w5 o T hlt).trans h.blk)
theorem InI.push {w4 w5 w6 : World} {b T : Nat} {d z : Int} {st : Vi.St} {A A2 : Option Addr} {k c k2 c2 : Nat} {zs : List Int} {o : Obj} (h : InI w4 b T d w5 st A k c zs) (g : (w5.alloc o).grownBy w6 (Value.slice A k c).ownBlock)
    (own : w6.ownsRow (T + 1) 3 1 (.slice A2 k2 c2) (zs.length + 1) (zs.map iv ++ [iv z])) : InI w4 b T d (w6.setCell ⟨T, 1, none⟩ (.slice A2 k2 c2)) st A2 k2 c2 (zs ++ [z]) := by
  have hlt := blk_lt h.blk
  have hle : ∀ x, (Value.slice A k c).ownBlock = some x → T + 1 ≤ x := fun x e => (h.own.lt x e).1
  have hbT := h.hb
  have hTw := h.hT
  refine ⟨?_, ?_, h.hT, h.hb, ?_, ?_⟩
  · exact h.rd.of_block ((Below.heap_setCell w6 _ _ b (by simp; omega)).trans ((g.block b (by simp; omega) (fun e => by have := hle b e.symm; omega)).trans (Below.heap_alloc w5 o b (by omega))))
  · exact grown_new (grown_own (grown_alloc h.grown o) g (fun x e => by have := hle x e; omega)) (by simp; omega) _
  · rw [heap_setCell_same _ _ _ _ _ _ (h.two g)]
    rfl
  · have := own.kept (grown_set (grown_refl w6 (some T)) 1 (.slice A2 k2 c2)) (own_ne own (by omega))
    simpa using this
/-- the outer loop -/
structure OutD (w0 : World) (b C : Nat) (w : World) (st : Vi.St) (v : Value) (vs : List PP) : Prop where
  rd : Rd 76 w b st
  row : Rw w C v vs
  below : Below w0.heap.size w0 w
  lo : w0.heap.size ≤ b
  hb : b < C
  hC : C ≤ w.heap.size
theorem OutD.grow {w0 w w5 : World} {b C : Nat} {st st' : Vi.St} {v : Value} {vs : List PP} (h : OutD w0 b C w st v vs) (rd5 : Rd 76 w5 b st') (g : w.grownBy w5 (some b)) : OutD w0 b C w5 st' v vs :=
  ⟨rd5, h.row.kept g (by rintro x e; cases e; exact h.hb), chain_grown h.below g h.lo, h.lo, h.hb, Nat.le_trans h.hC g.size⟩
theorem OutD.push {w0 u u3 : World} {b C : Nat} {st : Vi.St} {v v' : Value} {vs : List PP} {p : Po.P} {s : Value} {o : Obj} (h : OutD w0 b C u st v vs) (hp : PV u C (p, s))
    (own : u3.ownsRow C 40 2 v' (vs.length + 1) (vs.flatMap pc ++ [.int .i64 p.doc, s])) (g : (u.alloc o).grownBy u3 v.ownBlock) : OutD w0 b C u3 st v' (vs ++ [(p, s)]) := by
  have hle : ∀ x, v.ownBlock = some x → C ≤ x := fun x e => (h.row.own.lt x e).1
  have hbC := h.hb
  have hC := h.hC
  have hr2 : Rw (u.alloc o) C v vs := h.row.below ((Below.refl _ _).alloc (Nat.le_refl _) _)
  have hp2 : PV (u.alloc o) C (p, s) := World.ownsRow.kept hp (grown_below ((Below.refl _ u).alloc (Nat.le_refl _) o)) (by cases h : Value.ownBlock s <;> simp)
  have hk : ∀ q ∈ vs ++ [(p, s)], PV u3 C q := by
    intro q hq
    have hq2 : PV (u.alloc o) C q := by
      rcases List.mem_append.1 hq with hq | hq
      · exact hr2.each q hq
      · obtain rfl := List.mem_singleton.1 hq
        exact hp2
    exact World.ownsRow.kept hq2 g (own_types hq2 hr2.own (by decide))
  refine ⟨?_, ⟨by simpa [pc] using own, hk⟩, ?_, h.lo, h.hb, ?_⟩
  · exact h.rd.of_block ((g.block b (by simp; omega) (fun e => by have := hle b e.symm; omega)).trans (Below.heap_alloc u o b (by omega)))
  · exact (h.below.alloc h.below.size o).grown g (by have := h.below.size; simp; omega) (fun x e => by have := hle x e; have := h.lo; omega)
  · have := g.size; simp at this; omega
end Go.Proofs.Ytijbkflbklbemaa
