/- The reference's Decode: what holds between its steps. -/
import Derived.Test.YtijbkflbklbemaaBackL
import Derived.Test.YtijbkflbklbemaaRefE
namespace Go.Proofs.Ytijbkflbklbemaa
open Go.RowKit
theorem dec_high {s : List UInt8} {p : Po.P} (hp : p ∈ (decP s).1) (h : Po.most < p.doc ∨ ∃ n ∈ p.places, Po.most < n) : decOk s = false := by
  cases hk : decOk s with
  | false => rfl
  | true =>
    exfalso
    have hl : decL s = (decP s).1 := by unfold decL; rw [if_pos hk]
    have hr := (dec_right hk).1
    rw [hl] at hr
    have ok := (Po.right_iff _).1 hr
    rcases h with h | ⟨n, hn, h⟩
    · have := (ok.rng p hp).2; omega
    · have := ((ok.pl p hp).rng n hn).2; omega
theorem stp_low {n m : Int} (h : m ≤ 1099511627776 - n) (h0 : 0 ≤ n) : stp n m = n + m := by
  unfold stp
  rw [if_neg (by omega)]
  omega
theorem stp_high {n m : Int} (h : 1099511627776 - n < m) (_ : 0 ≤ n) : stp n m = 1099511627777 := by
  unfold stp
  split
  · rfl
  · omega
namespace R
/-- the inner loop: T is the posting, b the reader -/
structure InI (w4 : World) (b T : Nat) (d : Int) (wq : World) (st : Vi.St) (A : Option Addr) (k c : Nat) (zs : List Int) : Prop where
  rd : Rd 78 wq b st
  grown : w4.grownBy wq (some b)
  hT : T = w4.heap.size
  hb : b < T
  blk : wq.heap[T]? = some (.cells #[.int .i64 d, .slice A k c] 40 (0, 0))
  own : wq.ownsRow (T + 1) 3 1 (.slice A k c) zs.length (zs.map iv)
theorem InI.start {w4 : World} {b : Nat} {d : Int} {st : Vi.St} (h : Rd 78 w4 b st) : InI w4 b w4.heap.size d (w4.alloc (.cells #[.int .i64 d, .slice none 0 0] 40)) st none 0 0 [] :=
  ⟨h.of_block (Below.heap_alloc _ _ _ h.lt), grown_alloc (grown_refl _ _) _, rfl, h.lt, heap_alloc_new _ _, World.ownsRow_nil _ _ _ _⟩
theorem InI.num {w4 wq w5 : World} {b T : Nat} {d : Int} {st st' : Vi.St} {A : Option Addr} {k c : Nat} {zs : List Int} (h : InI w4 b T d wq st A k c zs) (rd5 : Rd 78 w5 b st') (g : wq.grownBy w5 (some b)) : InI w4 b T d w5 st' A k c zs :=
  ⟨rd5, grown_trans h.grown g, h.hT, h.hb, (g.block T (blk_lt h.blk) (by have := h.hb; simp; omega)).trans h.blk, h.own.kept g (own_ne h.own (by have := h.hb; omega))⟩
theorem InI.two {w4 w5 w6 : World} {b T : Nat} {d : Int} {st : Vi.St} {A : Option Addr} {k c : Nat} {zs : List Int} {o : Obj} (h : InI w4 b T d w5 st A k c zs) (g : (w5.alloc o).grownBy w6 (Value.slice A k c).ownBlock) :
    w6.heap[T]? = some (.cells #[.int .i64 d, .slice A k c] 40 (0, 0)) := by
  have hlt := blk_lt h.blk
  exact (g.block T (by simp; omega) (fun e => by have := (h.own.lt T e.symm).1; omega)).trans ((Below.heap_alloc w5 o T hlt).trans h.blk)
theorem InI.push {w4 w5 w6 : World} {b T : Nat} {d z : Int} {st : Vi.St} {A A2 : Option Addr} {k c k2 c2 : Nat} {zs : List Int} {o : Obj} (h : InI w4 b T d w5 st A k c zs) (g : (w5.alloc o).grownBy w6 (Value.slice A k c).ownBlock)
    (own : w6.ownsRow (T + 1) 3 1 (.slice A2 k2 c2) (zs.length + 1) (zs.map iv ++ [iv z])) : InI w4 b T d (w6.setCell ⟨T, 1, none⟩ (.slice A2 k2 c2)) st A2 k2 c2 (zs ++ [z]) := by
  have hlt := blk_lt h.blk
  have hle : ∀ x, (Value.slice A k c).ownBlock = some x → T + 1 ≤ x := fun x e => (h.own.lt x e).1
  have hbT := h.hb
  have hTw := h.hT
  refine ⟨?_, ?_, h.hT, h.hb, ?_, ?_⟩
  · exact h.rd.of_block ((Below.heap_setCell w6 _ _ b (by simp; omega)).trans ((g.block b (by simp; omega) (fun e => by have := hle b e.symm; omega)).trans (Below.heap_alloc w5 o b (by omega))))
  · exact grown_new (grown_own (grown_alloc h.grown o) g (fun x e => by have := hle x e; omega)) (by simp; omega) _
  · rw [heap_setCell_same _ _ _ _ _ _ (h.two g)]
    rfl
  · have := own.kept (grown_set (grown_refl w6 (some T)) 1 (.slice A2 k2 c2)) (own_ne own (by omega))
    simpa using this
/-- the outer loop -/
structure OutD (w0 : World) (b C : Nat) (w : World) (st : Vi.St) (v : Value) (vs : List PP) : Prop where
  rd : Rd 78 w b st
  row : Rw w C v vs
  below : Below w0.heap.size w0 w
  lo : w0.heap.size ≤ b
  hb : b < C
  hC : C ≤ w.heap.size
theorem OutD.grow {w0 w w5 : World} {b C : Nat} {st st' : Vi.St} {v : Value} {vs : List PP} (h : OutD w0 b C w st v vs) (rd5 : Rd 78 w5 b st') (g : w.grownBy w5 (some b)) : OutD w0 b C w5 st' v vs :=
  ⟨rd5, h.row.kept g (by rintro x e; cases e; exact h.hb), chain_grown h.below g h.lo, h.lo, h.hb, Nat.le_trans h.hC g.size⟩
theorem OutD.push {w0 u u3 : World} {b C : Nat} {st : Vi.St} {v v' : Value} {vs : List PP} {p : Po.P} {s : Value} {o : Obj} (h : OutD w0 b C u st v vs) (hp : PV u C (p, s))
    (own : u3.ownsRow C 40 2 v' (vs.length + 1) (vs.flatMap pc ++ [.int .i64 p.doc, s])) (g : (u.alloc o).grownBy u3 v.ownBlock) : OutD w0 b C u3 st v' (vs ++ [(p, s)]) := by
  have hle : ∀ x, v.ownBlock = some x → C ≤ x := fun x e => (h.row.own.lt x e).1
  have hbC := h.hb
  have hC := h.hC
  have hr2 : Rw (u.alloc o) C v vs := h.row.below ((Below.refl _ _).alloc (Nat.le_refl _) _)
  have hp2 : PV (u.alloc o) C (p, s) := World.ownsRow.kept hp (grown_below ((Below.refl _ u).alloc (Nat.le_refl _) o)) (by cases h : Value.ownBlock s <;> simp)
  have hk : ∀ q ∈ vs ++ [(p, s)], PV u3 C q := by
    intro q hq
    have hq2 : PV (u.alloc o) C q := by
      rcases List.mem_append.1 hq with hq | hq
      · exact hr2.each q hq
      · obtain rfl := List.mem_singleton.1 hq
        exact hp2
    exact World.ownsRow.kept hq2 g (own_types hq2 hr2.own (by decide))
  refine ⟨?_, ⟨by simpa [pc] using own, hk⟩, ?_, h.lo, h.hb, ?_⟩
  · exact h.rd.of_block ((g.block b (by simp; omega) (fun e => by have := hle b e.symm; omega)).trans (Below.heap_alloc u o b (by omega)))
  · exact (h.below.alloc h.below.size o).grown g (by have := h.below.size; simp; omega) (fun x e => by have := hle x e; have := h.lo; omega)
  · have := g.size; simp at this; omega
end R
end Go.Proofs.Ytijbkflbklbemaa
