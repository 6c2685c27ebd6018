/- Rows of postings that a call owns; what holds between two calls of see. -/
import Derived.Test.YtijbkflbklbemaaBothP
namespace Go.Proofs.Ytijbkflbklbemaa
open Go.RowKit

abbrev PP := Po.P × Value
def pc (q : PP) : List Value := [.int .i64 q.1.doc, q.2]
def PV (w : World) (C : Nat) (q : PP) : Prop := w.ownsRow C 3 1 q.2 q.1.places.length (q.1.places.map iv)
theorem own_types {w : World} {b b' : Nat} {e e' : TypeId} {s s' n n' : Nat} {v v' : Value} {xs xs' : List Value} (h : w.ownsRow b e s v n xs) (h' : w.ownsRow b' e' s' v' n' xs') (hne : e ≠ e') : v.ownBlock = none ∨ v.ownBlock ≠ v'.ownBlock := by
  rcases h.2 with ⟨rfl, _⟩ | ⟨g, cap, cur, rfl, _, hg, _⟩
  · exact .inl rfl
  · right
    rcases h'.2 with ⟨rfl, _⟩ | ⟨g', cap', cur', rfl, _, hg', _⟩
    · simp [Value.ownBlock]
    · simp only [Value.ownBlock, ne_eq, Option.some.injEq]
      rintro rfl
      rw [hg] at hg'
      injection hg' with hg'
      injection hg' with _ h _
      exact hne h
theorem pc_at {vs : List PP} : ∀ {i : Nat} {p : PP}, vs[i]? = some p → ∀ j, j < 2 → (vs.flatMap pc)[i * 2 + j]? = (pc p)[j]? := by
  induction vs with
  | nil => intro i p h; simp at h
  | cons x vs ih =>
    intro i p h j hj
    have hx : (pc x).length = 2 := rfl
    cases i with
    | zero =>
      simp at h
      subst h
      rw [List.flatMap_cons, Nat.zero_mul, Nat.zero_add, List.getElem?_append_left (by omega)]
    | succ i =>
      rw [List.flatMap_cons, List.getElem?_append_right (by omega), hx, show (i + 1) * 2 + j - 2 = i * 2 + j from by omega]
      exact ih (by simpa using h) j hj
structure Rw (w : World) (C : Nat) (v : Value) (vs : List PP) : Prop where
  own : w.ownsRow C 40 2 v vs.length (vs.flatMap pc)
  each : ∀ q ∈ vs, PV w C q
theorem Rw.kept {w w' : World} {C : Nat} {v : Value} {vs : List PP} {r : Option Nat} (h : Rw w C v vs) (hg : w.grownBy w' r) (hr : ∀ b, r = some b → b < C) : Rw w' C v vs := by
  have hne : ∀ {e s v' n xs}, w.ownsRow C e s v' n xs → v'.ownBlock = none ∨ v'.ownBlock ≠ r := fun {e s v' n xs} ho => by
    cases r with
    | none => cases hb : v'.ownBlock <;> simp
    | some b => exact own_ne ho (hr b rfl)
  exact ⟨h.own.kept hg (hne h.own), fun q hq => (h.each q hq).kept hg (hne (h.each q hq))⟩
theorem grown_below {w w' : World} (hb : Below w.heap.size w w') : w.grownBy w' none := ⟨hb.os, hb.tape, hb.output, hb.size, fun k hk _ => hb.block k hk⟩
theorem Rw.below {w w' : World} {C : Nat} {v : Value} {vs : List PP} (h : Rw w C v vs) (hb : Below w.heap.size w w') : Rw w' C v vs := h.kept (grown_below hb) (by simp)
theorem Rw.seqP {w : World} {C : Nat} {v : Value} {vs : List PP} (h : Rw w C v vs) : SeqP w v (vs.map (·.1)) := by
  have ho := h.own
  rcases ho.2 with ⟨rfl, h0⟩ | ⟨g, cap, cur, rfl, hb, hg, hn, hm, hs, ht⟩
  · exact ⟨none, 0, by simp [h0], by simp [h0], by decide, .inl (by simp [List.eq_nil_of_length_eq_zero h0])⟩
  · refine ⟨some ⟨g, 0, none⟩, cap, by simp, by simpa using hn, hm, .inr ⟨g, 0, rfl, fun i x hx => ?_⟩⟩
    rw [List.getElem?_map] at hx
    obtain ⟨p, hpi, rfl⟩ := Option.map_eq_some_iff.1 hx
    have hat : ∀ j u, j < 2 → (pc p)[j]? = some u → w.cell? ⟨g, i * 2 + j, none⟩ = some u := by
      intro j u hj hu
      have := ho.cells (g := g) rfl (i * 2 + j) u (by rw [pc_at hpi j hj]; exact hu)
      simpa [Addr.add_lit] using this
    have hpv := h.each p (List.mem_of_getElem? hpi)
    obtain ⟨A, k, c, hq⟩ := own_slice hpv
    rw [Nat.zero_add]
    refine ⟨hat 0 _ (by omega) rfl, A, k, c, hat 1 _ (by omega) (by rw [← hq]; rfl), ?_⟩
    rw [← hq]
    exact Seq.of_own (by rw [List.length_map]; exact hpv)
/-- between two calls of see: block B holds the row -/
structure OutI (w0 : World) (B : Nat) (l : List Po.P) (u : World) : Prop where
  blk : ∃ v vs, l = vs.map (·.1) ∧ u.heap[B]? = some (.cells #[v] 22 (0, 0)) ∧ Rw u (B + 1) v vs
  below : Below w0.heap.size w0 u
  lo : w0.heap.size ≤ B
theorem OutI.keep {w0 u u' : World} {B : Nat} {l : List Po.P} (h : OutI w0 B l u) (hb : Below u.heap.size u u') : OutI w0 B l u' := by
  obtain ⟨v, vs, e, hB, hr⟩ := h.blk
  exact ⟨⟨v, vs, e, (hb.block _ (blk_lt hB)).trans hB, hr.below hb⟩, h.below.trans (hb.mono h.below.size), h.lo⟩
/-- behind the call, the append and the store -/
theorem OutI.next {w0 u u1 u3 : World} {B : Nat} {v v' : Value} {vs : List PP} {p : Po.P} {s : Value} {o : Obj} (lo : w0.heap.size ≤ B) (below : Below w0.heap.size w0 u)
    (hB : u.heap[B]? = some (.cells #[v] 22 (0, 0))) (hr : Rw u (B + 1) v vs) (h1 : Below u.heap.size u u1) (hp : PV u1 u.heap.size (p, s))
    (own : u3.ownsRow (B + 1) 40 2 v' (vs.length + 1) (vs.flatMap pc ++ [.int .i64 p.doc, s])) (g : (u1.alloc o).grownBy u3 v.ownBlock) : OutI w0 B (vs.map (·.1) ++ [p]) (u3.setCell ⟨B, 0, none⟩ v') := by
  have hBu := blk_lt hB
  have hr2 : Rw (u1.alloc o) (B + 1) v vs := (hr.below h1).below ((Below.refl _ _).alloc (Nat.le_refl _) _)
  have hp2 : PV (u1.alloc o) (B + 1) (p, s) := own_base (World.ownsRow.kept hp (grown_below ((Below.refl _ u1).alloc (Nat.le_refl _) o)) (by cases h : Value.ownBlock s <;> simp)) (by omega)
  have hle : ∀ b, v.ownBlock = some b → B + 1 ≤ b := fun b e => (hr.own.lt b e).1
  have hb2 : u3.heap[B]? = some (.cells #[v] 22 (0, 0)) :=
    (g.block B (by have := h1.size; simp; omega) (fun e => by have := hle B e.symm; omega)).trans ((Below.heap_alloc u1 o B (by have := h1.size; omega)).trans ((h1.block _ hBu).trans hB))
  have hk : ∀ q ∈ vs ++ [(p, s)], PV u3 (B + 1) q := by
    intro q hq
    have hq2 : PV (u1.alloc o) (B + 1) q := by
      rcases List.mem_append.1 hq with hq | hq
      · exact hr2.each q hq
      · obtain rfl := List.mem_singleton.1 hq
        exact hp2
    exact World.ownsRow.kept hq2 g (own_types hq2 hr2.own (by decide))
  have hrow : Rw u3 (B + 1) v' (vs ++ [(p, s)]) := ⟨by simpa [pc] using own, hk⟩
  have hbel : Below w0.heap.size w0 u3 := ((below.trans (h1.mono below.size)).alloc (by have := below.size; have := h1.size; omega) o).grown g (by have := below.size; have := h1.size; simp; omega) (fun b e => by have := hle b e; omega)
  refine ⟨⟨v', vs ++ [(p, s)], by simp, ?_, ?_⟩, ?_, lo⟩
  · rw [heap_setCell_same _ _ _ _ _ _ hb2]
    rfl
  · exact hrow.kept (grown_set (grown_refl u3 (some B)) 0 v') (by rintro b h; cases h; omega)
  · exact hbel.setCell lo _
theorem OutI.blk2 {u u1 u3 : World} {B : Nat} {v : Value} {vs : List PP} {o : Obj}
    (hB : u.heap[B]? = some (.cells #[v] 22 (0, 0))) (hr : Rw u (B + 1) v vs) (h1 : Below u.heap.size u u1) (g : (u1.alloc o).grownBy u3 v.ownBlock) : u3.heap[B]? = some (.cells #[v] 22 (0, 0)) := by
  have hBu := blk_lt hB
  have hle : ∀ b, v.ownBlock = some b → B + 1 ≤ b := fun b e => (hr.own.lt b e).1
  exact (g.block B (by have := h1.size; simp; omega) (fun e => by have := hle B e.symm; omega)).trans ((Below.heap_alloc u1 o B (by have := h1.size; omega)).trans ((h1.block _ hBu).trans hB))
theorem infoP : (Try.prog.info? 40).map (fun i => (i.zero, i.size, i.bytes)) = some (some (.agg #[.int .i64 0, .slice none 0 0]), 2, 32) := by kernel_rfl
end Go.Proofs.Ytijbkflbklbemaa
