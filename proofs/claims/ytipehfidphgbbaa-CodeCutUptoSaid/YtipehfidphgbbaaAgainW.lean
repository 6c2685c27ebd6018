/- The walk of CodeAgain. -/
import Derived.Test.YtipehfidphgbbaaBackW
namespace Go.Proofs.Ytipehfidphgbbaa
open Go.RowKit

abbrev P3 := V × Value × Value
def vc (p : P3) : List Value := [.int .i64 p.1.kind, .int .i64 p.1.n, .string (bs p.1.text), p.2.1, p.2.2]
structure PV (w : World) (C : Nat) (p : P3) : Prop where
  ok : VOk p.1
  o3 : w.ownsRow C 9 1 p.2.1 p.1.texts.length (p.1.texts.map sv)
  o4 : w.ownsRow C 3 1 p.2.2 p.1.nums.length (p.1.nums.map iv)
theorem own_types {w : World} {b b' : Nat} {e e' : TypeId} {s s' n n' : Nat} {v v' : Value} {xs xs' : List Value} (h : w.ownsRow b e s v n xs) (h' : w.ownsRow b' e' s' v' n' xs') (hne : e ≠ e') : v.ownBlock = none ∨ v.ownBlock ≠ v'.ownBlock := by
  rcases h.2 with ⟨rfl, _⟩ | ⟨g, cap, cur, rfl, _, hg, _⟩
  · exact .inl rfl
  · right
    rcases h'.2 with ⟨rfl, _⟩ | ⟨g', cap', cur', rfl, _, hg', _⟩
    · simp [Value.ownBlock]
    · simp only [Value.ownBlock, ne_eq, Option.some.injEq]
      rintro rfl
      rw [hg] at hg'
      injection hg' with hg'
      injection hg' with _ h _
      exact hne h
theorem PV.kept {w w' : World} {C : Nat} {p : P3} {r : Option Nat} (h : PV w C p) (hg : w.grownBy w' r) (h3 : p.2.1.ownBlock = none ∨ p.2.1.ownBlock ≠ r) (h4 : p.2.2.ownBlock = none ∨ p.2.2.ownBlock ≠ r) : PV w' C p :=
  ⟨h.ok, h.o3.kept hg h3, h.o4.kept hg h4⟩
theorem PV.other {w w' : World} {C B : Nat} {p : P3} (h : PV w C p) (hg : w.grownBy w' (some B)) (hB : B < C) : PV w' C p := h.kept hg (own_ne h.o3 hB) (own_ne h.o4 hB)
theorem own_base {w : World} {b b' : Nat} {e : TypeId} {s n : Nat} {v : Value} {xs : List Value} (h : w.ownsRow b e s v n xs) (hb : b' ≤ b) : w.ownsRow b' e s v n xs := by
  refine ⟨h.1, ?_⟩
  rcases h.2 with h | ⟨g, cap, cur, hv, hg, r⟩
  · exact .inl h
  · exact .inr ⟨g, cap, cur, hv, by omega, r⟩
theorem vc_at {vs : List P3} : ∀ {i : Nat} {p : P3}, vs[i]? = some p → ∀ j, j < 5 → (vs.flatMap vc)[i * 5 + j]? = (vc p)[j]? := by
  induction vs with
  | nil => intro i p h; simp at h
  | cons x vs ih =>
    intro i p h j hj
    have hx : (vc x).length = 5 := rfl
    cases i with
    | zero =>
      simp at h
      subst h
      rw [List.flatMap_cons, Nat.zero_mul, Nat.zero_add, List.getElem?_append_left (by omega)]
    | succ i =>
      rw [List.flatMap_cons, List.getElem?_append_right (by omega), hx, show (i + 1) * 5 + j - 5 = i * 5 + j from by omega]
      exact ih (by simpa using h) j hj
theorem vc_len (vs : List P3) : (vs.flatMap vc).length = vs.length * 5 := by
  induction vs with
  | nil => rfl
  | cons x vs ih => simp only [List.flatMap_cons, List.length_append, ih, List.length_cons]; simp [vc]; omega
theorem seqV_own {w : World} {C : Nat} {v : Value} {vs : List P3} (h : w.ownsRow C 47 5 v vs.length (vs.flatMap vc)) (hp : ∀ p ∈ vs, PV w C p) : SeqV w v (vs.map (·.1)) := by
  rcases h.2 with ⟨rfl, h0⟩ | ⟨g, cap, cur, rfl, hb, hg, hn, hm, hs, ht⟩
  · exact ⟨none, 0, by simp [h0], by simp [h0], by decide, .inl (by simp [List.eq_nil_of_length_eq_zero h0])⟩
  · refine ⟨some ⟨g, 0, none⟩, cap, by simp, by simpa using hn, hm, .inr ⟨g, 0, rfl, fun i x hx => ?_⟩⟩
    rw [List.getElem?_map] at hx
    obtain ⟨p, hpi, rfl⟩ := Option.map_eq_some_iff.1 hx
    have hat : ∀ j u, j < 5 → (vc p)[j]? = some u → w.cell? ⟨g, i * 5 + j, none⟩ = some u := by
      intro j u hj hu
      have := h.cells (g := g) rfl (i * 5 + j) u (by rw [vc_at hpi j hj]; exact hu)
      simpa [Addr.add_lit] using this
    have hpv := hp p (List.mem_of_getElem? hpi)
    rw [Nat.zero_add]
    exact ⟨hat 0 _ (by omega) rfl, hat 1 _ (by omega) rfl, hat 2 _ (by omega) rfl, ⟨_, hat 3 _ (by omega) rfl, Seq.of_own (by rw [List.length_map]; exact hpv.o3)⟩, ⟨_, hat 4 _ (by omega) rfl, Seq.of_own (by rw [List.length_map]; exact hpv.o4)⟩⟩

theorem infoV : (Try.prog.info? 47).map (fun i => (i.zero, i.size, i.bytes)) = some (some (.agg #[.int .i64 0, .int .i64 0, .string ⟨#[]⟩, .slice none 0 0, .slice none 0 0]), 5, 80) := by kernel_rfl

/-- what holds between two rounds: S is the whole input -/
structure Ag (w0 : World) (C B : Nat) (S : List UInt8) (w : World) (st : Vi.St) (v : Value) (vs : List P3) : Prop where
  rd : Rd 61 w B st
  own : w.ownsRow C 47 5 v vs.length (vs.flatMap vc)
  each : ∀ p ∈ vs, PV w C p
  below : Below w0.heap.size w0 w
  size : C ≤ w.heap.size
  fit : Vi.Fit st
  len : st.1.length ≤ 10000
  eq : st.2 = false → (vs.map (·.1)).flatMap encV ++ st.1 = S
/-- one value more: what the switch leaves -/
structure Sw (w0 : World) (C B : Nat) (w : World) (T : Nat) (st st' : Vi.St) (p : P3) (w' : World) : Prop where
  rd : Rd 61 w' B st'
  blk : w'.heap[T]? = some (.cells (vc p).toArray 47 (0, 0))
  pv : PV w' C p
  grown : w.grownBy w' (some B)
  fit : Vi.Fit st'
  len : st'.1.length ≤ 10000
  eq : st'.2 = false → encV p.1 ++ st'.1 = st.1 ∧ st.2 = false
end Go.Proofs.Ytipehfidphgbbaa
