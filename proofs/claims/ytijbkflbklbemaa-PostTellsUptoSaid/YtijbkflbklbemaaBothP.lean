/- Walks: the order of docs, and 'both' at Posting. -/
import Derived.Test.YtijbkflbklbemaaCopied
namespace Go.Proofs.Ytijbkflbklbemaa
open Go.RowKit

theorem order_c (d1 d2 : Int) (A1 A2 : Option Addr) (n1 c1 n2 c2 : Nat) (w : World) :
    Calls Try.prog 48 #[.agg #[.int .i64 d1, .slice A1 n1 c1], .agg #[.int .i64 d2, .slice A2 n2 c2]] w fun e w' => e = .returned (.int .i64 (cmpI d1 d2)) ∧ Below w.heap.size w w' := by
  go_enter Try.func48, Try.ntmps48
  go_wp2_with fail
  refine (compare_c d1 d2 _).mono ?_
  rintro e u ⟨rfl, rfl⟩
  go_wp2_with fail
  go_ret
  exact ⟨rfl, ((Below.refl _ w).alloc (Nat.le_refl _) _).alloc (by simp) _⟩
/-- the cells of a posting from offset o of block b on -/
def PAt (w : World) (b o : Nat) (p : Po.P) : Prop :=
  w.cell? ⟨b, o, none⟩ = some (.int .i64 p.doc) ∧ ∃ A k c, w.cell? ⟨b, o + 1, none⟩ = some (.slice A k c) ∧ Seq w (.slice A k c) (p.places.map iv)
def SeqP (w : World) (v : Value) (l : List Po.P) : Prop :=
  ∃ A cap, v = .slice A l.length cap ∧ l.length ≤ cap ∧ cap ≤ maxLen ∧ (l = [] ∨ ∃ b off, A = some ⟨b, off, none⟩ ∧ ∀ i p, l[i]? = some p → PAt w b (off + i * 2) p)
theorem cell_keep {w w' : World} (hk : ∀ b, b < w.heap.size → w'.heap[b]? = w.heap[b]?) {a : Addr} {v : Value} (h : w.cell? a = some v) : w'.cell? a = some v :=
  (World.cell?_of_block (w := w) (hk a.block (World.block_lt_of_cell? w _ h))).trans h
theorem PAt.keep {w w' : World} {b o : Nat} {p : Po.P} (h : PAt w b o p) (hk : ∀ b, b < w.heap.size → w'.heap[b]? = w.heap[b]?) : PAt w' b o p := by
  obtain ⟨h0, A, k, c, h1, h2⟩ := h
  exact ⟨cell_keep hk h0, A, k, c, cell_keep hk h1, h2.keep hk⟩
theorem SeqP.keep {w w' : World} {v : Value} {l : List Po.P} (h : SeqP w v l) (hk : ∀ b, b < w.heap.size → w'.heap[b]? = w.heap[b]?) : SeqP w' v l := by
  obtain ⟨A, cap, hv, hc, hm, h⟩ := h
  refine ⟨A, cap, hv, hc, hm, ?_⟩
  rcases h with h | ⟨b, off, hA, h⟩
  · exact .inl h
  · exact .inr ⟨b, off, hA, fun i x hx => (h i x hx).keep hk⟩
def SeeP (w : World) (x : Option Po.P) (v : Value) : Prop := match x with
  | none => v = .pointer none
  | some p => ∃ b o, v = .pointer (some ⟨b, o, none⟩) ∧ PAt w b o p
theorem SeqP.tail {w : World} {b o ca : Nat} {x : Po.P} {es : List Po.P} (hm : ca ≤ maxLen) (hca : es.length + 1 ≤ ca) (h : ∀ i u, (x :: es)[i]? = some u → PAt w b (o + i * 2) u) :
    SeqP w (.slice (some ⟨b, o + 2, none⟩) es.length (ca - 1)) es :=
  ⟨_, _, rfl, by omega, by omega, .inr ⟨b, o + 2, rfl, fun i u hu => by
    have := h (i + 1) u (by simpa using hu)
    rwa [show o + (i + 1) * 2 = o + 2 + i * 2 from by omega] at this⟩⟩
theorem SeqP.none {w : World} {A : Option Addr} {es : List Po.P} (h : es.length + 1 ≤ 1) : SeqP w (.slice A es.length 0) es :=
  ⟨_, _, rfl, by omega, by decide, .inl (List.eq_nil_of_length_eq_zero (by omega))⟩
end Go.Proofs.Ytijbkflbklbemaa
