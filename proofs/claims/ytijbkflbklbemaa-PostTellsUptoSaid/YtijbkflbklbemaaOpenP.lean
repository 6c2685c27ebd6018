/- Slices of postings as arguments. -/
import Derived.Test.YtijbkflbklbemaaOpenB
import Derived.Test.YtijbkflbklbemaaBothP
namespace Go.Proofs.Ytijbkflbklbemaa
open Go.RowKit Go.WideShapes

theorem list2 {α : Type} {l : List α} (h : l.length = 2) : ∃ a b, l = [a, b] := by
  match l, h with
  | [a, b], _ => exact ⟨a, b, rfl⟩
/-- what is known of a posting of an argument -/
structure POk (p : Po.P) : Prop where
  doc : -9223372036854775808 ≤ p.doc ∧ p.doc ≤ 9223372036854775807
  pl : ∀ y ∈ p.places, -9223372036854775808 ≤ y ∧ y ≤ 9223372036854775807
  len : p.places.length ≤ 17592186044416

section
variable {H : Type} {enc : TypeId × Value → H} {w : World} {base : Nat} {spare : Nat → Bool} {held : Bool}
def PCells (w : World) (cs : List Value) (p : Po.P) : Prop :=
  POk p ∧ ∃ A k c, cs = [.int .i64 p.doc, .slice A k c] ∧ Seq w (.slice A k c) (p.places.map iv)
theorem rd_P {n : Nat} {cs : List Value} {x : DataW H × List MemPlace} (h : DataW.trod enc Try.prog w base spare held n 40 cs = some x) (hs : Small Try.prog 40 x.1) : ∃ a : Po.P, PCells w cs a := by
  have k3 : Try.prog.cellsOf 3 = 1 := by kernel_rfl
  have k23 : Try.prog.cellsOf 28 = 1 := by kernel_rfl
  have k47 : Try.prog.cellsOf 40 = 2 := by kernel_rfl
  obtain ⟨ys, m, _, rfl, hl, hyl, hf⟩ := DataW.trod_struct Try.underlying40 h
  obtain ⟨c0, c1, rfl⟩ := list2 (hl.trans k47)
  obtain ⟨y0, y1, rfl⟩ := list2 hyl
  have f0 : DataW.trod enc Try.prog w base spare held m 3 [c0] = some y0 := by have := hf 0 _ rfl; simpa [k3] using this
  have f1 : DataW.trod enc Try.prog w base spare held m 28 [c1] = some y1 := by have := hf 1 _ rfl; simpa [k23] using this
  have s1 : Small Try.prog 28 y1.1 := small_field Try.underlying40 hs (j := 1) rfl rfl
  obtain ⟨z0, h0, b0⟩ := rd_int f0
  obtain ⟨v1, x1, h1, q1, b1, l1⟩ := rd_ints f1 s1
  simp at h0 h1
  subst h0 h1
  obtain ⟨A, c, rfl, _⟩ := id q1
  exact ⟨⟨z0, x1⟩, ⟨b0, b1, l1⟩, A, _, c, rfl, q1⟩
theorem rd_Ps {n : Nat} {cs : List Value} {x : DataW H × List MemPlace} (h : DataW.trod enc Try.prog w base spare held n 22 cs = some x) (hs : Small Try.prog 22 x.1) :
    ∃ (v : Value) (xs : List Po.P), cs = [v] ∧ SeqP w v xs ∧ xs.length ≤ 4398046511104 ∧ ∀ y ∈ xs, POk y := by
  have k47 : Try.prog.cellsOf 40 = 2 := by kernel_rfl
  have hb : Try.prog.bytesOf 40 = 32 := by kernel_rfl
  obtain ⟨A, cap, xs, rfl, hc, hm, hr, hcell⟩ := rd_slice (α := Po.P) Try.underlying22 (by rw [k47]; decide) h hs (PCells w) (fun n cs' y hy hsm => rd_P hy hsm)
  rw [k47] at hcell
  rw [hb] at hr
  have := reach_le
  refine ⟨_, xs, rfl, ⟨A, cap, rfl, hc, hm, ?_⟩, by omega, fun y hy => ?_⟩
  · rcases hcell with h0 | ⟨b, off, hA, hcell⟩
    · exact .inl h0
    · refine .inr ⟨b, off, hA, fun i y hy => ?_⟩
      obtain ⟨cs', ⟨_, A', k, c, rfl, q3⟩, _, hat⟩ := hcell i y hy
      exact ⟨hat 0 (by omega), A', k, c, hat 1 (by omega), q3⟩
  · rcases hcell with rfl | ⟨b, off, _, hcell⟩
    · cases hy
    · obtain ⟨i, hi⟩ := List.getElem?_of_mem hy
      obtain ⟨cs', ⟨hok, _⟩, _⟩ := hcell i y hi
      exact hok
end
end Go.Proofs.Ytijbkflbklbemaa
