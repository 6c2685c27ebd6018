/- A slice of Value structs as an argument. -/
import Derived.Test.YtipehfidphgbbaaOpenB
import Derived.Test.YtipehfidphgbbaaLawB
namespace Go.Proofs.Ytipehfidphgbbaa
open Go.RowKit Go.WideShapes

theorem list5 {α : Type} {l : List α} (h : l.length = 5) : ∃ a b c d e, l = [a, b, c, d, e] := by
  match l, h with
  | [a, b, c, d, e], _ => exact ⟨a, b, c, d, e, rfl⟩

section
variable {H : Type} {enc : TypeId × Value → H} {w : World} {base : Nat} {spare : Nat → Bool} {held : Bool}
/-- five cells that hold a value -/
def VCells (w : World) (cs : List Value) (x : V) : Prop :=
  VOk x ∧ ∃ v3 v4, cs = [.int .i64 x.kind, .int .i64 x.n, .string (bs x.text), v3, v4] ∧ Seq w v3 (x.texts.map sv) ∧ Seq w v4 (x.nums.map iv)
theorem rd_V {n : Nat} {cs : List Value} {x : DataW H × List MemPlace} (h : DataW.trod enc Try.prog w base spare held n 47 cs = some x) (hs : Small Try.prog 47 x.1) : ∃ a : V, VCells w cs a := by
  have k3 : Try.prog.cellsOf 3 = 1 := by kernel_rfl
  have k9 : Try.prog.cellsOf 9 = 1 := by kernel_rfl
  have k22 : Try.prog.cellsOf 22 = 1 := by kernel_rfl
  have k23 : Try.prog.cellsOf 23 = 1 := by kernel_rfl
  have k47 : Try.prog.cellsOf 47 = 5 := by kernel_rfl
  obtain ⟨ys, m, _, rfl, hl, hyl, hf⟩ := DataW.trod_struct Try.underlying47 h
  obtain ⟨c0, c1, c2, c3, c4, rfl⟩ := list5 (hl.trans k47)
  obtain ⟨y0, y1, y2, y3, y4, rfl⟩ := list5 hyl
  have f0 : DataW.trod enc Try.prog w base spare held m 3 [c0] = some y0 := by have := hf 0 _ rfl; simpa [k3] using this
  have f1 : DataW.trod enc Try.prog w base spare held m 3 [c1] = some y1 := by have := hf 1 _ rfl; simpa [k3] using this
  have f2 : DataW.trod enc Try.prog w base spare held m 9 [c2] = some y2 := by have := hf 2 _ rfl; simpa [k9] using this
  have f3 : DataW.trod enc Try.prog w base spare held m 22 [c3] = some y3 := by have := hf 3 _ rfl; simpa [k22] using this
  have f4 : DataW.trod enc Try.prog w base spare held m 23 [c4] = some y4 := by have := hf 4 _ rfl; simpa [k23] using this
  have s2 : Small Try.prog 9 y2.1 := small_field Try.underlying47 hs (j := 2) rfl rfl
  have s3 : Small Try.prog 22 y3.1 := small_field Try.underlying47 hs (j := 3) rfl rfl
  have s4 : Small Try.prog 23 y4.1 := small_field Try.underlying47 hs (j := 4) rfl rfl
  obtain ⟨z0, h0, b0⟩ := rd_int f0
  obtain ⟨z1, h1, b1⟩ := rd_int f1
  obtain ⟨l2, h2, b2⟩ := rd_str f2 s2
  obtain ⟨v3, x3, h3, q3, b3, _⟩ := rd_strs f3 s3
  obtain ⟨v4, x4, h4, q4, b4, _⟩ := rd_ints f4 s4
  simp at h0 h1 h2 h3 h4
  subst h0 h1 h2 h3 h4
  exact ⟨⟨z0, z1, l2, x3, x4⟩, ⟨b0, b1, b2, b3, b4⟩, _, _, rfl, q3, q4⟩
theorem rd_Vs {n : Nat} {cs : List Value} {x : DataW H × List MemPlace} (h : DataW.trod enc Try.prog w base spare held n 42 cs = some x) (hs : Small Try.prog 42 x.1) :
    ∃ (v : Value) (xs : List V), cs = [v] ∧ SeqV w v xs ∧ ∀ y ∈ xs, VOk y := by
  have k47 : Try.prog.cellsOf 47 = 5 := by kernel_rfl
  obtain ⟨A, cap, xs, rfl, hc, hm, hr, hcell⟩ := rd_slice (α := V) Try.underlying42 (by rw [k47]; decide) h hs (VCells w) (fun n cs' y hy hsm => rd_V hy hsm)
  rw [k47] at hcell
  refine ⟨_, xs, rfl, ⟨A, cap, rfl, hc, hm, ?_⟩, fun y hy => ?_⟩
  · rcases hcell with h0 | ⟨b, off, hA, hcell⟩
    · exact .inl h0
    · refine .inr ⟨b, off, hA, fun i y hy => ?_⟩
      obtain ⟨cs', ⟨_, v3, v4, rfl, q3, q4⟩, _, hat⟩ := hcell i y hy
      exact ⟨hat 0 (by omega), hat 1 (by omega), hat 2 (by omega), ⟨v3, hat 3 (by omega), q3⟩, ⟨v4, hat 4 (by omega), q4⟩⟩
  · rcases hcell with rfl | ⟨b, off, _, hcell⟩
    · cases hy
    · obtain ⟨i, hi⟩ := List.getElem?_of_mem hy
      obtain ⟨cs', ⟨hok, _⟩, _⟩ := hcell i y hi
      exact hok
end
end Go.Proofs.Ytipehfidphgbbaa
