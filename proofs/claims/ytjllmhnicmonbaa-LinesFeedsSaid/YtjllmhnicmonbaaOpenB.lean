/- Slices of integers, of strings as arguments over this translation. -/
import Derived.Test.YtjllmhnicmonbaaProg
import Derived.Test.YtjllmhnicmonbaaOpen
import Derived.Test.YtjllmhnicmonbaaSame
namespace Go.Proofs.Ytjllmhnicmonbaa
open Go.RowKit Go.WideShapes

theorem reach_le : reachBytes ≤ 140737488355328 := by decide
theorem wf_bd {n : Int} (h : (Lit.int .i64 n).wf = true) : -9223372036854775808 ≤ n ∧ n ≤ 9223372036854775807 := by
  simp only [Lit.wf, Bool.and_eq_true, decide_eq_true_eq] at h
  exact h

section
variable {H : Type} {enc : TypeId × Value → H} {w : World} {base : Nat} {spare : Nat → Bool} {held : Bool}
theorem rd_int {n : Nat} {cs : List Value} {x : DataW H × List MemPlace} (h : DataW.trod enc Try.prog w base spare held n 3 cs = some x) : ∃ z : Int, cs = [.int .i64 z] ∧ (-9223372036854775808 ≤ z ∧ z ≤ 9223372036854775807) := by
  obtain ⟨z, rfl, _, hz⟩ := DataW.trod_int Try.underlying3 h
  exact ⟨z, rfl, wf_bd hz⟩
theorem rd_str {n : Nat} {cs : List Value} {x : DataW H × List MemPlace} (h : DataW.trod enc Try.prog w base spare held n 9 cs = some x) (hs : Small Try.prog 9 x.1) : ∃ l : List UInt8, cs = [.string (bs l)] ∧ l.length ≤ 140737488355328 := by
  obtain ⟨s, rfl, rfl, _⟩ := DataW.trod_string Try.underlying9 h
  refine ⟨s.data.toList, by rw [← bs_of (rfl : s.data.toList = s.data.toList)], Nat.le_trans (hs _ (by simp [DataW.weights])) reach_le⟩
theorem seq_of {α : Type} {f : α → Value} {A : Option Addr} {cap : Nat} {xs : List α} {R : List Value → α → Prop} (hR : ∀ cs a, R cs a → cs = [f a])
    (hc : xs.length ≤ cap) (hm : cap ≤ maxLen) (h : xs = [] ∨ ∃ b off, A = some ⟨b, off, none⟩ ∧ ∀ i a, xs[i]? = some a → ∃ cs', R cs' a ∧ cs'.length = 1 ∧ ∀ j, j < 1 → w.cell? ⟨b, off + i * 1 + j, none⟩ = cs'[j]?) : Seq w (.slice A xs.length cap) (xs.map f) := by
  refine ⟨A, cap, by simp, by simpa using hc, hm, ?_⟩
  rcases h with h | ⟨b, off, hA, h⟩
  · exact .inl (by simp [h])
  · refine .inr ⟨b, off, hA, fun i u hu => ?_⟩
    rw [List.getElem?_map] at hu
    obtain ⟨a, ha, rfl⟩ := Option.map_eq_some_iff.1 hu
    obtain ⟨cs', hr, _, hcell⟩ := h i a ha
    have := hcell 0 (by omega)
    rw [hR _ _ hr] at this
    simpa using this
theorem rd_strs {n : Nat} {cs : List Value} {x : DataW H × List MemPlace} (h : DataW.trod enc Try.prog w base spare held n 24 cs = some x) (hs : Small Try.prog 24 x.1) :
    ∃ (v : Value) (xs : List (List UInt8)), cs = [v] ∧ Seq w v (xs.map sv) ∧ (∀ y ∈ xs, y.length ≤ 140737488355328) ∧ xs.length ≤ 8796093022208 := by
  have hb : Try.prog.bytesOf 9 = 16 := by kernel_rfl
  have hc1 : Try.prog.cellsOf 9 = 1 := by kernel_rfl
  obtain ⟨A, cap, xs, rfl, hc, hm, hr, hcell⟩ := rd_slice (α := List UInt8) Try.underlying24 (by rw [hc1]; decide) h hs (fun cs l => cs = [.string (bs l)] ∧ l.length ≤ 140737488355328) (fun n cs' y hy hsm => rd_str hy hsm)
  rw [hb] at hr
  rw [hc1] at hcell
  have := reach_le
  refine ⟨_, xs, rfl, seq_of (fun cs a hr => hr.1) hc hm hcell, fun y hy => ?_, by omega⟩
  rcases hcell with rfl | ⟨b, off, _, hcell⟩
  · cases hy
  · obtain ⟨i, hi⟩ := List.getElem?_of_mem hy
    obtain ⟨cs', hr', _⟩ := hcell i y hi
    exact hr'.2
theorem cells_one {v : Value} {u : Value} (hne : ∀ l, v ≠ .agg l) (h : v.cells.toList = [u]) : v = u := by
  cases v <;> simp_all [Value.cells]
end
end Go.Proofs.Ytjllmhnicmonbaa
