/- What an argument reads as: integers, strings, slices, within the form's own reach; no program in particular. -/
import Derived.Deep.Slices
import Derived.SizedLaws
import Derived.ProofKit
import Derived.OpenShut
import Derived.ShutString
import Derived.ChangeOld
import Derived.Below
namespace Go.Proofs.Ytjllmhnicmonbaa
open Go.RowKit Go.WideShapes

section
variable {H : Type} {enc : TypeId × Value → H} {P : Program} {w : World} {base : Nat} {spare : Nat → Bool} {held : Bool}

/-- all that is read keeps within the reach -/
def Small (P : Program) (t : TypeId) (d : DataW H) : Prop := ∀ m ∈ d.weights P t, m ≤ reachBytes
theorem small_of {ts : List TypeId} {ds : List (DataW H)} (h : (DataW.weightsEach P ts ds).all (· ≤ reachBytes) = true) {j : Nat} {t : TypeId} {d : DataW H} (ht : ts[j]? = some t) (hd : ds[j]? = some d) : Small P t d := by
  intro m hm
  simpa using List.all_eq_true.1 h _ (DataW.weights_mem_each ht hd m hm)
theorem weightsAll_mem {e : TypeId} : ∀ {l : List (DataW H)} {d : DataW H}, d ∈ l → ∀ m ∈ d.weights P e, m ∈ DataW.weightsAll P e l
  | x :: l, d, hd, m, hm => by
    simp only [DataW.weightsAll, List.mem_append]
    rcases List.mem_cons.1 hd with rfl | h
    · exact .inl hm
    · exact .inr (weightsAll_mem h m hm)
theorem small_elem {t e : TypeId} {elems rest : List (DataW H)} (ht : P.underlying t = some (.slice e)) (h : Small P t (.slice elems rest)) {d : DataW H} (hd : d ∈ elems) : Small P e d := by
  intro m hm
  refine h m ?_
  simp only [DataW.weights, ht, List.mem_cons, List.mem_append]
  exact .inr (.inl (weightsAll_mem hd m hm))
theorem small_len {t e : TypeId} {elems rest : List (DataW H)} (ht : P.underlying t = some (.slice e)) (h : Small P t (.slice elems rest)) : elems.length * P.bytesOf e ≤ reachBytes := by
  have := h ((elems.length + rest.length) * P.bytesOf e) (by simp [DataW.weights, ht])
  exact Nat.le_trans (Nat.mul_le_mul_right _ (by omega)) this
theorem small_field {t : TypeId} {fs : Array Field} {parts : List (DataW H)} (ht : P.underlying t = some (.struct fs)) (h : Small P t (.agg parts)) {j : Nat} {f : Field} {d : DataW H} (hf : fs[j]? = some f) (hd : parts[j]? = some d) : Small P f.type d := by
  intro m hm
  refine h m ?_
  simp only [DataW.weights, ht]
  exact DataW.weights_mem_each (j := j) (by simp [hf]) hd m hm

theorem list_of {α : Type} (R : Nat → α → Prop) : ∀ n : Nat, (∀ i, i < n → ∃ x, R i x) → ∃ xs : List α, xs.length = n ∧ ∀ i x, xs[i]? = some x → R i x
  | 0, _ => ⟨[], rfl, fun i x h => by simp at h⟩
  | n + 1, h => by
    obtain ⟨xs, hl, hx⟩ := list_of R n (fun i hi => h i (by omega))
    obtain ⟨y, hy⟩ := h n (by omega)
    refine ⟨xs ++ [y], by simp [hl], fun i x hi => ?_⟩
    rcases Nat.lt_or_ge i n with hlt | hge
    · exact hx i x (by rw [List.getElem?_append_left (by omega)] at hi; exact hi)
    · have : i = n := by
        have := (List.getElem?_eq_some_iff.1 hi).1
        simp at this; omega
      subst this
      have e : (xs ++ [y])[xs.length]? = some y := by simp
      rw [hl] at e
      rw [e] at hi
      injection hi with hi
      subst hi
      exact hy

/-- A SLICE, element by element: what each element's cells read as is said by R. -/
theorem rd_slice {α : Type} {t e : TypeId} {fuel : Nat} {cs : List Value} {x : DataW H × List MemPlace} (ht : P.underlying t = some (.slice e)) (hpos : 0 < P.cellsOf e)
    (h : DataW.trod enc P w base spare held fuel t cs = some x) (hs : Small P t x.1) (R : List Value → α → Prop)
    (hel : ∀ n cs' y, DataW.trod enc P w base spare held n e cs' = some y → Small P e y.1 → ∃ a, R cs' a) :
    ∃ (A : Option Addr) (cap : Nat) (xs : List α), cs = [.slice A xs.length cap] ∧ xs.length ≤ cap ∧ cap ≤ maxLen ∧ xs.length * P.bytesOf e ≤ reachBytes ∧
      (xs = [] ∨ ∃ b off, A = some ⟨b, off, none⟩ ∧ ∀ i a, xs[i]? = some a → ∃ cs', R cs' a ∧ cs'.length = P.cellsOf e ∧ ∀ j, j < P.cellsOf e → w.cell? ⟨b, off + i * P.cellsOf e + j, none⟩ = cs'[j]?) := by
  rcases Go.Deep.open_slice ht h with ⟨rfl, _⟩ | ⟨a, len, cap, m, n, D, Pl, rfl, hb, hl, hm, hmm, hx, hi⟩
  · exact ⟨none, 0, [], rfl, by simp, by decide, by simp, .inl rfl⟩
  · have hlm : len ≤ m := by rw [hmm]; split <;> omega
    have hs' : Small P t (.slice ((List.range len).map D) ((List.range (m - len)).map fun j => D (len + j))) := by rw [hx] at hs; exact hs
    have key : ∀ i, i < len → ∃ y : α, ∃ cs', R cs' y ∧ w.cells? base (a.add (i * P.cellsOf e)) (P.cellsOf e) = some cs' := by
      intro i hi'
      obtain ⟨cs', hc, htr⟩ := hi i (by omega)
      obtain ⟨y, hy⟩ := hel n cs' _ htr (small_elem ht hs' (List.mem_map.2 ⟨i, by simp [hi'], rfl⟩))
      exact ⟨y, cs', hy, hc⟩
    obtain ⟨xs, hxl, hxs⟩ := list_of _ len key
    refine ⟨some a, cap, xs, by rw [hxl], by omega, hm, by have := small_len ht hs'; simpa [hxl] using this, ?_⟩
    rcases Nat.eq_zero_or_pos len with h0 | h0
    · exact .inl (List.eq_nil_of_length_eq_zero (by omega))
    · right
      have hspot : a.spot = none := by
        obtain ⟨_, cs', _, hc⟩ := key 0 h0
        obtain ⟨_, hcl, hat⟩ := World.cells?_some hc
        have h1 := hat 0 hpos
        rw [List.getElem?_eq_getElem (by omega)] at h1
        have h2 := World.cell?_spot h1
        simpa [Addr.add] using h2
      obtain ⟨b, off, spot⟩ := a
      simp only at hspot
      subst hspot
      refine ⟨b, off, rfl, fun i y hy => ?_⟩
      obtain ⟨cs', hR, hc⟩ := hxs i y hy
      obtain ⟨_, hcl, hat⟩ := World.cells?_some hc
      refine ⟨cs', hR, hcl, fun j hj => ?_⟩
      rw [← hat j hj, Addr.add_lit, Addr.add_lit]
end
end Go.Proofs.Ytjllmhnicmonbaa
