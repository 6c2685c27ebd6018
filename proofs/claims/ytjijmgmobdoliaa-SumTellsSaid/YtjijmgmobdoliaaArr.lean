/- Arrays of bytes as arguments over this translation. -/
import Derived.Test.YtjijmgmobdoliaaOpenB
import Derived.Test.YtjijmgmobdoliaaSched
namespace Go.Proofs.Ytjijmgmobdoliaa
open Go.RowKit Go.WideShapes Go.ChangeShapes

theorem mapM_each {α β : Type} {f : α → Option β} : ∀ {L : List α} {ys : List β}, L.mapM f = some ys → ∀ i ∈ L, ∃ y, f i = some y
  | [], _, _, i, hi => by simp at hi
  | a :: L, ys, h, i, hi => by
    rw [List.mapM_cons] at h
    simp only [bind, Option.bind_eq_some_iff, pure, Option.some.injEq] at h
    obtain ⟨y, hy, zs, hz, rfl⟩ := h
    rcases List.mem_cons.1 hi with rfl | hi
    · exact ⟨y, hy⟩
    · exact mapM_each hz i hi
theorem byte_array {H : Type} {enc : TypeId × Value → H} {P : Program} {W : World} {base b0 : Nat} {sp : Nat → Bool} {held : Bool} {t e : TypeId} {n : Nat} {r : Reach} {v : Value} {d : DataW H} {ps : List MemPlace}
    (ht : P.underlying t = some (.array n e)) (he : P.underlying e = some (.int .u8)) (hce : P.cellsOf e = 1) (hct : P.cellsOf t = n) (hval : Value.okWide P W r b0 t v) (hd : DataW.Trod enc P W base sp held t v d ps) :
    ∃ l : List Nat, l.length = n ∧ (∀ x ∈ l, x < 256) ∧ v = .agg (l.map yv).toArray := by
  simp only [Value.okWide, ht] at hval
  obtain ⟨cs, rfl, h2, _⟩ := hval
  rw [hct] at h2
  obtain ⟨fuel, hf⟩ := hd
  have hall : ∀ i, i < n → ∃ a : Nat, a < 256 ∧ cs.toList[i]? = some (yv a) := by
    cases fuel with
    | zero => simp [DataW.trod] at hf
    | succ m =>
      rw [DataW.trod_step] at hf
      unfold DataW.trodStep at hf
      simp only [ht, Value.cells] at hf
      rw [if_pos (by rw [hct]; simpa using h2)] at hf
      simp only [Option.map_eq_some_iff] at hf
      obtain ⟨ys, hy, _⟩ := hf
      intro i hi
      obtain ⟨y, hy⟩ := mapM_each hy i (by simpa using hi)
      obtain ⟨a, ea, _, wa⟩ := DataW.trod_int he hy
      rw [hce, Nat.mul_one] at ea
      simp only [Lit.wf, Bool.and_eq_true, decide_eq_true_eq] at wa
      have h3 : IntKind.u8.min = 0 := by decide
      have h4 : IntKind.u8.max = 255 := by decide
      refine ⟨a.toNat, by omega, ?_⟩
      have h5 := congrArg (fun l => l[0]?) ea
      simp only [List.getElem?_take, List.getElem?_drop] at h5
      simp only [Nat.add_zero, Nat.zero_lt_one, if_true] at h5
      rw [h5]
      simp only [List.getElem?_cons_zero, yv]
      rw [Int.toNat_of_nonneg (by omega)]
  refine ⟨(List.range n).map fun i => (intOf (cs.toList.getD i undef)).toNat, by simp, ?_, ?_⟩
  · intro x hx
    obtain ⟨i, hi, rfl⟩ := List.mem_map.1 hx
    obtain ⟨a, ha, h⟩ := hall i (by simpa using hi)
    rw [List.getD_eq_getElem?_getD, h]
    simpa [intOf, yv] using ha
  · congr 1
    apply Array.ext'
    apply List.ext_getElem?
    intro i
    rw [List.toList_toArray, List.map_map, List.getElem?_map]
    by_cases hi : i < n
    · obtain ⟨a, ha, h⟩ := hall i hi
      rw [List.getElem?_range hi, h]
      simp only [Option.map_some, Function.comp_def, List.getD_eq_getElem?_getD, h, Option.getD_some]
      simp [intOf, yv]
    · rw [List.getElem?_eq_none (by simpa [h2] using hi), List.getElem?_eq_none (by simpa using hi)]
      rfl
theorem word_arg {H : Type} {enc : TypeId × Value → H} {P : Program} {W : World} {base b0 : Nat} {sp : Nat → Bool} {held : Bool} {t : TypeId} {r : Reach} {v : Value} {d : DataW H} {ps : List MemPlace}
    (ht : P.underlying t = some (.int .u32)) (hval : Value.okWide P W r b0 t v) (hd : DataW.Trod enc P W base sp held t v d ps) : ∃ n : Nat, n < 4294967296 ∧ v = .int .u32 n := by
  obtain ⟨a, rfl, _, _, wa⟩ := open_int ht hval hd
  simp only [Lit.wf, Bool.and_eq_true, decide_eq_true_eq] at wa
  have h3 : IntKind.u32.min = 0 := by decide
  have h4 : IntKind.u32.max = 4294967295 := by decide
  exact ⟨a.toNat, by omega, by rw [Int.toNat_of_nonneg (by omega)]⟩
end Go.Proofs.Ytjijmgmobdoliaa
