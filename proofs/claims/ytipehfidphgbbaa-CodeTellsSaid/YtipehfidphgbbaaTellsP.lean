/- CodeTells: for every input the law returns true, and its arguments read as they did. The walk is in the module that is imported; here it is closed to the given statement. -/
import Derived.Test.YtipehfidphgbbaaRows
import Derived.Test.YtipehfidphgbbaaOpenB
import Derived.Test.YtipehfidphgbbaaTellsW
namespace Go.Proofs.Ytipehfidphgbbaa.codeTellsRow
open Go.ChangeShapes Go.WideShapes Go.ChangeAt Go.RowKit
open Go.ChangeMaps (open_string shut_string)

theorem own : ownKnob Try.prog.godebug = none := by kernel_rfl
theorem laidOut : laidOutB Try.prog = true := by kernel_rfl

set_option maxRecDepth 100000 in
theorem lifted (os : Os) (started : os.Started) (H : Type) (enc : TypeId × Value → H) :
    ReturnsInHanded {} Try.checked os 3 .any (Rows.codeTellsSpec.pre6 enc Try.prog Try.f3 Rows.codeTellsRow.domain false) (Rows.codeTellsSpec.post enc Try.prog Try.f3 false true false false) := by
  refine returnsInHanded_of_change_sized (C := Try.checked) own started (by kernel_rfl) Try.func3
    (ChangeSpec.witness6 (enc := enc) (C := Try.checked) false ⟨#[], #[.int .i64 0, .string ⟨#[]⟩, .slice none 0 0, .slice none 0 0], []⟩ 8 (by kernel_rfl) (by kernel_rfl) (by kernel_rfl) (by kernel_rfl)) ?_
  intro W base args ds gs before hval0 hW _ hsz _
  have hval : ∀ (j : Nat) t v, Try.f3.params[j]? = some t → args[j]? = some v → Value.okWide Try.prog W .any base t v := hval0
  have hW' := hW
  obtain ⟨p, q, hA0, hV, rfl, hfz, hnd⟩ := hW
  have hA : DataW.TrodAll enc Try.prog W 0 (fun _ => true) true Try.f3.params.toList args.toList ds p := hA0
  rw [Try.params3] at hA hval
  obtain ⟨v0, vs0, d0, ds0, p0, q0, hargs, rfl, rfl, h0, r0⟩ := trodAll_cons hA
  obtain ⟨v1, vs1, d1, ds1, p1, q1, rfl, rfl, rfl, h1, r1⟩ := trodAll_cons r0
  obtain ⟨v2, vs2, d2, ds2, p2, q2, rfl, rfl, rfl, h2, r2⟩ := trodAll_cons r1
  obtain ⟨v3, vs3, d3, ds3, p3, q3, rfl, rfl, rfl, h3, r3⟩ := trodAll_cons r2
  obtain ⟨rfl, rfl, rfl⟩ := trodAll_nil r3
  obtain rfl : args = #[v0, v1, v2, v3] := by cases args; simp_all
  obtain ⟨rfl, rfl⟩ := trodVars_none hV
  have s0 : Small Try.prog 3 d0 := small_of hsz (j := 0) (by kernel_rfl) rfl
  have k0 := h0
  have lt0 : ∀ x ∈ p0, x.block < W.heap.size := by obtain ⟨m, hm⟩ := k0; exact DataW.trod_lt m _ _ _ hm
  have s1 : Small Try.prog 9 d1 := small_of hsz (j := 1) (by kernel_rfl) rfl
  have k1 := h1
  have lt1 : ∀ x ∈ p1, x.block < W.heap.size := by obtain ⟨m, hm⟩ := k1; exact DataW.trod_lt m _ _ _ hm
  have s2 : Small Try.prog 22 d2 := small_of hsz (j := 2) (by kernel_rfl) rfl
  have k2 := h2
  have lt2 : ∀ x ∈ p2, x.block < W.heap.size := by obtain ⟨m, hm⟩ := k2; exact DataW.trod_lt m _ _ _ hm
  have s3 : Small Try.prog 23 d3 := small_of hsz (j := 3) (by kernel_rfl) rfl
  have k3 := h3
  have lt3 : ∀ x ∈ p3, x.block < W.heap.size := by obtain ⟨m, hm⟩ := k3; exact DataW.trod_lt m _ _ _ hm
  obtain ⟨a0, rfl, _, _, b0⟩ := open_int Try.underlying3 (hval 0 3 v0 rfl rfl) h0
  obtain ⟨a1, rfl, rfl, _, _⟩ := open_string Try.underlying9 (hval 1 9 v1 rfl rfl) h1
  have b1 : a1.data.toList.length ≤ 140737488355328 := Nat.le_trans (s1 _ (by simp [DataW.weights])) reach_le
  obtain ⟨A2, l2, c2, rfl⟩ := okWide_slice Try.underlying22 (hval 2 22 v2 rfl rfl)
  obtain ⟨u2, xs2, hu2, q2, b2, z2⟩ : ∃ (u : Value) (xs : List _), Value.slice A2 l2 c2 = u ∧ Seq W u (xs.map sv) ∧ (∀ y ∈ xs, y.length ≤ 140737488355328) ∧ xs.length ≤ 8796093022208 := by
    obtain ⟨fuel, hf⟩ := h2
    obtain ⟨u, xs, hu, r⟩ := rd_strs hf s2
    exact ⟨u, xs, cells_one (fun l => nofun) hu, r⟩
  rw [← hu2] at q2
  obtain ⟨A3, l3, c3, rfl⟩ := okWide_slice Try.underlying23 (hval 3 23 v3 rfl rfl)
  obtain ⟨u3, xs3, hu3, q3, b3, z3⟩ : ∃ (u : Value) (xs : List _), Value.slice A3 l3 c3 = u ∧ Seq W u (xs.map iv) ∧ (∀ y ∈ xs, -9223372036854775808 ≤ y ∧ y ≤ 9223372036854775807) ∧ xs.length ≤ 17592186044416 := by
    obtain ⟨fuel, hf⟩ := h3
    obtain ⟨u, xs, hu, r⟩ := rd_ints hf s3
    exact ⟨u, xs, cells_one (fun l => nofun) hu, r⟩
  rw [← hu3] at q3
  clear hA0 hval0
  refine (codeTells_w a0 (wf_bd b0) a1 b1 _ xs2 q2 b2 z2 _ xs3 q3 b3 z3 W).mono fun e W' ⟨he, bel⟩ => ?_
  subst he
  exact ⟨_, rfl, _, _, _, [], _, [], hW', trodAll_mk1 (shut_bool Try.underlying4 _), (trodAll_cons_mk (Below.trod laidOut (by kernel_rfl) (of_decide_eq_true (by kernel_rfl)) k0 bel lt0) (trodAll_cons_mk (Below.trod laidOut (by kernel_rfl) (of_decide_eq_true (by kernel_rfl)) k1 bel lt1) (trodAll_cons_mk (Below.trod laidOut (by kernel_rfl) (of_decide_eq_true (by kernel_rfl)) k2 bel lt2) (trodAll_cons_mk (Below.trod laidOut (by kernel_rfl) (of_decide_eq_true (by kernel_rfl)) k3 bel lt3) trodAll_mk0)))), rfl, bel.frame _, fun h => by cases h⟩

theorem over : Rows.codeTellsRow.holds Try.pinned (OpenSpec.ofChange Rows.codeTellsSpec) :=
  OpenClaim.holds_of_wide 3 Try.f3 rfl rfl rfl rfl rfl rfl rfl ⟨rfl, rfl, rfl, rfl, rfl⟩ rfl rfl rfl rfl rfl (by kernel_rfl) Try.func3 (by kernel_rfl)
    (of_decide_eq_true (by kernel_rfl)) (by unfold Func.isWrapper; first | (rw [if_pos (by decide +kernel)]; kernel_rfl) | (rw [if_neg (by decide +kernel)]; exact ⟨rfl, rfl⟩))
    (fun os started H enc _ => lifted os started H enc)
end Go.Proofs.Ytipehfidphgbbaa.codeTellsRow
namespace Go.Proofs.Ytipehfidphgbbaa
theorem codeTells_holds : Rows.CodeTellsSaid := codeTellsRow.over
#print axioms codeTells_holds
end Go.Proofs.Ytipehfidphgbbaa
