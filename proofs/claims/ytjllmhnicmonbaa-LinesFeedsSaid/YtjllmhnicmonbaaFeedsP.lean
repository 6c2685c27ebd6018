/- LinesFeeds: for every input the law returns true, and its arguments read as they did. The walk is in the module that is imported; here it is closed to the given statement. -/
import Derived.Test.YtjllmhnicmonbaaRows
import Derived.Test.YtjllmhnicmonbaaOpenB
import Derived.Test.YtjllmhnicmonbaaFeedsW
namespace Go.Proofs.Ytjllmhnicmonbaa.linesFeedsRow
open Go.ChangeShapes Go.WideShapes Go.ChangeAt Go.RowKit
open Go.ChangeMaps (open_string shut_string)

theorem own : ownKnob Try.prog.godebug = none := by kernel_rfl
theorem laidOut : laidOutB Try.prog = true := by kernel_rfl

set_option maxRecDepth 100000 in
theorem lifted (os : Os) (started : os.Started) (H : Type) (enc : TypeId × Value → H) :
    ReturnsInHanded {} Try.checked os 4 .any (Rows.linesFeedsSpec.pre6 enc Try.prog Try.f4 Rows.linesFeedsRow.domain false) (Rows.linesFeedsSpec.post enc Try.prog Try.f4 false true false false) := by
  refine returnsInHanded_of_change_sized (C := Try.checked) own started (by kernel_rfl) Try.func4
    (ChangeSpec.witness6 (enc := enc) (C := Try.checked) false ⟨#[], #[.int .i64 0, .slice none 0 0], []⟩ 8 (by kernel_rfl) (by kernel_rfl) (by kernel_rfl) (by kernel_rfl)) ?_
  intro W base args ds gs before hval0 hW _ hsz _
  have hval : ∀ (j : Nat) t v, Try.f4.params[j]? = some t → args[j]? = some v → Value.okWide Try.prog W .any base t v := hval0
  have hW' := hW
  obtain ⟨p, q, hA0, hV, rfl, hfz, hnd⟩ := hW
  have hA : DataW.TrodAll enc Try.prog W 0 (fun _ => true) true Try.f4.params.toList args.toList ds p := hA0
  rw [Try.params4] at hA hval
  obtain ⟨v0, vs0, d0, ds0, p0, q0, hargs, rfl, rfl, h0, r0⟩ := trodAll_cons hA
  obtain ⟨v1, vs1, d1, ds1, p1, q1, rfl, rfl, rfl, h1, r1⟩ := trodAll_cons r0
  obtain ⟨rfl, rfl, rfl⟩ := trodAll_nil r1
  obtain rfl : args = #[v0, v1] := by cases args; simp_all
  obtain ⟨rfl, rfl⟩ := trodVars_none hV
  have s0 : Small Try.prog 3 d0 := small_of hsz (j := 0) (by kernel_rfl) rfl
  have k0 := h0
  have lt0 : ∀ x ∈ p0, x.block < W.heap.size := by obtain ⟨m, hm⟩ := k0; exact DataW.trod_lt m _ _ _ hm
  have s1 : Small Try.prog 24 d1 := small_of hsz (j := 1) (by kernel_rfl) rfl
  have k1 := h1
  have lt1 : ∀ x ∈ p1, x.block < W.heap.size := by obtain ⟨m, hm⟩ := k1; exact DataW.trod_lt m _ _ _ hm
  obtain ⟨a0, rfl, _, _, b0⟩ := open_int Try.underlying3 (hval 0 3 v0 rfl rfl) h0
  obtain ⟨A1, l1, c1, rfl⟩ := okWide_slice Try.underlying24 (hval 1 24 v1 rfl rfl)
  obtain ⟨u1, xs1, hu1, q1, b1, z1⟩ : ∃ (u : Value) (xs : List _), Value.slice A1 l1 c1 = u ∧ Seq W u (xs.map sv) ∧ (∀ y ∈ xs, y.length ≤ 140737488355328) ∧ xs.length ≤ 8796093022208 := by
    obtain ⟨fuel, hf⟩ := h1
    obtain ⟨u, xs, hu, r⟩ := rd_strs hf s1
    exact ⟨u, xs, cells_one (fun l => nofun) hu, r⟩
  rw [← hu1] at q1
  clear hA0 hval0
  refine (linesFeeds_w a0 (wf_bd b0) _ xs1 W q1 b1 z1).mono fun e W' ⟨he, bel⟩ => ?_
  subst he
  exact ⟨_, rfl, _, _, _, [], _, [], hW', trodAll_mk1 (shut_bool Try.underlying4 _), (trodAll_cons_mk (Below.trod laidOut (by kernel_rfl) (of_decide_eq_true (by kernel_rfl)) k0 bel lt0) (trodAll_cons_mk (Below.trod laidOut (by kernel_rfl) (of_decide_eq_true (by kernel_rfl)) k1 bel lt1) trodAll_mk0)), rfl, bel.frame _, fun h => by cases h⟩

theorem over : Rows.linesFeedsRow.holds Try.pinned (OpenSpec.ofChange Rows.linesFeedsSpec) :=
  OpenClaim.holds_of_wide 4 Try.f4 rfl rfl rfl rfl rfl rfl rfl ⟨rfl, rfl, rfl, rfl, rfl⟩ rfl rfl rfl rfl rfl (by kernel_rfl) Try.func4 (by kernel_rfl)
    (of_decide_eq_true (by kernel_rfl)) (by unfold Func.isWrapper; first | (rw [if_pos (by decide +kernel)]; kernel_rfl) | (rw [if_neg (by decide +kernel)]; exact ⟨rfl, rfl⟩))
    (fun os started H enc _ => lifted os started H enc)
end Go.Proofs.Ytjllmhnicmonbaa.linesFeedsRow
namespace Go.Proofs.Ytjllmhnicmonbaa
theorem linesFeeds_holds : Rows.LinesFeedsSaid := linesFeedsRow.over
#print axioms linesFeeds_holds
end Go.Proofs.Ytjllmhnicmonbaa
