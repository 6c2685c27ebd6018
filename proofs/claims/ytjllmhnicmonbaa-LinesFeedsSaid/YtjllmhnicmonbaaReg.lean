/- A region that draws its order, in a round of a range over a function: the loads are taken first there too. -/
import Derived.Test.YtjllmhnicmonbaaMap
import Derived.Deep.RegionHeld3
namespace Go.Proofs.Ytjllmhnicmonbaa
open Go Go.RowKit

section
variable {P : Program} {ops : Array Oper} {Q : Exit → Act → World → Prop} {md : Region.Mode} {S : World → Prop} {l n : Nat}
theorem uponIn_of_upon {o : Oper} {a : Act} {K : Act → World → Prop} {r : Result Next} (h : o.upon P a K Q r) : o.uponIn (Fence.wide.inRound l) n P a K Q r := by
  cases r with
  | ok x w' =>
    cases x <;> simp only [Oper.upon] at h <;> simp only [Oper.uponIn]
    case value => exact h
    case skip => exact h
    case defer => exact h
    case enter f args =>
      refine ⟨fun e => by simp [Fence.inRound, Fence.wide] at e, ?_⟩
      refine (CallsIn.inRound l (callsIn_wide.2 h)).mono ?_
      intro e w'' he
      cases e <;> exact he
    case row row args => exact ⟨fun e => by simp [Fence.inRound, Fence.wide] at e, (show RowsIn Fence.wide (n - 1) P row args w' _ from fun c cs _ => let ⟨v, w1, r, s⟩ := h c cs; ⟨v, w1, r, stepsIn_wide.2 s⟩)⟩
  | halt x w' => cases x <;> simp only [Oper.upon] at h <;> simp only [Oper.uponIn] <;> exact h
/-- no operation of the region is a defer statement -/
theorem wpAnyIn_of (hnd : ∀ (i : Nat) (o : Oper) c, ops[i]? = some o → o.op ≠ .defer c) (hQ : ∀ a w, ¬ Q .outgrown a w) :
    ∀ (fuel : Nat) (listed : Array Bool) (a : Act) (w : World), wpAny P md ops Q fuel listed a w → wpAnyIn (Fence.wide.inRound l) n P md ops Q fuel listed a w
  | 0, _, _, _, h => h
  | fuel + 1, listed, a, w, h => by
    refine ⟨h.1, fun i hi => ?_⟩
    have h2 := h.2 i hi
    unfold wpOp at h2
    unfold wpOpIn
    cases ho : ops[i]? with
    | none =>
      rw [ho] at h2
      exact wpAnyIn_of hnd hQ fuel _ a w h2
    | some o =>
      rw [ho] at h2
      simp only at h2 ⊢
      split
      · rename_i hw
        rw [if_pos hw] at h2
        rcases h2 with h2 | ⟨_, a0, w0, hq⟩
        · refine Oper.wpIn_mono (fun a w => wpAnyIn_of hnd hQ fuel _ a w) ⟨fun _ _ => trivial, ?_⟩
          show Oper.uponIn _ _ _ _ _ _ _ ((Oper.semAt (some l) a.eval o).run P w)
          rw [Oper.semAt_some l _ _ (fun c => hnd i o c ho)]
          exact uponIn_of_upon h2
        · exact absurd hq (hQ a0 w0)
      · rename_i hw
        rw [if_neg hw] at h2
        exact ⟨fun _ _ => trivial, wpAnyIn_of hnd hQ fuel _ _ w h2⟩
def noDefer (ops : Array Oper) : Bool := ops.toList.all fun o => match o.op with
  | .defer _ => false
  | _ => true
theorem noDefer_spec {ops : Array Oper} (h : noDefer ops = true) (i : Nat) (o : Oper) (c : Call) (ho : ops[i]? = some o) : o.op ≠ .defer c := by
  intro e
  have h1 := List.all_eq_true.1 h o (List.mem_of_getElem? (i := i) (by simpa using ho))
  rw [e] at h1
  cases h1
theorem wpIn_region_held {id : Nat} {a : Act} {w : World} (hm : P.follows .mixedOrders = true) (hnd : noDefer ops = true) (hQ : ∀ a w, ¬ Q .outgrown a w) (hS : S w.drew)
    (h : S w.drew → wpAnyH P .any ops Q S ops.size (Array.replicate ops.size false) a w.drew) : (Code.region id ops true).wpIn (Fence.wide.inRound l) n P Q a w :=
  wpIn_region_any hm (wpAnyIn_of (noDefer_spec hnd) hQ _ _ _ _ (wpAny_of_held _ _ _ _ (h hS)))
end
end Go.Proofs.Ytjllmhnicmonbaa
