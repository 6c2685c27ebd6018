/- Walks: the reference's tables. -/
import Derived.Test.YtjijmgmobdoliaaOwn
import Derived.Test.YtjijmgmobdoliaaRefS
import Derived.Laws.OwnMore
namespace Go.Proofs.Ytjijmgmobdoliaa
open Go.RowKit

/-- a row of words that the call has made -/
def RowU (B : Nat) (L : List Nat) (w : World) (e : Ending) (w' : World) : Prop :=
  ∃ g cap, e = .returned (.slice (some ⟨g, 0, none⟩) L.length cap) ∧ w'.ownsRow B 27 1 (.slice (some ⟨g, 0, none⟩) L.length cap) L.length (L.map uv) ∧ Below B w w'
set_option maxHeartbeats 4000000 in
set_option maxRecDepth 100000 in
theorem RFirsts_c (w : World) : Calls Try.prog 24 #[] w (RowU w.heap.size Sm.H w) := by
  go_enter Try.func24, Try.ntmps24
  go_wp2_with fail
  go_ret
  exact ⟨_, _, rfl, World.ownsRow_lit w (Sm.H.map uv).toArray 8 (Nat.le_refl _) (by decide) rfl, (Below.refl _ _).alloc (Nat.le_refl _) _⟩
set_option maxHeartbeats 4000000 in
set_option maxRecDepth 100000 in
theorem RAdds_c (w : World) : Calls Try.prog 35 #[] w (RowU w.heap.size Sm.K w) := by
  go_enter Try.func35, Try.ntmps35
  go_wp2_with fail
  go_ret
  exact ⟨_, _, rfl, World.ownsRow_lit w (Sm.K.map uv).toArray 64 (Nat.le_refl _) (by decide) rfl, (Below.refl _ _).alloc (Nat.le_refl _) _⟩
end Go.Proofs.Ytjijmgmobdoliaa
