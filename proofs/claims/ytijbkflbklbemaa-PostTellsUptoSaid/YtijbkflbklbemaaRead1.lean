/- fail and Take of both readers. -/
import Derived.Test.YtijbkflbklbemaaProg
import Derived.Test.YtijbkflbklbemaaRead0
import Derived.BigGuardPart
import Derived.Lib.Strings
import Derived.Lib.IndexBytes
namespace Go.Proofs.Ytijbkflbklbemaa
open Go.RowKit

theorem empty_data : (⟨#[]⟩ : ByteArray).data.toList = [] := rfl

theorem fail_c (b : Nat) (st : Vi.St) (w : World) (h : Rd 76 w b st) :
    Calls Try.prog 55 #[.pointer (some ⟨b, 0, none⟩)] w fun e w' => e = .returned (.tuple #[]) ∧ Rd 76 w' b ([], true) ∧ w.grownBy w' (some b) := by
  obtain ⟨s, hs, hb⟩ := h
  have c0 : w.cell? ⟨b, 0, none⟩ = some (.string s) := by rw [Lib.cell_of_heap hb]; rfl
  have c1 : w.cell? ⟨b, 1, none⟩ = some (.bool st.2) := by rw [Lib.cell_of_heap hb]; rfl
  have f0 : w.frozen? ⟨b, 0, none⟩ = false := Lib.frozen_of_heap hb 0
  have f1 : w.frozen? ⟨b, 1, none⟩ = false := Lib.frozen_of_heap hb 1
  clear hs
  go_enter Try.func55, Try.ntmps55
  go_wp2
  go_end0
  exact ⟨rfl, ⟨_, empty_data, blk_set (blk_set hb 0 _) 1 _⟩, grown_set (grown_set (grown_refl _ _) _ _) _ _⟩

theorem failR_c (b : Nat) (st : Vi.St) (w : World) (h : Rd 78 w b st) :
    Calls Try.prog 56 #[.pointer (some ⟨b, 0, none⟩)] w fun e w' => e = .returned (.tuple #[]) ∧ Rd 78 w' b ([], true) ∧ w.grownBy w' (some b) := by
  obtain ⟨s, hs, hb⟩ := h
  have c0 : w.cell? ⟨b, 0, none⟩ = some (.string s) := by rw [Lib.cell_of_heap hb]; rfl
  have c1 : w.cell? ⟨b, 1, none⟩ = some (.bool st.2) := by rw [Lib.cell_of_heap hb]; rfl
  have f0 : w.frozen? ⟨b, 0, none⟩ = false := Lib.frozen_of_heap hb 0
  have f1 : w.frozen? ⟨b, 1, none⟩ = false := Lib.frozen_of_heap hb 1
  clear hs
  go_enter Try.func56, Try.ntmps56
  go_wp2
  go_end0
  exact ⟨rfl, ⟨_, empty_data, blk_set (blk_set hb 0 _) 1 _⟩, grown_set (grown_set (grown_refl _ _) _ _) _ _⟩

end Go.Proofs.Ytijbkflbklbemaa
