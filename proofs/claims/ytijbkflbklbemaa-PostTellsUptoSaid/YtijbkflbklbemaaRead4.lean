/- Text, Left, Done and Open of both readers. -/
import Derived.Test.YtijbkflbklbemaaRead3
namespace Go.Proofs.Ytijbkflbklbemaa
open Go.RowKit

theorem Left_c (b : Nat) (st : Vi.St) (w : World) (h : Rd 76 w b st) :
    Calls Try.prog 35 #[.pointer (some ⟨b, 0, none⟩)] w fun e w' => e = .returned (.int .i64 (st.1.length : Nat)) ∧ w = w' := by
  obtain ⟨s, hs, hb⟩ := h
  have c0 : w.cell? ⟨b, 0, none⟩ = some (.string s) := by rw [Lib.cell_of_heap hb]; rfl
  have hz : s.size = st.1.length := by rw [← hs]; rfl
  have HZ := Lib.hid hz; clear hz hs
  go_enter Try.func35, Try.ntmps35
  go_wp2
  go_ret
  exact ⟨by rw [← HZ.out]; rfl, rfl⟩
theorem LeftR_c (b : Nat) (st : Vi.St) (w : World) (h : Rd 78 w b st) :
    Calls Try.prog 40 #[.pointer (some ⟨b, 0, none⟩)] w fun e w' => e = .returned (.int .i64 (st.1.length : Nat)) ∧ w = w' := by
  obtain ⟨s, hs, hb⟩ := h
  have c0 : w.cell? ⟨b, 0, none⟩ = some (.string s) := by rw [Lib.cell_of_heap hb]; rfl
  have hz : s.size = st.1.length := by rw [← hs]; rfl
  have HZ := Lib.hid hz; clear hz hs
  go_enter Try.func40, Try.ntmps40
  go_wp2
  go_ret
  exact ⟨by rw [← HZ.out]; rfl, rfl⟩

/-- done? -/
def isDone (st : Vi.St) : Bool := !st.2 && st.1.isEmpty
theorem Done_c (b : Nat) (st : Vi.St) (w : World) (h : Rd 76 w b st) :
    Calls Try.prog 37 #[.pointer (some ⟨b, 0, none⟩)] w fun e w' => e = .returned (.bool (isDone st)) ∧ w = w' := by
  obtain ⟨s, hs, hb⟩ := h
  have c0 : w.cell? ⟨b, 0, none⟩ = some (.string s) := by rw [Lib.cell_of_heap hb]; rfl
  have c1 : w.cell? ⟨b, 1, none⟩ = some (.bool st.2) := by rw [Lib.cell_of_heap hb]; rfl
  have hz : s.size = st.1.length := by rw [← hs]; rfl
  cases k2 : st.2 with
  | true =>
    have hd : isDone st = false := by simp [isDone, k2]
    rw [k2] at c1
    clear k2 hs
    rw [hd]; clear hd hz
    go_enter Try.func37, Try.ntmps37
    go_wp2
    go_ret
    exact ⟨rfl, rfl⟩
  | false =>
    rw [k2] at c1
    by_cases k3 : s.size = 0
    · have hd : isDone st = true := by
        have : st.1 = [] := List.eq_nil_of_length_eq_zero (by omega)
        simp [isDone, k2, this]
      have K : ((s.size : Int) == 0) = true := by rw [k3]; rfl
      rw [hd]; clear hd k3 hz k2 hs
      go_enter Try.func37, Try.ntmps37
      go_wp2
      go_ret
      exact ⟨rfl, rfl⟩
    · have hd : isDone st = false := by
        have : st.1 ≠ [] := fun e => k3 (by rw [hz, e]; rfl)
        simp [isDone, this]
      have K : ((s.size : Int) == 0) = false := by rw [beq_eq_false_iff_ne]; omega
      rw [hd]; clear hd k3 hz k2 hs
      go_enter Try.func37, Try.ntmps37
      go_wp2
      go_ret
      exact ⟨rfl, rfl⟩
theorem DoneR_c (b : Nat) (st : Vi.St) (w : World) (h : Rd 78 w b st) :
    Calls Try.prog 41 #[.pointer (some ⟨b, 0, none⟩)] w fun e w' => e = .returned (.bool (isDone st)) ∧ w = w' := by
  obtain ⟨s, hs, hb⟩ := h
  have c0 : w.cell? ⟨b, 0, none⟩ = some (.string s) := by rw [Lib.cell_of_heap hb]; rfl
  have c1 : w.cell? ⟨b, 1, none⟩ = some (.bool st.2) := by rw [Lib.cell_of_heap hb]; rfl
  have hz : s.size = st.1.length := by rw [← hs]; rfl
  cases k2 : st.2 with
  | true =>
    have hd : isDone st = false := by simp [isDone, k2]
    rw [k2] at c1
    clear k2 hs
    rw [hd]; clear hd hz
    go_enter Try.func41, Try.ntmps41
    go_wp2
    go_ret
    exact ⟨rfl, rfl⟩
  | false =>
    rw [k2] at c1
    by_cases k3 : s.size = 0
    · have hd : isDone st = true := by
        have : st.1 = [] := List.eq_nil_of_length_eq_zero (by omega)
        simp [isDone, k2, this]
      have K : ((s.size : Int) == 0) = true := by rw [k3]; rfl
      rw [hd]; clear hd k3 hz k2 hs
      go_enter Try.func41, Try.ntmps41
      go_wp2
      go_ret
      exact ⟨rfl, rfl⟩
    · have hd : isDone st = false := by
        have : st.1 ≠ [] := fun e => k3 (by rw [hz, e]; rfl)
        simp [isDone, this]
      have K : ((s.size : Int) == 0) = false := by rw [beq_eq_false_iff_ne]; omega
      rw [hd]; clear hd k3 hz k2 hs
      go_enter Try.func41, Try.ntmps41
      go_wp2
      go_ret
      exact ⟨rfl, rfl⟩

theorem Open_c (s : ByteArray) (w : World) :
    Calls Try.prog 33 #[.string s] w fun e w' => e = .returned (.pointer (some ⟨w.heap.size, 0, none⟩)) ∧ Rd 76 w' w.heap.size (s.data.toList, false) ∧ Below w.heap.size w w' ∧ w.heap.size < w'.heap.size := by
  go_enter Try.func33, Try.ntmps33
  go_wp2
  go_ret
  exact ⟨rfl, ⟨s, rfl, heap_alloc_new _ _⟩, (Below.refl _ _).alloc (Nat.le_refl _) _, by simp⟩
theorem OpenR_c (s : ByteArray) (w : World) :
    Calls Try.prog 38 #[.string s] w fun e w' => e = .returned (.pointer (some ⟨w.heap.size, 0, none⟩)) ∧ Rd 78 w' w.heap.size (s.data.toList, false) ∧ Below w.heap.size w w' ∧ w.heap.size < w'.heap.size := by
  go_enter Try.func38, Try.ntmps38
  go_wp2
  go_ret
  exact ⟨rfl, ⟨s, rfl, heap_alloc_new _ _⟩, (Below.refl _ _).alloc (Nat.le_refl _) _, by simp⟩
end Go.Proofs.Ytijbkflbklbemaa
