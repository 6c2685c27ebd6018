/- fail and Take of both readers. -/
import Derived.Test.YtipehfidphgbbaaProg
import Derived.Test.YtipehfidphgbbaaRead0
import Derived.BigGuardPart
import Derived.Lib.Strings
import Derived.Lib.IndexBytes
namespace Go.Proofs.Ytipehfidphgbbaa
open Go.RowKit

theorem empty_data : (⟨#[]⟩ : ByteArray).data.toList = [] := rfl

theorem fail_c (b : Nat) (st : Vi.St) (w : World) (h : Rd 61 w b st) :
    Calls Try.prog 44 #[.pointer (some ⟨b, 0, none⟩)] w fun e w' => e = .returned (.tuple #[]) ∧ Rd 61 w' b ([], true) ∧ w.grownBy w' (some b) := by
  obtain ⟨s, hs, hb⟩ := h
  have c0 : w.cell? ⟨b, 0, none⟩ = some (.string s) := by rw [Lib.cell_of_heap hb]; rfl
  have c1 : w.cell? ⟨b, 1, none⟩ = some (.bool st.2) := by rw [Lib.cell_of_heap hb]; rfl
  have f0 : w.frozen? ⟨b, 0, none⟩ = false := Lib.frozen_of_heap hb 0
  have f1 : w.frozen? ⟨b, 1, none⟩ = false := Lib.frozen_of_heap hb 1
  clear hs
  go_enter Try.func44, Try.ntmps44
  go_wp2
  go_end0
  exact ⟨rfl, ⟨_, empty_data, blk_set (blk_set hb 0 _) 1 _⟩, grown_set (grown_set (grown_refl _ _) _ _) _ _⟩

theorem failR_c (b : Nat) (st : Vi.St) (w : World) (h : Rd 63 w b st) :
    Calls Try.prog 45 #[.pointer (some ⟨b, 0, none⟩)] w fun e w' => e = .returned (.tuple #[]) ∧ Rd 63 w' b ([], true) ∧ w.grownBy w' (some b) := by
  obtain ⟨s, hs, hb⟩ := h
  have c0 : w.cell? ⟨b, 0, none⟩ = some (.string s) := by rw [Lib.cell_of_heap hb]; rfl
  have c1 : w.cell? ⟨b, 1, none⟩ = some (.bool st.2) := by rw [Lib.cell_of_heap hb]; rfl
  have f0 : w.frozen? ⟨b, 0, none⟩ = false := Lib.frozen_of_heap hb 0
  have f1 : w.frozen? ⟨b, 1, none⟩ = false := Lib.frozen_of_heap hb 1
  clear hs
  go_enter Try.func45, Try.ntmps45
  go_wp2
  go_end0
  exact ⟨rfl, ⟨_, empty_data, blk_set (blk_set hb 0 _) 1 _⟩, grown_set (grown_set (grown_refl _ _) _ _) _ _⟩

set_option maxHeartbeats 1000000 in
theorem Take_c (b : Nat) (n : Int) (st : Vi.St) (w : World) (h : Rd 61 w b st) (hl : st.1.length ≤ maxLen) :
    Calls Try.prog 31 #[.pointer (some ⟨b, 0, none⟩), .int .i64 n] w fun e w' =>
      ∃ t : ByteArray, t.data.toList = (Vi.rTake n st).1 ∧ e = .returned (.string t) ∧ Rd 61 w' b (Vi.rTake n st).2 ∧ w.grownBy w' (some b) := by
  have h' := h
  obtain ⟨s, hs, hb⟩ := h'
  have c0 : w.cell? ⟨b, 0, none⟩ = some (.string s) := by rw [Lib.cell_of_heap hb]; rfl
  have c1 : w.cell? ⟨b, 1, none⟩ = some (.bool st.2) := by rw [Lib.cell_of_heap hb]; rfl
  have f0 : w.frozen? ⟨b, 0, none⟩ = false := Lib.frozen_of_heap hb 0
  have f1 : w.frozen? ⟨b, 1, none⟩ = false := Lib.frozen_of_heap hb 1
  have hz : s.size = st.1.length := by rw [← hs]; rfl
  have HS := Lib.hid hs; clear hs
  have HZ := Lib.hid hz; clear hz
  have hsz : s.size ≤ maxLen := by rw [HZ.out]; exact hl
  unfold maxLen at hsz
  have hd : ∀ k : Nat, (s.extract k s.size).data.toList = st.1.drop k := fun k => by rw [Lib.extract_to_end, HS.out]
  have ht : ∀ k : Nat, (s.extract 0 k).data.toList = st.1.take k := fun k => by rw [Lib.extract_data, HS.out]; simp
  have HD := Lib.hid hd; clear hd
  have HT := Lib.hid ht; clear ht
  by_cases k0 : n < 0
  · go_enter Try.func31, Try.ntmps31
    go_wp2_with (go_at_call 44; refine (fail_c b st _ h).mono ?_; rintro e w1 ⟨rfl, h1, g1⟩)
    go_ret
    unfold Vi.rTake
    rw [if_pos (.inl k0)]
    exact ⟨_, empty_data, rfl, h1, g1⟩
  · by_cases k1 : (s.size : Int) < n
    · go_enter Try.func31, Try.ntmps31
      go_wp2_with (go_at_call 44; refine (fail_c b st _ h).mono ?_; rintro e w1 ⟨rfl, h1, g1⟩)
      go_ret
      unfold Vi.rTake
      rw [if_pos (.inr (.inl (by rw [← HZ.out]; exact k1)))]
      exact ⟨_, empty_data, rfl, h1, g1⟩
    · cases k2 : st.2 with
      | true =>
        rw [k2] at c1
        have K2 := Lib.hid k2; clear k2
        go_enter Try.func31, Try.ntmps31
        go_wp2_with (go_at_call 44; refine (fail_c b st _ h).mono ?_; rintro e w1 ⟨rfl, h1, g1⟩)
        go_ret
        unfold Vi.rTake
        rw [if_pos (.inr (.inr K2.out))]
        exact ⟨_, empty_data, rfl, h1, g1⟩
      | false =>
        rw [k2] at c1
        have K2 := Lib.hid k2; clear k2
        go_enter Try.func31, Try.ntmps31
        go_wp2
        go_ret
        unfold Vi.rTake
        rw [if_neg (by rw [K2.out]; have := HZ.out; simp; omega)]
        refine ⟨_, HT.out _, rfl, ⟨_, HD.out n.toNat, ?_⟩, grown_set (grown_refl _ _) _ _⟩
        have := blk_set hb 0 (.string (s.extract n.toNat s.size))
        exact this

set_option maxHeartbeats 1000000 in
theorem TakeR_c (b : Nat) (n : Int) (st : Vi.St) (w : World) (h : Rd 63 w b st) (hl : st.1.length ≤ maxLen) :
    Calls Try.prog 32 #[.pointer (some ⟨b, 0, none⟩), .int .i64 n] w fun e w' =>
      ∃ t : ByteArray, t.data.toList = (Vi.rTake n st).1 ∧ e = .returned (.string t) ∧ Rd 63 w' b (Vi.rTake n st).2 ∧ w.grownBy w' (some b) := by
  have h' := h
  obtain ⟨s, hs, hb⟩ := h'
  have c0 : w.cell? ⟨b, 0, none⟩ = some (.string s) := by rw [Lib.cell_of_heap hb]; rfl
  have c1 : w.cell? ⟨b, 1, none⟩ = some (.bool st.2) := by rw [Lib.cell_of_heap hb]; rfl
  have f0 : w.frozen? ⟨b, 0, none⟩ = false := Lib.frozen_of_heap hb 0
  have f1 : w.frozen? ⟨b, 1, none⟩ = false := Lib.frozen_of_heap hb 1
  have hz : s.size = st.1.length := by rw [← hs]; rfl
  have HS := Lib.hid hs; clear hs
  have HZ := Lib.hid hz; clear hz
  have hsz : s.size ≤ maxLen := by rw [HZ.out]; exact hl
  unfold maxLen at hsz
  have hd : ∀ k : Nat, (s.extract k s.size).data.toList = st.1.drop k := fun k => by rw [Lib.extract_to_end, HS.out]
  have ht : ∀ k : Nat, (s.extract 0 k).data.toList = st.1.take k := fun k => by rw [Lib.extract_data, HS.out]; simp
  have HD := Lib.hid hd; clear hd
  have HT := Lib.hid ht; clear ht
  cases k2 : st.2 with
  | true =>
    rw [k2] at c1
    have K2 := Lib.hid k2; clear k2
    go_enter Try.func32, Try.ntmps32
    go_wp2_with (go_at_call 45; refine (failR_c b st _ h).mono ?_; rintro e w1 ⟨rfl, h1, g1⟩)
    go_ret
    unfold Vi.rTake
    rw [if_pos (.inr (.inr K2.out))]
    exact ⟨_, empty_data, rfl, h1, g1⟩
  | false =>
    rw [k2] at c1
    have K2 := Lib.hid k2; clear k2
    by_cases k0 : n < 0
    · go_enter Try.func32, Try.ntmps32
      go_wp2_with (go_at_call 45; refine (failR_c b st _ h).mono ?_; rintro e w1 ⟨rfl, h1, g1⟩)
      go_ret
      unfold Vi.rTake
      rw [if_pos (.inl k0)]
      exact ⟨_, empty_data, rfl, h1, g1⟩
    · by_cases k1 : (s.size : Int) < n
      · go_enter Try.func32, Try.ntmps32
        go_wp2_with (go_at_call 45; refine (failR_c b st _ h).mono ?_; rintro e w1 ⟨rfl, h1, g1⟩)
        go_ret
        unfold Vi.rTake
        rw [if_pos (.inr (.inl (by rw [← HZ.out]; exact k1)))]
        exact ⟨_, empty_data, rfl, h1, g1⟩
      · go_enter Try.func32, Try.ntmps32
        go_wp2
        go_ret
        unfold Vi.rTake
        rw [if_neg (by rw [K2.out]; have := HZ.out; simp; omega)]
        refine ⟨_, HT.out _, rfl, ⟨_, HD.out n.toNat, ?_⟩, grown_set (grown_refl _ _) _ _⟩
        have := blk_set hb 0 (.string (s.extract n.toNat s.size))
        exact this
end Go.Proofs.Ytipehfidphgbbaa
