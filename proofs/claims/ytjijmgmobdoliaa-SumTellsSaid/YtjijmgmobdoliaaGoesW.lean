/- SumGoes walked. -/
import Derived.Test.YtjijmgmobdoliaaSmall
namespace Go.Proofs.Ytjijmgmobdoliaa
open Go.RowKit

theorem bs_append (a b : List UInt8) : bs a ++ bs b = bs (a ++ b) := by
  unfold bs
  rw [ByteArray.mk_append_mk]
theorem crc_bs (l : List UInt8) (w : World) (hl : l.length ≤ maxLen) : Calls Try.prog 10 #[.string (bs l)] w fun e w' => e = .returned (.int .u32 (Sm.crc l : Nat)) ∧ w' = w := Crc_c (bs l) w hl

set_option maxHeartbeats 4000000 in
theorem sumGoes_w (a : ByteArray) (ha : a.data.toList.length ≤ 140737488355328) (b : ByteArray) (hb : b.data.toList.length ≤ 140737488355328) (t : ByteArray) (ht : t.data.toList.length ≤ 140737488355328) (w : World) :
    Calls Try.prog 5 #[.string a, .string b, .string t] w fun e w' => e = .returned (.bool true) ∧ Below w.heap.size w w' := by
  rw [bs_of (t := a) rfl, bs_of (t := b) rfl, bs_of (t := t) rfl]
  generalize a.data.toList = A at *
  generalize b.data.toList = B at *
  generalize t.data.toList = T at *
  have hg := Sm.goes A B T
  have sa := bs_size A
  have sb := bs_size B
  have st := bs_size T
  by_cases h1 : A.length ≤ 1000 ∧ B.length ≤ 1000 ∧ T.length ≤ 1000
  · obtain ⟨h1, h2, h3⟩ := h1
    have c1 := fun u => crc_bs A u (by unfold maxLen; omega)
    have c2 := fun u => crc_bs B u (by unfold maxLen; omega)
    have c3 := fun u => crc_bs (A ++ T) u (by unfold maxLen; rw [List.length_append]; omega)
    have c4 := fun u => crc_bs (B ++ T) u (by unfold maxLen; rw [List.length_append]; omega)
    have a1 := bs_append A T
    have a2 := bs_append B T
    have hq : ((((Sm.crc A : Nat) : Int) == ((Sm.crc B : Nat) : Int)) == (((Sm.crc (A ++ T) : Nat) : Int) == ((Sm.crc (B ++ T) : Nat) : Int))) = true := by
      rw [beq_iff_eq, Bool.eq_iff_iff]
      simp only [beq_iff_eq]
      omega
    generalize Sm.crc A = x1 at c1 hq
    generalize Sm.crc B = x2 at c2 hq
    generalize Sm.crc (A ++ T) = x3 at c3 hq
    generalize Sm.crc (B ++ T) = x4 at c4 hq
    have C1 := Lib.hid c1
    have C2 := Lib.hid c2
    have C3 := Lib.hid c3
    have C4 := Lib.hid c4
    have HQ := Lib.hid hq
    clear c1 c2 c3 c4 hq hg
    go_enter Try.func5, Try.ntmps5
    go_wp2_with (first
      | (go_at_call 7; refine (small_c _).mono ?_; rintro e w1 ⟨rfl, b1⟩)
      | (go_at_call 10; (with_reducible show Calls _ _ #[.string (bs A)] _ _); refine (C1.out _).mono ?_; rintro e u1 ⟨rfl, rfl⟩)
      | (go_at_call 10; (with_reducible show Calls _ _ #[.string (bs B)] _ _); refine (C2.out _).mono ?_; rintro e u1 ⟨rfl, rfl⟩)
      | (go_at_call 10; (with_reducible show Calls _ _ #[.string (bs (A ++ T))] _ _); refine (C3.out _).mono ?_; rintro e u1 ⟨rfl, rfl⟩)
      | (go_at_call 10; (with_reducible show Calls _ _ #[.string (bs (B ++ T))] _ _); refine (C4.out _).mono ?_; rintro e u1 ⟨rfl, rfl⟩))
    go_ret
    refine ⟨?_, b1⟩
    rw [← HQ.out]
    rfl
  · have hor : (1000 : Int) < (A.length : Int) ∨ (A.length : Int) ≤ 1000 ∧ (1000 : Int) < (B.length : Int) ∨ (A.length : Int) ≤ 1000 ∧ (B.length : Int) ≤ 1000 ∧ (1000 : Int) < (T.length : Int) := by omega
    clear h1 hg
    rcases hor with h | ⟨h, h'⟩ | ⟨h, h', h''⟩
    all_goals
      go_enter Try.func5, Try.ntmps5
      go_wp2_with (go_at_call 7; refine (small_c _).mono ?_; rintro e w1 ⟨rfl, b1⟩)
      go_ret
      exact ⟨rfl, b1⟩
end Go.Proofs.Ytjijmgmobdoliaa
