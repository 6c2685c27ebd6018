/- Walks: the reference's bare line. -/
import Derived.Test.YtjllmhnicmonbaaRefS
namespace Go.Proofs.Ytjllmhnicmonbaa
open Go Go.RowKit

set_option maxHeartbeats 4000000 in
theorem RBare_c (s : ByteArray) (w : World) (hs : s.size ≤ 1000000) :
    Calls Try.prog 14 #[.string s] w fun e w' => e = .returned (.string (bs (Ln.bare s.data.toList))) ∧ w' = w := by
  have hl : s.data.toList.length = s.size := rfl
  have hby : ∀ k (h : k < s.size), s[k] = s.data.toList.getD k 0 := fun k h => by
    rw [List.getD_eq_getElem?_getD, List.getElem?_eq_getElem (by rw [hl]; exact h)]
    rfl
  by_cases h0 : s.size = 0
  · have hb : bs (Ln.bare s.data.toList) = s := by
      rw [List.eq_nil_of_length_eq_zero (hl.trans h0)]
      exact (bs_of (List.eq_nil_of_length_eq_zero (hl.trans h0))).symm
    rw [hb]
    have e0 : ((s.size : Int) == 0) = true := by rw [beq_iff_eq]; omega
    clear hb hl hby h0
    go_enter Try.func14, Try.ntmps14
    go_wp2_with fail
    go_ret
    exact ⟨rfl, rfl⟩
  · have e0 : ((s.size : Int) == 0) = false := by rw [beq_eq_false_iff_ne]; omega
    have hlast : s.data.toList.getLast? = some (s.data.toList.getD (s.size - 1) 0) := by
      rw [List.getLast?_eq_getElem?, hl, List.getElem?_eq_getElem (by omega), List.getD_eq_getElem?_getD, List.getElem?_eq_getElem (by omega)]
      rfl
    have k1 : s.size - 1 < s.size := by omega
    have hb1 := hby (s.size - 1) k1
    have q0 : (0 : Int) ≤ (s.size : Int) - 1 := by omega
    have q1 : (s.size : Int) - 1 < (s.size : Int) := by omega
    have q2 : ((s.size : Int) - 1).toNat = s.size - 1 := by omega
    have q3 : (s.size : Int) - 1 ≤ (s.size : Int) := by omega
    by_cases h10 : s.data.toList.getD (s.size - 1) 0 = 10
    · have e1 : ((s[s.size - 1].toNat : Int) == 10) = true := byte_ten (by rw [hb1, h10]; rfl)
      have e2 : ((s[s.size - 1].toNat : Int) != 10) = false := by rw [bne, e1]; rfl
      have hends : Ln.ends s.data.toList = true := by unfold Ln.ends; rw [hlast, h10]; rfl
      by_cases h1 : s.size = 1
      · have hb : bs (Ln.bare s.data.toList) = s.extract 0 (s.size - 1) := by
          rw [extract_last]
          unfold Ln.bare
          rw [hends]
          have : s.data.toList.dropLast = [] := List.eq_nil_of_length_eq_zero (by rw [List.length_dropLast, hl]; omega)
          rw [this]
          rfl
        have HB := Lib.hid hb
        have e3 : decide ((1 : Int) < (s.size : Int)) = false := by rw [decide_eq_false_iff_not]; omega
        clear hb hl hby h0 hlast hb1 h10 hends h1
        go_enter Try.func14, Try.ntmps14
        go_wp2_with fail
        go_ret
        rw [HB.out]
        exact ⟨rfl, rfl⟩
      · have k2 : s.size - 2 < s.size := by omega
        have hb2 := hby (s.size - 2) k2
        have hlast2 : s.data.toList.dropLast.getLast? = some (s.data.toList.getD (s.size - 2) 0) := by
          rw [List.getLast?_eq_getElem?, List.length_dropLast, hl, List.getElem?_dropLast, hl, if_pos (by omega), List.getD_eq_getElem?_getD, show s.size - 1 - 1 = s.size - 2 from by omega, List.getElem?_eq_getElem (by omega)]
          rfl
        have e3 : decide ((1 : Int) < (s.size : Int)) = true := by rw [decide_eq_true_iff]; omega
        have r0 : (0 : Int) ≤ (s.size : Int) - 2 := by omega
        have r1 : (s.size : Int) - 2 < (s.size : Int) := by omega
        have r2 : ((s.size : Int) - 2).toNat = s.size - 2 := by omega
        have r3 : (s.size : Int) - 2 ≤ (s.size : Int) := by omega
        by_cases h13 : s.data.toList.getD (s.size - 2) 0 = 13
        · have e4 : ((s[s.size - 2].toNat : Int) == 13) = true := by rw [hb2, h13]; rfl
          have hb : bs (Ln.bare s.data.toList) = s.extract 0 (s.size - 2) := by
            unfold Ln.bare
            rw [hends, if_pos rfl, hlast2, h13, if_pos rfl]
            refine (bs_of ?_).symm
            rw [Lib.extract_data, List.dropLast_eq_take, List.dropLast_eq_take, List.length_take, List.take_take, hl]
            simp
            omega
          have HB := Lib.hid hb
          clear hb hl hby h0 hlast hb1 h10 hends h1 hb2 hlast2 h13
          go_enter Try.func14, Try.ntmps14
          go_wp2_with fail
          go_ret
          rw [HB.out]
          exact ⟨rfl, rfl⟩
        · have e4 : ((s[s.size - 2].toNat : Int) == 13) = false := by
            rw [hb2, beq_eq_false_iff_ne]
            intro e
            exact h13 (UInt8.toNat.inj (by show (s.data.toList.getD (s.size - 2) 0).toNat = 13; omega))
          have hb : bs (Ln.bare s.data.toList) = s.extract 0 (s.size - 1) := by
            rw [extract_last]
            unfold Ln.bare
            rw [hends, if_pos rfl, hlast2, if_neg (fun e => h13 (Option.some.inj e))]
          have HB := Lib.hid hb
          clear hb hl hby h0 hlast hb1 h10 hends h1 hb2 hlast2 h13
          go_enter Try.func14, Try.ntmps14
          go_wp2_with fail
          go_ret
          rw [HB.out]
          exact ⟨rfl, rfl⟩
    · have e1 : ((s[s.size - 1].toNat : Int) == 10) = false := byte_ten (by rw [hb1, beq_eq_false_iff_ne]; exact h10)
      have e2 : ((s[s.size - 1].toNat : Int) != 10) = true := by rw [bne, e1]; rfl
      have hends : Ln.ends s.data.toList = false := by unfold Ln.ends; rw [hlast, beq_eq_false_iff_ne]; exact fun e => h10 (Option.some.inj e)
      have hb : bs (Ln.bare s.data.toList) = s := by
        unfold Ln.bare
        rw [hends]
        exact bs_self s
      rw [hb]
      clear hb hl hby h0 hlast hb1 h10 hends
      go_enter Try.func14, Try.ntmps14
      go_wp2_with fail
      go_ret
      exact ⟨rfl, rfl⟩
end Go.Proofs.Ytjllmhnicmonbaa
