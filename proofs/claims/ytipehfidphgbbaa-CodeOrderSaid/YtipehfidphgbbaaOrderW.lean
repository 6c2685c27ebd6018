/- The walk of CodeOrder. -/
import Derived.Test.YtipehfidphgbbaaSmall
namespace Go.Proofs.Ytipehfidphgbbaa
open Go.RowKit

theorem pre_iff {a b : Nat} (ha : a < 9223372036854775808) (hb : b < 9223372036854775808) : (Vi.vi b).take (Vi.vi a).length = Vi.vi a ↔ a = b := by
  constructor
  · intro h
    exact Vi.vi_prefix ha hb ((Vi.vi b).drop (Vi.vi a).length) (by conv => lhs; rw [← List.take_append_drop (Vi.vi a).length (Vi.vi b), h])
  · rintro rfl
    simp

set_option maxHeartbeats 4000000 in
set_option maxRecDepth 100000 in
theorem codeOrder_w (a : Int) (ha : I64 a) (b : Int) (hb : I64 b) (w : World) :
    Calls Try.prog 8 #[.int .i64 a, .int .i64 b] w fun e w' => e = .returned (.bool true) ∧ Below w.heap.size w w' := by
  unfold I64 at ha hb
  by_cases k0 : a < 0
  · have hx : bs (Vi.eNum a) = ⟨#[]⟩ := congrArg bs (by unfold Vi.eNum; rw [if_pos k0])
    have HX := Lib.hid hx; clear hx
    go_enter Try.func8, Try.ntmps8
    go_wp2_with fail
    refine (small_c w).mono ?_
    rintro e w1 ⟨rfl, h1⟩
    go_wp2_with fail
    refine (enc_c a w1 ha.1 ha.2).mono ?_
    rintro e w2 ⟨rfl, h2⟩
    rw [HX.out]
    go_wp2_with fail
    refine (enc_c b w2 hb.1 hb.2).mono ?_
    rintro e w3 ⟨rfl, h3⟩
    go_wp2_with fail
    go_ret
    exact ⟨rfl, chain (chain h1 h2) h3⟩
  · by_cases k1 : b < 0
    · have e0 : decide (a < 0) = false := by simp; omega
      have e1 : decide (0 ≤ a) = true := by simp; omega
      go_enter Try.func8, Try.ntmps8
      go_wp2_with fail
      refine (small_c w).mono ?_
      rintro e w1 ⟨rfl, h1⟩
      go_wp2_with fail
      refine (enc_c a w1 ha.1 ha.2).mono ?_
      rintro e w2 ⟨rfl, h2⟩
      go_wp2_with fail
      refine (enc_c b w2 hb.1 hb.2).mono ?_
      rintro e w3 ⟨rfl, h3⟩
      go_wp2_with fail
      go_ret
      exact ⟨rfl, chain (chain h1 h2) h3⟩
    · have e0 : decide (a < 0) = false := by simp; omega
      have e1 : decide (b < 0) = false := by simp; omega
      by_cases k2 : b < a
      · have e2 : decide (0 ≤ a) = true := by simp; omega
        go_enter Try.func8, Try.ntmps8
        go_wp2_with fail
        refine (small_c w).mono ?_
        rintro e w1 ⟨rfl, h1⟩
        go_wp2_with fail
        refine (enc_c a w1 ha.1 ha.2).mono ?_
        rintro e w2 ⟨rfl, h2⟩
        go_wp2_with fail
        refine (enc_c b w2 hb.1 hb.2).mono ?_
        rintro e w3 ⟨rfl, h3⟩
        go_wp2_with fail
        go_ret
        exact ⟨rfl, chain (chain h1 h2) h3⟩
      · have e2 : decide (b < a) = false := by simp; omega
        have hA : Vi.eNum a = Vi.vi a.toNat := by unfold Vi.eNum; rw [if_neg k0]
        have hB : Vi.eNum b = Vi.vi b.toNat := by unfold Vi.eNum; rw [if_neg k1]
        have l1 := Vi.vi_len a.toNat
        have l2 := Vi.vi_len b.toNat
        have l3 : (Vi.vi a.toNat).length ≤ (Vi.vi b.toNat).length := Vi.viF_mono 8 _ _ (by omega)
        have hp := pre_iff (a := a.toNat) (b := b.toNat) (by omega) (by omega)
        rw [← hA, ← hB] at hp
        rw [← hA] at l1
        rw [← hB] at l2
        rw [← hA, ← hB] at l3
        clear hA hB
        have s1 : (bs (Vi.eNum a)).size = (Vi.eNum a).length := rfl
        have s2 : (bs (Vi.eNum b)).size = (Vi.eNum b).length := rfl
        rw [← s1] at l1 l3
        rw [← s2] at l2 l3
        have hp2 : ((bs (Vi.eNum b)).extract 0 (bs (Vi.eNum a)).size = bs (Vi.eNum a)) ↔ a = b := by
          have e3 : (bs (Vi.eNum b)).extract 0 (bs (Vi.eNum a)).size = bs ((Vi.eNum b).take (Vi.eNum a).length) := bs_of (by rw [Lib.extract_data]; simp [bs_data, bs_size])
          rw [e3]
          constructor
          · intro h
            have := hp.1 (bs_inj h)
            omega
          · rintro rfl
            rw [hp.2 rfl]
        clear hp s1 s2
        have HP := Lib.hid hp2; clear hp2
        obtain ⟨l1, l1'⟩ := l1
        obtain ⟨l2, l2'⟩ := l2
        go_enter Try.func8, Try.ntmps8
        go_wp2_with fail
        refine (small_c w).mono ?_
        rintro e w1 ⟨rfl, h1⟩
        go_wp2_with fail
        refine (enc_c a w1 ha.1 ha.2).mono ?_
        rintro e w2 ⟨rfl, h2⟩
        go_wp2_with fail
        refine (enc_c b w2 hb.1 hb.2).mono ?_
        rintro e w3 ⟨rfl, h3⟩
        generalize bs (Vi.eNum a) = X at *
        generalize bs (Vi.eNum b) = Y at *
        by_cases k3 : a = b
        · have hx : Y.extract 0 X.size = X := HP.out.2 k3
          have hx2 : ((Y.extract 0 X.size).toList == X.toList) = true := by rw [hx]; simp
          clear hx
          have k3' : (a == b) = true := by simpa using k3
          have d1 : decide (Y.size < X.size) = false := by simp; omega
          have d2 : decide ((9 : Int) < (Y.size : Int)) = false := by simp; omega
          have d3 : decide ((X.size : Int) < 1) = false := by simp; omega
          have HK := Lib.hid k3; clear k3
          go_wp2
          go_ret
          exact ⟨rfl, chain (chain h1 h2) h3⟩
        · have hx : Y.extract 0 X.size ≠ X := fun h => k3 (HP.out.1 h)
          have hx2 : ((Y.extract 0 X.size).toList == X.toList) = false := by rw [beq_eq_false_iff_ne]; exact fun e => hx (toList_inj e)
          clear hx
          have k3' : (a == b) = false := by simpa using k3
          have d1 : decide (Y.size < X.size) = false := by simp; omega
          have d2 : decide ((9 : Int) < (Y.size : Int)) = false := by simp; omega
          have d3 : decide ((X.size : Int) < 1) = false := by simp; omega
          clear k3
          go_wp2
          go_ret
          exact ⟨rfl, chain (chain h1 h2) h3⟩
end Go.Proofs.Ytipehfidphgbbaa
