/- The reference's digests: read, compared. -/
import Derived.Test.YtjijmgmobdoliaaRefL
import Derived.Test.YtjijmgmobdoliaaOrderW
namespace Go.Proofs.Ytjijmgmobdoliaa
open Go.RowKit

set_option maxHeartbeats 4000000 in
theorem RLess_c (x y : List Nat) (w : World) (hx : x.length = 32) (hy : y.length = 32) :
    Calls Try.prog 17 #[.agg (x.map yv).toArray, .agg (y.map yv).toArray] w fun e w' => e = .returned (.bool (Hx.lt x y)) ∧ Below w.heap.size w w' := by
  have HX := Lib.hid hx
  have HY := Lib.hid hy
  clear hx hy
  go_enter Try.func17, Try.ntmps17
  go_wp2_with fail
  generalize hW : (w.alloc _).alloc _ = W
  obtain ⟨h1, h2, hb, hz⟩ := two_boxes _ _ _ _ hW
  have D1 := Lib.hid (show Dg W w.heap.size x from h1)
  have D2 := Lib.hid (show Dg W (w.heap.size + 1) y from h2)
  have HB := Lib.hid hb
  clear hW h1 h2 hb hz
  go_loopw [5] (fun iv wr => ∃ k : Nat, k ≤ 32 ∧ iv = .int .i64 k ∧ Hid (x.take k = y.take k) ∧ Hid (Dg wr w.heap.size x) ∧ Hid (Dg wr (w.heap.size + 1) y) ∧ Hid (Below w.heap.size w wr)) (fun iv _ => (32 - intOf iv).toNat)
  case atStart => exact ⟨0, by omega, rfl, Lib.hid rfl, D1, D2, HB⟩
  case round =>
    clear D1 D2 HB
    obtain ⟨k, hk, rfl, HT, D1, D2, HB⟩ := hrel
    by_cases k32 : k < 32
    · obtain ⟨a, ha⟩ : ∃ a, x[k]? = some a := ⟨_, List.getElem?_eq_getElem (by rw [HX.out]; exact k32)⟩
      obtain ⟨b, hb⟩ : ∃ b, y[k]? = some b := ⟨_, List.getElem?_eq_getElem (by rw [HY.out]; exact k32)⟩
      have c1 : wr.cell? ⟨w.heap.size, k, none⟩ = some (.int .u8 a) := by
        rw [Lib.cell_of_heap D1.out, List.getElem?_toArray, List.getElem?_map, ha]
        rfl
      have c2 : wr.cell? ⟨w.heap.size + 1, k, none⟩ = some (.int .u8 b) := by
        rw [Lib.cell_of_heap D2.out, List.getElem?_toArray, List.getElem?_map, hb]
        rfl
      have HA := Lib.hid ha
      have HBB := Lib.hid hb
      have k0 : (0 : Int) ≤ (k : Int) := by omega
      have k1 : (k : Int) < 32 := by omega
      clear ha hb
      by_cases hab : a = b
      · have e1 : ((a : Int) == (b : Int)) = true := by rw [beq_iff_eq, hab]
        have e2 : ((a : Int) != (b : Int)) = false := by rw [bne, e1]; rfl
        have ht : x.take (k + 1) = y.take (k + 1) := by rw [List.take_add_one, List.take_add_one, HT.out, HA.out, HBB.out, hab]
        have HT2 := Lib.hid ht
        clear ht hab
        go_wp2_with fail
        go_quiet (fail)
        generalize hV : World.drewN _ _ = V
        have d1 : Dg V w.heap.size x := by rw [← hV]; exact D1.out
        have d2 : Dg V (w.heap.size + 1) y := by rw [← hV]; exact D2.out
        have hb2 : Below w.heap.size w V := by rw [← hV]; exact ⟨HB.out.os, HB.out.tape, HB.out.output, HB.out.size, HB.out.block⟩
        have E1 := Lib.hid d1
        have E2 := Lib.hid d2
        have EB := Lib.hid hb2
        clear d1 d2 hb2 hV c1 c2
        go_wp2_with fail
        go_roundw
        case rel => exact ⟨k + 1, by omega, by go_num, HT2, E1, E2, EB⟩
        case measure => simp [intOf] <;> omega
      · have e1 : ((a : Int) == (b : Int)) = false := by rw [beq_eq_false_iff_ne]; omega
        have e2 : ((a : Int) != (b : Int)) = true := by rw [bne, e1]; rfl
        have hlt := Hx.lt_at k x y a b HT.out HA.out HBB.out hab
        have HL := Lib.hid hlt
        clear hlt
        go_wp2_with fail
        go_quiet (fail)
        generalize hV : World.drewN _ _ = V
        have d1 : Dg V w.heap.size x := by rw [← hV]; exact D1.out
        have d2 : Dg V (w.heap.size + 1) y := by rw [← hV]; exact D2.out
        have hb2 : Below w.heap.size w V := by rw [← hV]; exact ⟨HB.out.os, HB.out.tape, HB.out.output, HB.out.size, HB.out.block⟩
        have c3 : V.cell? ⟨w.heap.size, k, none⟩ = some (.int .u8 a) := by rw [← hV]; exact c1
        have c4 : V.cell? ⟨w.heap.size + 1, k, none⟩ = some (.int .u8 b) := by rw [← hV]; exact c2
        have EB := Lib.hid hb2
        clear d1 d2 hb2 hV c1 c2
        go_wp2_with fail
        go_quiet (fail)
        go_wp2_with fail
        go_ret
        rw [HL.out]
        exact ⟨by simp, ⟨EB.out.os, EB.out.tape, EB.out.output, EB.out.size, EB.out.block⟩⟩
    · obtain rfl : k = 32 := by omega
      have hxy : x = y := by
        have h := HT.out
        rw [List.take_of_length_le (by rw [HX.out]; exact Nat.le_refl _), List.take_of_length_le (by rw [HY.out]; exact Nat.le_refl _)] at h
        exact h
      have hlt : Hx.lt x y = false := by rw [hxy]; exact Hx.lt_irrefl y
      have HL := Lib.hid hlt
      clear hlt hxy
      go_wp2_with fail
      go_ret
      rw [HL.out]
      exact ⟨rfl, HB.out⟩

set_option maxHeartbeats 4000000 in
theorem rdigit_c (c : Nat) (hc : c < 256) (w : World) :
    Calls Try.prog 20 #[.int .u8 c] w fun e w' => e = .returned (.int .i64 (Hx.dr c : Nat)) ∧ w' = w := by
  by_cases h1 : 48 ≤ c ∧ c ≤ 57
  · have e : Hx.dr c = c - 48 := by unfold Hx.dr; rw [if_pos h1]
    have i1 : (48 : Int) ≤ (c : Int) := by omega
    have i2 : (c : Int) ≤ 57 := by omega
    have w1 : IntKind.u8.wrap ((c : Int) - 48) = (c : Int) - 48 := by rw [IntKind.wrap_u8]; omega
    have w2 : IntKind.i64.wrap ((c : Int) - 48) = (c : Int) - 48 := by rw [IntKind.wrap_i64]; omega
    have e2 : ((c - 48 : Nat) : Int) = (c : Int) - 48 := by omega
    rw [e, e2]
    clear e h1 e2
    go_enter Try.func20, Try.ntmps20
    go_wp2_with fail
    go_ret
    exact ⟨rfl, rfl⟩
  · by_cases h2 : 97 ≤ c ∧ c ≤ 102
    · have e : Hx.dr c = c - 87 := by unfold Hx.dr; rw [if_neg h1, if_pos h2]
      have i1 : (97 : Int) ≤ (c : Int) := by omega
      have i2 : (c : Int) ≤ 102 := by omega
      have i3 : (48 : Int) ≤ (c : Int) := by omega
      have i4 : ¬ (c : Int) ≤ 57 := by omega
      have w1 : IntKind.u8.wrap ((c : Int) - 97) = (c : Int) - 97 := by rw [IntKind.wrap_u8]; omega
      have w2 : IntKind.i64.wrap ((c : Int) - 97) = (c : Int) - 97 := by rw [IntKind.wrap_i64]; omega
      have w3 : IntKind.i64.wrap ((c : Int) - 97 + 10) = (c : Int) - 87 := by rw [IntKind.wrap_i64]; omega
      have e2 : ((c - 87 : Nat) : Int) = (c : Int) - 87 := by omega
      rw [e, e2]
      clear e h1 h2 e2
      go_enter Try.func20, Try.ntmps20
      go_wp2_with fail
      go_ret
      exact ⟨rfl, rfl⟩
    · have e : Hx.dr c = 16 := by unfold Hx.dr; rw [if_neg h1, if_neg h2]
      rw [e]
      have hor : (c : Int) < 48 ∨ (48 : Int) ≤ (c : Int) ∧ 57 < (c : Int) ∧ (c : Int) < 97 ∨ (48 : Int) ≤ (c : Int) ∧ 57 < (c : Int) ∧ 97 ≤ (c : Int) ∧ 102 < (c : Int) := by omega
      clear e h1 h2
      rcases hor with h | ⟨h, h', h''⟩ | ⟨h, h', h'', h3⟩
      all_goals
        go_enter Try.func20, Try.ntmps20
        go_wp2_with fail
        go_ret
        exact ⟨rfl, rfl⟩
end Go.Proofs.Ytjijmgmobdoliaa
