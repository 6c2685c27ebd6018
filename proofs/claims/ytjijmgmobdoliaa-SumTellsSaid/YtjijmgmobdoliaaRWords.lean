/- Walk: the reference's schedule of a block. -/
import Derived.Test.YtjijmgmobdoliaaPad
import Derived.Test.YtjijmgmobdoliaaTurn
namespace Go.Proofs.Ytjijmgmobdoliaa
open Go.RowKit

theorem row_valU {w : World} {b : Nat} {v : Value} {M : List Nat} {x : Int} {y : Nat} (r : w.ownsRow b 27 1 v (M.length + 1) (M.map uv ++ [.int .u32 x])) (h : x = (y : Int)) : w.ownsRow b 27 1 v (M ++ [y]).length ((M ++ [y]).map uv) := by
  subst h
  rw [List.length_append, List.map_append]
  exact r
theorem own_cell {w : World} {B g cap : Nat} {L : List Nat} (h : w.ownsRow B 27 1 (.slice (some ⟨g, 0, none⟩) L.length cap) L.length (L.map uv)) {j : Nat} (hj : j < L.length) : w.cell? ⟨g, j, none⟩ = some (.int .u32 (L.getD j 0 : Nat)) := by
  rw [h.cellAt j (by omega), List.getElem?_map, List.getElem?_eq_getElem hj, List.getD_eq_getElem?_getD, List.getElem?_eq_getElem hj]
  rfl
theorem wrap_u32_nat (x : Nat) (h : x < 4294967296) : IntKind.u32.wrap (x : Int) = (x : Int) := by rw [IntKind.wrap_u32]; omega
theorem wrap_u32_mul (x m : Nat) (h : x * m < 4294967296) : IntKind.u32.wrap ((x : Int) * (m : Int)) = (x : Int) * (m : Int) := by rw [← Int.natCast_mul]; exact wrap_u32_nat _ h
set_option maxHeartbeats 8000000 in
set_option maxRecDepth 100000 in
theorem RWords_c (B o n c : Nat) (bt : List Nat) (w : World) (hn : 64 ≤ n) (hl : bt.length = 64) (hb : ∀ x ∈ bt, x < 256) (hcell : ∀ i x, bt[i]? = some x → w.cell? ⟨B, o + i, none⟩ = some (yv x)) :
    Calls Try.prog 34 #[.slice (some ⟨B, o, none⟩) n c] w (RowU w.heap.size (Sm.sched bt) w) := by
  obtain ⟨i0, hi, hz0, hz1, hz2⟩ := info_parts infoWordM
  have HC := Lib.hid hcell; clear hcell
  go_enter Try.func34, Try.ntmps34
  go_wp2_with fail
  go_loopw [3, 4] (fun v i wr => ∃ (k : Nat) (L : List Nat), k ≤ 16 ∧ i = .int .i64 k ∧ L.length = k ∧ Hid (wr.ownsRow w.heap.size 27 1 v L.length (L.map uv)) ∧ Hid (∀ x ∈ L, x < 4294967296) ∧ Hid (Below w.heap.size w wr) ∧ Hid (Sm.ext bt (64 - k) L = Sm.sched bt)) (fun _ i _ => 16 - (intOf i).toNat)
  case atStart => exact ⟨0, [], by omega, rfl, rfl, Lib.hid (World.ownsRow_nil _ _ _ _), Lib.hid (by simp), Lib.hid (Below.refl _ _), Lib.hid rfl⟩
  case round =>
    obtain ⟨k, L, hk, rfl, hL, HO, HL, HB, HE⟩ := hrel
    have hwz := HB.out.size
    by_cases k16 : k < 16
    · have hnx := Sm.ext_step (by omega) HE.out
      have HN := Lib.hid hnx; clear hnx
      have hw : Sm.nxt bt L = Sm.word bt k := by unfold Sm.nxt; rw [hL, if_pos k16]
      rw [hw] at HN
      clear hw
      have hgd : ∀ W : World, Below w.heap.size w W → ∀ j, j < 64 → W.cell? ⟨B, o + j, none⟩ = some (.int .u8 (bt.getD j 0 : Nat)) := fun W hW j hj => cell_keep hW.block (by
        have := HC.out j (bt.getD j 0) (by rw [List.getD_eq_getElem?_getD, List.getElem?_eq_getElem (by omega)]; rfl)
        exact this)
      have hge : ∀ W : World, Below w.heap.size w W → W.cell? ⟨B, o + 4 * k, none⟩ = some (.int .u8 (bt.getD (4 * k) 0 : Nat)) ∧ W.cell? ⟨B, o + (4 * k + 1), none⟩ = some (.int .u8 (bt.getD (4 * k + 1) 0 : Nat)) ∧ W.cell? ⟨B, o + (4 * k + 2), none⟩ = some (.int .u8 (bt.getD (4 * k + 2) 0 : Nat)) ∧ W.cell? ⟨B, o + (4 * k + 3), none⟩ = some (.int .u8 (bt.getD (4 * k + 3) 0 : Nat)) := fun W hW =>
        ⟨hgd W hW _ (by omega), hgd W hW _ (by omega), hgd W hW _ (by omega), hgd W hW _ (by omega)⟩
      obtain ⟨g0, g1, g2, g3⟩ := hge wr HB.out
      have l0 := Sm.getD_lt (by decide) hb (4 * k)
      have l1 := Sm.getD_lt (by decide) hb (4 * k + 1)
      have l2 := Sm.getD_lt (by decide) hb (4 * k + 2)
      have l3 := Sm.getD_lt (by decide) hb (4 * k + 3)
      have hwd := Sm.be_lt l0 l1 l2 l3
      have hwe : Sm.word bt k = Sm.be (bt.getD (4 * k) 0) (bt.getD (4 * k + 1) 0) (bt.getD (4 * k + 2) 0) (bt.getD (4 * k + 3) 0) := rfl
      rw [hwe] at HN
      generalize bt.getD (4 * k) 0 = x0 at g0 l0 hwd HN hge
      generalize bt.getD (4 * k + 1) 0 = x1 at g1 l1 hwd HN hge
      generalize bt.getD (4 * k + 2) 0 = x2 at g2 l2 hwd HN hge
      generalize bt.getD (4 * k + 3) 0 = x3 at g3 l3 hwd HN hge
      have e1 := bits_or_u32 (x0 * 16777216) (x1 * 65536) (by omega) (by omega)
      have e2 := bits_or_u32 (x0 * 16777216 ||| x1 * 65536) (x2 * 256) (Sm.or_lt (by omega) (by omega)) (by omega)
      have e3 := bits_or_u32 ((x0 * 16777216 ||| x1 * 65536) ||| x2 * 256) x3 (Sm.or_lt (Sm.or_lt (by omega) (by omega)) (by omega)) (by omega)
      rw [Int.natCast_mul, Int.natCast_mul] at e1
      rw [Int.natCast_mul] at e2
      have e4 : bits .or .u32 (bits .or .u32 (bits .or .u32 ((x0 : Int) * 16777216) ((x1 : Int) * 65536)) ((x2 : Int) * 256)) (x3 : Int) = (Sm.be x0 x1 x2 x3 : Nat) := by
        rw [show ((x0 : Int) * 16777216) = ((x0 : Int) * ((16777216 : Nat) : Int)) from rfl, show ((x1 : Int) * 65536) = ((x1 : Int) * ((65536 : Nat) : Int)) from rfl, show ((x2 : Int) * 256) = ((x2 : Int) * ((256 : Nat) : Int)) from rfl, e1, e2, e3]
        rfl
      have E4 := Lib.hid e4
      have HGE := Lib.hid hge
      clear e1 e2 e3 e4 hwe hgd hge
      have i2 : (k : Int) < 16 := by omega
      have j0 : (0 : Int) ≤ 4 * (k : Int) := by omega
      have j1 : (4 * (k : Int)) < (n : Int) := by omega
      have j2 : (4 * (k : Int) + 1) < (n : Int) := by omega
      have j3 : (4 * (k : Int) + 2) < (n : Int) := by omega
      have j4 : (4 * (k : Int) + 3) < (n : Int) := by omega
      have j5 : (0 : Int) ≤ 4 * (k : Int) + 1 := by omega
      have j6 : (0 : Int) ≤ 4 * (k : Int) + 2 := by omega
      have j7 : (0 : Int) ≤ 4 * (k : Int) + 3 := by omega
      have t0 : (4 * (k : Int)).toNat = 4 * k := by omega
      have t1 : (4 * (k : Int) + 1).toNat = 4 * k + 1 := by omega
      have t2 : (4 * (k : Int) + 2).toNat = 4 * k + 2 := by omega
      have t3 : (4 * (k : Int) + 3).toNat = 4 * k + 3 := by omega
      have w0 : IntKind.i64.wrap (4 * (k : Int)) = 4 * (k : Int) := by rw [IntKind.wrap_i64]; omega
      have w1 : IntKind.i64.wrap (4 * (k : Int) + 1) = 4 * (k : Int) + 1 := by rw [IntKind.wrap_i64]; omega
      have w2 : IntKind.i64.wrap (4 * (k : Int) + 2) = 4 * (k : Int) + 2 := by rw [IntKind.wrap_i64]; omega
      have w3 : IntKind.i64.wrap (4 * (k : Int) + 3) = 4 * (k : Int) + 3 := by rw [IntKind.wrap_i64]; omega
      obtain ⟨A0, n0, c0, rfl⟩ := own_slice HO.out
      have HD := Lib.hid (show wr.drew.ownsRow w.heap.size 27 1 (.slice A0 n0 c0) L.length (L.map uv) from HO.out)
      have HBd := Lib.hid (HB.out.drew)
      go_wp2_with fail
      go_region_held3 (fun u => u.cell? ⟨B, o + 4 * k, none⟩ = some (.int .u8 x0) ∧ u.cell? ⟨B, o + (4 * k + 1), none⟩ = some (.int .u8 x1) ∧ u.cell? ⟨B, o + (4 * k + 2), none⟩ = some (.int .u8 x2) ∧ u.cell? ⟨B, o + (4 * k + 3), none⟩ = some (.int .u8 x3)) (first | exact ⟨g0, g1, g2, g3⟩ | go_keep | exact HGE.out _ E2.out)
        ((refine step_append_own rfl (.tmp 14) (.tmp 48) 49 rfl w.heap.size 27 i0 (.int .u32 0) 1 4 Try.underlying49 hi hz0 hz1 hz2 rfl (by decide) (.slice A0 n0 c0) L.length (L.map uv) (by simp [Act.eval]) (HD.out.alloc _) ⟨wr.drew.heap.size, 0, none⟩ 1 1 _ (by simp [Act.eval]) rfl (cell_one_new _ _ _) (by simp [Value.oneCell']) (by unfold maxLen; omega) (by omega) (by simp; omega) ?_; intro v' w' hown' hg; obtain ⟨A2, k2, c2, rfl⟩ := own_slice hown'; have E2 := Lib.hid (own_grown HD.out hg HBd.out (Nat.le_refl _)); have H2 := Lib.hid hown'; clear hown' hg))
      all_goals go_wp2_with fail
      go_roundw
      case rel =>
        have h3 := row_valU (y := Sm.be x0 x1 x2 x3) H2.out (by
          rw [wrap_u32_nat x0 (by omega), wrap_u32_nat x1 (by omega), wrap_u32_nat x2 (by omega), wrap_u32_nat x3 (by omega), (show IntKind.u32.wrap ((x0 : Int) * 16777216) = (x0 : Int) * 16777216 from wrap_u32_mul x0 16777216 (by omega)), (show IntKind.u32.wrap ((x1 : Int) * 65536) = (x1 : Int) * 65536 from wrap_u32_mul x1 65536 (by omega)), (show IntKind.u32.wrap ((x2 : Int) * 256) = (x2 : Int) * 256 from wrap_u32_mul x2 256 (by omega))]
          exact E4.out)
        refine ⟨k + 1, L ++ [Sm.be x0 x1 x2 x3], by omega, by go_num, by simp [hL], Lib.hid h3, Lib.hid ?_, E2, HN⟩
        intro x hx
        rcases List.mem_append.1 hx with hx | hx
        · exact HL.out x hx
        · obtain rfl := List.mem_singleton.1 hx; exact hwd
      case measure => simp [intOf] <;> omega
    · obtain rfl : k = 16 := by omega
      go_wp2_with fail
      rw [show ((16 : Nat) : Int) = 16 from rfl]
      go_loopw [3, 5, 6, 7, 8, 9] (fun v i _ _ _ _ wq => ∃ (k : Nat) (M : List Nat), 16 ≤ k ∧ k ≤ 64 ∧ i = .int .i64 k ∧ M.length = k ∧ Hid (wq.ownsRow w.heap.size 27 1 v M.length (M.map uv)) ∧ Hid (∀ x ∈ M, x < 4294967296) ∧ Hid (Below w.heap.size w wq) ∧ Hid (Sm.ext bt (64 - k) M = Sm.sched bt)) (fun _ i _ _ _ _ _ => 64 - (intOf i).toNat)
      case atStart => exact ⟨16, L, by omega, by omega, rfl, hL, HO, HL, HB, HE⟩
      case round =>
        clear HO HL HB HE hL hwz hk
        obtain ⟨k, M, hk6, hk, rfl, hL, HO, HL, HB, HE⟩ := hrel
        have hwz := HB.out.size
        by_cases k64 : k < 64
        · have hnx := Sm.ext_step k64 HE.out
          have HN := Lib.hid hnx; clear hnx
          obtain ⟨j, rfl⟩ : ∃ j, k = j + 16 := ⟨k - 16, by omega⟩
          have hn2 : Sm.nxt bt M = (M.getD j 0 + Sm.s0 (M.getD (j + 1) 0) + M.getD (j + 9) 0 + Sm.s1 (M.getD (j + 14) 0)) % 4294967296 := by
            unfold Sm.nxt
            rw [hL, if_neg (by omega), show j + 16 - 16 = j from by omega, show j + 16 - 15 = j + 1 from by omega, show j + 16 - 7 = j + 9 from by omega, show j + 16 - 2 = j + 14 from by omega]
          rw [hn2] at HN
          clear hn2
          have hlt : ∀ m, M.getD m 0 < 4294967296 := fun m => Sm.getD_lt (by decide) HL.out m
          obtain ⟨g, cap, rfl, hgl, _, _⟩ := own_form HO.out (by omega)
          have hce : ∀ m, m < j + 16 → wr.cell? ⟨g, m, none⟩ = some (.int .u32 (M.getD m 0 : Nat)) := fun m hm => own_cell HO.out (by omega)
          have cX := hce (j + 1) (by omega)
          have cY := hce (j + 14) (by omega)
          have cA := hce j (by omega)
          have cC := hce (j + 9) (by omega)
          have hX := hlt (j + 1)
          have hY := hlt (j + 14)
          have hA := hlt j
          have hCC := hlt (j + 9)
          generalize M.getD (j + 1) 0 = X at cX hX HN
          generalize M.getD (j + 14) 0 = Y at cY hY HN
          generalize M.getD j 0 = A at cA hA HN
          generalize M.getD (j + 9) 0 = C at cC hCC HN
          have i2 : (16 : Int) ≤ ((j + 16 : Nat) : Int) := by omega
          have hS := Sm.s0_lt hX
          have hD := Sm.s1_lt hY
          have e0 : bits .xor .u32 (bits .xor .u32 (Sm.rot 7 X : Nat) (Sm.rot 18 X : Nat)) ((X : Int) / 8) = (Sm.s0 X : Nat) := by
            rw [bits_xor_u32 _ _ (Sm.rot_lt hX) (Sm.rot_lt hX)]
            exact bits_xor_u32 _ (X / 8) (Sm.xor_lt (Sm.rot_lt hX) (Sm.rot_lt hX)) (by omega)
          have e1 : bits .xor .u32 (bits .xor .u32 (Sm.rot 17 Y : Nat) (Sm.rot 19 Y : Nat)) ((Y : Int) / 1024) = (Sm.s1 Y : Nat) := by
            rw [bits_xor_u32 _ _ (Sm.rot_lt hY) (Sm.rot_lt hY)]
            exact bits_xor_u32 _ (Y / 1024) (Sm.xor_lt (Sm.rot_lt hY) (Sm.rot_lt hY)) (by omega)
          have E0 := Lib.hid e0
          have E1 := Lib.hid e1
          clear e0 e1 hce hlt
          have j0 : (j : Int) < 48 := by omega
          have w15 : IntKind.i64.wrap ((j : Int) + 16 - 15) = (j : Int) + 1 := by rw [IntKind.wrap_i64]; omega
          have w2 : IntKind.i64.wrap ((j : Int) + 16 - 2) = (j : Int) + 14 := by rw [IntKind.wrap_i64]; omega
          have w16 : IntKind.i64.wrap ((j : Int) + 16 - 16) = (j : Int) := by rw [IntKind.wrap_i64]; omega
          have w16' : IntKind.i64.wrap (j : Int) = (j : Int) := by rw [IntKind.wrap_i64]; omega
          have w7' : IntKind.i64.wrap ((j : Int) + 9) = (j : Int) + 9 := by rw [IntKind.wrap_i64]; omega
          have w7 : IntKind.i64.wrap ((j : Int) + 16 - 7) = (j : Int) + 9 := by rw [IntKind.wrap_i64]; omega
          have tn9 : ((j : Int) + 9).toNat = j + 9 := by omega
          have tn16 : ((j : Int) + 16).toNat = j + 16 := by omega
          have z0 : (0 : Int) ≤ (j : Int) := by omega
          have z3 : (0 : Int) ≤ (j : Int) + 9 := by omega
          have hl1 : (j : Int) < (M.length : Int) := by omega
          have hl2 : (j : Int) + 9 < (M.length : Int) := by omega
          have hl3 : (j : Int) + 1 < (M.length : Int) := by omega
          have hl4 : (j : Int) + 14 < (M.length : Int) := by omega
          have HLE := Lib.hid hL
          clear hL
          go_wp2_with fail
          refine (turn7_c X _ hX).mono ?_
          rintro e w5 ⟨rfl, q5, rfl⟩
          go_wp2_with fail
          refine (turn18_c X _ hX).mono ?_
          rintro e w5 ⟨rfl, q6, rfl⟩
          go_wp2_with fail
          rw [E0.out]
          refine (turn17_c Y _ hY).mono ?_
          rintro e w5 ⟨rfl, q7, rfl⟩
          go_wp2_with fail
          refine (turn19_c Y _ hY).mono ?_
          rintro e w5 ⟨rfl, q8, rfl⟩
          go_wp2_with fail
          rw [E1.out]
          generalize Sm.s0 X = S0 at hS HN
          generalize Sm.s1 Y = S1 at hD HN
          generalize hW1 : World.drewN _ _ = W1
          have ow : W1.ownsRow w.heap.size 27 1 (.slice (some ⟨g, 0, none⟩) M.length cap) M.length (M.map uv) := by rw [← hW1]; exact HO.out
          have bw : Below w.heap.size w W1 := by rw [← hW1]; exact HB.out.trans ⟨rfl, rfl, rfl, Nat.le_refl _, fun _ _ => rfl⟩
          have dA : W1.cell? ⟨g, j, none⟩ = some (.int .u32 A) := by rw [← hW1]; exact cA
          have dC : W1.cell? ⟨g, j + 9, none⟩ = some (.int .u32 C) := by rw [← hW1]; exact cC
          have wz : w.heap.size ≤ W1.heap.size := bw.size
          clear hW1 HO HB cX cY cA cC hwz hgl w15 w2
          have HO := Lib.hid ow
          have HB := Lib.hid bw
          have HD := Lib.hid (show W1.drew.ownsRow w.heap.size 27 1 (.slice (some ⟨g, 0, none⟩) M.length cap) M.length (M.map uv) from ow)
          have HBd := Lib.hid (bw.drew)
          have hM64 : M.length ≤ 64 := by have := HLE.out; omega
          clear ow bw
          go_region_law
            ((refine step_append_own rfl (.tmp 80) (.tmp 96) 49 rfl w.heap.size 27 i0 (.int .u32 0) 1 4 Try.underlying49 hi hz0 hz1 hz2 rfl (by decide) (.slice (some ⟨g, 0, none⟩) M.length cap) M.length (M.map uv) (by simp [Act.eval]) (HD.out.alloc _) ⟨W1.drew.heap.size, 0, none⟩ 1 1 _ (by simp [Act.eval]) rfl (cell_one_new _ _ _) (by simp [Value.oneCell']) (by unfold maxLen; omega) (by omega) (by simp; omega) ?_; intro v' w' hown' hg; obtain ⟨A2, k2, c2, rfl⟩ := own_slice hown'; have E2 := Lib.hid (own_grown HD.out hg HBd.out (Nat.le_refl _)); have H2 := Lib.hid hown'; clear hown' hg))
          all_goals go_wp2_with fail
          all_goals go_roundw
          all_goals first
            | (have := HLE.out; simp [intOf]; omega)
            | (have h3 := row_valU (y := (A + S0 + C + S1) % 4294967296) H2.out (by simp only [IntKind.wrap_u32]; omega)
               refine ⟨j + 16 + 1, M ++ [(A + S0 + C + S1) % 4294967296], by omega, by omega, by go_num, by have := HLE.out; simp; omega, Lib.hid h3, Lib.hid ?_, E2, HN⟩
               intro x hx
               rcases List.mem_append.1 hx with hx | hx
               · exact HL.out x hx
               · obtain rfl := List.mem_singleton.1 hx; exact Nat.mod_lt _ (by decide))
        · obtain rfl : k = 64 := by omega
          have hz : Sm.sched bt = M := HE.out.symm
          obtain ⟨g, cap, rfl, _⟩ := own_form HO.out (by omega)
          have HZ := Lib.hid hz
          clear hz HE
          go_wp2_with fail
          go_ret
          rw [HZ.out]
          exact ⟨g, cap, rfl, HO.out, HB.out⟩
end Go.Proofs.Ytjijmgmobdoliaa
