/- Walk: the reference's padding. -/
import Derived.Test.YtjijmgmobdoliaaRefF
namespace Go.Proofs.Ytjijmgmobdoliaa
open Go.RowKit

/-- a row of bytes that the call has made -/
def RowY (B : Nat) (L : List Nat) (w : World) (e : Ending) (w' : World) : Prop :=
  ∃ g cap, e = .returned (.slice (some ⟨g, 0, none⟩) L.length cap) ∧ w'.ownsRow B 5 1 (.slice (some ⟨g, 0, none⟩) L.length cap) L.length (L.map yv) ∧ Below B w w'
theorem row_valY {w : World} {b : Nat} {v : Value} {M : List Nat} {x : Int} {y : Nat} (r : w.ownsRow b 5 1 v (M.length + 1) (M.map yv ++ [.int .u8 x])) (h : x = (y : Int)) : w.ownsRow b 5 1 v (M ++ [y]).length ((M ++ [y]).map yv) := by
  subst h
  rw [List.length_append, List.map_append]
  exact r
theorem own_form {w : World} {B n : Nat} {e : TypeId} {v : Value} {xs : List Value} (h : w.ownsRow B e 1 v n xs) (hn : 0 < n) : ∃ g cap, v = .slice (some ⟨g, 0, none⟩) n cap ∧ g < w.heap.size ∧ n ≤ cap ∧ cap ≤ maxLen := by
  obtain ⟨g, cap, hv, _, hg, h1, h2⟩ := own_succ h hn
  exact ⟨g, cap, hv, hg, h1, h2⟩
set_option maxHeartbeats 8000000 in
set_option maxRecDepth 100000 in
theorem RPad_c (B o n c : Nat) (l : List Nat) (w : World) (hn : n = l.length) (hnc : n ≤ c) (hl : l.length ≤ 1000000) (hcell : ∀ i x, l[i]? = some x → w.cell? ⟨B, o + i, none⟩ = some (yv x)) :
    Calls Try.prog 23 #[.slice (some ⟨B, o, none⟩) n c] w (RowY w.heap.size (Sm.padded l) w) := by
  obtain ⟨i0, hi, hz0, hz1, hz2⟩ := info_parts infoByteM
  subst hn
  have hc1 : ∀ (W : World), (∀ b, b < w.heap.size → W.heap[b]? = w.heap[b]?) → ∀ j u, (l.map yv)[j]? = some u → W.cell? ((⟨B, o, none⟩ : Addr).add j) = some u := by
    intro W hW j u hu
    rw [List.getElem?_map] at hu
    obtain ⟨x, hx, rfl⟩ := Option.map_eq_some_iff.1 hu
    rw [show (⟨B, o, none⟩ : Addr).add j = ⟨B, o + j, none⟩ from by unfold Addr.add; split <;> simp_all]
    exact cell_keep hW (hcell j x hx)
  have HC := Lib.hid hc1
  clear hcell hc1
  have hpd : Sm.padded l = Sm.fill (l ++ [128]) ++ Sm.bits8 (8 * l.length) := rfl
  have HPD := Lib.hid hpd
  clear hpd
  have hone : ∀ u ∈ l.map yv, u.oneCell' = true := by
    intro u hu
    obtain ⟨x, _, rfl⟩ := List.mem_map.1 hu
    rfl
  have HONE := Lib.hid hone
  clear hone
  go_enter Try.func23, Try.ntmps23
  go_wp2_with (first
    | (at_builtin
       go_must (refine wpList_append_own _ rfl (.tmp 6) (.tmp 7) 36 rfl w.heap.size 5 i0 _ 1 1 Try.underlying36 hi hz0 hz1 hz2 rfl (by decide) _ 0 [] rfl (World.ownsRow_lit w #[] 0 (Nat.le_refl _) (by decide) rfl) ⟨B, o, none⟩ l.length c (l.map yv) rfl (by simp) (HC.out _ fun b hb => Below.heap_alloc w _ b hb) HONE.out (by unfold maxLen; omega) (by omega) (by simp) ?_)))
  intro v1 w1 hown1 hg1 _
  have hb1 : Below w.heap.size w w1 := ((Below.refl _ w).alloc (Nat.le_refl _) _).grown hg1 (by simp) (fun b e => by cases e; exact Nat.le_refl _)
  obtain ⟨A1, n1, c1, rfl⟩ := own_slice hown1
  have O1 := Lib.hid hown1
  have B1 := Lib.hid hb1
  have hz1' := hb1.size
  clear hown1 hg1 hb1
  go_wp2_with (first
    | (at_builtin
       go_must (refine wpList_append_own _ rfl (.tmp 9) (.tmp 10) 36 rfl w.heap.size 5 i0 _ 1 1 Try.underlying36 hi hz0 hz1 hz2 rfl (by decide) _ l.length (l.map yv) rfl (O1.out.alloc _) ⟨w1.heap.size, 0, none⟩ 1 1 [.int .u8 128] rfl rfl (cell_one_new _ _ _) (by simp [Value.oneCell']) (by unfold maxLen; omega) (by omega) (by simp; omega) ?_)))
  intro v2 w2 hown2 hg2 _
  have hb2 : Below w.heap.size w w2 := own_grown O1.out hg2 B1.out (Nat.le_refl _)
  replace hown2 := row_valY (y := 128) hown2 rfl
  clear O1 B1 hg2 hz1'
  obtain ⟨L0, hL0⟩ : ∃ L0, L0 = l ++ [128] := ⟨_, rfl⟩
  have hLl : L0.length = l.length + 1 := by rw [hL0]; simp
  rw [← hL0] at hown2 HPD
  clear hL0
  obtain ⟨g2, cap2, rfl, _, hn2, hm2⟩ := own_form hown2 (by omega)
  have O2 := Lib.hid hown2
  have B2 := Lib.hid hb2
  have HLL := Lib.hid hLl
  clear hown2 hb2 hn2 hm2 hLl
  go_wp2_with fail
  go_loopg [3] ((120 - L0.length % 64) % 64) (fun gk v wr => ∃ (L : List Nat) (g cap : Nat), gk = (120 - L.length % 64) % 64 ∧ L.length + gk ≤ l.length + 64 ∧ 0 < L.length ∧ v = .slice (some ⟨g, 0, none⟩) L.length cap ∧ Hid (wr.ownsRow w.heap.size 5 1 (.slice (some ⟨g, 0, none⟩) L.length cap) L.length (L.map yv)) ∧ Hid (Sm.fill L = Sm.fill L0) ∧ Hid (Below w.heap.size w wr))
  case atStart => exact ⟨L0, g2, cap2, rfl, by have := HLL.out; omega, by have := HLL.out; omega, rfl, O2, Lib.hid rfl, B2⟩
  case round =>
    obtain ⟨L, g, cap, hgk, hL, hL0', rfl, RL, FL, BL⟩ := hrel
    clear O2 B2
    have hl0 : (0 : Int) ≤ (L.length : Int) := by omega
    have hzL := BL.out.size
    by_cases h56 : L.length % 64 = 56
    · have hF : L = Sm.fill L0 := by rw [← FL.out, Sm.fill_end h56]
      have HF := Lib.hid hF
      have h56' : (L.length : Int) % 64 = 56 := by omega
      clear hF h56
      have HGK := Lib.hid hgk; clear hgk
      go_wp2_with fail
      rw [← HF.out] at HPD
      have hFl : L.length ≤ l.length + 64 := by omega
      clear HF h56' HGK hl0
      go_loopw [3, 5] (fun v kv wq => ∃ (j : Nat) (kk : Int) (M : List Nat) (g2 cap2 : Nat), j ≤ 8 ∧ kk = 56 - 8 * (j : Int) ∧ kv = .int .i64 kk ∧ M.length = L.length + j ∧ v = .slice (some ⟨g2, 0, none⟩) M.length cap2 ∧ Hid (wq.ownsRow w.heap.size 5 1 (.slice (some ⟨g2, 0, none⟩) M.length cap2) M.length (M.map yv)) ∧ Hid (M = L ++ (Sm.bits8 (8 * l.length)).take j) ∧ Hid (Below w.heap.size w wq)) (fun _ kv _ => (intOf kv + 8).toNat)
      case atStart => exact ⟨0, 56, L, g, cap, by omega, rfl, rfl, rfl, rfl, RL, Lib.hid (by simp), BL⟩
      case round =>
        obtain ⟨j, kk, M, g2, cap2, hj, hkk, rfl, hM, rfl, RM, EM, BM⟩ := hrel
        have hM2 : M.length ≤ 1000200 := by omega
        have hMp : 0 < M.length := by omega
        have HM := Lib.hid hM; clear hM
        have hbm := BM.out.size
        clear RL BL
        by_cases j8 : j < 8
        · have hbit : M ++ [8 * l.length / 2 ^ (56 - 8 * j) % 256] = L ++ (Sm.bits8 (8 * l.length)).take (j + 1) := by
            rw [EM.out, List.append_assoc]
            congr 1
            rw [List.take_succ_eq_append_getElem (by rw [Sm.bits8_len]; exact j8)]
            simp [Sm.bits8]
          have hN : 8 * l.length ≤ 1125899906842624 := by omega
          have h8 : (8 : Int) * (l.length : Int) = ((8 * l.length : Nat) : Int) := by omega
          generalize 8 * l.length = N8 at hbit hN h8
          have HB := Lib.hid hbit
          have H8 := Lib.hid h8
          clear hbit h8
          have hj7 : (j = 0 ∧ kk = 56) ∨ (j = 1 ∧ kk = 48) ∨ (j = 2 ∧ kk = 40) ∨ (j = 3 ∧ kk = 32) ∨ (j = 4 ∧ kk = 24) ∨ (j = 5 ∧ kk = 16) ∨ (j = 6 ∧ kk = 8) ∨ (j = 7 ∧ kk = 0) := by omega
          have hsz : (l.length : Int) ≤ 1000000 := by omega
          clear hkk
          rcases hj7 with ⟨rfl, rfl⟩ | ⟨rfl, rfl⟩ | ⟨rfl, rfl⟩ | ⟨rfl, rfl⟩ | ⟨rfl, rfl⟩ | ⟨rfl, rfl⟩ | ⟨rfl, rfl⟩ | ⟨rfl, rfl⟩
          all_goals
            go_wp2_with (first
              | (at_builtin
                 go_must (refine wpList_append_own _ rfl (.tmp 27) (.tmp 32) 36 rfl w.heap.size 5 i0 _ 1 1 Try.underlying36 hi hz0 hz1 hz2 rfl (by decide) _ M.length (M.map yv) rfl (RM.out.alloc _) ⟨wr.heap.size, 0, none⟩ 1 1 _ rfl rfl (cell_one_new _ _ _) (by simp [Value.oneCell']) (by unfold maxLen; omega) (by omega) (by simp; omega) ?_)))
            intro v' w' r' hg' _
            have b2 : Below w.heap.size w w' := own_grown RM.out hg' BM.out (Nat.le_refl _)
            obtain ⟨M2, HM2, hm2, r2⟩ : ∃ M2, Hid (M2 = L ++ (Sm.bits8 N8).take (_ + 1)) ∧ M2.length = M.length + 1 ∧ w'.ownsRow w.heap.size 5 1 v' M2.length (M2.map yv) :=
              ⟨_, HB, by simp, row_valY r' (by have := H8.out; simp only [Nat.reduceMul, Nat.reduceSub, Nat.reducePow]; omega)⟩
            obtain ⟨g3, cap3, rfl, _, _, _⟩ := own_form r2 (by omega)
            have R2 := Lib.hid r2
            have B2 := Lib.hid b2
            have HM3 := Lib.hid hm2
            clear r2 b2 r' hg' hm2 HB
            go_wp2_with fail
            go_roundw
            case rel => exact ⟨_, _, M2, g3, cap3, by decide, by decide, rfl, by have := HM3.out; have := HM.out; omega, rfl, R2, HM2, B2⟩
            case measure => simp [intOf]
        · have j8' : j = 8 := by omega
          subst j8'
          obtain rfl : kk = -8 := by omega
          have hP : M = Sm.padded l := by
            rw [HPD.out, EM.out, List.take_of_length_le (by rw [Sm.bits8_len]; exact Nat.le_refl _)]
          have HP := Lib.hid hP
          clear hP EM hkk hj j8 hM2 hMp HM
          go_wp2_with fail
          go_ret
          rw [← HP.out]
          exact ⟨g2, cap2, rfl, RM.out, BM.out⟩
    · have hF2 : Sm.fill (L ++ [0]) = Sm.fill L0 := by rw [Sm.fill_step h56]; exact FL.out
      have HF2 := Lib.hid hF2
      have h56' : ((L.length : Int) % 64 == 56) = false := by rw [beq_eq_false_iff_ne]; omega
      have h56'' : ((L.length : Int) % 64 != 56) = true := by rw [bne, h56']; rfl
      have hgk2 : gk = (120 - (L.length + 1) % 64) % 64 + 1 := by omega
      have hLm : L.length ≤ 1000064 := by omega
      have HGK := Lib.hid hgk2
      clear hF2 h56 hgk hgk2
      go_wp2_with (first
        | (at_builtin
           go_must (refine wpList_append_own _ rfl (.tmp 16) (.tmp 17) 36 rfl w.heap.size 5 i0 _ 1 1 Try.underlying36 hi hz0 hz1 hz2 rfl (by decide) _ L.length (L.map yv) rfl (RL.out.alloc _) ⟨wr.heap.size, 0, none⟩ 1 1 [.int .u8 0] rfl rfl (cell_one_new _ _ _) (by simp [Value.oneCell']) (by unfold maxLen; omega) (by omega) (by simp; omega) ?_)))
      intro v' w' r' hg' _
      have b2 : Below w.heap.size w w' := own_grown RL.out hg' BL.out (Nat.le_refl _)
      replace r' := row_valY (y := 0) r' rfl
      obtain ⟨g3, cap3, rfl, _, _, _⟩ := own_form r' (by simp)
      have R2 := Lib.hid r'
      have B2 := Lib.hid b2
      clear r' hg' b2
      go_wp2_with fail
      go_roundg ((120 - (L.length + 1) % 64) % 64)
      case rel =>
        have e1 : (L ++ [0]).length = L.length + 1 := by simp
        exact ⟨L ++ [0], g3, cap3, by rw [e1], by rw [e1]; have := HGK.out; omega, by omega, rfl, R2, HF2, B2⟩
      case measure => have := HGK.out; omega
end Go.Proofs.Ytjijmgmobdoliaa
