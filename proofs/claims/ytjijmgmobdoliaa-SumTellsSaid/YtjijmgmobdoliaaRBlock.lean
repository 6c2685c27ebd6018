/- Walk: the reference's rounds of a block. -/
import Derived.Test.YtjijmgmobdoliaaRWords
namespace Go.Proofs.Ytjijmgmobdoliaa
open Go.RowKit

set_option maxHeartbeats 8000000 in
set_option maxRecDepth 100000 in
theorem RBlock_c (a b c d e f g h : Nat) (gh ch : Nat) (B o n cp : Nat) (bt : List Nat) (w : World) (hn : 64 ≤ n) (hl : bt.length = 64) (hb : ∀ x ∈ bt, x < 256) (hcell : ∀ i x, bt[i]? = some x → w.cell? ⟨B, o + i, none⟩ = some (yv x))
    (hv : ∀ x ∈ [a, b, c, d, e, f, g, h], x < 4294967296) (hh : ∀ i x, [a, b, c, d, e, f, g, h][i]? = some x → w.cell? ⟨gh, i, none⟩ = some (uv x)) :
    Calls Try.prog 25 #[.slice (some ⟨gh, 0, none⟩) 8 ch, .slice (some ⟨B, o, none⟩) n cp] w (RowU w.heap.size (Sm.mix [a, b, c, d, e, f, g, h] bt) w) := by
  obtain ⟨i0, hi, hz0, hz1, hz2⟩ := info_parts infoWordM
  have HC := Lib.hid hcell; clear hcell
  have HH := Lib.hid hh; clear hh
  have hmix : Sm.mix [a, b, c, d, e, f, g, h] bt = List.zipWith (fun x y => (x + y) % 4294967296) (Sm.rounds (List.zip Sm.K (Sm.sched bt)) [a, b, c, d, e, f, g, h]) [a, b, c, d, e, f, g, h] := rfl
  have HM := Lib.hid hmix; clear hmix
  have hWl := Sm.sched_len bt
  have hWlt := Sm.sched_lt hb
  have hwords := RWords_c B o n cp bt w hn hl hb HC.out
  generalize Sm.sched bt = S at hWl hWlt HM hwords
  have HW := Lib.hid hwords
  clear hwords
  go_enter Try.func25, Try.ntmps25
  go_wp2_with fail
  refine HW.out.mono ?_
  rintro e1 w1 ⟨gs, cs, rfl, own1, b1⟩
  rw [hWl] at own1 ⊢
  go_wp2_with fail
  refine (RAdds_c w1).mono ?_
  rintro e2 w2 ⟨gk, ck, rfl, own2, b2⟩
  rw [show Sm.K.length = 64 from rfl] at own2 ⊢
  have hz1' := b1.size
  have hz2' := b2.size
  have own1' := own_below own1 b2
  have b12 : Below w.heap.size w w2 := b1.trans (b2.mono hz1')
  have hc1 : ∀ (W : World), (∀ b, b < w.heap.size → W.heap[b]? = w.heap[b]?) → ∀ j u, ([a, b, c, d, e, f, g, h].map uv)[j]? = some u → W.cell? ((⟨gh, 0, none⟩ : Addr).add j) = some u := by
    intro W hW j u hu
    rw [List.getElem?_map] at hu
    obtain ⟨x, hx, rfl⟩ := Option.map_eq_some_iff.1 hu
    rw [show (⟨gh, 0, none⟩ : Addr).add j = ⟨gh, j, none⟩ from by unfold Addr.add; split <;> simp_all]
    exact cell_keep hW (HH.out j x hx)
  have hone : ∀ u ∈ [a, b, c, d, e, f, g, h].map uv, u.oneCell' = true := by
    intro u hu
    obtain ⟨x, _, rfl⟩ := List.mem_map.1 hu
    rfl
  have HC1 := Lib.hid (hc1 (w2.alloc (.cells #[] 27)) fun b hb => (Below.heap_alloc w2 _ b (by omega)).trans (b12.block b hb))
  have HONE := Lib.hid hone
  have O1 := Lib.hid own1'
  have O2 := Lib.hid own2
  have B12 := Lib.hid b12
  clear hc1 hone own1 own1' own2 b1 b2 b12
  go_wp2_with (first
    | (at_builtin
       go_must (refine wpList_append_own _ rfl (.tmp 18) (.tmp 19) 49 rfl w.heap.size 27 i0 _ 1 4 Try.underlying49 hi hz0 hz1 hz2 rfl (by decide) _ 0 [] rfl (World.ownsRow_lit w2 #[] 0 (by omega) (by decide) rfl) ⟨gh, 0, none⟩ 8 ch ([a, b, c, d, e, f, g, h].map uv) rfl rfl HC1.out HONE.out (by decide) (by decide) (by simp; omega) ?_)))
  intro v3 w3 hown3 hg3 _
  have hb23 : Below w2.heap.size w2 w3 := ((Below.refl _ w2).alloc (Nat.le_refl _) _).grown hg3 (by simp) (fun b e => by cases e; exact Nat.le_refl _)
  obtain ⟨g3, cap3, rfl, _, _, _⟩ := own_form hown3 (by decide)
  have O1b := Lib.hid (own_below O1.out hb23)
  have O2b := Lib.hid (own_below O2.out hb23)
  have O3 := Lib.hid (show w3.ownsRow w.heap.size 27 1 (.slice (some ⟨g3, 0, none⟩) 8 cap3) 8 ([a, b, c, d, e, f, g, h].map uv) from hown3)
  have B3 := Lib.hid (B12.out.trans (hb23.mono (by omega)))
  have hz3' := hb23.size
  have hzl : (List.zip Sm.K S).length = 64 := by rw [List.length_zip, hWl]; rfl
  have HZL := Lib.hid hzl
  clear hown3 hg3 hb23 O1 O2 B12 HC1 hzl
  go_wp2_with fail
  go_loopw [7, 8, 9, 10, 11, 12, 13] (fun v i _ _ _ _ _ wr => ∃ (k x0 x1 x2 x3 x4 x5 x6 x7 gv cv : Nat), k ≤ 64 ∧ i = .int .i64 k ∧ v = .slice (some ⟨gv, 0, none⟩) 8 cv ∧ Hid (∀ x ∈ [x0, x1, x2, x3, x4, x5, x6, x7], x < 4294967296) ∧ Hid (wr.ownsRow w.heap.size 27 1 (.slice (some ⟨gv, 0, none⟩) 8 cv) 8 ([x0, x1, x2, x3, x4, x5, x6, x7].map uv)) ∧ Hid (Below w3.heap.size w3 wr) ∧ Hid (Sm.rounds ((List.zip Sm.K S).drop k) [x0, x1, x2, x3, x4, x5, x6, x7] = Sm.rounds (List.zip Sm.K S) [a, b, c, d, e, f, g, h])) (fun _ i _ _ _ _ _ _ => 64 - (intOf i).toNat)
  case atStart => exact ⟨0, a, b, c, d, e, f, g, h, g3, cap3, by omega, rfl, rfl, Lib.hid hv, O3, Lib.hid (Below.refl _ _), Lib.hid rfl⟩
  case round =>
    obtain ⟨k, x0, x1, x2, x3, x4, x5, x6, x7, gv, cv, hk, rfl, rfl, HX, HO, HB, HE⟩ := hrel
    clear O3
    have hx0 := HX.out x0 (by simp)
    have hx1 := HX.out x1 (by simp)
    have hx2 := HX.out x2 (by simp)
    have hx3 := HX.out x3 (by simp)
    have hx4 := HX.out x4 (by simp)
    have hx5 := HX.out x5 (by simp)
    have hx6 := HX.out x6 (by simp)
    have hx7 := HX.out x7 (by simp)
    by_cases k64 : k < 64
    · have hnx := Sm.rounds_drop (by rw [HZL.out]; exact k64) HE.out
      rw [List.getElem_zip] at hnx
      have hk1 : k < Sm.K.length := k64
      have hk2 : k < S.length := by rw [hWl]; exact k64
      have cK : wr.cell? ⟨gk, k, none⟩ = some (.int .u32 (Sm.K[k] : Nat)) := cell_keep HB.out.block (by
        rw [own_cell (L := Sm.K) O2b.out hk1, List.getD_eq_getElem?_getD, List.getElem?_eq_getElem hk1]; rfl)
      have cW : wr.cell? ⟨gs, k, none⟩ = some (.int .u32 (S[k] : Nat)) := cell_keep HB.out.block (by
        rw [own_cell (L := S) (by rw [hWl]; exact O1b.out) hk2, List.getD_eq_getElem?_getD, List.getElem?_eq_getElem hk2]; rfl)
      have hKl := Sm.K_lt _ (List.getElem_mem hk1)
      have hSl := hWlt _ (List.getElem_mem hk2)
      have HN := Lib.hid hnx; clear hnx
      generalize Sm.K[k] = kk at cK hKl HN
      generalize S[k] = ww at cW hSl HN
      have i0' : (0 : Int) ≤ (k : Int) := by omega
      have i1 : (k : Int) < 64 := by omega
      have p0 : wr.cell? ⟨gv, 0, none⟩ = some (.int .u32 (x0 : Int)) := own_cell (L := [x0, x1, x2, x3, x4, x5, x6, x7]) HO.out (by simp)
      have p1 : wr.cell? ⟨gv, 1, none⟩ = some (.int .u32 (x1 : Int)) := own_cell (L := [x0, x1, x2, x3, x4, x5, x6, x7]) HO.out (by simp)
      have p2 : wr.cell? ⟨gv, 2, none⟩ = some (.int .u32 (x2 : Int)) := own_cell (L := [x0, x1, x2, x3, x4, x5, x6, x7]) HO.out (by simp)
      have p3 : wr.cell? ⟨gv, 3, none⟩ = some (.int .u32 (x3 : Int)) := own_cell (L := [x0, x1, x2, x3, x4, x5, x6, x7]) HO.out (by simp)
      have p4 : wr.cell? ⟨gv, 4, none⟩ = some (.int .u32 (x4 : Int)) := own_cell (L := [x0, x1, x2, x3, x4, x5, x6, x7]) HO.out (by simp)
      have p5 : wr.cell? ⟨gv, 5, none⟩ = some (.int .u32 (x5 : Int)) := own_cell (L := [x0, x1, x2, x3, x4, x5, x6, x7]) HO.out (by simp)
      have p6 : wr.cell? ⟨gv, 6, none⟩ = some (.int .u32 (x6 : Int)) := own_cell (L := [x0, x1, x2, x3, x4, x5, x6, x7]) HO.out (by simp)
      have p7 : wr.cell? ⟨gv, 7, none⟩ = some (.int .u32 (x7 : Int)) := own_cell (L := [x0, x1, x2, x3, x4, x5, x6, x7]) HO.out (by simp)
      go_wp2_with fail
      go_quiet ((first
        | (go_at_call 36; (with_reducible show Calls _ _ #[_, .int .i64 6] _ _); refine Calls.quiet_of (turn6_c x4 _ hx4))
        | (go_at_call 36; (with_reducible show Calls _ _ #[_, .int .i64 11] _ _); refine Calls.quiet_of (turn11_c x4 _ hx4))
        | (go_at_call 36; (with_reducible show Calls _ _ #[_, .int .i64 25] _ _); refine Calls.quiet_of (turn25_c x4 _ hx4))))
      have e1 : bits .xor .u32 (bits .xor .u32 (Sm.rot 6 x4 : Nat) (Sm.rot 11 x4 : Nat)) (Sm.rot 25 x4 : Nat) = (((Sm.rot 6 x4 ^^^ Sm.rot 11 x4) ^^^ Sm.rot 25 x4 : Nat) : Int) := by
        rw [bits_xor_u32 _ _ (Sm.rot_lt hx4) (Sm.rot_lt hx4)]
        exact bits_xor_u32 _ _ (Sm.xor_lt (Sm.rot_lt hx4) (Sm.rot_lt hx4)) (Sm.rot_lt hx4)
      have hSE := Sm.xor_lt (Sm.xor_lt (Sm.rot_lt (r := 6) hx4) (Sm.rot_lt (r := 11) hx4)) (Sm.rot_lt (r := 25) hx4)
      rw [e1]
      clear e1
      have HRN : Hid (Sm.rnd [x0, x1, x2, x3, x4, x5, x6, x7] kk ww = [((x7 + ((Sm.rot 6 x4 ^^^ Sm.rot 11 x4) ^^^ Sm.rot 25 x4) + (x6 ^^^ (x4 &&& (x5 ^^^ x6))) + kk + ww) % 4294967296 + ((Sm.rot 2 x0 ^^^ Sm.rot 13 x0) ^^^ Sm.rot 22 x0) + ((x0 &&& x1) ||| (x2 &&& (x0 ||| x1)))) % 4294967296, x0, x1, x2, (x3 + (x7 + ((Sm.rot 6 x4 ^^^ Sm.rot 11 x4) ^^^ Sm.rot 25 x4) + (x6 ^^^ (x4 &&& (x5 ^^^ x6))) + kk + ww) % 4294967296) % 4294967296, x4, x5, x6]) := Lib.hid rfl
      generalize (Sm.rot 6 x4 ^^^ Sm.rot 11 x4) ^^^ Sm.rot 25 x4 = SE at hSE HRN ⊢
      generalize hW1 : World.drewN _ _ = W1
      have ow : W1.ownsRow w.heap.size 27 1 (.slice (some ⟨gv, 0, none⟩) 8 cv) 8 ([x0, x1, x2, x3, x4, x5, x6, x7].map uv) := by rw [← hW1]; exact HO.out
      have bw : Below w3.heap.size w3 W1 := by rw [← hW1]; exact HB.out.trans ⟨rfl, rfl, rfl, Nat.le_refl _, fun _ _ => rfl⟩
      have cK' : W1.cell? ⟨gk, k, none⟩ = some (.int .u32 (kk : Int)) := by rw [← hW1]; exact cK
      have cW' : W1.cell? ⟨gs, k, none⟩ = some (.int .u32 (ww : Int)) := by rw [← hW1]; exact cW
      clear hW1 cK cW p0 p1 p2 p3 p4 p5 p6 p7 HO HB
      have HO := Lib.hid ow
      have HB := Lib.hid bw
      have cK := cK'
      have cW := cW'
      clear ow bw cK' cW'
      have p0 : W1.cell? ⟨gv, 0, none⟩ = some (.int .u32 (x0 : Int)) := own_cell (L := [x0, x1, x2, x3, x4, x5, x6, x7]) HO.out (by simp)
      have p1 : W1.cell? ⟨gv, 1, none⟩ = some (.int .u32 (x1 : Int)) := own_cell (L := [x0, x1, x2, x3, x4, x5, x6, x7]) HO.out (by simp)
      have p2 : W1.cell? ⟨gv, 2, none⟩ = some (.int .u32 (x2 : Int)) := own_cell (L := [x0, x1, x2, x3, x4, x5, x6, x7]) HO.out (by simp)
      have p3 : W1.cell? ⟨gv, 3, none⟩ = some (.int .u32 (x3 : Int)) := own_cell (L := [x0, x1, x2, x3, x4, x5, x6, x7]) HO.out (by simp)
      have p4 : W1.cell? ⟨gv, 4, none⟩ = some (.int .u32 (x4 : Int)) := own_cell (L := [x0, x1, x2, x3, x4, x5, x6, x7]) HO.out (by simp)
      have p5 : W1.cell? ⟨gv, 5, none⟩ = some (.int .u32 (x5 : Int)) := own_cell (L := [x0, x1, x2, x3, x4, x5, x6, x7]) HO.out (by simp)
      have p6 : W1.cell? ⟨gv, 6, none⟩ = some (.int .u32 (x6 : Int)) := own_cell (L := [x0, x1, x2, x3, x4, x5, x6, x7]) HO.out (by simp)
      have p7 : W1.cell? ⟨gv, 7, none⟩ = some (.int .u32 (x7 : Int)) := own_cell (L := [x0, x1, x2, x3, x4, x5, x6, x7]) HO.out (by simp)

      have e2 : bits .xor .u32 (bits .and .u32 (x4 : Int) (x5 : Int)) (bits .and .u32 (bits .xor .u32 (if IntKind.u32.signed = true then -1 else IntKind.u32.max) (x4 : Int)) (x6 : Int)) = ((x6 ^^^ (x4 &&& (x5 ^^^ x6)) : Nat) : Int) := by
        rw [show (if IntKind.u32.signed = true then (-1 : Int) else IntKind.u32.max) = ((4294967295 : Nat) : Int) from by decide, bits_xor_u32 4294967295 x4 (by decide) hx4, bits_and_u32 x4 x5 hx4 hx5, bits_and_u32 _ x6 (Sm.xor_lt (by decide) hx4) hx6,
          bits_xor_u32 _ _ (Sm.and_lt hx4) (Sm.and_lt (Sm.xor_lt (by decide) hx4)), Sm.choice_eq hx4 hx5 hx6]
      have hCH := Sm.xor_lt hx6 (Sm.and_lt (b := x5 ^^^ x6) hx4)
      have E2 := Lib.hid e2; clear e2
      generalize x6 ^^^ (x4 &&& (x5 ^^^ x6)) = CH at hCH HRN E2
      go_wp2_with fail
      go_quiet (fail)
      rw [E2.out]
      clear E2
      generalize bits .and .u32 (bits .xor .u32 (if IntKind.u32.signed = true then -1 else IntKind.u32.max) (x4 : Int)) (x6 : Int) = nv1
      generalize bits .xor .u32 (if IntKind.u32.signed = true then -1 else IntKind.u32.max) (x4 : Int) = nv2
      go_wp2_with fail
      go_quiet (fail)
      have hT : (((x7 : Int) + SE + CH + kk) % 4294967296 + ww) % 4294967296 = (((x7 + SE + CH + kk + ww) % 4294967296 : Nat) : Int) := by omega
      have hTl : (x7 + SE + CH + kk + ww) % 4294967296 < 4294967296 := Nat.mod_lt _ (by decide)
      rw [hT]
      clear hT
      generalize (x7 + SE + CH + kk + ww) % 4294967296 = TT at hTl HRN ⊢
      generalize hW2 : World.drewN _ _ = W2
      have ow : W2.ownsRow w.heap.size 27 1 (.slice (some ⟨gv, 0, none⟩) 8 cv) 8 ([x0, x1, x2, x3, x4, x5, x6, x7].map uv) := by rw [← hW2]; exact HO.out
      have bw : Below w3.heap.size w3 W2 := by rw [← hW2]; exact HB.out.trans ⟨rfl, rfl, rfl, Nat.le_refl _, fun _ _ => rfl⟩
      clear hW2 cK cW p0 p1 p2 p3 p4 p5 p6 p7 HO HB
      have HO := Lib.hid ow
      have HB := Lib.hid bw
      clear ow bw
      have p0 : W2.cell? ⟨gv, 0, none⟩ = some (.int .u32 (x0 : Int)) := own_cell (L := [x0, x1, x2, x3, x4, x5, x6, x7]) HO.out (by simp)
      have p1 : W2.cell? ⟨gv, 1, none⟩ = some (.int .u32 (x1 : Int)) := own_cell (L := [x0, x1, x2, x3, x4, x5, x6, x7]) HO.out (by simp)
      have p2 : W2.cell? ⟨gv, 2, none⟩ = some (.int .u32 (x2 : Int)) := own_cell (L := [x0, x1, x2, x3, x4, x5, x6, x7]) HO.out (by simp)
      have p3 : W2.cell? ⟨gv, 3, none⟩ = some (.int .u32 (x3 : Int)) := own_cell (L := [x0, x1, x2, x3, x4, x5, x6, x7]) HO.out (by simp)
      have p4 : W2.cell? ⟨gv, 4, none⟩ = some (.int .u32 (x4 : Int)) := own_cell (L := [x0, x1, x2, x3, x4, x5, x6, x7]) HO.out (by simp)
      have p5 : W2.cell? ⟨gv, 5, none⟩ = some (.int .u32 (x5 : Int)) := own_cell (L := [x0, x1, x2, x3, x4, x5, x6, x7]) HO.out (by simp)
      have p6 : W2.cell? ⟨gv, 6, none⟩ = some (.int .u32 (x6 : Int)) := own_cell (L := [x0, x1, x2, x3, x4, x5, x6, x7]) HO.out (by simp)
      have p7 : W2.cell? ⟨gv, 7, none⟩ = some (.int .u32 (x7 : Int)) := own_cell (L := [x0, x1, x2, x3, x4, x5, x6, x7]) HO.out (by simp)

      go_wp2_with fail
      go_quiet ((first
        | (go_at_call 36; (with_reducible show Calls _ _ #[_, .int .i64 2] _ _); refine Calls.quiet_of (turn2_c x0 _ hx0))
        | (go_at_call 36; (with_reducible show Calls _ _ #[_, .int .i64 13] _ _); refine Calls.quiet_of (turn13_c x0 _ hx0))
        | (go_at_call 36; (with_reducible show Calls _ _ #[_, .int .i64 22] _ _); refine Calls.quiet_of (turn22_c x0 _ hx0))))
      have e3 : bits .xor .u32 (bits .xor .u32 (Sm.rot 2 x0 : Nat) (Sm.rot 13 x0 : Nat)) (Sm.rot 22 x0 : Nat) = (((Sm.rot 2 x0 ^^^ Sm.rot 13 x0) ^^^ Sm.rot 22 x0 : Nat) : Int) := by
        rw [bits_xor_u32 _ _ (Sm.rot_lt hx0) (Sm.rot_lt hx0)]
        exact bits_xor_u32 _ _ (Sm.xor_lt (Sm.rot_lt hx0) (Sm.rot_lt hx0)) (Sm.rot_lt hx0)
      have hSR := Sm.xor_lt (Sm.xor_lt (Sm.rot_lt (r := 2) hx0) (Sm.rot_lt (r := 13) hx0)) (Sm.rot_lt (r := 22) hx0)
      rw [e3]
      clear e3
      generalize (Sm.rot 2 x0 ^^^ Sm.rot 13 x0) ^^^ Sm.rot 22 x0 = SR at hSR HRN ⊢
      have e4 : bits .xor .u32 (bits .xor .u32 (bits .and .u32 (x0 : Int) (x1 : Int)) (bits .and .u32 (x0 : Int) (x2 : Int))) (bits .and .u32 (x1 : Int) (x2 : Int)) = (((x0 &&& x1) ||| (x2 &&& (x0 ||| x1)) : Nat) : Int) := by
        rw [bits_and_u32 _ _ hx0 hx1, bits_and_u32 _ _ hx0 hx2, bits_and_u32 _ _ hx1 hx2, bits_xor_u32 _ _ (Sm.and_lt hx0) (Sm.and_lt hx0), bits_xor_u32 _ _ (Sm.xor_lt (Sm.and_lt hx0) (Sm.and_lt hx0)) (Sm.and_lt hx1), Sm.most_eq]
      have hMJ := Sm.or_lt (Sm.and_lt (b := x1) hx0) (Sm.and_lt (b := x0 ||| x1) hx2)
      have E4 := Lib.hid e4; clear e4
      generalize (x0 &&& x1) ||| (x2 &&& (x0 ||| x1)) = MJ at hMJ HRN E4
      go_wp2_with fail
      go_quiet (fail)
      rw [E4.out]
      clear E4
      have cK := trivial
      have cW := trivial
      generalize hW3 : World.drewN _ _ = W3
      have ow : W3.ownsRow w.heap.size 27 1 (.slice (some ⟨gv, 0, none⟩) 8 cv) 8 ([x0, x1, x2, x3, x4, x5, x6, x7].map uv) := by rw [← hW3]; exact HO.out
      have bw : Below w3.heap.size w3 W3 := by rw [← hW3]; exact HB.out.trans ⟨rfl, rfl, rfl, Nat.le_refl _, fun _ _ => rfl⟩
      clear hW3 cK cW p0 p1 p2 p3 p4 p5 p6 p7 HO HB
      have HO := Lib.hid ow
      have HB := Lib.hid bw
      clear ow bw
      have p0 : W3.cell? ⟨gv, 0, none⟩ = some (.int .u32 (x0 : Int)) := own_cell (L := [x0, x1, x2, x3, x4, x5, x6, x7]) HO.out (by simp)
      have p1 : W3.cell? ⟨gv, 1, none⟩ = some (.int .u32 (x1 : Int)) := own_cell (L := [x0, x1, x2, x3, x4, x5, x6, x7]) HO.out (by simp)
      have p2 : W3.cell? ⟨gv, 2, none⟩ = some (.int .u32 (x2 : Int)) := own_cell (L := [x0, x1, x2, x3, x4, x5, x6, x7]) HO.out (by simp)
      have p3 : W3.cell? ⟨gv, 3, none⟩ = some (.int .u32 (x3 : Int)) := own_cell (L := [x0, x1, x2, x3, x4, x5, x6, x7]) HO.out (by simp)
      have p4 : W3.cell? ⟨gv, 4, none⟩ = some (.int .u32 (x4 : Int)) := own_cell (L := [x0, x1, x2, x3, x4, x5, x6, x7]) HO.out (by simp)
      have p5 : W3.cell? ⟨gv, 5, none⟩ = some (.int .u32 (x5 : Int)) := own_cell (L := [x0, x1, x2, x3, x4, x5, x6, x7]) HO.out (by simp)
      have p6 : W3.cell? ⟨gv, 6, none⟩ = some (.int .u32 (x6 : Int)) := own_cell (L := [x0, x1, x2, x3, x4, x5, x6, x7]) HO.out (by simp)
      have p7 : W3.cell? ⟨gv, 7, none⟩ = some (.int .u32 (x7 : Int)) := own_cell (L := [x0, x1, x2, x3, x4, x5, x6, x7]) HO.out (by simp)

      go_wp2_with fail
      go_region_held3 (fun u => u.cell? ⟨gv, 0, none⟩ = some (.int .u32 (x0 : Int)) ∧ u.cell? ⟨gv, 1, none⟩ = some (.int .u32 (x1 : Int)) ∧ u.cell? ⟨gv, 2, none⟩ = some (.int .u32 (x2 : Int)) ∧ u.cell? ⟨gv, 3, none⟩ = some (.int .u32 (x3 : Int)) ∧ u.cell? ⟨gv, 4, none⟩ = some (.int .u32 (x4 : Int)) ∧ u.cell? ⟨gv, 5, none⟩ = some (.int .u32 (x5 : Int)) ∧ u.cell? ⟨gv, 6, none⟩ = some (.int .u32 (x6 : Int))) (first | exact ⟨p0, p1, p2, p3, p4, p5, p6⟩ | go_keep) ((first | fail))
      all_goals go_wp2_with fail
      have hN0 : (((TT : Int) + SR) % 4294967296 + MJ) % 4294967296 = (((TT + SR + MJ) % 4294967296 : Nat) : Int) := by omega
      have hN4 : ((x3 : Int) + TT) % 4294967296 = (((x3 + TT) % 4294967296 : Nat) : Int) := by omega
      have hHB : w.heap.size ≤ W3.heap.size := by have := HB.out.size; omega
      have hB3s := HB.out.size
      rw [hN0, hN4]
      clear hN0 hN4
      have hq0 : (TT + SR + MJ) % 4294967296 < 4294967296 := Nat.mod_lt _ (by decide)
      have hq4 : (x3 + TT) % 4294967296 < 4294967296 := Nat.mod_lt _ (by decide)
      have hE2 := HN.out
      rw [HRN.out] at hE2
      generalize (TT + SR + MJ) % 4294967296 = y0 at hq0 hE2 ⊢
      generalize (x3 + TT) % 4294967296 = y4 at hq4 hE2 ⊢
      have hE3 := Lib.hid hE2
      have hown := World.ownsRow_lit (base := w.heap.size) (e := 27) (size := 1) W3 #[.int .u32 (y0 : Int), .int .u32 (x0 : Int), .int .u32 (x1 : Int), .int .u32 (x2 : Int), .int .u32 (y4 : Int), .int .u32 (x4 : Int), .int .u32 (x5 : Int), .int .u32 (x6 : Int)] 8 hHB (by decide) rfl
      have HOW := Lib.hid hown
      clear hE2 hown
      go_roundw
      case rel =>
        refine ⟨k + 1, y0, x0, x1, x2, y4, x4, x5, x6, _, _, by omega, by go_num, rfl, Lib.hid ?_, HOW, Lib.hid ?_, hE3⟩
        · intro x hx
          simp only [List.mem_cons, List.not_mem_nil, or_false] at hx
          rcases hx with rfl | rfl | rfl | rfl | rfl | rfl | rfl | rfl <;> assumption
        · exact (HB.out.alloc hB3s _).drew
      case measure => simp [intOf] <;> omega
    · obtain rfl : k = 64 := by omega
      have hR : Sm.rounds (List.zip Sm.K S) [a, b, c, d, e, f, g, h] = [x0, x1, x2, x3, x4, x5, x6, x7] := by
        rw [← HE.out, List.drop_of_length_le (by rw [HZL.out]; exact Nat.le_refl _)]
        rfl
      have hfin : Sm.mix [a, b, c, d, e, f, g, h] bt = List.zipWith (fun x y => (x + y) % 4294967296) [x0, x1, x2, x3, x4, x5, x6, x7] [a, b, c, d, e, f, g, h] := by rw [HM.out, hR]
      have HF := Lib.hid hfin
      have HB2 := Lib.hid (B3.out.trans (HB.out.mono (by omega)))
      clear hR hfin HM HE
      go_wp2_with fail
      rw [show ((64 : Nat) : Int) = 64 from rfl]
      go_loopw [14] (fun i wq => ∃ (j : Nat) (L : List Nat), j ≤ 8 ∧ i = .int .i64 j ∧ L.length = 8 ∧ Hid (wq.ownsRow w.heap.size 27 1 (.slice (some ⟨gv, 0, none⟩) 8 cv) 8 (L.map uv)) ∧ Hid (Below w.heap.size w wq) ∧ Hid (∀ m, m < 8 → L.getD m 0 = if m < j then ([x0, x1, x2, x3, x4, x5, x6, x7].getD m 0 + [a, b, c, d, e, f, g, h].getD m 0) % 4294967296 else [x0, x1, x2, x3, x4, x5, x6, x7].getD m 0)) (fun i _ => 8 - (intOf i).toNat)
      case atStart => exact ⟨0, [x0, x1, x2, x3, x4, x5, x6, x7], by omega, rfl, rfl, HO, HB2, Lib.hid (fun m hm => by simp)⟩
      case round =>
        clear HO HB HB2
        obtain ⟨j, L, hj, rfl, hL, HO, HB, HQ⟩ := hrel
        by_cases j8 : j < 8
        · have cj : wr.cell? ⟨gv, j, none⟩ = some (.int .u32 (L.getD j 0 : Nat)) := own_cell (by rw [hL]; exact HO.out) (by omega)
          have fj : wr.frozen? ⟨gv, j, none⟩ = false := HO.out.frozenAt j
          have c2 : wr.cell? ⟨gh, j, none⟩ = some (.int .u32 ([a, b, c, d, e, f, g, h].getD j 0 : Nat)) := cell_keep HB.out.block (by
            refine HH.out j _ ?_
            rw [List.getD_eq_getElem?_getD, List.getElem?_eq_getElem (show j < [a, b, c, d, e, f, g, h].length from j8)]
            rfl)
          have hgvb : w.heap.size ≤ gv := (HO.out.lt gv rfl).1
          have hxj := HQ.out j j8
          rw [if_neg (Nat.lt_irrefl j)] at hxj
          obtain ⟨hh', hhe⟩ : ∃ y, y = [a, b, c, d, e, f, g, h].getD j 0 := ⟨_, rfl⟩
          rw [← hhe] at c2
          have HHE := Lib.hid hhe; clear hhe
          generalize L.getD j 0 = lj at cj hxj
          have HXJ := Lib.hid hxj; clear hxj
          have i0' : (0 : Int) ≤ (j : Int) := by omega
          have i1 : (j : Int) < 8 := by omega
          have HLL := Lib.hid hL
          clear hL
          go_wp2_with fail
          go_region_law (fail)
          all_goals go_wp2_with fail
          all_goals go_roundw
          all_goals first
            | (simp [intOf]; omega)
            | (have hst := HO.out.stored j (uv ((lj + hh') % 4294967296))
               have hbs : ∀ v, Below w.heap.size w (wr.setCell ⟨gv, j, none⟩ v) := fun v => HB.out.setCell (p := ⟨gv, j, none⟩) hgvb v
               rw [← List.map_set] at hst
               refine ⟨j + 1, L.set j ((lj + hh') % 4294967296), by omega, by go_num, by have := HLL.out; simp [this], Lib.hid ?_, Lib.hid ?_, Lib.hid ?_⟩
               · exact hst.1
               · first
                   | exact hbs _
                   | exact Below.trans (hbs _) ⟨rfl, rfl, rfl, Nat.le_refl _, fun _ _ => rfl⟩
               · intro m hm
                 have hL := HLL.out
                 by_cases hmj : m = j
                 · subst hmj
                   rw [if_pos (Nat.lt_succ_self _), ← HHE.out, ← HXJ.out, List.getD_eq_getElem?_getD, List.getElem?_set_self (by omega)]
                   rfl
                 · rw [List.getD_eq_getElem?_getD, List.getElem?_set_ne (fun e => hmj e.symm), ← List.getD_eq_getElem?_getD, HQ.out m hm]
                   by_cases h1 : m < j
                   · rw [if_pos h1, if_pos (by omega)]
                   · rw [if_neg h1, if_neg (by omega)])
        · obtain rfl : j = 8 := by omega
          have hLe : L = Sm.mix [a, b, c, d, e, f, g, h] bt := by
            rw [HF.out]
            refine List.ext_getElem (by rw [hL]; rfl) fun m h1 h2 => ?_
            have hm : m < 8 := by omega
            have hq := HQ.out m hm
            rw [if_pos hm, List.getD_eq_getElem?_getD, List.getElem?_eq_getElem h1, List.getD_eq_getElem?_getD, List.getElem?_eq_getElem (show m < [x0, x1, x2, x3, x4, x5, x6, x7].length from hm), List.getD_eq_getElem?_getD, List.getElem?_eq_getElem (show m < [a, b, c, d, e, f, g, h].length from hm)] at hq
            rw [List.getElem_zipWith]
            exact hq
          have HLE := Lib.hid hLe
          have HLL := Lib.hid hL
          clear hLe hL
          go_wp2_with fail
          go_ret
          refine ⟨gv, cv, ?_, ?_, HB.out⟩
          · rw [← HLE.out, HLL.out]
            rfl
          · rw [← HLE.out, HLL.out]
            exact HO.out
end Go.Proofs.Ytjijmgmobdoliaa
