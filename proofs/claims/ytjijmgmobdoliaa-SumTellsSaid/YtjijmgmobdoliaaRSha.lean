/- Walk: the reference's digest of a byte string. -/
import Derived.Test.YtjijmgmobdoliaaRBlock
import Derived.Test.YtjijmgmobdoliaaRefB
namespace Go.Proofs.Ytjijmgmobdoliaa
open Go.RowKit

theorem own_base {w : World} {B B' n s : Nat} {e : TypeId} {v : Value} {xs : List Value} (h : w.ownsRow B e s v n xs) (hb : B' ≤ B) : w.ownsRow B' e s v n xs := by
  refine ⟨h.1, ?_⟩
  rcases h.2 with h2 | ⟨g, cap, cur, hv, hg, r⟩
  · exact .inl h2
  · exact .inr ⟨g, cap, cur, hv, Nat.le_trans hb hg, r⟩
theorem own_cellY {w : World} {B g cap : Nat} {L : List Nat} (h : w.ownsRow B 5 1 (.slice (some ⟨g, 0, none⟩) L.length cap) L.length (L.map yv)) {j : Nat} {x : Nat} (hj : L[j]? = some x) : w.cell? ⟨g, j, none⟩ = some (yv x) := by
  have hl := (List.getElem?_eq_some_iff.1 hj).1
  rw [h.cellAt j (by omega), List.getElem?_map, hj]
  rfl
theorem padded_len (l : List Nat) : (Sm.padded l).length % 64 = 0 ∧ (Sm.padded l).length ≤ l.length + 72 := by
  unfold Sm.padded
  have := Sm.fill_len (l ++ [128])
  rw [List.length_append, List.length_singleton] at this
  rw [List.length_append, Sm.bits8_len]
  omega
theorem padded_lt {l : List Nat} (h : ∀ x ∈ l, x < 256) : ∀ x ∈ Sm.padded l, x < 256 := by
  intro x hx
  rcases List.mem_append.1 hx with hx | hx
  · refine Sm.fill_lt (fun y hy => ?_) x hx
    rcases List.mem_append.1 hy with hy | hy
    · exact h y hy
    · obtain rfl := List.mem_singleton.1 hy; decide
  · exact Sm.bits8_lt _ x hx
set_option maxHeartbeats 8000000 in
set_option maxRecDepth 100000 in
theorem RSha_c (s : ByteArray) (w : World) (hs : s.size ≤ 1000000) :
    Calls Try.prog 13 #[.string s] w fun e' w' => e' = .returned (.agg ((Sm.sha (s.data.toList.map UInt8.toNat)).map yv).toArray) ∧ Below w.heap.size w w' := by
  have hsl : (s.data.toList.map UInt8.toNat).length = s.size := by rw [List.length_map]; rfl
  have hpl := padded_len (s.data.toList.map UInt8.toNat)
  have hpt := padded_lt (l := s.data.toList.map UInt8.toNat) (fun x hx => by obtain ⟨b, _, rfl⟩ := List.mem_map.1 hx; exact b.toNat_lt)
  have hsha : Sm.sha (s.data.toList.map UInt8.toNat) = Sm.dig (Sm.bl Sm.H (Sm.padded (s.data.toList.map UInt8.toNat))) := by rw [Sm.sha_padded]; rfl
  have HSHA := Lib.hid hsha
  clear hsha
  obtain ⟨cc, cw, hconv, F⟩ := conv_fun s s.size rfl (by unfold maxLen; omega)
  have hpad := fun (W : World) => RPad_c W.heap.size 0 s.size (cc W) (s.data.toList.map UInt8.toNat) (cw W) hsl.symm (F W).1 (by omega) (fun i x hx => by
    rw [Nat.zero_add]
    refine (F W).2.2.2.2 i (yv x) ?_
    rw [List.getElem?_map] at hx ⊢
    obtain ⟨b, hb, rfl⟩ := Option.map_eq_some_iff.1 hx
    rw [hb]
    rfl)
  have HSL := Lib.hid hsl
  rw [hsl] at hpl
  generalize Sm.padded (s.data.toList.map UInt8.toNat) = P at hpl hpt HSHA hpad
  have HPAD := Lib.hid hpad
  have HF := Lib.hid F
  have HPT := Lib.hid hpt
  clear hpad F hsl hpt
  go_enter Try.func13, Try.ntmps13
  go_wp2_with fail
  have hout : (w.alloc (.cells ((List.replicate 32 0).map yv).toArray 23)).heap[w.heap.size]? = some (.cells ((List.replicate 32 0).map yv).toArray 23 (0, 0)) := heap_alloc_new _ _
  have hbW : Below w.heap.size w (w.alloc (.cells ((List.replicate 32 0).map yv).toArray 23)) := (Below.refl _ _).alloc (Nat.le_refl _) _
  have hzW : (w.alloc (.cells ((List.replicate 32 0).map yv).toArray 23)).heap.size = w.heap.size + 1 := by simp
  generalize hWW : (w.alloc _) = W
  have hD0 : Dg W w.heap.size (List.replicate 32 0) := by rw [← hWW]; exact hout
  have hb0 : Below w.heap.size w W := by rw [← hWW]; exact hbW
  have hz0 : W.heap.size = w.heap.size + 1 := by rw [← hWW]; exact hzW
  clear hout hbW hzW
  rw [← hz0]
  refine (HPAD.out W).mono ?_
  rintro e1 w1 ⟨gp, cp, rfl, own1, b1⟩
  have f1 := (HF.out W).2.2.1
  have f2 := (HF.out W).2.2.2.1
  have hb1 : Below W.heap.size W w1 := f1.trans (b1.mono (by omega))
  have D1 := Lib.hid ((hb1.block _ (by omega)).trans hD0)
  have B1 := Lib.hid (hb0.trans (hb1.mono (by omega)))
  have hz1 := hb1.size
  have own1' := own_base own1 (show w.heap.size ≤ (cw W).heap.size by omega)
  have HZ0 := Lib.hid hz0
  clear hconv b1 hb1 f1 f2 own1 hD0 hb0 hWW hz0
  go_wp2_with fail
  refine (RFirsts_c w1).mono ?_
  rintro e2 w2 ⟨gh, ch, rfl, own2, b2⟩
  rw [show Sm.H.length = 8 from rfl] at own2 ⊢
  have hz2 := b2.size
  have OP := Lib.hid (own_below own1' b2)
  have D2 := Lib.hid ((b2.block _ (by have := blk_lt D1.out; exact this)).trans D1.out)
  have B2 := Lib.hid (B1.out.trans (b2.mono B1.out.size))
  have OH := Lib.hid (own_base own2 (show w.heap.size ≤ w1.heap.size by have := HZ0.out; omega))
  obtain ⟨hgl, hcl⟩ := (show gp < w1.heap.size ∧ P.length ≤ cp from by
    rcases own1'.2 with ⟨h, _⟩ | ⟨g, cap, cur, h, _, hg, hn, _⟩
    · cases h
    · injection h with h1 _ h3
      injection h1 with h1
      injection h1 with h1
      subst h1; subst h3
      exact ⟨blk_lt hg, hn⟩)
  have hl8 : Hid (Sm.H.length = 8 ∧ ∀ x ∈ Sm.H, x < 4294967296) := Lib.hid ⟨rfl, Sm.H_lt⟩
  have HP1 := hpl.1
  have HP2 : P.length ≤ 1000072 := by have := hpl.2; omega
  clear own1' own2 b2 D1 B1 hz1 hpl
  go_wp2_with fail
  go_loopw [4, 5] (fun v i wr => ∃ (off : Nat) (hv : List Nat) (gv cv : Nat), off ≤ P.length ∧ off % 64 = 0 ∧ i = .int .i64 off ∧ v = .slice (some ⟨gv, 0, none⟩) 8 cv ∧ Hid (hv.length = 8 ∧ ∀ x ∈ hv, x < 4294967296) ∧ Hid (wr.ownsRow w.heap.size 27 1 (.slice (some ⟨gv, 0, none⟩) 8 cv) 8 (hv.map uv)) ∧ Hid (Sm.bl hv (P.drop off) = Sm.bl Sm.H P) ∧ Hid (Below w2.heap.size w2 wr)) (fun _ i _ => P.length - (intOf i).toNat)
  case atStart => exact ⟨0, Sm.H, gh, ch, by omega, by decide, rfl, rfl, hl8, OH, Lib.hid rfl, Lib.hid (Below.refl _ _)⟩
  case round =>
    obtain ⟨off, hv, gv, cv, hoff, h64, rfl, rfl, HX, HO, HE, HB⟩ := hrel
    clear OH hl8
    by_cases hlt : off < P.length
    · have h64' : off + 64 ≤ P.length := by omega
      obtain ⟨x0, x1, x2, x3, x4, x5, x6, x7, hx⟩ : ∃ x0 x1 x2 x3 x4 x5 x6 x7, hv = [x0, x1, x2, x3, x4, x5, x6, x7] := by
        match hv, HX.out.1 with
        | [x0, x1, x2, x3, x4, x5, x6, x7], _ => exact ⟨_, _, _, _, _, _, _, _, rfl⟩
      subst hx
      obtain ⟨bt, hbt⟩ : ∃ bt, bt = (P.drop off).take 64 := ⟨_, rfl⟩
      have hbtl : bt.length = 64 := by rw [hbt, List.length_take, List.length_drop]; omega
      have hbt3 : ∀ x ∈ bt, x < 256 := fun x hx => HPT.out x (by rw [hbt] at hx; exact List.mem_of_mem_drop (List.mem_of_mem_take hx))
      have hstep := Sm.bl_step (h := [x0, x1, x2, x3, x4, x5, x6, x7]) (l := P.drop off) (by rw [List.length_drop]; omega)
      rw [← hbt, List.drop_drop, HE.out] at hstep
      have hcell : ∀ i x, bt[i]? = some x → wr.cell? ⟨gp, off + i, none⟩ = some (yv x) := fun i x hx => cell_keep HB.out.block (by
        refine own_cellY OP.out ?_
        rw [hbt, List.getElem?_take] at hx
        split at hx
        · rw [List.getElem?_drop] at hx; exact hx
        · cases hx)
      have hhc : ∀ i x, [x0, x1, x2, x3, x4, x5, x6, x7][i]? = some x → wr.cell? ⟨gv, i, none⟩ = some (uv x) := fun i x hx => by
        have hi := (List.getElem?_eq_some_iff.1 hx).1
        rw [HO.out.cellAt i (by simp at hi; omega), List.getElem?_map, hx]
        rfl
      have hblk := RBlock_c x0 x1 x2 x3 x4 x5 x6 x7 gv cv gp off 64 (cp - off) bt wr (by omega) hbtl hbt3 hcell HX.out.2 hhc
      have hml := Sm.mix_len bt (h := [x0, x1, x2, x3, x4, x5, x6, x7]) rfl
      have hmt := Sm.mix_lt [x0, x1, x2, x3, x4, x5, x6, x7] bt
      generalize Sm.mix [x0, x1, x2, x3, x4, x5, x6, x7] bt = Y at hstep hblk hml hmt
      have HS := Lib.hid hstep
      have HBK := Lib.hid hblk
      have HMT := Lib.hid (And.intro hml hmt)
      have hbz := HB.out.size
      have j0 : (0 : Int) ≤ (off : Int) := by omega
      have j1 : (off : Int) + 64 ≤ (P.length : Int) := by omega
      have j2 : (off : Int) + 64 ≤ (cp : Int) := by omega
      have j3 : off + 64 - off = 64 := by omega
      clear hstep hblk hmt hml hcell hhc hbtl hbt3 hbt
      go_wp2_with fail
      refine HBK.out.mono ?_
      rintro e3 w3 ⟨gn, cn, rfl, own3, b3⟩
      rw [HMT.out.1] at own3 ⊢
      have O3 := Lib.hid (own_base own3 (show w.heap.size ≤ wr.heap.size by have := B2.out.size; omega))
      have B3 := Lib.hid (HB.out.trans (b3.mono hbz))
      clear own3 b3
      go_wp2_with fail
      go_roundw
      case rel =>
        exact ⟨off + 64, Y, gn, cn, by omega, by omega, by go_num, rfl, HMT, O3, HS, B3⟩
      case measure => simp [intOf]; omega
    · obtain rfl : off = P.length := by omega
      have hfin : hv = Sm.bl Sm.H P := by rw [← HE.out, Sm.bl_end (by rw [List.length_drop]; omega)]
      rw [← hfin] at HSHA
      have HD1 := Lib.hid ((HB.out.block _ (by have := blk_lt D2.out; exact this)).trans D2.out)
      have HB1 := Lib.hid (B2.out.trans (HB.out.mono B2.out.size))
      have hgo := heap_alloc_new wr (.cells ((List.replicate 32 0).map yv).toArray 23)
      have D4 := Lib.hid (show Dg (wr.alloc (.cells ((List.replicate 32 0).map yv).toArray 23)) w.heap.size (List.replicate 32 0) from (Below.heap_alloc wr _ _ (blk_lt HD1.out)).trans HD1.out)
      have B4 := Lib.hid (HB1.out.alloc HB1.out.size (.cells ((List.replicate 32 0).map yv).toArray 23))
      have O4 := Lib.hid (HO.out.alloc (.cells ((List.replicate 32 0).map yv).toArray 23))
      have hbz := HB1.out.size
      have hne : w.heap.size < wr.heap.size := blk_lt HD1.out
      have hgvlt : gv < wr.heap.size := (HO.out.lt gv rfl).2
      have HGO := Lib.hid hgo
      clear hfin HE hgo HB HO HD1 HB1 D2 B2
      go_wp2_with fail
      generalize hWX : wr.alloc _ = WX
      have D5 := Lib.hid (show Dg WX w.heap.size (List.replicate 32 0) by rw [← hWX]; exact D4.out)
      have B5 := Lib.hid (show Below w.heap.size w WX by rw [← hWX]; exact B4.out)
      have O5 := Lib.hid (show WX.ownsRow w.heap.size 27 1 (.slice (some ⟨gv, 0, none⟩) 8 cv) 8 (hv.map uv) by rw [← hWX]; exact O4.out)
      have HG5 := Lib.hid (show WX.heap[wr.heap.size]? = some (.cells (((Sm.dig hv).take 0 ++ List.replicate (32 - 0) 0).map yv).toArray 23 (0, 0)) by rw [← hWX]; exact HGO.out)
      clear hWX D4 B4 O4 HGO
      obtain ⟨D, hD⟩ : ∃ D, D = wr.heap.size := ⟨_, rfl⟩
      rw [← hD] at HG5 hne hgvlt ⊢
      clear hD
      go_loopw [7] (fun i wq => ∃ k : Nat, k ≤ 32 ∧ i = .int .i64 k ∧ Hid (wq.heap[D]? = some (.cells (((Sm.dig hv).take k ++ List.replicate (32 - k) 0).map yv).toArray 23 (0, 0))) ∧ Hid (wq.ownsRow w.heap.size 27 1 (.slice (some ⟨gv, 0, none⟩) 8 cv) 8 (hv.map uv)) ∧ Hid (Dg wq w.heap.size (List.replicate 32 0)) ∧ Hid (Below w.heap.size w wq)) (fun i _ => 32 - (intOf i).toNat)
      case atStart => exact ⟨0, by omega, rfl, HG5, O5, D5, B5⟩
      case round =>
        clear HG5 O5 D5 B5 hbz
        obtain ⟨k, hk, rfl, HO, HH, HD5, HB2⟩ := hrel
        by_cases k32 : k < 32
        · obtain ⟨q, r, hkq, hr, hq⟩ : ∃ q r, k = 4 * q + r ∧ r < 4 ∧ q < 8 := ⟨k / 4, k % 4, by omega, by omega, by omega⟩
          have hcx : wr.cell? ⟨gv, q, none⟩ = some (.int .u32 (hv.getD q 0 : Nat)) := own_cell (by rw [HX.out.1]; exact HH.out) (by rw [HX.out.1]; exact hq)
          have hco : wr.cell? ⟨D, k, none⟩ = some (.int .u8 0) := by
            rw [Lib.cell_of_heap HO.out]
            exact (pad_newY (Sm.dig hv) k (by rw [Sm.dig_len]; omega)).resolve_right (by omega)
          have hfo : wr.frozen? ⟨D, k, none⟩ = false := Lib.frozen_of_heap HO.out k
          have hxl := Sm.getD_lt (M := 4294967296) (by decide) HX.out.2 q
          have hdig : (Sm.dig hv)[k]? = some (hv.getD q 0 / 2 ^ (24 - 8 * r) % 256) := by
            unfold Sm.dig
            rw [List.getElem?_map, List.getElem?_range k32]
            show some (hv.getD (k / 4) 0 / 2 ^ (24 - 8 * (k % 4)) % 256) = _
            rw [show k / 4 = q from by omega, show k % 4 = r from by omega]
          generalize hv.getD q 0 = X at hcx hxl hdig
          have HDG := Lib.hid hdig; clear hdig
          have iq : (k : Int) / 4 = (q : Int) := by omega
          have q0 : (0 : Int) ≤ (q : Int) := by omega
          have q1 : (q : Int) < 8 := by omega
          have k0 : (0 : Int) ≤ (k : Int) := by omega
          have k1 : (k : Int) < 32 := by omega
          have hr4 : (r = 0 ∧ (k : Int) % 4 = 0) ∨ (r = 1 ∧ (k : Int) % 4 = 1) ∨ (r = 2 ∧ (k : Int) % 4 = 2) ∨ (r = 3 ∧ (k : Int) % 4 = 3) := by omega
          have HKQ := Lib.hid hkq; clear hkq
          rcases hr4 with ⟨rfl, ir⟩ | ⟨rfl, ir⟩ | ⟨rfl, ir⟩ | ⟨rfl, ir⟩
          all_goals go_wp2_with fail
          all_goals go_roundw
          all_goals first
            | (simp [intOf]; omega)
            | (refine ⟨k + 1, by omega, by go_num, Lib.hid (put_D k32 HDG.out ?_ HO.out), Lib.hid ?_, Lib.hid ?_, Lib.hid (HB2.out.setCell (p := ⟨D, k, none⟩) (Nat.le_of_lt hne) _)⟩
               · simp only [Nat.reduceMul, Nat.reduceSub, Nat.reducePow]
                 omega
               · exact HH.out.kept (row := some D) ⟨rfl, rfl, rfl, by simp [World.setCell], fun b _ hb => Below.heap_setCell wr ⟨D, k, none⟩ _ b (fun e => hb (by rw [e]))⟩ (.inr (fun e => by simp [Value.ownBlock] at e; omega))
               · exact (Below.heap_setCell wr ⟨D, k, none⟩ _ w.heap.size (by simp; omega)).trans HD5.out)
        · obtain rfl : k = 32 := by omega
          have hot : Dg wr D (Sm.dig hv) := by
            have h := HO.out
            rw [show 32 - 32 = 0 from rfl, List.replicate_zero, List.append_nil, List.take_of_length_le (by rw [Sm.dig_len]; exact Nat.le_refl _)] at h
            exact h
          have hi32 : (Try.prog.info? 23).map (·.size) = some ((Sm.dig hv).map yv).length := by rw [List.length_map, Sm.dig_len]; kernel_rfl
          have P1 := Lib.hid (put_dig w w.heap.size (List.replicate 32 0) (Sm.dig hv) wr HD5.out (by simp) (Sm.dig_len _) HB2.out (Nat.le_refl _))
          have HOT := Lib.hid hot
          have HI := Lib.hid hi32
          clear hi32 hot HO
          generalize Sm.dig hv = R at HSHA P1 HOT HI
          go_wp2_with (first
            | refine wpList_load_mid rfl 23 (.tmp 6) rfl D 0 rfl (R.map yv) _ (range_of HOT.out) Try.underlying23 rfl HI.out ?_
            | (refine wpList_store_mid rfl 23 (.tmp 2) (.tmp 42) rfl w.heap.size 0 (R.map yv).toArray rfl rfl P1.out.1 (by simpa using HI.out) (all_oneY _) ?_
               generalize hV : World.setCells _ _ _ _ = V
               have h6 := P1.out.2 V hV
               clear hV))
          refine ⟨rfl, _, results_cell_row rfl _ _ _ _ _ _ _ rfl h6.1 Try.underlying23 rfl (by simpa using HI.out), ?_, h6.2⟩
          rw [HSHA.out]
end Go.Proofs.Ytjijmgmobdoliaa
