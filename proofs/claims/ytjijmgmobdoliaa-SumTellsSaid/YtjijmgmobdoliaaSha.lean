/- Walk: the digest of a byte string. -/
import Derived.Test.YtjijmgmobdoliaaMark
import Derived.Deep.RegionHeld3
import Derived.Deep.RegionWith
import Derived.Deep.LoopGhost

import Derived.Deep.DeepMust
import Derived.Lib.IndexBytes
namespace Go.Proofs.Ytjijmgmobdoliaa
open Go.RowKit

theorem mix_l (hv bt : List Nat) (B o n cp : Nat) (w : World) (hh : hv.length = 8) (hn : 64 ≤ n) (hnc : n ≤ cp) (hc : cp ≤ maxLen) (hl : bt.length = 64) (hb : ∀ x ∈ bt, x < 256) (hcell : ∀ i x, bt[i]? = some x → w.cell? ⟨B, o + i, none⟩ = some (yv x))
    (hv4 : ∀ x ∈ hv, x < 4294967296) :
    Calls Try.prog 22 #[.agg (hv.map uv).toArray, .slice (some ⟨B, o, none⟩) n cp] w fun e' w' => e' = .returned (.agg ((Sm.mix hv bt).map uv).toArray) ∧ Below w.heap.size w w' := by
  match hv, hh with
  | [a, b, c, d, e, f, g, h], _ => exact mix_c a b c d e f g h B o n cp bt w hn hnc hc hl hb hcell hv4

theorem cell_one_new (w : World) (v : Value) (t : TypeId) : ∀ j u, [v][j]? = some u → (w.alloc (.cells #[v] t)).cell? ((⟨w.heap.size, 0, none⟩ : Addr).add j) = some u := by
  intro j u hj
  match j, hj with
  | 0, hj => simp at hj; subst hj; simp [Addr.add]
theorem row_val {w : World} {b : Nat} {e : TypeId} {v : Value} {M : List Nat} {x : Int} {y : Nat} (r : rowM w b e v (M.length + 1) (M.map yv ++ [.int .u8 x])) (h : x = (y : Int)) : rowM w b e v (M ++ [y]).length ((M ++ [y]).map yv) := by
  subst h
  rw [List.length_append, List.map_append]
  exact r
abbrev Z8 : List Value := [.int .u32 0, .int .u32 0, .int .u32 0, .int .u32 0, .int .u32 0, .int .u32 0, .int .u32 0, .int .u32 0]
theorem st_words (w : World) : (w.alloc (.cells Z8.toArray 45)).there w.heap.size 0 (Sm.H.map uv).toArray.size ∧
    ∀ V, (w.alloc (.cells Z8.toArray 45)).setCells w.heap.size 0 (Sm.H.map uv).toArray.toList = V → V.heap[w.heap.size]? = some (.cells (Sm.H.map uv).toArray 45 (0, 0)) ∧ Below w.heap.size w V := by
  have h : (w.alloc (.cells Z8.toArray 45)).heap[w.heap.size]? = some (.cells Z8.toArray 45 (0, 0)) := heap_alloc_new _ _
  have h8 : (Sm.H.map uv).toArray.size = Z8.toArray.size := rfl
  refine ⟨by rw [h8]; exact there_of (cs := Z8) h, fun V hV => ?_⟩
  subst hV
  exact ⟨heap_setCells_full (Sm.H.map uv) Z8 h rfl, below_setCells _ 0 ((Below.refl _ _).alloc (Nat.le_refl _) _) (Nat.le_refl _)⟩
theorem conv_fun (x : ByteArray) (n : Nat) (hx : x.size = n) (hl : n ≤ maxLen) : ∃ (cc : World → Nat) (cw : World → World),
    (∀ W, Sem.run Try.prog (convert 9 36 (.string x)) W = .ok (.slice (some ⟨W.heap.size, 0, none⟩) n (cc W)) (cw W)) ∧
    (∀ W, n ≤ cc W ∧ cc W ≤ maxLen ∧ Below W.heap.size W (cw W) ∧ (cw W).heap.size = W.heap.size + 1 ∧ ∀ i u, (x.data.toList.map fun b => yv b.toNat)[i]? = some u → (cw W).cell? ⟨W.heap.size, i, none⟩ = some u) := by
  subst hx
  have h := fun W : World => run_conv_M (P := Try.prog) W 9 36 5 Try.underlying9 Try.underlying36 Try.underlying5 W.heap.size x (Nat.le_refl _) hl
  have h2 : ∀ W : World, ∃ (c : Nat) (w' : World), Sem.run Try.prog (convert 9 36 (.string x)) W = .ok (.slice (some ⟨W.heap.size, 0, none⟩) x.size c) w' ∧
      (x.size ≤ c ∧ c ≤ maxLen ∧ Below W.heap.size W w' ∧ w'.heap.size = W.heap.size + 1 ∧ ∀ i u, (x.data.toList.map fun b => yv b.toNat)[i]? = some u → w'.cell? ⟨W.heap.size, i, none⟩ = some u) := fun W => by
    obtain ⟨v', w', hr, r, b, ⟨cap, rfl, h1, h2⟩, hz⟩ := h W
    exact ⟨cap, w', hr, h2, h1, b, hz, r.cells rfl⟩
  exact ⟨fun W => Classical.choose (h2 W), fun W => Classical.choose (Classical.choose_spec (h2 W)), fun W => (Classical.choose_spec (Classical.choose_spec (h2 W))).1, fun W => (Classical.choose_spec (Classical.choose_spec (h2 W))).2⟩
theorem pad_newY (D : List Nat) (k : Nat) (h : k < D.length) : (((D.take k ++ List.replicate (32 - k) 0).map yv).toArray)[k]? = some (.int .u8 0) ∨ 32 ≤ k := by
  by_cases h32 : k < 32
  · left
    rw [List.getElem?_toArray, List.getElem?_map, List.getElem?_append_right (by rw [List.length_take]; omega), List.length_take, Nat.min_eq_left (by omega), Nat.sub_self, List.getElem?_replicate, if_pos (by omega)]
    rfl
  · right; omega
theorem put_D {w : World} {b k y : Nat} {t : TypeId} {D : List Nat} {x : Int} (hk : k < 32) (hd : D[k]? = some y) (hx : x = (y : Int)) (h : w.heap[b]? = some (.cells ((D.take k ++ List.replicate (32 - k) 0).map yv).toArray t (0, 0))) :
    (w.setCell ⟨b, k, none⟩ (.int .u8 x)).heap[b]? = some (.cells ((D.take (k + 1) ++ List.replicate (32 - (k + 1)) 0).map yv).toArray t (0, 0)) := by
  subst hx
  have hkl := (List.getElem?_eq_some_iff.1 hd).1
  have h1 := heap_setCell_same w b k _ t (yv y) h
  have hl : (D.take k).length = k := by rw [List.length_take]; omega
  have e : ((D.take k ++ List.replicate (32 - k) 0).map yv).toArray.setIfInBounds k (yv y) = ((D.take (k + 1) ++ List.replicate (32 - (k + 1)) 0).map yv).toArray := by
    rw [List.setIfInBounds_toArray]
    congr 1
    rw [show 32 - k = (32 - (k + 1)) + 1 from by omega, List.replicate_succ, List.map_append, List.set_append_right _ _ (by rw [List.length_map]; omega), List.length_map, hl, Nat.sub_self, List.map_cons, List.set_cons_zero,
      List.take_add_one, hd, List.map_append, List.map_append]
    simp
  rw [e] at h1
  exact h1
theorem all_oneY (L : List Nat) : (L.map yv).toArray.all (·.oneCell') = true := all_oneCell_toArray (by
  intro v hv
  obtain ⟨x, _, rfl⟩ := List.mem_map.1 hv
  rfl)
theorem infoByteM : (Try.prog.info? 5).map (fun i => (i.zero, i.size, i.bytes)) = some (some (.int .u8 0), 1, 1) := by kernel_rfl

set_option maxHeartbeats 4000000 in
set_option maxRecDepth 100000 in
theorem Sha_c (s : ByteArray) (w : World) (hs : s.size ≤ 140737488355328) :
    Calls Try.prog 12 #[.string s] w fun e' w' => e' = .returned (.agg ((Sm.sha (s.data.toList.map UInt8.toNat)).map yv).toArray) ∧ Below w.heap.size w w' := by
  obtain ⟨i0, hi, hz0, hz1, hz2⟩ := info_parts infoByteM
  have hm0 : (0 : Int) ≤ (s.size : Int) % 64 := by omega
  have hm1 : (s.size : Int) % 64 ≤ (s.size : Int) := by omega
  go_enter Try.func12, Try.ntmps12
  go_wp2_with fail
  have hout : (w.alloc (.cells ((List.replicate 32 0).map yv).toArray 23)).heap[w.heap.size]? = some (.cells ((List.replicate 32 0).map yv).toArray 23 (0, 0)) := heap_alloc_new _ _
  have hbW : Below w.heap.size w (w.alloc (.cells ((List.replicate 32 0).map yv).toArray 23)) := (Below.refl _ _).alloc (Nat.le_refl _) _
  have hzW : (w.alloc (.cells ((List.replicate 32 0).map yv).toArray 23)).heap.size = w.heap.size + 1 := by simp
  change Oper.upon _ _ _ _ _ (Result.andThen (Sem.run _ _ (w.alloc (.cells ((List.replicate 32 0).map yv).toArray 23))) _)
  generalize w.alloc (.cells ((List.replicate 32 0).map yv).toArray 23) = W at hout hbW hzW ⊢
  have HOUT := Lib.hid hout; clear hout
  have HBW := Lib.hid hbW; clear hbW
  obtain ⟨v15, w15, hr15, r15, b15, ⟨cap15, rfl, hcm15, hcc15⟩, z15⟩ := run_conv_M (P := Try.prog) W 9 36 5 Try.underlying9 Try.underlying36 Try.underlying5 W.heap.size (s.extract (s.size - s.size % 64) s.size) (Nat.le_refl _) (by simp; unfold maxLen; omega)
  rw [hr15]
  simp only [Result.andThen]
  rw [Oper.upon_value]
  have hT : ((s.extract (s.size - s.size % 64) s.size).data.toList.map fun b => yv b.toNat) = ((s.data.toList.map UInt8.toNat).drop (s.size - s.size % 64)).map yv := by
    rw [Lib.extract_to_end, ← List.map_drop, List.map_map]
    rfl
  have hTl : (s.extract (s.size - s.size % 64) s.size).size = ((s.data.toList.map UInt8.toNat).drop (s.size - s.size % 64)).length := by
    rw [← List.map_drop, List.length_map, ← Lib.extract_to_end]
    rfl
  have htl : Sm.tail (s.data.toList.map UInt8.toNat) = Sm.fill ((s.data.toList.map UInt8.toNat).drop (s.size - s.size % 64) ++ [128]) ++ Sm.bits8 (8 * s.size) := by
    unfold Sm.tail
    rw [List.length_map]
    rfl
  have hTL : ((s.data.toList.map UInt8.toNat).drop (s.size - s.size % 64)).length < 64 := by
    rw [List.length_drop, List.length_map]
    show s.size - _ < 64
    omega
  rw [hT, hTl] at r15
  rw [hTl] at hcc15 ⊢
  have HTL := Lib.hid htl
  clear hT hTl htl hr15
  generalize (s.data.toList.map UInt8.toNat).drop (s.size - s.size % 64) = T0 at r15 hcc15 HTL hTL ⊢
  have R15 := Lib.hid r15; clear r15
  have hs15 : W.heap.size ≤ w15.heap.size := by omega
  have hs0 : w.heap.size < W.heap.size := by omega
  clear hzW z15
  have B15 := Lib.hid b15; clear b15
  go_wp2_with (first
    | (at_builtin
       go_must (refine wpList_append_M _ rfl (.tmp 15) (.tmp 16) 36 rfl W.heap.size 5 i0 _ Try.underlying36 hi hz0 hz1 hz2 rfl _ T0.length (T0.map yv) rfl (R15.out.alloc (.cells #[.int .u8 128] 5)) ⟨w15.heap.size, 0, none⟩ 1 1 [yv 128] rfl rfl ?c1 ?c2 (by omega) (by simp; omega) ?_)))
  case c1 =>
    intro j u hj
    match j, hj with
    | 0, hj => simp at hj; subst hj; simp [Addr.add, yv]
  case c2 => intro u hu; simp at hu; subst hu; rfl
  intro v17 w17 r17 b17
  have b17' : Below W.heap.size W w17 := (B15.out.alloc (by omega) _).trans b17
  have r17' : rowM w17 W.heap.size 5 v17 (T0 ++ [128]).length ((T0 ++ [128]).map yv) := by
    rw [List.length_append, List.map_append]
    exact r17
  clear r17 b17 B15 R15
  have hLl : (T0 ++ [128]).length ≤ 64 := by rw [List.length_append]; exact hTL
  obtain ⟨L0, hL0⟩ : ∃ L0, L0 = T0 ++ [128] := ⟨_, rfl⟩
  rw [← hL0] at r17' HTL hLl
  clear hL0
  obtain ⟨g17, cap17, rfl, _, _, hc17, hm17⟩ := r17'.form
  have R17 := Lib.hid r17'
  have B17 := Lib.hid b17'
  clear r17' b17'
  unfold maxLen at hm17
  go_wp2_with fail
  clear hm0 hm1 hm17 hc17
  go_loopg [3] ((120 - L0.length % 64) % 64) (fun gk v wr => ∃ (L : List Nat) (g cap : Nat), gk = (120 - L.length % 64) % 64 ∧ L.length + gk ≤ 127 ∧ v = .slice (some ⟨g, 0, none⟩) L.length cap ∧ Hid (rowM wr W.heap.size 5 (.slice (some ⟨g, 0, none⟩) L.length cap) L.length (L.map yv)) ∧ Hid (Sm.fill L = Sm.fill L0) ∧ Hid (Below W.heap.size W wr))
  case atStart => exact ⟨L0, g17, cap17, rfl, by omega, rfl, R17, Lib.hid rfl, B17⟩
  case round =>
    obtain ⟨L, g, cap, hgk, hL, rfl, RL, FL, BL⟩ := hrel
    clear R17 B17
    have hl0 : (0 : Int) ≤ (L.length : Int) := by omega
    by_cases h56 : L.length % 64 = 56
    · have hF : L = Sm.fill L0 := by rw [← FL.out, Sm.fill_end h56]
      have HF := Lib.hid hF
      have h56' : (L.length : Int) % 64 = 56 := by omega
      clear hF h56
      have HGK := Lib.hid hgk; clear hgk
      go_wp2_with fail
      rw [← HF.out] at HTL
      have hFl : L.length ≤ 127 := by omega
      clear HF h56' HGK hl0
      go_loopw [3, 4] (fun v kv wq => ∃ (j : Nat) (kk : Int) (M : List Nat) (g2 cap2 : Nat), j ≤ 8 ∧ kk = 56 - 8 * (j : Int) ∧ kv = .int .i64 kk ∧ M.length = L.length + j ∧ v = .slice (some ⟨g2, 0, none⟩) M.length cap2 ∧ Hid (rowM wq W.heap.size 5 (.slice (some ⟨g2, 0, none⟩) M.length cap2) M.length (M.map yv)) ∧ Hid (M = L ++ (Sm.bits8 (8 * s.size)).take j) ∧ Hid (Below W.heap.size W wq)) (fun _ kv _ => (intOf kv + 8).toNat)
      case atStart => exact ⟨0, 56, L, g, cap, by omega, rfl, rfl, rfl, rfl, RL, Lib.hid (by simp), BL⟩
      case round =>
        obtain ⟨j, kk, M, g2, cap2, hj, hkk, rfl, hM, rfl, RM, EM, BM⟩ := hrel
        have hM2 : M.length ≤ 200 := by omega
        have HM := Lib.hid hM; clear hM
        have hbm := BM.out.size
        clear RL BL
        by_cases j8 : j < 8
        · have hbit : M ++ [8 * s.size / 2 ^ (56 - 8 * j) % 256] = L ++ (Sm.bits8 (8 * s.size)).take (j + 1) := by
            rw [EM.out, List.append_assoc]
            congr 1
            rw [List.take_succ_eq_append_getElem (by rw [Sm.bits8_len]; exact j8)]
            simp [Sm.bits8]
          have hN : 8 * s.size ≤ 1125899906842624 := by omega
          have h8 : (8 : Int) * (s.size : Int) = ((8 * s.size : Nat) : Int) := by omega
          generalize 8 * s.size = N8 at hbit hN h8
          have HB := Lib.hid hbit
          clear hbit
          have hj7 : (j = 0 ∧ kk = 56) ∨ (j = 1 ∧ kk = 48) ∨ (j = 2 ∧ kk = 40) ∨ (j = 3 ∧ kk = 32) ∨ (j = 4 ∧ kk = 24) ∨ (j = 5 ∧ kk = 16) ∨ (j = 6 ∧ kk = 8) ∨ (j = 7 ∧ kk = 0) := by omega
          have hsz : (s.size : Int) ≤ 140737488355328 := by omega
          clear hkk
          rcases hj7 with ⟨rfl, rfl⟩ | ⟨rfl, rfl⟩ | ⟨rfl, rfl⟩ | ⟨rfl, rfl⟩ | ⟨rfl, rfl⟩ | ⟨rfl, rfl⟩ | ⟨rfl, rfl⟩ | ⟨rfl, rfl⟩
          all_goals
            go_wp2_with (first
              | (at_builtin
                 go_must (refine wpList_append_M _ rfl (.tmp 29) (.tmp 36) 36 rfl W.heap.size 5 i0 _ Try.underlying36 hi hz0 hz1 hz2 rfl _ M.length (M.map yv) rfl (RM.out.alloc _) ⟨wr.heap.size, 0, none⟩ 1 1 _ rfl rfl (cell_one_new _ _ _) (by simp [Value.oneCell']) (by omega) (by simp; omega) ?_)))
            intro v' w' r' b'
            have b2 : Below W.heap.size W w' := (BM.out.alloc (by omega) _).trans b'
            obtain ⟨M2, HM2, hm2, r2⟩ : ∃ M2, Hid (M2 = L ++ (Sm.bits8 N8).take (_ + 1)) ∧ M2.length = M.length + 1 ∧ rowM w' W.heap.size 5 v' M2.length (M2.map yv) :=
              ⟨_, HB, by simp, row_val r' (by simp only [Nat.reduceMul, Nat.reduceSub, Nat.reducePow]; omega)⟩
            obtain ⟨g3, cap3, rfl, _, _, _, _⟩ := r2.form
            have R2 := Lib.hid r2
            have B2 := Lib.hid b2
            have HM3 := Lib.hid hm2
            clear r2 b2 r' b' hm2 HB
            go_wp2_with fail
            go_roundw
            case rel => exact ⟨_, _, M2, g3, cap3, by decide, by decide, rfl, by have := HM3.out; have := HM.out; omega, rfl, R2, HM2, B2⟩
            case measure => simp [intOf]
        · have j8' : j = 8 := by omega
          subst j8'
          obtain rfl : kk = -8 := by omega
          have hTail : M = Sm.tail (s.data.toList.map UInt8.toNat) := by
            rw [HTL.out, EM.out, List.take_of_length_le (by rw [Sm.bits8_len]; exact Nat.le_refl _)]
          have HT := Lib.hid hTail
          clear hTail HTL EM hkk hj j8
          have hMl : M.length ≤ 136 := by have := HM.out; omega
          clear HM
          go_wp2_with fail
          refine (first_c wr).mono ?_
          rintro e' w5 ⟨rfl, b5⟩
          have B5 := Lib.hid (BM.out.trans (b5.mono hbm))
          have hs5 : W.heap.size ≤ w5.heap.size := B5.out.size
          have R5 := Lib.hid (RM.out.kept b5.block)
          clear b5 RM BM hbm
          have hst := st_words w5
          have HS8 := Lib.hid hst; clear hst
          go_wp2_with (first
            | (refine wpList_store_mid rfl 45 (.tmp 5) (.tmp 38) rfl w5.heap.size 0 (Sm.H.map uv).toArray rfl rfl HS8.out.1 (by kernel_rfl) (all_one Sm.H) ?_
               generalize hV : World.setCells _ _ _ _ = V
               have h6 := HS8.out.2 V hV
               clear hV))
          obtain ⟨h6, b6⟩ := h6
          have H6 := Lib.hid h6
          have B6 := Lib.hid b6
          clear h6 b6 HS8
          have hl8 : Hid (Sm.H.length = 8 ∧ ∀ x ∈ Sm.H, x < 4294967296) := Lib.hid ⟨rfl, Sm.H_lt⟩
          go_wp2_with fail
          simp only [Act.put]
          go_loopg [0] (s.size) (fun gk v wr => ∃ (t : ByteArray) (hv : List Nat), gk = t.size ∧ t.size ≤ 140737488355328 ∧ v = .string t ∧ Hid (hv.length = 8 ∧ ∀ x ∈ hv, x < 4294967296) ∧ Hid (wr.heap[w5.heap.size]? = some (.cells (hv.map uv).toArray 45 (0, 0))) ∧ Hid (Sm.bl hv (t.data.toList.map UInt8.toNat) = Sm.bl Sm.H (s.data.toList.map UInt8.toNat)) ∧ Hid (Below w5.heap.size w5 wr))
          case atStart => exact ⟨s, Sm.H, rfl, hs, rfl, hl8, H6, Lib.hid rfl, B6⟩
          case round =>
            obtain ⟨t, hv, hgk, ht, rfl, HX, HH, HE, HB⟩ := hrel
            clear H6 B6 hl8
            have HGK := Lib.hid hgk; clear hgk
            by_cases t64 : 64 ≤ t.size
            · obtain ⟨x0, x1, x2, x3, x4, x5, x6, x7, hx⟩ : ∃ x0 x1 x2 x3 x4 x5 x6 x7, hv = [x0, x1, x2, x3, x4, x5, x6, x7] := by
                match hv, HX.out.1 with
                | [x0, x1, x2, x3, x4, x5, x6, x7], _ => exact ⟨_, _, _, _, _, _, _, _, rfl⟩
              subst hx
              obtain ⟨bt, hbt⟩ : ∃ bt, bt = (t.data.toList.map UInt8.toNat).take 64 := ⟨_, rfl⟩
              have hbtl : bt.length = 64 := by
                rw [hbt, List.length_take, List.length_map]
                exact Nat.min_eq_left t64
              have hstep := Sm.bl_step (h := [x0, x1, x2, x3, x4, x5, x6, x7]) (l := t.data.toList.map UInt8.toNat) (by rw [List.length_map]; exact t64)
              have hbt2 : bt.map yv = (t.extract 0 64).data.toList.map fun b => yv b.toNat := by
                rw [Lib.extract_data, List.drop_zero, hbt, ← List.map_take, List.map_map]
                rfl
              have hbt3 : ∀ x ∈ bt, x < 256 := by
                intro x hx
                rw [hbt] at hx
                obtain ⟨b, _, rfl⟩ := List.mem_map.1 (List.mem_of_mem_take hx)
                exact b.toNat_lt
              have hbt4 : (t.extract 64 t.size).data.toList.map UInt8.toNat = (t.data.toList.map UInt8.toNat).drop 64 := by
                rw [Lib.extract_to_end, List.map_drop]
              rw [← hbt, ← hbt4, HE.out] at hstep
              have HS := Lib.hid hstep
              clear hstep hbt hbt4 HE
              obtain ⟨cc, cw, hconv, F⟩ := conv_fun (t.extract 0 64) 64 (by simp; omega) (by decide)
              have hms := Sm.mix_len bt (h := [x0, x1, x2, x3, x4, x5, x6, x7]) rfl
              have hml := Sm.mix_lt [x0, x1, x2, x3, x4, x5, x6, x7] bt
              have hmx : ∀ W' : World, Calls Try.prog 22 #[.agg #[.int .u32 (x0 : Int), .int .u32 (x1 : Int), .int .u32 (x2 : Int), .int .u32 (x3 : Int), .int .u32 (x4 : Int), .int .u32 (x5 : Int), .int .u32 (x6 : Int), .int .u32 (x7 : Int)], .slice (some ⟨W'.heap.size, 0, none⟩) 64 (cc W')] (cw W') fun e' w' => e' = .returned (.agg ((Sm.mix [x0, x1, x2, x3, x4, x5, x6, x7] bt).map uv).toArray) ∧ Below (cw W').heap.size (cw W') w' := fun W' =>
                mix_c x0 x1 x2 x3 x4 x5 x6 x7 W'.heap.size 0 64 (cc W') bt (cw W') (Nat.le_refl _) (F W').1 (F W').2.1 hbtl hbt3 (fun i x hx => by
                  rw [Nat.zero_add]
                  refine (F W').2.2.2.2 i (yv x) ?_
                  rw [← hbt2, List.getElem?_map, hx]
                  rfl) HX.out.2
              generalize Sm.mix [x0, x1, x2, x3, x4, x5, x6, x7] bt = Y at HS hms hml hmx
              obtain ⟨y0, y1, y2, y3, y4, y5, y6, y7, hy⟩ : ∃ y0 y1 y2 y3 y4 y5 y6 y7, Y = [y0, y1, y2, y3, y4, y5, y6, y7] := by
                match Y, hms with
                | [x0, x1, x2, x3, x4, x5, x6, x7], _ => exact ⟨_, _, _, _, _, _, _, _, rfl⟩
              subst hy
              change ∀ W' : World, Calls _ _ _ _ (fun e' w' => e' = .returned (.agg #[.int .u32 (y0 : Int), .int .u32 (y1 : Int), .int .u32 (y2 : Int), .int .u32 (y3 : Int), .int .u32 (y4 : Int), .int .u32 (y5 : Int), .int .u32 (y6 : Int), .int .u32 (y7 : Int)]) ∧ Below (cw W').heap.size (cw W') w') at hmx
              have HMX := Lib.hid hmx
              have HF := Lib.hid F
              have HML := Lib.hid hml
              clear hmx hms hml F hbt2 hbt3 hbtl
              have hz5 := HB.out.size
              have p0 : wr.cell? ⟨w5.heap.size, 0, none⟩ = some (.int .u32 (x0 : Int)) := by rw [Lib.cell_of_heap HH.out]; rfl
              have p1 : wr.cell? ⟨w5.heap.size, 1, none⟩ = some (.int .u32 (x1 : Int)) := by rw [Lib.cell_of_heap HH.out]; rfl
              have p2 : wr.cell? ⟨w5.heap.size, 2, none⟩ = some (.int .u32 (x2 : Int)) := by rw [Lib.cell_of_heap HH.out]; rfl
              have p3 : wr.cell? ⟨w5.heap.size, 3, none⟩ = some (.int .u32 (x3 : Int)) := by rw [Lib.cell_of_heap HH.out]; rfl
              have p4 : wr.cell? ⟨w5.heap.size, 4, none⟩ = some (.int .u32 (x4 : Int)) := by rw [Lib.cell_of_heap HH.out]; rfl
              have p5 : wr.cell? ⟨w5.heap.size, 5, none⟩ = some (.int .u32 (x5 : Int)) := by rw [Lib.cell_of_heap HH.out]; rfl
              have p6 : wr.cell? ⟨w5.heap.size, 6, none⟩ = some (.int .u32 (x6 : Int)) := by rw [Lib.cell_of_heap HH.out]; rfl
              have p7 : wr.cell? ⟨w5.heap.size, 7, none⟩ = some (.int .u32 (x7 : Int)) := by rw [Lib.cell_of_heap HH.out]; rfl
              have hlt5 : w5.heap.size < wr.heap.size := blk_lt HH.out
              have kc : ∀ o, (cw wr.drew).cell? ⟨w5.heap.size, o, none⟩ = wr.cell? ⟨w5.heap.size, o, none⟩ := fun o => World.cell?_of_block ((HF.out wr.drew).2.2.1.block w5.heap.size hlt5)
              have h7 : ∀ w7, Below (cw wr.drew).heap.size (cw wr.drew) w7 → Below w5.heap.size w5 w7 ∧ w7.heap[w5.heap.size]? = some (.cells #[.int .u32 (x0 : Int), .int .u32 (x1 : Int), .int .u32 (x2 : Int), .int .u32 (x3 : Int), .int .u32 (x4 : Int), .int .u32 (x5 : Int), .int .u32 (x6 : Int), .int .u32 (x7 : Int)] 45 (0, 0)) := fun w7 b7 => by
                have e1 := (HF.out wr.drew).2.2.1
                have e2 := (HF.out wr.drew).2.2.2.1
                refine ⟨(HB.out.drew.trans (e1.mono hz5)).trans (b7.mono (Nat.le_trans hz5 e1.size)), (b7.block _ (Nat.lt_of_lt_of_le hlt5 e1.size)).trans ((e1.block w5.heap.size hlt5).trans HH.out)⟩
              have H7 := Lib.hid h7; clear h7
              go_wp2_with fail
              go_region_with ((first
                | (go_at_call 22; refine (HMX.out wr.drew).mono ?_; rintro e' w7 ⟨rfl, b7⟩
                   obtain ⟨b8, h8⟩ := H7.out _ b7
                   have B8 := Lib.hid b8
                   have H8 := Lib.hid h8
                   clear b7 b8 h8
                   have q0 : w7.cell? ⟨w5.heap.size, 0, none⟩ = some (.int .u32 (x0 : Int)) := by rw [Lib.cell_of_heap H8.out]; rfl
                   have f0 : w7.frozen? ⟨w5.heap.size, 0, none⟩ = false := Lib.frozen_of_heap H8.out 0
                   have q1 : w7.cell? ⟨w5.heap.size, 1, none⟩ = some (.int .u32 (x1 : Int)) := by rw [Lib.cell_of_heap H8.out]; rfl
                   have f1 : w7.frozen? ⟨w5.heap.size, 1, none⟩ = false := Lib.frozen_of_heap H8.out 1
                   have q2 : w7.cell? ⟨w5.heap.size, 2, none⟩ = some (.int .u32 (x2 : Int)) := by rw [Lib.cell_of_heap H8.out]; rfl
                   have f2 : w7.frozen? ⟨w5.heap.size, 2, none⟩ = false := Lib.frozen_of_heap H8.out 2
                   have q3 : w7.cell? ⟨w5.heap.size, 3, none⟩ = some (.int .u32 (x3 : Int)) := by rw [Lib.cell_of_heap H8.out]; rfl
                   have f3 : w7.frozen? ⟨w5.heap.size, 3, none⟩ = false := Lib.frozen_of_heap H8.out 3
                   have q4 : w7.cell? ⟨w5.heap.size, 4, none⟩ = some (.int .u32 (x4 : Int)) := by rw [Lib.cell_of_heap H8.out]; rfl
                   have f4 : w7.frozen? ⟨w5.heap.size, 4, none⟩ = false := Lib.frozen_of_heap H8.out 4
                   have q5 : w7.cell? ⟨w5.heap.size, 5, none⟩ = some (.int .u32 (x5 : Int)) := by rw [Lib.cell_of_heap H8.out]; rfl
                   have f5 : w7.frozen? ⟨w5.heap.size, 5, none⟩ = false := Lib.frozen_of_heap H8.out 5
                   have q6 : w7.cell? ⟨w5.heap.size, 6, none⟩ = some (.int .u32 (x6 : Int)) := by rw [Lib.cell_of_heap H8.out]; rfl
                   have f6 : w7.frozen? ⟨w5.heap.size, 6, none⟩ = false := Lib.frozen_of_heap H8.out 6
                   have q7 : w7.cell? ⟨w5.heap.size, 7, none⟩ = some (.int .u32 (x7 : Int)) := by rw [Lib.cell_of_heap H8.out]; rfl
                   have f7 : w7.frozen? ⟨w5.heap.size, 7, none⟩ = false := Lib.frozen_of_heap H8.out 7
                   clear p0 p1 p2 p3 p4 p5 p6 p7 kc)))
              all_goals go_wp2_with fail
              all_goals go_roundg (t.size - 64)
              all_goals first
                | (have := HGK.out; omega)
                | (refine ⟨t.extract 64 t.size, [y0, y1, y2, y3, y4, y5, y6, y7], by simp, by simp; omega, rfl, Lib.hid ⟨rfl, HML.out⟩, Lib.hid ?_, HS, Lib.hid ?_⟩
                   · rw [eight]
                     exact heap_setCells_full (w := w7) [.int .u32 (y0 : Int), .int .u32 (y1 : Int), .int .u32 (y2 : Int), .int .u32 (y3 : Int), .int .u32 (y4 : Int), .int .u32 (y5 : Int), .int .u32 (y6 : Int), .int .u32 (y7 : Int)] [.int .u32 (x0 : Int), .int .u32 (x1 : Int), .int .u32 (x2 : Int), .int .u32 (x3 : Int), .int .u32 (x4 : Int), .int .u32 (x5 : Int), .int .u32 (x6 : Int), .int .u32 (x7 : Int)] H8.out rfl
                   · rw [eight]
                     exact below_setCells _ 0 B8.out (Nat.le_refl _))
            · have hE : hv = Sm.bl Sm.H (s.data.toList.map UInt8.toNat) := by
                rw [← HE.out, Sm.bl_end (by rw [List.length_map]; show t.size < 64; omega)]
              have hbl2 : Sm.bl hv M = Sm.bl (Sm.bl Sm.H (s.data.toList.map UInt8.toNat)) (Sm.tail (s.data.toList.map UInt8.toNat)) := by rw [hE, HT.out]
              have hM64 : M.length % 64 = 0 := by rw [HT.out]; exact (Sm.tail_len _).1
              have hM256 : ∀ x ∈ M, x < 256 := by
                rw [HT.out]
                refine Sm.tail_lt (fun x hx => ?_)
                obtain ⟨b, _, rfl⟩ := List.mem_map.1 hx
                exact b.toNat_lt
              have hMc : ∀ i x, M[i]? = some x → w5.cell? ⟨g2, 0 + i, none⟩ = some (yv x) := fun i x hx => by
                rw [Nat.zero_add]
                exact R5.out.cells rfl i (yv x) (by rw [List.getElem?_map, hx]; rfl)
              obtain ⟨g2', cap2', hg2, _, hg2l, hc2l, hc2m⟩ := R5.out.form
              obtain ⟨rfl, rfl⟩ : g2 = g2' ∧ cap2 = cap2' := by
                injection hg2 with h1 h2 h3
                injection h1 with h1
                injection h1 with h1
                exact ⟨h1, h3⟩
              unfold maxLen at hc2m
              have HBL2 := Lib.hid hbl2
              have HM64 := Lib.hid hM64
              have HM256 := Lib.hid hM256
              have HMC := Lib.hid hMc
              clear hE hbl2 hM64 hM256 hMc hg2 HE HGK HT
              go_wp2_with fail
              go_loopg [3] (M.length) (fun gk v wr => ∃ (T hv : List Nat) (off cap : Nat), gk = T.length ∧ T.length ≤ 136 ∧ T.length ≤ cap ∧ cap ≤ 9223372036854775807 ∧ v = .slice (some ⟨g2, off, none⟩) T.length cap ∧ Hid (T.length % 64 = 0) ∧ Hid (∀ x ∈ T, x < 256) ∧ Hid (∀ i x, T[i]? = some x → w5.cell? ⟨g2, off + i, none⟩ = some (yv x)) ∧ Hid (hv.length = 8 ∧ ∀ x ∈ hv, x < 4294967296) ∧ Hid (wr.heap[w5.heap.size]? = some (.cells (hv.map uv).toArray 45 (0, 0))) ∧ Hid (Sm.bl hv T = Sm.bl (Sm.bl Sm.H (s.data.toList.map UInt8.toNat)) (Sm.tail (s.data.toList.map UInt8.toNat))) ∧ Hid (Below w5.heap.size w5 wr))
              case atStart => exact ⟨M, hv, 0, cap2, rfl, hMl, hc2l, hc2m, rfl, HM64, HM256, HMC, HX, HH, HBL2, HB⟩
              case round =>
                clear HX HH HBL2 HB HM64 HM256 HMC
                obtain ⟨T, hv, off, cap, hgk, hT, hTc, hcm, rfl, H64, H256, HC, HX, HH, HE, HB⟩ := hrel
                have HGK := Lib.hid hgk; clear hgk
                by_cases t64 : 0 < T.length
                · have hT64 : 64 ≤ T.length := by have := H64.out; omega
                  obtain ⟨x0, x1, x2, x3, x4, x5, x6, x7, hx⟩ : ∃ x0 x1 x2 x3 x4 x5 x6 x7, hv = [x0, x1, x2, x3, x4, x5, x6, x7] := by
                    match hv, HX.out.1 with
                    | [x0, x1, x2, x3, x4, x5, x6, x7], _ => exact ⟨_, _, _, _, _, _, _, _, rfl⟩
                  subst hx
                  have hstep := Sm.bl_step (h := [x0, x1, x2, x3, x4, x5, x6, x7]) (l := T) hT64
                  rw [HE.out] at hstep
                  have HS := Lib.hid hstep
                  clear hstep HE
                  have hms := Sm.mix_len (T.take 64) (h := [x0, x1, x2, x3, x4, x5, x6, x7]) rfl
                  have hml := Sm.mix_lt [x0, x1, x2, x3, x4, x5, x6, x7] (T.take 64)
                  have hcap : cap ≤ maxLen := by unfold maxLen; omega
                  have hmx : Calls Try.prog 22 #[.agg #[.int .u32 (x0 : Int), .int .u32 (x1 : Int), .int .u32 (x2 : Int), .int .u32 (x3 : Int), .int .u32 (x4 : Int), .int .u32 (x5 : Int), .int .u32 (x6 : Int), .int .u32 (x7 : Int)], .slice (some ⟨g2, off, none⟩) 64 cap] wr.drew fun e' w' => e' = .returned (.agg ((Sm.mix [x0, x1, x2, x3, x4, x5, x6, x7] (T.take 64)).map uv).toArray) ∧ Below wr.drew.heap.size wr.drew w' :=
                    mix_c x0 x1 x2 x3 x4 x5 x6 x7 g2 off 64 cap (T.take 64) wr.drew (Nat.le_refl _) (by omega) hcap (by rw [List.length_take]; omega) (fun x hx => H256.out x (List.mem_of_mem_take hx)) (fun i x hx => by
                      have hi := (List.getElem?_eq_some_iff.1 hx).1
                      rw [List.length_take] at hi
                      rw [List.getElem?_take, if_pos (by omega)] at hx
                      exact cell_keep HB.out.block (HC.out i x hx)) HX.out.2
                  generalize Sm.mix [x0, x1, x2, x3, x4, x5, x6, x7] (T.take 64) = Y at HS hms hml hmx
                  obtain ⟨y0, y1, y2, y3, y4, y5, y6, y7, hy⟩ : ∃ y0 y1 y2 y3 y4 y5 y6 y7, Y = [y0, y1, y2, y3, y4, y5, y6, y7] := by
                    match Y, hms with
                    | [x0, x1, x2, x3, x4, x5, x6, x7], _ => exact ⟨_, _, _, _, _, _, _, _, rfl⟩
                  subst hy
                  change Calls _ _ _ _ (fun e' w' => e' = .returned (.agg #[.int .u32 (y0 : Int), .int .u32 (y1 : Int), .int .u32 (y2 : Int), .int .u32 (y3 : Int), .int .u32 (y4 : Int), .int .u32 (y5 : Int), .int .u32 (y6 : Int), .int .u32 (y7 : Int)]) ∧ Below wr.drew.heap.size wr.drew w') at hmx
                  have HMX := Lib.hid hmx
                  have HML := Lib.hid hml
                  clear hmx hms hml hcap
                  have hz5 := HB.out.size
                  have p0 : wr.cell? ⟨w5.heap.size, 0, none⟩ = some (.int .u32 (x0 : Int)) := by rw [Lib.cell_of_heap HH.out]; rfl
                  have p1 : wr.cell? ⟨w5.heap.size, 1, none⟩ = some (.int .u32 (x1 : Int)) := by rw [Lib.cell_of_heap HH.out]; rfl
                  have p2 : wr.cell? ⟨w5.heap.size, 2, none⟩ = some (.int .u32 (x2 : Int)) := by rw [Lib.cell_of_heap HH.out]; rfl
                  have p3 : wr.cell? ⟨w5.heap.size, 3, none⟩ = some (.int .u32 (x3 : Int)) := by rw [Lib.cell_of_heap HH.out]; rfl
                  have p4 : wr.cell? ⟨w5.heap.size, 4, none⟩ = some (.int .u32 (x4 : Int)) := by rw [Lib.cell_of_heap HH.out]; rfl
                  have p5 : wr.cell? ⟨w5.heap.size, 5, none⟩ = some (.int .u32 (x5 : Int)) := by rw [Lib.cell_of_heap HH.out]; rfl
                  have p6 : wr.cell? ⟨w5.heap.size, 6, none⟩ = some (.int .u32 (x6 : Int)) := by rw [Lib.cell_of_heap HH.out]; rfl
                  have p7 : wr.cell? ⟨w5.heap.size, 7, none⟩ = some (.int .u32 (x7 : Int)) := by rw [Lib.cell_of_heap HH.out]; rfl
                  have hlt5 : w5.heap.size < wr.heap.size := blk_lt HH.out
                  have h7 : ∀ w7, Below wr.drew.heap.size wr.drew w7 → Below w5.heap.size w5 w7 ∧ w7.heap[w5.heap.size]? = some (.cells #[.int .u32 (x0 : Int), .int .u32 (x1 : Int), .int .u32 (x2 : Int), .int .u32 (x3 : Int), .int .u32 (x4 : Int), .int .u32 (x5 : Int), .int .u32 (x6 : Int), .int .u32 (x7 : Int)] 45 (0, 0)) := fun w7 b7 =>
                    ⟨HB.out.drew.trans (b7.mono hz5), (b7.block w5.heap.size hlt5).trans HH.out⟩
                  have H7 := Lib.hid h7; clear h7
                  have hT4 : (T.drop 64).length = T.length - 64 := by rw [List.length_drop]
                  have hd : Hid (∀ i x, (T.drop 64)[i]? = some x → w5.cell? ⟨g2, off + 64 + i, none⟩ = some (yv x)) := Lib.hid (fun i x hx => by
                    rw [List.getElem?_drop] at hx
                    rw [Nat.add_assoc]
                    exact HC.out (64 + i) x hx)
                  have h256 : Hid (∀ x ∈ T.drop 64, x < 256) := Lib.hid fun x hx => H256.out x (List.mem_of_mem_drop hx)
                  have h64 : Hid ((T.drop 64).length % 64 = 0) := Lib.hid (by have := H64.out; omega)
                  have H4 := Lib.hid hT4; clear hT4
                  go_wp2_with fail
                  go_region_with ((first
                    | (go_at_call 22; refine HMX.out.mono ?_; rintro e' w7 ⟨rfl, b7⟩
                       obtain ⟨b8, h8⟩ := H7.out _ b7
                       have B8 := Lib.hid b8
                       have H8 := Lib.hid h8
                       clear b7 b8 h8
                       have q0 : w7.cell? ⟨w5.heap.size, 0, none⟩ = some (.int .u32 (x0 : Int)) := by rw [Lib.cell_of_heap H8.out]; rfl
                       have f0 : w7.frozen? ⟨w5.heap.size, 0, none⟩ = false := Lib.frozen_of_heap H8.out 0
                       have q1 : w7.cell? ⟨w5.heap.size, 1, none⟩ = some (.int .u32 (x1 : Int)) := by rw [Lib.cell_of_heap H8.out]; rfl
                       have f1 : w7.frozen? ⟨w5.heap.size, 1, none⟩ = false := Lib.frozen_of_heap H8.out 1
                       have q2 : w7.cell? ⟨w5.heap.size, 2, none⟩ = some (.int .u32 (x2 : Int)) := by rw [Lib.cell_of_heap H8.out]; rfl
                       have f2 : w7.frozen? ⟨w5.heap.size, 2, none⟩ = false := Lib.frozen_of_heap H8.out 2
                       have q3 : w7.cell? ⟨w5.heap.size, 3, none⟩ = some (.int .u32 (x3 : Int)) := by rw [Lib.cell_of_heap H8.out]; rfl
                       have f3 : w7.frozen? ⟨w5.heap.size, 3, none⟩ = false := Lib.frozen_of_heap H8.out 3
                       have q4 : w7.cell? ⟨w5.heap.size, 4, none⟩ = some (.int .u32 (x4 : Int)) := by rw [Lib.cell_of_heap H8.out]; rfl
                       have f4 : w7.frozen? ⟨w5.heap.size, 4, none⟩ = false := Lib.frozen_of_heap H8.out 4
                       have q5 : w7.cell? ⟨w5.heap.size, 5, none⟩ = some (.int .u32 (x5 : Int)) := by rw [Lib.cell_of_heap H8.out]; rfl
                       have f5 : w7.frozen? ⟨w5.heap.size, 5, none⟩ = false := Lib.frozen_of_heap H8.out 5
                       have q6 : w7.cell? ⟨w5.heap.size, 6, none⟩ = some (.int .u32 (x6 : Int)) := by rw [Lib.cell_of_heap H8.out]; rfl
                       have f6 : w7.frozen? ⟨w5.heap.size, 6, none⟩ = false := Lib.frozen_of_heap H8.out 6
                       have q7 : w7.cell? ⟨w5.heap.size, 7, none⟩ = some (.int .u32 (x7 : Int)) := by rw [Lib.cell_of_heap H8.out]; rfl
                       have f7 : w7.frozen? ⟨w5.heap.size, 7, none⟩ = false := Lib.frozen_of_heap H8.out 7
                       clear p0 p1 p2 p3 p4 p5 p6 p7)))
                  all_goals go_wp2_with fail
                  all_goals go_roundg (T.length - 64)
                  all_goals first
                    | (have := HGK.out; omega)
                    | (refine ⟨T.drop 64, [y0, y1, y2, y3, y4, y5, y6, y7], off + 64, cap - 64, by rw [H4.out], by have := H4.out; omega, by have := H4.out; omega, by omega, ?_, h64, h256, hd, Lib.hid ⟨rfl, HML.out⟩, Lib.hid ?_, HS, Lib.hid ?_⟩
                       · rw [H4.out]
                       · rw [eight]
                         exact heap_setCells_full (w := w7) [.int .u32 (y0 : Int), .int .u32 (y1 : Int), .int .u32 (y2 : Int), .int .u32 (y3 : Int), .int .u32 (y4 : Int), .int .u32 (y5 : Int), .int .u32 (y6 : Int), .int .u32 (y7 : Int)] [.int .u32 (x0 : Int), .int .u32 (x1 : Int), .int .u32 (x2 : Int), .int .u32 (x3 : Int), .int .u32 (x4 : Int), .int .u32 (x5 : Int), .int .u32 (x6 : Int), .int .u32 (x7 : Int)] H8.out rfl
                       · rw [eight]
                         exact below_setCells _ 0 B8.out (Nat.le_refl _))
                    | (refine ⟨T.drop 64, [y0, y1, y2, y3, y4, y5, y6, y7], off, 0, by rw [H4.out], by have := H4.out; omega, by have := H4.out; omega, by omega, ?_, h64, h256, Lib.hid (fun i x hx => ?_), Lib.hid ⟨rfl, HML.out⟩, Lib.hid ?_, HS, Lib.hid ?_⟩
                       · rw [H4.out]
                       · rw [List.drop_eq_nil_of_le (by omega)] at hx
                         simp at hx
                       · rw [eight]
                         exact heap_setCells_full (w := w7) [.int .u32 (y0 : Int), .int .u32 (y1 : Int), .int .u32 (y2 : Int), .int .u32 (y3 : Int), .int .u32 (y4 : Int), .int .u32 (y5 : Int), .int .u32 (y6 : Int), .int .u32 (y7 : Int)] [.int .u32 (x0 : Int), .int .u32 (x1 : Int), .int .u32 (x2 : Int), .int .u32 (x3 : Int), .int .u32 (x4 : Int), .int .u32 (x5 : Int), .int .u32 (x6 : Int), .int .u32 (x7 : Int)] H8.out rfl
                       · rw [eight]
                         exact below_setCells _ 0 B8.out (Nat.le_refl _))
                · have hT0 : T = [] := List.eq_nil_of_length_eq_zero (by omega)
                  have hfin : hv = Sm.bl (Sm.bl Sm.H (s.data.toList.map UInt8.toNat)) (Sm.tail (s.data.toList.map UInt8.toNat)) := by
                    rw [← HE.out, Sm.bl_end (by omega)]
                  have hsha : Sm.sha (s.data.toList.map UInt8.toNat) = Sm.dig hv := by rw [hfin]; rfl
                  have HSHA := Lib.hid hsha
                  clear hfin hsha HE HC H256 H64 hT0
                  have hgo : wr.heap[w.heap.size]? = some (.cells ((List.replicate 32 0).map yv).toArray 23 (0, 0)) :=
                    (HB.out.block _ (by omega)).trans ((B5.out.block _ hs0).trans HOUT.out)
                  have hbw : Below w.heap.size w wr := (HBW.out.trans (B5.out.mono (by omega))).trans (HB.out.mono (by omega))
                  have hne : w.heap.size ≠ w5.heap.size := by omega
                  have HGO := Lib.hid hgo
                  have HBw := Lib.hid hbw
                  have HNE := Lib.hid hne
                  clear hgo hbw hne
                  go_wp2_with fail
                  go_loopw [58] (fun i wq => ∃ k : Nat, k ≤ 32 ∧ i = .int .i64 k ∧ Hid (wq.heap[w.heap.size]? = some (.cells (((Sm.dig hv).take k ++ List.replicate (32 - k) 0).map yv).toArray 23 (0, 0))) ∧ Hid (wq.heap[w5.heap.size]? = some (.cells (hv.map uv).toArray 45 (0, 0))) ∧ Hid (Below w.heap.size w wq)) (fun i _ => 32 - (intOf i).toNat)
                  case atStart => exact ⟨0, by omega, rfl, HGO, HH, HBw⟩
                  case round =>
                    clear HGO HBw HH
                    obtain ⟨k, hk, rfl, HO, HH, HB2⟩ := hrel
                    by_cases k32 : k < 32
                    · obtain ⟨q, r, hkq, hr, hq⟩ : ∃ q r, k = 4 * q + r ∧ r < 4 ∧ q < 8 := ⟨k / 4, k % 4, by omega, by omega, by omega⟩
                      have hcx : wr.cell? ⟨w5.heap.size, q, none⟩ = some (.int .u32 (hv.getD q 0 : Nat)) := by
                        rw [Lib.cell_of_heap HH.out, List.getElem?_toArray, List.getElem?_map, List.getD_eq_getElem?_getD, List.getElem?_eq_getElem (by rw [HX.out.1]; exact hq)]
                        rfl
                      have hco : wr.cell? ⟨w.heap.size, k, none⟩ = some (.int .u8 0) := by
                        rw [Lib.cell_of_heap HO.out]
                        exact (pad_newY (Sm.dig hv) k (by rw [Sm.dig_len]; omega)).resolve_right (by omega)
                      have hfo : wr.frozen? ⟨w.heap.size, k, none⟩ = false := Lib.frozen_of_heap HO.out k
                      have hxl := Sm.getD_lt (M := 4294967296) (by decide) HX.out.2 q
                      have hdig : (Sm.dig hv)[k]? = some (hv.getD q 0 / 2 ^ (24 - 8 * r) % 256) := by
                        unfold Sm.dig
                        rw [List.getElem?_map, List.getElem?_range k32]
                        show some (hv.getD (k / 4) 0 / 2 ^ (24 - 8 * (k % 4)) % 256) = _
                        rw [show k / 4 = q from by omega, show k % 4 = r from by omega]
                      generalize hv.getD q 0 = X at hcx hxl hdig
                      have HD := Lib.hid hdig; clear hdig
                      have iq : (k : Int) / 4 = (q : Int) := by omega
                      have q0 : (0 : Int) ≤ (q : Int) := by omega
                      have q1 : (q : Int) < 8 := by omega
                      have k0 : (0 : Int) ≤ (k : Int) := by omega
                      have k1 : (k : Int) < 32 := by omega
                      have hr4 : (r = 0 ∧ (k : Int) % 4 = 0) ∨ (r = 1 ∧ (k : Int) % 4 = 1) ∨ (r = 2 ∧ (k : Int) % 4 = 2) ∨ (r = 3 ∧ (k : Int) % 4 = 3) := by omega
                      have HKQ := Lib.hid hkq; clear hkq
                      rcases hr4 with ⟨rfl, ir⟩ | ⟨rfl, ir⟩ | ⟨rfl, ir⟩ | ⟨rfl, ir⟩
                      all_goals go_wp2_with fail
                      all_goals go_roundw
                      all_goals first
                        | (simp [intOf]; omega)
                        | (refine ⟨k + 1, by omega, by go_num, Lib.hid (put_D k32 HD.out ?_ HO.out), Lib.hid ?_, Lib.hid (HB2.out.setCell (p := ⟨w.heap.size, k, none⟩) (Nat.le_refl _) _)⟩
                           · simp only [Nat.reduceMul, Nat.reduceSub, Nat.reducePow]
                             omega
                           · exact (Below.heap_setCell wr ⟨w.heap.size, k, none⟩ _ w5.heap.size (Ne.symm HNE.out)).trans HH.out)
                    · obtain rfl : k = 32 := by omega
                      have hot : wr.heap[w.heap.size]? = some (.cells ((Sm.dig hv).map yv).toArray 23 (0, 0)) := by
                        have h := HO.out
                        rw [show 32 - 32 = 0 from rfl, List.replicate_zero, List.append_nil, List.take_of_length_le (by rw [Sm.dig_len]; exact Nat.le_refl _)] at h
                        exact h
                      have hi32 : (Try.prog.info? 23).map (·.size) = some ((Sm.dig hv).map yv).length := by rw [List.length_map, Sm.dig_len]; kernel_rfl
                      have HOT := Lib.hid hot
                      have HRG := Lib.hid (range_of hot)
                      have HTH := Lib.hid (there_of hot)
                      have HI := Lib.hid hi32
                      clear hi32 hot HO
                      go_wp2_with (first
                        | refine wpList_load_mid rfl 23 (.tmp 2) rfl w.heap.size 0 rfl ((Sm.dig hv).map yv) _ HRG.out Try.underlying23 rfl HI.out ?_
                        | refine wpList_store_mid rfl 23 (.tmp 2) (.tmp 74) rfl w.heap.size 0 ((Sm.dig hv).map yv).toArray rfl rfl HTH.out (by simpa using HI.out) (all_oneY _) ?_)
                      have hh := heap_setCells_same (w := wr) (b := w.heap.size) (C := ((Sm.dig hv).map yv).toArray) (t := 23) ((Sm.dig hv).map yv) 0 HOT.out (fun j v hv => by rw [Nat.zero_add]; simpa using hv)
                      refine ⟨rfl, _, results_cell_row rfl _ _ _ _ _ _ _ rfl hh Try.underlying23 rfl (by simpa using HI.out), ?_, ?_⟩
                      · rw [HSHA.out]
                      · exact below_setCells _ 0 HB2.out (Nat.le_refl _)
    · have HN := Lib.hid (Sm.fill_step h56)
      have h56' : ¬ (L.length : Int) % 64 = 56 := by omega
      have HGK := Lib.hid hgk; clear hgk
      have HH := Lib.hid h56; clear h56
      have hbl := BL.out.size
      go_wp2_with (first
        | (at_builtin
           go_must (refine wpList_append_M _ rfl (.tmp 22) (.tmp 23) 36 rfl W.heap.size 5 i0 _ Try.underlying36 hi hz0 hz1 hz2 rfl _ L.length (L.map yv) rfl (RL.out.alloc (.cells #[.int .u8 0] 5)) ⟨wr.heap.size, 0, none⟩ 1 1 [yv 0] rfl rfl ?c1 ?c2 (by omega) (by simp; omega) ?_)))
      case c1 =>
        intro j u hj
        match j, hj with
        | 0, hj => simp at hj; subst hj; simp [Addr.add, yv]
      case c2 => intro u hu; simp at hu; subst hu; rfl
      intro v' w' r' b'
      have b2 : Below W.heap.size W w' := (BL.out.alloc (by omega) _).trans b'
      have r2 : rowM w' W.heap.size 5 v' (L ++ [0]).length ((L ++ [0]).map yv) := by
        rw [List.length_append, List.map_append]
        exact r'
      obtain ⟨g2, cap2, rfl, _, _, _, _⟩ := r2.form
      have R2 := Lib.hid r2
      have B2 := Lib.hid b2
      clear r2 b2 r' b'
      have hL1 : (L ++ [0]).length = L.length + 1 := by simp
      have HL1 := Lib.hid hL1; clear hL1
      generalize hM : L ++ [0] = M at R2 HL1 HN
      clear hM
      go_wp2_with fail
      go_roundg ((120 - M.length % 64) % 64)
      case rel => exact ⟨M, g2, cap2, rfl, by have := HL1.out; have := HGK.out; have := HH.out; omega, by rw [HL1.out], R2, Lib.hid (HN.out.trans FL.out), B2⟩
      case measure => have := HL1.out; have := HGK.out; have := HH.out; omega
end Go.Proofs.Ytjijmgmobdoliaa
