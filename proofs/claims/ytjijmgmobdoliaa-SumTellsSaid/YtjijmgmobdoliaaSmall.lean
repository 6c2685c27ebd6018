/- small of the statements of chapter 03: the fixed example. -/
import Derived.Test.YtjijmgmobdoliaaDig
import Derived.Test.YtjijmgmobdoliaaCrc
import Derived.Stop.BytesEq
import Derived.Test.YtjijmgmobdoliaaTake
namespace Go.Proofs.Ytjijmgmobdoliaa
open Go.RowKit

def LA : List Nat := [0xba, 0x78, 0x16, 0xbf, 0x8f, 0x01, 0xcf, 0xea, 0x41, 0x41, 0x40, 0xde, 0x5d, 0xae, 0x22, 0x23, 0xb0, 0x03, 0x61, 0xa3, 0x96, 0x17, 0x7a, 0x9c, 0xb4, 0x10, 0xff, 0x61, 0xf2, 0x00, 0x15, 0xad]
def LE : List Nat := [0xe3, 0xb0, 0xc4, 0x42, 0x98, 0xfc, 0x1c, 0x14, 0x9a, 0xfb, 0xf4, 0xc8, 0x99, 0x6f, 0xb9, 0x24, 0x27, 0xae, 0x41, 0xe4, 0x64, 0x9b, 0x93, 0x4c, 0xa4, 0x95, 0x99, 0x1b, 0x78, 0x52, 0xb8, 0x55]
def LZ : List Nat := List.replicate 32 0
set_option maxRecDepth 100000 in
theorem sha_abc : Sm.sha [97, 98, 99] = LA := by decide +kernel
set_option maxRecDepth 100000 in
theorem sha_nil : Sm.sha [] = LE := by decide +kernel
theorem LA_lt : ∀ x ∈ LA, x < 256 := by decide +kernel
theorem LE_lt : ∀ x ∈ LE, x < 256 := by decide +kernel
theorem hex_A : Hx.hex LA = [98, 97, 55, 56, 49, 54, 98, 102, 56, 102, 48, 49, 99, 102, 101, 97, 52, 49, 52, 49, 52, 48, 100, 101, 53, 100, 97, 101, 50, 50, 50, 51, 98, 48, 48, 51, 54, 49, 97, 51, 57, 54, 49, 55, 55, 97, 57, 99, 98, 52, 49, 48, 102, 102, 54, 49, 102, 50, 48, 48, 49, 53, 97, 100] := by decide +kernel
theorem rd_A : Hx.rd [98, 97, 55, 56, 49, 54, 98, 102, 56, 102, 48, 49, 99, 102, 101, 97, 52, 49, 52, 49, 52, 48, 100, 101, 53, 100, 97, 101, 50, 50, 50, 51, 98, 48, 48, 51, 54, 49, 97, 51, 57, 54, 49, 55, 55, 97, 57, 99, 98, 52, 49, 48, 102, 102, 54, 49, 102, 50, 48, 48, 49, 53, 97, 100] = (LA, true) := by
  rw [← hex_A]
  exact Hx.rd_hex LA_lt rfl
theorem raw_U : Hx.hex (Hx.raw [66, 65, 55, 56, 49, 54, 66, 70, 56, 70, 48, 49, 67, 70, 69, 65, 52, 49, 52, 49, 52, 48, 68, 69, 53, 68, 65, 69, 50, 50, 50, 51, 66, 48, 48, 51, 54, 49, 65, 51, 57, 54, 49, 55, 55, 65, 57, 67, 66, 52, 49, 48, 70, 70, 54, 49, 70, 50, 48, 48, 49, 53, 65, 68]) ≠ [66, 65, 55, 56, 49, 54, 66, 70, 56, 70, 48, 49, 67, 70, 69, 65, 52, 49, 52, 49, 52, 48, 68, 69, 53, 68, 65, 69, 50, 50, 50, 51, 66, 48, 48, 51, 54, 49, 65, 51, 57, 54, 49, 55, 55, 65, 57, 67, 66, 52, 49, 48, 70, 70, 54, 49, 70, 50, 48, 48, 49, 53, 65, 68] := by decide +kernel
theorem rd_U : Hx.rd [66, 65, 55, 56, 49, 54, 66, 70, 56, 70, 48, 49, 67, 70, 69, 65, 52, 49, 52, 49, 52, 48, 68, 69, 53, 68, 65, 69, 50, 50, 50, 51, 66, 48, 48, 51, 54, 49, 65, 51, 57, 54, 49, 55, 55, 65, 57, 67, 66, 52, 49, 48, 70, 70, 54, 49, 70, 50, 48, 48, 49, 53, 65, 68] = (LZ, false) := by
  unfold Hx.rd
  rw [if_neg]
  · rfl
  · rintro ⟨h1, _, h3⟩
    unfold Hx.unhex at h1 h3
    split at h1
    · rename_i hc
      rw [if_pos hc] at h3
      exact raw_U h3
    · cases h1
theorem cell_dig (l : List Nat) (h : ∀ x ∈ l, x < 256) : (l.map yv).toArray = ((l.map UInt8.ofNat).map Extern.Stop.cell).toArray := by
  congr 1
  rw [List.map_map]
  refine List.map_congr_left fun x hx => ?_
  show Value.int .u8 (x : Int) = Value.int .u8 ((UInt8.ofNat x).toNat : Int)
  rw [Vi.ofNat_toNat (h x hx)]
theorem ofNat_inj_map : ∀ (x y : List Nat), (∀ z ∈ x, z < 256) → (∀ z ∈ y, z < 256) → x.map UInt8.ofNat = y.map UInt8.ofNat → x = y
  | [], [], _, _, _ => rfl
  | [], _ :: _, _, _, h => by simp at h
  | _ :: _, [], _, _, h => by simp at h
  | a :: x, b :: y, hx, hy, h => by
    simp only [List.map_cons, List.cons.injEq] at h
    have h1 := congrArg UInt8.toNat h.1
    rw [Vi.ofNat_toNat (hx a (by simp)), Vi.ofNat_toNat (hy b (by simp))] at h1
    rw [h1, ofNat_inj_map x y (fun z hz => hx z (by simp [hz])) (fun z hz => hy z (by simp [hz])) h.2]
theorem eql_dig (x y : List Nat) (hx : x.length = 32) (hy : y.length = 32) (hxl : ∀ z ∈ x, z < 256) (hyl : ∀ z ∈ y, z < 256) (W : World) :
    (binOp .eql 23 (.agg (x.map yv).toArray) (.agg (y.map yv).toArray)).run Try.prog W = .ok (.bool (decide (x = y))) W := by
  rw [cell_dig x hxl, cell_dig y hyl, run_eql_bytes W 23 5 32 Try.underlying23 Try.underlying5 Try.sizeOf5 _ _ (by rw [List.length_map, hx]) (by rw [List.length_map, hy])]
  congr 2
  rw [Bool.eq_iff_iff]
  simp only [beq_iff_eq, decide_eq_true_eq]
  exact ⟨ofNat_inj_map x y hxl hyl, fun h => by rw [h]⟩

theorem readA_c (w : World) : Calls Try.prog 8 #[.string ⟨#[98, 97, 55, 56, 49, 54, 98, 102, 56, 102, 48, 49, 99, 102, 101, 97, 52, 49, 52, 49, 52, 48, 100, 101, 53, 100, 97, 101, 50, 50, 50, 51, 98, 48, 48, 51, 54, 49, 97, 51, 57, 54, 49, 55, 55, 97, 57, 99, 98, 52, 49, 48, 102, 102, 54, 49, 102, 50, 48, 48, 49, 53, 97, 100]⟩] w fun e w' => e = .returned (.tuple #[.agg (LA.map yv).toArray, .bool true]) ∧ Below w.heap.size w w' := by
  have h := Read_c ⟨#[98, 97, 55, 56, 49, 54, 98, 102, 56, 102, 48, 49, 99, 102, 101, 97, 52, 49, 52, 49, 52, 48, 100, 101, 53, 100, 97, 101, 50, 50, 50, 51, 98, 48, 48, 51, 54, 49, 97, 51, 57, 54, 49, 55, 55, 97, 57, 99, 98, 52, 49, 48, 102, 102, 54, 49, 102, 50, 48, 48, 49, 53, 97, 100]⟩ w (by decide)
  have e : (⟨#[98, 97, 55, 56, 49, 54, 98, 102, 56, 102, 48, 49, 99, 102, 101, 97, 52, 49, 52, 49, 52, 48, 100, 101, 53, 100, 97, 101, 50, 50, 50, 51, 98, 48, 48, 51, 54, 49, 97, 51, 57, 54, 49, 55, 55, 97, 57, 99, 98, 52, 49, 48, 102, 102, 54, 49, 102, 50, 48, 48, 49, 53, 97, 100]⟩ : ByteArray).data.toList = [98, 97, 55, 56, 49, 54, 98, 102, 56, 102, 48, 49, 99, 102, 101, 97, 52, 49, 52, 49, 52, 48, 100, 101, 53, 100, 97, 101, 50, 50, 50, 51, 98, 48, 48, 51, 54, 49, 97, 51, 57, 54, 49, 55, 55, 97, 57, 99, 98, 52, 49, 48, 102, 102, 54, 49, 102, 50, 48, 48, 49, 53, 97, 100] := rfl
  rw [e, rd_A] at h
  exact h
theorem readU_c (w : World) : Calls Try.prog 8 #[.string ⟨#[66, 65, 55, 56, 49, 54, 66, 70, 56, 70, 48, 49, 67, 70, 69, 65, 52, 49, 52, 49, 52, 48, 68, 69, 53, 68, 65, 69, 50, 50, 50, 51, 66, 48, 48, 51, 54, 49, 65, 51, 57, 54, 49, 55, 55, 65, 57, 67, 66, 52, 49, 48, 70, 70, 54, 49, 70, 50, 48, 48, 49, 53, 65, 68]⟩] w fun e w' => e = .returned (.tuple #[.agg (LZ.map yv).toArray, .bool false]) ∧ Below w.heap.size w w' := by
  have h := Read_c ⟨#[66, 65, 55, 56, 49, 54, 66, 70, 56, 70, 48, 49, 67, 70, 69, 65, 52, 49, 52, 49, 52, 48, 68, 69, 53, 68, 65, 69, 50, 50, 50, 51, 66, 48, 48, 51, 54, 49, 65, 51, 57, 54, 49, 55, 55, 65, 57, 67, 66, 52, 49, 48, 70, 70, 54, 49, 70, 50, 48, 48, 49, 53, 65, 68]⟩ w (by decide)
  have e : (⟨#[66, 65, 55, 56, 49, 54, 66, 70, 56, 70, 48, 49, 67, 70, 69, 65, 52, 49, 52, 49, 52, 48, 68, 69, 53, 68, 65, 69, 50, 50, 50, 51, 66, 48, 48, 51, 54, 49, 65, 51, 57, 54, 49, 55, 55, 65, 57, 67, 66, 52, 49, 48, 70, 70, 54, 49, 70, 50, 48, 48, 49, 53, 65, 68]⟩ : ByteArray).data.toList = [66, 65, 55, 56, 49, 54, 66, 70, 56, 70, 48, 49, 67, 70, 69, 65, 52, 49, 52, 49, 52, 48, 68, 69, 53, 68, 65, 69, 50, 50, 50, 51, 66, 48, 48, 51, 54, 49, 65, 51, 57, 54, 49, 55, 55, 65, 57, 67, 66, 52, 49, 48, 70, 70, 54, 49, 70, 50, 48, 48, 49, 53, 65, 68] := rfl
  rw [e, rd_U] at h
  exact h
theorem crc9_c (w : World) : Calls Try.prog 10 #[.string ⟨#[49, 50, 51, 52, 53, 54, 55, 56, 57]⟩] w fun e w' => e = .returned (.int .u32 3808858755) ∧ w' = w := by
  have h := Crc_c ⟨#[49, 50, 51, 52, 53, 54, 55, 56, 57]⟩ w (by decide)
  have e : Sm.crc (⟨#[49, 50, 51, 52, 53, 54, 55, 56, 57]⟩ : ByteArray).data.toList = 3808858755 := by decide +kernel
  rw [e] at h
  exact h
theorem crc0_c (w : World) : Calls Try.prog 10 #[.string ⟨#[]⟩] w fun e w' => e = .returned (.int .u32 0) ∧ w' = w := by
  have h := Crc_c ⟨#[]⟩ w (by decide)
  have e : Sm.crc (⟨#[]⟩ : ByteArray).data.toList = 0 := by decide +kernel
  rw [e] at h
  exact h
theorem shaA_c (w : World) : Calls Try.prog 12 #[.string ⟨#[97, 98, 99]⟩] w fun e w' => e = .returned (.agg (LA.map yv).toArray) ∧ Below w.heap.size w w' := by
  have h := Sha_c ⟨#[97, 98, 99]⟩ w (by decide)
  have e : (⟨#[97, 98, 99]⟩ : ByteArray).data.toList.map UInt8.toNat = [97, 98, 99] := rfl
  rw [e, sha_abc] at h
  exact h
theorem shaE_c (w : World) : Calls Try.prog 12 #[.string ⟨#[]⟩] w fun e w' => e = .returned (.agg (LE.map yv).toArray) ∧ Below w.heap.size w w' := by
  have h := Sha_c ⟨#[]⟩ w (by decide)
  have e : (⟨#[]⟩ : ByteArray).data.toList.map UInt8.toNat = [] := rfl
  rw [e, sha_nil] at h
  exact h
theorem lessAE_c (w : World) : Calls Try.prog 16 #[.agg (LA.map yv).toArray, .agg (LE.map yv).toArray] w fun e w' => e = .returned (.bool true) ∧ Below w.heap.size w w' := by
  exact Less_c LA LE w rfl rfl LA_lt LE_lt
theorem lessAA_c (w : World) : Calls Try.prog 16 #[.agg (LA.map yv).toArray, .agg (LA.map yv).toArray] w fun e w' => e = .returned (.bool false) ∧ Below w.heap.size w w' := by
  exact Less_c LA LA w rfl rfl LA_lt LA_lt
theorem hexE_c (w : World) : Calls Try.prog 14 #[.agg (LE.map yv).toArray] w fun e w' => e = .returned (.string (bs (Hx.hex LE))) ∧ Below w.heap.size w w' := by
  exact DigHex_c LE w rfl LE_lt
def SS (W : World) (B : Nat) (cs : List Value) (u : World) : Prop := B < W.heap.size ∧ u.rangeAt B 0 cs ∧ Below W.heap.size W u
theorem SK {W u u' : World} {B : Nat} {cs : List Value} (h : SS W B cs u) (k : Below u.heap.size u u') : SS W B cs u' := by
  obtain ⟨hB, h⟩ := h
  exact ⟨hB, fun j v hv => (World.cell?_of_block (k.block B (Nat.lt_of_lt_of_le hB h.2.size))).trans (h.1 j v hv), chain h.2 k⟩
theorem SS.below {W u : World} {B : Nat} {cs : List Value} (h : SS W B cs u) : Below W.heap.size W u := h.2.2
theorem st_dig (w : World) (D : List Nat) (hD : D.length = 32) : (w.alloc (.cells (LZ.map yv).toArray 23)).there w.heap.size 0 (D.map yv).toArray.size ∧
    ∀ V, (w.alloc (.cells (LZ.map yv).toArray 23)).setCells w.heap.size 0 (D.map yv).toArray.toList = V → V.heap[w.heap.size]? = some (.cells (D.map yv).toArray 23 (0, 0)) ∧ Below w.heap.size w V := by
  have h : (w.alloc (.cells (LZ.map yv).toArray 23)).heap[w.heap.size]? = some (.cells (LZ.map yv).toArray 23 (0, 0)) := heap_alloc_new _ _
  have h8 : (D.map yv).toArray.size = (LZ.map yv).toArray.size := by simp [hD, LZ]
  refine ⟨by rw [h8]; exact there_of (cs := LZ.map yv) h, fun V hV => ?_⟩
  subst hV
  exact ⟨heap_setCells_full (D.map yv) (LZ.map yv) h (by simp [hD, LZ]), below_setCells _ 0 ((Below.refl _ _).alloc (Nat.le_refl _) _) (Nat.le_refl _)⟩

set_option maxHeartbeats 8000000 in
set_option maxRecDepth 100000 in
theorem small_c (w : World) : Calls Try.prog 7 #[] w fun e w' => e = .returned (.bool true) ∧ Below w.heap.size w w' := by
  have hiA : (Try.prog.info? 23).map (·.size) = some (LA.map yv).toArray.size := by kernel_rfl
  have hiZ : (Try.prog.info? 23).map (·.size) = some (LZ.map yv).toArray.size := by kernel_rfl
  have HIA := Lib.hid hiA
  have HIZ := Lib.hid hiZ
  clear hiA hiZ
  go_enter Try.func7, Try.ntmps7
  go_wp2_with fail
  refine (readA_c w).mono ?_
  rintro e w1 ⟨rfl, b1⟩
  have B1 := Lib.hid b1
  have hs1 := b1.size
  have hst := st_dig w1 LA rfl
  have HST := Lib.hid hst
  clear b1 hst
  go_wp2_with (first
    | (refine wpList_store_mid rfl 23 (.tmp 1) (.tmp 7) rfl w1.heap.size 0 (LA.map yv).toArray rfl rfl HST.out.1 HIA.out (all_oneY LA) ?_
       generalize hV : World.setCells _ _ _ _ = V
       have h6 := HST.out.2 V hV
       clear hV))
  obtain ⟨hA, bA⟩ := h6
  have HA := Lib.hid hA
  have hs2 := bA.size
  have BA := Lib.hid (B1.out.trans (bA.mono hs1))
  clear hA bA HST
  refine (readU_c V).mono ?_
  rintro e w2 ⟨rfl, b2⟩
  have HA2 := Lib.hid ((b2.block _ (blk_lt HA.out)).trans HA.out)
  have hs3 := b2.size
  have B2 := Lib.hid (BA.out.trans (b2.mono (by omega)))
  have hst := st_dig w2 LZ rfl
  have HST := Lib.hid hst
  clear b2 hst HA
  go_wp2_with (first
    | (refine wpList_store_mid rfl 23 (.tmp 3) (.tmp 11) rfl w2.heap.size 0 (LZ.map yv).toArray rfl rfl HST.out.1 HIZ.out (all_oneY LZ) ?_
       generalize hV2 : World.setCells _ _ _ _ = W
       have h6 := HST.out.2 W hV2
       clear hV2))
  obtain ⟨_, bW⟩ := h6
  have hlt1 : w1.heap.size < w2.heap.size := blk_lt HA2.out
  have hr0 := (bW.block _ hlt1).trans HA2.out
  have hB0 : w1.heap.size < W.heap.size := blk_lt hr0
  have rr := range_of hr0
  have BW := Lib.hid (B2.out.trans (bW.mono (by omega)))
  clear hr0 bW HST HA2 HIZ
  have heq : ∀ u, (binOp .eql 23 (.agg (LA.map yv).toArray) (.agg (LA.map yv).toArray)).run Try.prog u = .ok (.bool true) u := fun u => by
    have h := eql_dig LA LA rfl rfl LA_lt LA_lt u
    exact h
  have hE : ((bs (Hx.hex LE)).toList == [101, 51, 98, 48, 99, 52, 52, 50, 57, 56, 102, 99, 49, 99, 49, 52, 57, 97, 102, 98, 102, 52, 99, 56, 57, 57, 54, 102, 98, 57, 50, 52, 50, 55, 97, 101, 52, 49, 101, 52, 54, 52, 57, 98, 57, 51, 52, 99, 97, 52, 57, 53, 57, 57, 49, 98, 55, 56, 53, 50, 98, 56, 53, 53]) = true := by decide +kernel
  have hE2 : ((bs (Hx.hex LE)).toList == (⟨#[101, 51, 98, 48, 99, 52, 52, 50, 57, 56, 102, 99, 49, 99, 49, 52, 57, 97, 102, 98, 102, 52, 99, 56, 57, 57, 54, 102, 98, 57, 50, 52, 50, 55, 97, 101, 52, 49, 101, 52, 54, 52, 57, 98, 57, 51, 52, 99, 97, 52, 57, 53, 57, 57, 49, 98, 55, 56, 53, 50, 98, 56, 53, 53]⟩ : ByteArray).toList) = true := by decide +kernel
  have hE3 : ∀ u, (binOp .eql 9 (.string (bs (Hx.hex LE))) (.string ⟨#[101, 51, 98, 48, 99, 52, 52, 50, 57, 56, 102, 99, 49, 99, 49, 52, 57, 97, 102, 98, 102, 52, 99, 56, 57, 57, 54, 102, 98, 57, 50, 52, 50, 55, 97, 101, 52, 49, 101, 52, 54, 52, 57, 98, 57, 51, 52, 99, 97, 52, 57, 53, 57, 57, 49, 98, 55, 56, 53, 50, 98, 56, 53, 53]⟩)).run Try.prog u = .ok (.bool true) u := fun _ => by kernel_rfl
  have s0 : SS W w1.heap.size (LA.map yv) W.drew := ⟨hB0, rr, rfl, rfl, rfl, Nat.le_refl _, fun _ _ => rfl⟩
  have hiL : (Try.prog.info? 23).map (·.size) = some (LA.map yv).length := by kernel_rfl
  clear hB0 rr
  refine wp_region_held_drew (S := SS W w1.heap.size (LA.map yv)) (by kernel_rfl) s0 (fun _ => ?_)
  refine wpAnyH_ready (rs := [0]) (by kernel_rfl) (by simp) ?_
  refine AllReadyH.cons rfl (fun K hK => ?_) AllReadyH.nil
  go_simp
  refine (crc9_c _).mono ?_
  rintro e u1 ⟨rfl, rfl⟩
  go_wp2_with fail
  refine hK.out _ _ (by assumption) (fun _ => ?_)
  clear hK K
  try simp only [Act.put, List.setIfInBounds_toArray, List.set_cons_zero, List.set_cons_succ]
  refine take_at (i := 1) (d := (some 14)) (v := ?_) rfl rfl (by kernel_rfl) (by kernel_rfl) (by kernel_rfl) (fun _ _ _ h => h) (Or.inl ⟨by rfl, ?_⟩) (by assumption) ?_
  rotate_left
  · (intro u hSu; go_simp; with_reducible rfl)
  simp only [Act.put, List.setIfInBounds_toArray, List.set_cons_zero, List.set_cons_succ]
  refine take_at (i := 2) (d := (some 15)) (v := ?_) rfl rfl (by kernel_rfl) (by kernel_rfl) (by kernel_rfl) (fun _ _ _ h => h) (Or.inl ⟨by rfl, ?_⟩) (by assumption) ?_
  rotate_left
  · (intro u hSu; go_simp; with_reducible rfl)
  simp only [Act.put, List.setIfInBounds_toArray, List.set_cons_zero, List.set_cons_succ]
  refine wpAnyH_ready (rs := [3]) (by kernel_rfl) (by simp) ?_
  refine AllReadyH.cons rfl (fun K hK => ?_) AllReadyH.nil
  go_simp
  refine (crc0_c _).mono ?_
  rintro e u1 ⟨rfl, rfl⟩
  go_wp2_with fail
  refine hK.out _ _ (by assumption) (fun _ => ?_)
  clear hK K
  try simp only [Act.put, List.setIfInBounds_toArray, List.set_cons_zero, List.set_cons_succ]
  refine take_at (i := 4) (d := (some 17)) (v := ?_) rfl rfl (by kernel_rfl) (by kernel_rfl) (by kernel_rfl) (fun _ _ _ h => h) (Or.inl ⟨by rfl, ?_⟩) (by assumption) ?_
  rotate_left
  · (intro u hSu; go_simp; with_reducible rfl)
  simp only [Act.put, List.setIfInBounds_toArray, List.set_cons_zero, List.set_cons_succ]
  refine take_at (i := 5) (d := (some 18)) (v := ?_) rfl rfl (by kernel_rfl) (by kernel_rfl) (by kernel_rfl) (fun _ _ _ h => h) (Or.inl ⟨by rfl, ?_⟩) (by assumption) ?_
  rotate_left
  · (intro u hSu; go_simp; with_reducible rfl)
  simp only [Act.put, List.setIfInBounds_toArray, List.set_cons_zero, List.set_cons_succ]
  refine take_at (i := 6) (d := (some 19)) (v := ?_) rfl rfl (by kernel_rfl) (by kernel_rfl) (by kernel_rfl) (fun _ _ _ h => h) (Or.inl ⟨by rfl, ?_⟩) (by assumption) ?_
  rotate_left
  · (intro u hSu; go_simp; with_reducible rfl)
  simp only [Act.put, List.setIfInBounds_toArray, List.set_cons_zero, List.set_cons_succ]
  refine take_at (i := 7) (d := (some 20)) (v := ?_) rfl rfl (by kernel_rfl) (by kernel_rfl) (by kernel_rfl) (fun _ _ _ h => h) (Or.inl ⟨by rfl, ?_⟩) (by assumption) ?_
  rotate_left
  · (intro u hSu; go_simp; with_reducible rfl)
  simp only [Act.put, List.setIfInBounds_toArray, List.set_cons_zero, List.set_cons_succ]
  refine take_at (i := 8) (d := (some 21)) (v := ?_) rfl rfl (by kernel_rfl) (by kernel_rfl) (by kernel_rfl) (fun _ _ _ h => h) (Or.inl ⟨by rfl, ?_⟩) (by assumption) ?_
  rotate_left
  · (intro u hSu; go_simp; with_reducible rfl)
  simp only [Act.put, List.setIfInBounds_toArray, List.set_cons_zero, List.set_cons_succ]
  refine take_at (i := 9) (d := (some 22)) (v := ?_) rfl rfl (by kernel_rfl) (by kernel_rfl) (by kernel_rfl) (fun _ _ _ h => h) (Or.inl ⟨by rfl, ?_⟩) (by assumption) ?_
  rotate_left
  · (intro u hSu; go_simp; with_reducible rfl)
  simp only [Act.put, List.setIfInBounds_toArray, List.set_cons_zero, List.set_cons_succ]
  refine take_at (i := 10) (d := (some 23)) (v := ?_) rfl rfl (by kernel_rfl) (by kernel_rfl) (by kernel_rfl) (fun _ _ _ h => h) (Or.inl ⟨by rfl, ?_⟩) (by assumption) ?_
  rotate_left
  · (intro u hSu; go_simp; with_reducible rfl)
  simp only [Act.put, List.setIfInBounds_toArray, List.set_cons_zero, List.set_cons_succ]
  refine take_at (i := 11) (d := (some 24)) (v := ?_) rfl rfl (by kernel_rfl) (by kernel_rfl) (by kernel_rfl) (fun _ _ _ h => h) (Or.inl ⟨by rfl, ?_⟩) (by assumption) ?_
  rotate_left
  · (intro u hSu; go_simp; with_reducible rfl)
  simp only [Act.put, List.setIfInBounds_toArray, List.set_cons_zero, List.set_cons_succ]
  refine take_at (i := 12) (d := (some 25)) (v := ?_) rfl rfl (by kernel_rfl) (by kernel_rfl) (by kernel_rfl) (fun _ _ _ h => h) (Or.inl ⟨by rfl, ?_⟩) (by assumption) ?_
  rotate_left
  · (intro u hSu; go_simp; with_reducible rfl)
  simp only [Act.put, List.setIfInBounds_toArray, List.set_cons_zero, List.set_cons_succ]
  refine take_at (i := 13) (d := (some 26)) (v := ?_) rfl rfl (by kernel_rfl) (by kernel_rfl) (by kernel_rfl) (fun _ _ _ h => h) (Or.inl ⟨by rfl, ?_⟩) (by assumption) ?_
  rotate_left
  · (intro u hSu; go_simp; with_reducible rfl)
  simp only [Act.put, List.setIfInBounds_toArray, List.set_cons_zero, List.set_cons_succ]
  refine take_load (i := 15) (d := (some 28)) 23 (.tmp 1) w1.heap.size (LA.map yv) _ rfl rfl rfl (by kernel_rfl) (by kernel_rfl) (by kernel_rfl) (fun _ _ _ h => h) (by rfl) rfl (fun _ h => h.2.1) Try.underlying23 rfl hiL (by assumption) ?_
  simp only [Act.put, List.setIfInBounds_toArray, List.set_cons_zero, List.set_cons_succ]
  refine wpAnyH_ready (rs := [14]) (by kernel_rfl) (by simp) ?_
  refine AllReadyH.cons rfl (fun K hK => ?_) AllReadyH.nil
  go_simp
  refine (shaA_c _).mono ?_
  rintro e u1 ⟨rfl, k1⟩
  have e1 := SK (by assumption) k1
  clear k1
  go_wp2_with fail
  refine hK.out _ _ (by assumption) (fun _ => ?_)
  clear hK K
  try simp only [Act.put, List.setIfInBounds_toArray, List.set_cons_zero, List.set_cons_succ]
  refine take_at (i := 16) (d := (some 29)) (v := ?_) rfl rfl (by kernel_rfl) (by kernel_rfl) (by kernel_rfl) (fun _ _ _ h => h) (Or.inl ⟨by rfl, ?_⟩) (by assumption) ?_
  rotate_left
  · (intro u hSu; go_simp; with_reducible rfl)
  simp only [Act.put, List.setIfInBounds_toArray, List.set_cons_zero, List.set_cons_succ]
  refine take_at (i := 17) (d := (some 30)) (v := ?_) rfl rfl (by kernel_rfl) (by kernel_rfl) (by kernel_rfl) (fun _ _ _ h => h) (Or.inl ⟨by rfl, ?_⟩) (by assumption) ?_
  rotate_left
  · (intro u hSu; go_simp; with_reducible rfl)
  simp only [Act.put, List.setIfInBounds_toArray, List.set_cons_zero, List.set_cons_succ]
  refine take_at (i := 18) (d := (some 31)) (v := ?_) rfl rfl (by kernel_rfl) (by kernel_rfl) (by kernel_rfl) (fun _ _ _ h => h) (Or.inl ⟨by rfl, ?_⟩) (by assumption) ?_
  rotate_left
  · (intro u hSu; go_simp; with_reducible rfl)
  simp only [Act.put, List.setIfInBounds_toArray, List.set_cons_zero, List.set_cons_succ]
  refine wpAnyH_ready (rs := [19]) (by kernel_rfl) (by simp) ?_
  refine AllReadyH.cons rfl (fun K hK => ?_) AllReadyH.nil
  go_simp
  refine (shaE_c _).mono ?_
  rintro e u1 ⟨rfl, k1⟩
  have e1 := SK (by assumption) k1
  clear k1
  go_wp2_with fail
  refine hK.out _ _ (by assumption) (fun _ => ?_)
  clear hK K
  try simp only [Act.put, List.setIfInBounds_toArray, List.set_cons_zero, List.set_cons_succ]
  refine wpAnyH_ready (rs := [20]) (by kernel_rfl) (by simp) ?_
  refine AllReadyH.cons rfl (fun K hK => ?_) AllReadyH.nil
  go_simp
  refine (hexE_c _).mono ?_
  rintro e u1 ⟨rfl, k1⟩
  have e1 := SK (by assumption) k1
  clear k1
  go_wp2_with fail
  refine hK.out _ _ (by assumption) (fun _ => ?_)
  clear hK K
  try simp only [Act.put, List.setIfInBounds_toArray, List.set_cons_zero, List.set_cons_succ]
  refine take_at (i := 21) (d := (some 34)) (v := ?_) rfl rfl (by kernel_rfl) (by kernel_rfl) (by kernel_rfl) (fun _ _ _ h => h) (Or.inl ⟨by rfl, ?_⟩) (by assumption) ?_
  rotate_left
  · (intro u hSu; go_simp; with_reducible rfl)
  simp only [Act.put, List.setIfInBounds_toArray, List.set_cons_zero, List.set_cons_succ]
  refine take_at (i := 22) (d := (some 35)) (v := ?_) rfl rfl (by kernel_rfl) (by kernel_rfl) (by kernel_rfl) (fun _ _ _ h => h) (Or.inl ⟨by rfl, ?_⟩) (by assumption) ?_
  rotate_left
  · (intro u hSu; go_simp; with_reducible rfl)
  simp only [Act.put, List.setIfInBounds_toArray, List.set_cons_zero, List.set_cons_succ]
  refine take_at (i := 23) (d := (some 36)) (v := ?_) rfl rfl (by kernel_rfl) (by kernel_rfl) (by kernel_rfl) (fun _ _ _ h => h) (Or.inl ⟨by rfl, ?_⟩) (by assumption) ?_
  rotate_left
  · (intro u hSu; go_simp; with_reducible rfl)
  simp only [Act.put, List.setIfInBounds_toArray, List.set_cons_zero, List.set_cons_succ]
  refine take_load (i := 24) (d := (some 37)) 23 (.tmp 1) w1.heap.size (LA.map yv) _ rfl rfl rfl (by kernel_rfl) (by kernel_rfl) (by kernel_rfl) (fun _ _ _ h => h) (by rfl) rfl (fun _ h => h.2.1) Try.underlying23 rfl hiL (by assumption) ?_
  simp only [Act.put, List.setIfInBounds_toArray, List.set_cons_zero, List.set_cons_succ]
  refine wpAnyH_ready (rs := [25]) (by kernel_rfl) (by simp) ?_
  refine AllReadyH.cons rfl (fun K hK => ?_) AllReadyH.nil
  go_simp
  refine (shaE_c _).mono ?_
  rintro e u1 ⟨rfl, k1⟩
  have e1 := SK (by assumption) k1
  clear k1
  go_wp2_with fail
  refine hK.out _ _ (by assumption) (fun _ => ?_)
  clear hK K
  try simp only [Act.put, List.setIfInBounds_toArray, List.set_cons_zero, List.set_cons_succ]
  refine wpAnyH_ready (rs := [26]) (by kernel_rfl) (by simp) ?_
  refine AllReadyH.cons rfl (fun K hK => ?_) AllReadyH.nil
  go_simp
  refine (lessAE_c _).mono ?_
  rintro e u1 ⟨rfl, k1⟩
  have e1 := SK (by assumption) k1
  clear k1
  go_wp2_with fail
  refine hK.out _ _ (by assumption) (fun _ => ?_)
  clear hK K
  try simp only [Act.put, List.setIfInBounds_toArray, List.set_cons_zero, List.set_cons_succ]
  refine take_at (i := 27) (d := (some 40)) (v := ?_) rfl rfl (by kernel_rfl) (by kernel_rfl) (by kernel_rfl) (fun _ _ _ h => h) (Or.inl ⟨by rfl, ?_⟩) (by assumption) ?_
  rotate_left
  · (intro u hSu; go_simp; with_reducible rfl)
  simp only [Act.put, List.setIfInBounds_toArray, List.set_cons_zero, List.set_cons_succ]
  refine take_at (i := 28) (d := (some 41)) (v := ?_) rfl rfl (by kernel_rfl) (by kernel_rfl) (by kernel_rfl) (fun _ _ _ h => h) (Or.inl ⟨by rfl, ?_⟩) (by assumption) ?_
  rotate_left
  · (intro u hSu; go_simp; with_reducible rfl)
  simp only [Act.put, List.setIfInBounds_toArray, List.set_cons_zero, List.set_cons_succ]
  refine take_load (i := 29) (d := (some 42)) 23 (.tmp 1) w1.heap.size (LA.map yv) _ rfl rfl rfl (by kernel_rfl) (by kernel_rfl) (by kernel_rfl) (fun _ _ _ h => h) (by rfl) rfl (fun _ h => h.2.1) Try.underlying23 rfl hiL (by assumption) ?_
  simp only [Act.put, List.setIfInBounds_toArray, List.set_cons_zero, List.set_cons_succ]
  refine take_load (i := 30) (d := (some 43)) 23 (.tmp 1) w1.heap.size (LA.map yv) _ rfl rfl rfl (by kernel_rfl) (by kernel_rfl) (by kernel_rfl) (fun _ _ _ h => h) (by rfl) rfl (fun _ h => h.2.1) Try.underlying23 rfl hiL (by assumption) ?_
  simp only [Act.put, List.setIfInBounds_toArray, List.set_cons_zero, List.set_cons_succ]
  refine wpAnyH_ready (rs := [31]) (by kernel_rfl) (by simp) ?_
  refine AllReadyH.cons rfl (fun K hK => ?_) AllReadyH.nil
  go_simp
  refine (lessAA_c _).mono ?_
  rintro e u1 ⟨rfl, k1⟩
  have e1 := SK (by assumption) k1
  clear k1
  go_wp2_with fail
  refine hK.out _ _ (by assumption) (fun _ => ?_)
  clear hK K
  try simp only [Act.put, List.setIfInBounds_toArray, List.set_cons_zero, List.set_cons_succ]
  refine take_at (i := 32) (d := (some 45)) (v := ?_) rfl rfl (by kernel_rfl) (by kernel_rfl) (by kernel_rfl) (fun _ _ _ h => h) (Or.inl ⟨by rfl, ?_⟩) (by assumption) ?_
  rotate_left
  · (intro u hSu; go_simp; with_reducible rfl)
  simp only [Act.put, List.setIfInBounds_toArray, List.set_cons_zero, List.set_cons_succ]
  refine take_at (i := 33) (d := (some 46)) (v := ?_) rfl rfl (by kernel_rfl) (by kernel_rfl) (by kernel_rfl) (fun _ _ _ h => h) (Or.inl ⟨by rfl, ?_⟩) (by assumption) ?_
  rotate_left
  · (intro u hSu; go_simp; with_reducible rfl)
  simp only [Act.put, List.setIfInBounds_toArray, List.set_cons_zero, List.set_cons_succ]
  refine take_at (i := 34) (d := (some 0)) (v := ?_) rfl rfl (by kernel_rfl) (by kernel_rfl) (by kernel_rfl) (fun _ _ _ h => h) (Or.inl ⟨by rfl, ?_⟩) (by assumption) ?_
  rotate_left
  · (intro u hSu; go_simp; with_reducible rfl)
  simp only [Act.put, List.setIfInBounds_toArray, List.set_cons_zero]
  refine wpAnyH_done (by kernel_rfl) ?_ _
  go_wp2_with fail
  go_ret
  exact ⟨rfl, BW.out.trans (Below.mono (SS.below (by assumption)) BW.out.size)⟩
end Go.Proofs.Ytjijmgmobdoliaa
