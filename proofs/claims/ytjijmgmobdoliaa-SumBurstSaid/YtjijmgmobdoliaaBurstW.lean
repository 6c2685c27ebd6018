/- SumBurst walked. -/
import Derived.Test.YtjijmgmobdoliaaGoesW
import Derived.Test.YtjijmgmobdoliaaBurstL
import Derived.Outline
import Derived.Deep.RegionLaw
namespace Go.Proofs.Ytjijmgmobdoliaa
open Go.RowKit

theorem xor_u8 (a b : Nat) (ha : a < 256) (hb : b < 256) : bits .xor .u8 (a : Int) (b : Int) = ((a ^^^ b : Nat) : Int) := by
  have hx : a ^^^ b < 2 ^ 8 := Nat.xor_lt_two_pow (by omega) (by omega)
  have h1 : (BitVec.ofInt 8 (a : Int)).toNat = a := by
    rw [BitVec.ofInt_natCast, BitVec.toNat_ofNat]; exact Nat.mod_eq_of_lt (by omega)
  have h2 : (BitVec.ofInt 8 (b : Int)).toNat = b := by
    rw [BitVec.ofInt_natCast, BitVec.toNat_ofNat]; exact Nat.mod_eq_of_lt (by omega)
  show IntKind.u8.wrap ((BitVec.ofInt 8 (a : Int) ^^^ BitVec.ofInt 8 (b : Int)).toNat : Int) = _
  rw [BitVec.toNat_xor, h1, h2, IntKind.wrap_u8]
  omega
theorem xor_lt8 {a b : Nat} (ha : a < 256) (hb : b < 256) : a ^^^ b < 256 := Nat.xor_lt_two_pow (n := 8) (by omega) (by omega)
theorem byte_of (n : Nat) (h : n < 256) : ∃ b : UInt8, b.toNat = n := ⟨UInt8.ofNat n, Vi.ofNat_toNat h⟩
theorem conv_five (W : World) (g : Nat) (a0 a1 a2 a3 a4 : UInt8) (hh : W.heap[g]? = some (.cells ([a0.toNat, a1.toNat, a2.toNat, a3.toNat, a4.toNat].map yv).toArray 33 (0, 0))) :
    (convert 36 9 (.slice (some ⟨g, 0, none⟩) 5 5)).run Try.prog W = .ok (.string (bs [a0, a1, a2, a3, a4])) W := by
  have h := conv_back W g 5 5 [a0.toNat, a1.toNat, a2.toNat, a3.toNat, a4.toNat] _ hh rfl (by
    intro x hx
    simp only [List.mem_cons, List.not_mem_nil, or_false] at hx
    rcases hx with rfl | rfl | rfl | rfl | rfl <;> exact UInt8.toNat_lt _)
  rw [h]
  simp
set_option maxHeartbeats 4000000 in
theorem sumBurst_yes (P Q : List UInt8) (hP : P.length ≤ 1000) (hQ : Q.length ≤ 1000) (a0 a1 a2 a3 a4 : UInt8) (v s : Nat) (hv : v < 4294967296) (hv0 : 0 < v) (hs : s ≤ 7) (w : World) :
    Calls Try.prog 4 #[.string (bs P), .string (bs Q), .agg #[.int .u8 a0.toNat, .int .u8 a1.toNat, .int .u8 a2.toNat, .int .u8 a3.toNat, .int .u8 a4.toNat], .int .u32 v, .int .i64 s] w fun e w' => e = .returned (.bool true) ∧ Below w.heap.size w w' := by
  have sp := bs_size P
  have sq := bs_size Q
  have hv2 : ((v : Int) == 0) = false := by rw [beq_eq_false_iff_ne]; omega
  have hs2 : (0 : Int) ≤ (s : Int) := by omega
  go_enter Try.func4, Try.ntmps4
  go_wp2_with (go_at_call 7; refine (small_c _).mono ?_; rintro e w1 ⟨rfl, b1⟩)
  have hX : v * 2 ^ s < 549755813888 := by
    have h1 : 2 ^ s ≤ 2 ^ 7 := Nat.pow_le_pow_right (by decide) hs
    have h2 := Nat.mul_le_mul_left v h1
    omega
  have hburst : ∀ b0 b1 b2 b3 b4 : UInt8, b0.toNat = a0.toNat ^^^ (v * 2 ^ s) % 256 → b1.toNat = a1.toNat ^^^ (v * 2 ^ s) / 256 % 256 → b2.toNat = a2.toNat ^^^ (v * 2 ^ s) / 65536 % 256 → b3.toNat = a3.toNat ^^^ (v * 2 ^ s) / 16777216 % 256 → b4.toNat = a4.toNat ^^^ (v * 2 ^ s) / 4294967296 % 256 → Sm.crc (P ++ [a0, a1, a2, a3, a4] ++ Q) ≠ Sm.crc (P ++ [b0, b1, b2, b3, b4] ++ Q) := fun b0 b1 b2 b3 b4 => Sm.burst P Q a0 a1 a2 a3 a4 b0 b1 b2 b3 b4 v s hv (by omega) hs
  have hx : IntKind.u64.wrap ((v : Int) * 2 ^ s) = ((v * 2 ^ s : Nat) : Int) := by
    rw [show (v : Int) * 2 ^ s = ((v * 2 ^ s : Nat) : Int) from by simp, IntKind.wrap_u64]
    omega
  rw [hx]
  clear hx
  generalize v * 2 ^ s = X at hX hburst ⊢
  have HBU := Lib.hid hburst
  clear hburst
  have hfive : (w.alloc (.cells (([a0.toNat, a1.toNat, a2.toNat, a3.toNat, a4.toNat].map yv).toArray) 33)).heap[w.heap.size]? = some (.cells (([a0.toNat, a1.toNat, a2.toNat, a3.toNat, a4.toNat].map yv).toArray) 33 (0, 0)) := heap_alloc_new _ _
  have hf1 : w1.heap[w.heap.size]? = some (.cells (([a0.toNat, a1.toNat, a2.toNat, a3.toNat, a4.toNat].map yv).toArray) 33 (0, 0)) := (b1.block _ (by simp)).trans hfive
  have hb1 : Below w.heap.size w w1 := ((Below.refl _ w).alloc (Nat.le_refl _) _).trans (b1.mono (by simp))
  have hlt : w.heap.size < w1.heap.size := blk_lt hf1
  have hst : (w1.alloc (.cells #[.int .u8 0, .int .u8 0, .int .u8 0, .int .u8 0, .int .u8 0] 33)).heap[w1.heap.size]? = some (.cells (([a0.toNat ^^^ X % 256, a1.toNat ^^^ X / 256 % 256, a2.toNat ^^^ X / 65536 % 256, a3.toNat ^^^ X / 16777216 % 256, a4.toNat ^^^ X / 4294967296 % 256].take 0 ++ List.replicate (5 - 0) 0).map yv).toArray 33 (0, 0)) := heap_alloc_new _ _
  have HST := Lib.hid hst
  have HF := Lib.hid hf1
  have HB1 := Lib.hid hb1
  clear hst hf1 hb1 hfive b1
  go_loopw [14] (fun iv wr => ∃ (k : Nat) (kk : Int), k ≤ 5 ∧ kk = (k : Int) ∧ iv = .int .i64 kk ∧ Hid (wr.heap[w1.heap.size]? = some (.cells (([a0.toNat ^^^ X % 256, a1.toNat ^^^ X / 256 % 256, a2.toNat ^^^ X / 65536 % 256, a3.toNat ^^^ X / 16777216 % 256, a4.toNat ^^^ X / 4294967296 % 256].take k ++ List.replicate (5 - k) 0).map yv).toArray 33 (0, 0))) ∧ Hid (Below w1.heap.size w1 wr)) (fun iv _ => (5 - intOf iv).toNat)
  case atStart => exact ⟨0, 0, by omega, rfl, rfl, HST, Lib.hid ((Below.refl _ _).alloc (Nat.le_refl _) _)⟩
  case round =>
    obtain ⟨k, kk, hk, hkk, rfl, HO, HB⟩ := hrel
    have hfw : wr.heap[w.heap.size]? = some (.cells (([a0.toNat, a1.toNat, a2.toNat, a3.toNat, a4.toNat].map yv).toArray) 33 (0, 0)) := (HB.out.block _ hlt).trans HF.out
    have HFW := Lib.hid hfw
    clear hfw
    by_cases k5 : k < 5
    · have hcs : (k = 0 ∧ kk = 0) ∨ (k = 1 ∧ kk = 1) ∨ (k = 2 ∧ kk = 2) ∨ (k = 3 ∧ kk = 3) ∨ (k = 4 ∧ kk = 4) := by omega
      clear hkk
      have g0 : bits .xor .u8 (a0.toNat : Int) ((X : Int) % 256) = ((a0.toNat ^^^ X % 256 : Nat) : Int) := by rw [show (X : Int) % 256 = ((X % 256 : Nat) : Int) from by omega]; exact xor_u8 a0.toNat (X % 256) a0.toNat_lt (Nat.mod_lt _ (by decide))
      have g1 : bits .xor .u8 (a1.toNat : Int) ((X : Int) / 256 % 256) = ((a1.toNat ^^^ X / 256 % 256 : Nat) : Int) := by rw [show (X : Int) / 256 % 256 = ((X / 256 % 256 : Nat) : Int) from by omega]; exact xor_u8 a1.toNat (X / 256 % 256) a1.toNat_lt (Nat.mod_lt _ (by decide))
      have g2 : bits .xor .u8 (a2.toNat : Int) ((X : Int) / 65536 % 256) = ((a2.toNat ^^^ X / 65536 % 256 : Nat) : Int) := by rw [show (X : Int) / 65536 % 256 = ((X / 65536 % 256 : Nat) : Int) from by omega]; exact xor_u8 a2.toNat (X / 65536 % 256) a2.toNat_lt (Nat.mod_lt _ (by decide))
      have g3 : bits .xor .u8 (a3.toNat : Int) ((X : Int) / 16777216 % 256) = ((a3.toNat ^^^ X / 16777216 % 256 : Nat) : Int) := by rw [show (X : Int) / 16777216 % 256 = ((X / 16777216 % 256 : Nat) : Int) from by omega]; exact xor_u8 a3.toNat (X / 16777216 % 256) a3.toNat_lt (Nat.mod_lt _ (by decide))
      have g4 : bits .xor .u8 (a4.toNat : Int) ((X : Int) / 4294967296) = ((a4.toNat ^^^ X / 4294967296 % 256 : Nat) : Int) := by rw [show (X : Int) / 4294967296 = ((X / 4294967296 % 256 : Nat) : Int) from by omega]; exact xor_u8 a4.toNat (X / 4294967296 % 256) a4.toNat_lt (Nat.mod_lt _ (by decide))
      rcases hcs with ⟨rfl, rfl⟩ | ⟨rfl, rfl⟩ | ⟨rfl, rfl⟩ | ⟨rfl, rfl⟩ | ⟨rfl, rfl⟩
      · have hc0 := Lib.cell_of_heap HFW.out
        have ho0 := Lib.cell_of_heap HO.out
        have c1 : wr.cell? ⟨w.heap.size, 0, none⟩ = some (.int .u8 a0.toNat) := hc0 0
        have c2 : wr.cell? ⟨w1.heap.size, 0, none⟩ = some (.int .u8 0) := ho0 0
        have f2 : wr.frozen? ⟨w1.heap.size, 0, none⟩ = false := Lib.frozen_of_heap HO.out 0
        clear hc0 ho0 g1 g2 g3 g4
        have G := Lib.hid g0
        clear g0
        go_wp2_with fail
        go_region
        generalize hV : World.drew _ = V
        have hh := put_n (n := 5) (D := [a0.toNat ^^^ X % 256, a1.toNat ^^^ X / 256 % 256, a2.toNat ^^^ X / 65536 % 256, a3.toNat ^^^ X / 16777216 % 256, a4.toNat ^^^ X / 4294967296 % 256]) (by decide) rfl G.out HO.out
        have hb2 : Below w1.heap.size w1 V := by
          rw [← hV]
          exact ((HB.out.setCell (Nat.le_refl _) _).drew)
        have hh2 := (congrArg (fun U : World => U.heap[w1.heap.size]?) hV).symm.trans hh
        have HH := Lib.hid hh2
        have HB2 := Lib.hid hb2
        clear hh hb2 hh2 hV
        go_wp2_with fail
        go_roundw
        case rel => exact ⟨_, _, by decide, by decide, rfl, HH, HB2⟩
        case measure => simp [intOf]
      · have hc0 := Lib.cell_of_heap HFW.out
        have ho0 := Lib.cell_of_heap HO.out
        have c1 : wr.cell? ⟨w.heap.size, 1, none⟩ = some (.int .u8 a1.toNat) := hc0 1
        have c2 : wr.cell? ⟨w1.heap.size, 1, none⟩ = some (.int .u8 0) := ho0 1
        have f2 : wr.frozen? ⟨w1.heap.size, 1, none⟩ = false := Lib.frozen_of_heap HO.out 1
        clear hc0 ho0 g0 g2 g3 g4
        have G := Lib.hid g1
        clear g1
        go_wp2_with fail
        go_region
        generalize hV : World.drew _ = V
        have hh := put_n (n := 5) (D := [a0.toNat ^^^ X % 256, a1.toNat ^^^ X / 256 % 256, a2.toNat ^^^ X / 65536 % 256, a3.toNat ^^^ X / 16777216 % 256, a4.toNat ^^^ X / 4294967296 % 256]) (by decide) rfl G.out HO.out
        have hb2 : Below w1.heap.size w1 V := by
          rw [← hV]
          exact ((HB.out.setCell (Nat.le_refl _) _).drew)
        have hh2 := (congrArg (fun U : World => U.heap[w1.heap.size]?) hV).symm.trans hh
        have HH := Lib.hid hh2
        have HB2 := Lib.hid hb2
        clear hh hb2 hh2 hV
        go_wp2_with fail
        go_roundw
        case rel => exact ⟨_, _, by decide, by decide, rfl, HH, HB2⟩
        case measure => simp [intOf]
      · have hc0 := Lib.cell_of_heap HFW.out
        have ho0 := Lib.cell_of_heap HO.out
        have c1 : wr.cell? ⟨w.heap.size, 2, none⟩ = some (.int .u8 a2.toNat) := hc0 2
        have c2 : wr.cell? ⟨w1.heap.size, 2, none⟩ = some (.int .u8 0) := ho0 2
        have f2 : wr.frozen? ⟨w1.heap.size, 2, none⟩ = false := Lib.frozen_of_heap HO.out 2
        clear hc0 ho0 g0 g1 g3 g4
        have G := Lib.hid g2
        clear g2
        go_wp2_with fail
        go_region
        generalize hV : World.drew _ = V
        have hh := put_n (n := 5) (D := [a0.toNat ^^^ X % 256, a1.toNat ^^^ X / 256 % 256, a2.toNat ^^^ X / 65536 % 256, a3.toNat ^^^ X / 16777216 % 256, a4.toNat ^^^ X / 4294967296 % 256]) (by decide) rfl G.out HO.out
        have hb2 : Below w1.heap.size w1 V := by
          rw [← hV]
          exact ((HB.out.setCell (Nat.le_refl _) _).drew)
        have hh2 := (congrArg (fun U : World => U.heap[w1.heap.size]?) hV).symm.trans hh
        have HH := Lib.hid hh2
        have HB2 := Lib.hid hb2
        clear hh hb2 hh2 hV
        go_wp2_with fail
        go_roundw
        case rel => exact ⟨_, _, by decide, by decide, rfl, HH, HB2⟩
        case measure => simp [intOf]
      · have hc0 := Lib.cell_of_heap HFW.out
        have ho0 := Lib.cell_of_heap HO.out
        have c1 : wr.cell? ⟨w.heap.size, 3, none⟩ = some (.int .u8 a3.toNat) := hc0 3
        have c2 : wr.cell? ⟨w1.heap.size, 3, none⟩ = some (.int .u8 0) := ho0 3
        have f2 : wr.frozen? ⟨w1.heap.size, 3, none⟩ = false := Lib.frozen_of_heap HO.out 3
        clear hc0 ho0 g0 g1 g2 g4
        have G := Lib.hid g3
        clear g3
        go_wp2_with fail
        go_region
        generalize hV : World.drew _ = V
        have hh := put_n (n := 5) (D := [a0.toNat ^^^ X % 256, a1.toNat ^^^ X / 256 % 256, a2.toNat ^^^ X / 65536 % 256, a3.toNat ^^^ X / 16777216 % 256, a4.toNat ^^^ X / 4294967296 % 256]) (by decide) rfl G.out HO.out
        have hb2 : Below w1.heap.size w1 V := by
          rw [← hV]
          exact ((HB.out.setCell (Nat.le_refl _) _).drew)
        have hh2 := (congrArg (fun U : World => U.heap[w1.heap.size]?) hV).symm.trans hh
        have HH := Lib.hid hh2
        have HB2 := Lib.hid hb2
        clear hh hb2 hh2 hV
        go_wp2_with fail
        go_roundw
        case rel => exact ⟨_, _, by decide, by decide, rfl, HH, HB2⟩
        case measure => simp [intOf]
      · have hc0 := Lib.cell_of_heap HFW.out
        have ho0 := Lib.cell_of_heap HO.out
        have c1 : wr.cell? ⟨w.heap.size, 4, none⟩ = some (.int .u8 a4.toNat) := hc0 4
        have c2 : wr.cell? ⟨w1.heap.size, 4, none⟩ = some (.int .u8 0) := ho0 4
        have f2 : wr.frozen? ⟨w1.heap.size, 4, none⟩ = false := Lib.frozen_of_heap HO.out 4
        clear hc0 ho0 g0 g1 g2 g3
        have G := Lib.hid g4
        clear g4
        go_wp2_with fail
        go_region
        generalize hV : World.drew _ = V
        have hh := put_n (n := 5) (D := [a0.toNat ^^^ X % 256, a1.toNat ^^^ X / 256 % 256, a2.toNat ^^^ X / 65536 % 256, a3.toNat ^^^ X / 16777216 % 256, a4.toNat ^^^ X / 4294967296 % 256]) (by decide) rfl G.out HO.out
        have hb2 : Below w1.heap.size w1 V := by
          rw [← hV]
          exact ((HB.out.setCell (Nat.le_refl _) _).drew)
        have hh2 := (congrArg (fun U : World => U.heap[w1.heap.size]?) hV).symm.trans hh
        have HH := Lib.hid hh2
        have HB2 := Lib.hid hb2
        clear hh hb2 hh2 hV
        go_wp2_with fail
        go_roundw
        case rel => exact ⟨_, _, by decide, by decide, rfl, HH, HB2⟩
        case measure => simp [intOf]
    · have k5' : k = 5 := by omega
      subst k5'
      obtain rfl : kk = 5 := hkk
      obtain ⟨b0, hb0⟩ := byte_of (a0.toNat ^^^ X % 256) (xor_lt8 a0.toNat_lt (Nat.mod_lt _ (by decide)))
      obtain ⟨b1, hb1⟩ := byte_of (a1.toNat ^^^ X / 256 % 256) (xor_lt8 a1.toNat_lt (Nat.mod_lt _ (by decide)))
      obtain ⟨b2, hb2⟩ := byte_of (a2.toNat ^^^ X / 65536 % 256) (xor_lt8 a2.toNat_lt (Nat.mod_lt _ (by decide)))
      obtain ⟨b3, hb3⟩ := byte_of (a3.toNat ^^^ X / 16777216 % 256) (xor_lt8 a3.toNat_lt (Nat.mod_lt _ (by decide)))
      obtain ⟨b4, hb4⟩ := byte_of (a4.toNat ^^^ X / 4294967296 % 256) (xor_lt8 a4.toNat_lt (Nat.mod_lt _ (by decide)))
      have hne := HBU.out b0 b1 b2 b3 b4 hb0 hb1 hb2 hb3 hb4
      have ho : wr.heap[w1.heap.size]? = some (.cells ([b0.toNat, b1.toNat, b2.toNat, b3.toNat, b4.toNat].map yv).toArray 33 (0, 0)) := by
        rw [hb0, hb1, hb2, hb3, hb4]
        exact HO.out
      have hcv1 := fun q => conv_five (wr.drewN q) w.heap.size a0 a1 a2 a3 a4 HFW.out
      have hcv2 := fun q => conv_five (wr.drewN q) w1.heap.size b0 b1 b2 b3 b4 ho
      have p1 := bs_append P [a0, a1, a2, a3, a4]
      have p2 := bs_append (P ++ [a0, a1, a2, a3, a4]) Q
      have p3 := bs_append P [b0, b1, b2, b3, b4]
      have p4 := bs_append (P ++ [b0, b1, b2, b3, b4]) Q
      have z1 := bs_size [a0, a1, a2, a3, a4]
      have z2 := bs_size [b0, b1, b2, b3, b4]
      have z3 := bs_size (P ++ [a0, a1, a2, a3, a4])
      have z4 := bs_size (P ++ [b0, b1, b2, b3, b4])
      rw [List.length_append] at z3 z4
      have l1 : (9223372036854775807 < P.length + (bs [a0, a1, a2, a3, a4]).size) = False := by rw [eq_iff_iff, iff_false, z1]; simp; omega
      have l2 : (9223372036854775807 < P.length + (bs [b0, b1, b2, b3, b4]).size) = False := by rw [eq_iff_iff, iff_false, z2]; simp; omega
      have l3 : (9223372036854775807 < (bs (P ++ [a0, a1, a2, a3, a4])).size + Q.length) = False := by rw [eq_iff_iff, iff_false, z3]; simp; omega
      have l4 : (9223372036854775807 < (bs (P ++ [b0, b1, b2, b3, b4])).size + Q.length) = False := by rw [eq_iff_iff, iff_false, z4]; simp; omega
      have c1 := fun u => crc_bs (P ++ [a0, a1, a2, a3, a4] ++ Q) u (by unfold maxLen; simp; omega)
      have c2 := fun u => crc_bs (P ++ [b0, b1, b2, b3, b4] ++ Q) u (by unfold maxLen; simp; omega)
      have hq : (((Sm.crc (P ++ [a0, a1, a2, a3, a4] ++ Q) : Nat) : Int) == ((Sm.crc (P ++ [b0, b1, b2, b3, b4] ++ Q) : Nat) : Int)) = false := by
        rw [beq_eq_false_iff_ne]; omega
      generalize P ++ [a0, a1, a2, a3, a4] ++ Q = X1 at *
      generalize P ++ [b0, b1, b2, b3, b4] ++ Q = X2 at *
      generalize P ++ [a0, a1, a2, a3, a4] = Y1 at *
      generalize P ++ [b0, b1, b2, b3, b4] = Y2 at *
      generalize Sm.crc X1 = x1 at c1 hq
      generalize Sm.crc X2 = x2 at c2 hq
      have C1 := Lib.hid c1
      have C2 := Lib.hid c2
      have B9 := Lib.hid (chain HB1.out HB.out)
      clear c1 c2 hne hb0 hb1 hb2 hb3 hb4 HO HFW HB HF HB1 HBU HST ho hX z1 z2 z3 z4
      go_wp2_with fail
      go_quiet (first
        | (go_at_call 10; (with_reducible show Calls _ _ #[.string (bs X1)] _ _); refine Calls.quiet_of_same (C1.out _))
        | (go_at_call 10; (with_reducible show Calls _ _ #[.string (bs X2)] _ _); refine Calls.quiet_of_same (C2.out _)))
      go_wp2_with fail
      go_ret
      refine ⟨?_, ⟨B9.out.os, B9.out.tape, B9.out.output, B9.out.size, B9.out.block⟩⟩
      show Ending.returned (Value.bool ((x1 : Int) != (x2 : Int))) = _
      rw [bne, hq]
      rfl
end Go.Proofs.Ytjijmgmobdoliaa
