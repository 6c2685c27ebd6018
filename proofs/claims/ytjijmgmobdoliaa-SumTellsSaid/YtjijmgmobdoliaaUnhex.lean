/- Walk: decoding of hexadecimal digits. -/
import Derived.Test.YtjijmgmobdoliaaHex

namespace Go.Proofs.Ytjijmgmobdoliaa
open Go.RowKit

theorem made_zero (m : Nat) : madeCells (Value.int .u8 0).cells (m * 1) = ((List.replicate m 0).map yv).toArray := by
  rw [Nat.mul_one]
  refine Array.ext (by rw [size_madeCells]; simp) fun i h1 h2 => ?_
  simp [madeCells, yv, Value.cells, Nat.mod_one]
theorem put_n {w : World} {b k y n : Nat} {t : TypeId} {D : List Nat} {x : Int} (hk : k < n) (hd : D[k]? = some y) (hx : x = (y : Int)) (h : w.heap[b]? = some (.cells ((D.take k ++ List.replicate (n - k) 0).map yv).toArray t (0, 0))) :
    (w.setCell ⟨b, k, none⟩ (.int .u8 x)).heap[b]? = some (.cells ((D.take (k + 1) ++ List.replicate (n - (k + 1)) 0).map yv).toArray t (0, 0)) := by
  subst hx
  have hkl := (List.getElem?_eq_some_iff.1 hd).1
  have h1 := heap_setCell_same w b k _ t (yv y) h
  have hl : (D.take k).length = k := by rw [List.length_take]; omega
  have e : ((D.take k ++ List.replicate (n - k) 0).map yv).toArray.setIfInBounds k (yv y) = ((D.take (k + 1) ++ List.replicate (n - (k + 1)) 0).map yv).toArray := by
    rw [List.setIfInBounds_toArray]
    congr 1
    rw [show n - k = (n - (k + 1)) + 1 from by omega, List.replicate_succ, List.map_append, List.set_append_right _ _ (by rw [List.length_map]; omega), List.length_map, hl, Nat.sub_self, List.map_cons, List.set_cons_zero,
      List.take_add_one, hd, List.map_append, List.map_append]
    simp
  rw [e] at h1
  exact h1
theorem at_n {w : World} {b k n : Nat} {t : TypeId} {D : List Nat} (hk : k < n) (hl : D.length = n) (h : w.heap[b]? = some (.cells ((D.take k ++ List.replicate (n - k) 0).map yv).toArray t (0, 0))) : w.cell? ⟨b, k, none⟩ = some (.int .u8 0) := by
  rw [Lib.cell_of_heap h, List.getElem?_toArray, List.getElem?_map, List.getElem?_append_right (by rw [List.length_take]; omega), List.length_take, Nat.min_eq_left (by omega), Nat.sub_self, List.getElem?_replicate, if_pos (by omega)]
  rfl
theorem or_i64 (a b : Nat) (ha : a < 16) (hb : b < 16) : bits .or .i64 ((a : Int) * 16) (b : Int) = ((a * 16 + b : Nat) : Int) := by
  have h1 : (BitVec.ofInt 64 ((a * 16 : Nat) : Int)).toNat = a * 16 := by
    rw [BitVec.ofInt_natCast, BitVec.toNat_ofNat]; exact Nat.mod_eq_of_lt (by omega)
  have h2 : (BitVec.ofInt 64 (b : Int)).toNat = b := by
    rw [BitVec.ofInt_natCast, BitVec.toNat_ofNat]; exact Nat.mod_eq_of_lt (by omega)
  rw [show (a : Int) * 16 = ((a * 16 : Nat) : Int) from by omega]
  show IntKind.i64.wrap ((BitVec.ofInt 64 ((a * 16 : Nat) : Int) ||| BitVec.ofInt 64 (b : Int)).toNat : Int) = _
  rw [BitVec.toNat_or, h1, h2, Hx.byte_or hb, IntKind.wrap_i64]
  omega
set_option maxHeartbeats 4000000 in
set_option maxRecDepth 100000 in
theorem Unhex_c (s : ByteArray) (w : World) (hs : s.size ≤ 140737488355328) :
    Calls Try.prog 18 #[.string s] w fun e w' => e = .returned (.tuple #[.string (bs ((Hx.unhex s.data.toList).1.map UInt8.ofNat)), .bool (Hx.unhex s.data.toList).2]) ∧ Below w.heap.size w w' := by
  obtain ⟨i0, hi, hz0, hz1, hz2⟩ := info_parts infoByteM
  have hl : s.data.toList.length = s.size := rfl
  by_cases hodd : s.size % 2 = 1
  · have hu : Hx.unhex s.data.toList = ([], false) := by unfold Hx.unhex; rw [if_neg (fun h => by rw [hl] at h; omega)]
    rw [hu]
    have ho : (s.size : Int) % 2 = 1 := by omega
    clear hu hodd hl
    go_enter Try.func18, Try.ntmps18
    go_wp2_with fail
    go_ret2
    exact ⟨rfl, Below.refl _ _⟩
  · obtain ⟨m, hm⟩ : ∃ m, s.size = 2 * m := ⟨s.size / 2, by omega⟩
    have ho : (s.size : Int) % 2 = 0 := by omega
    have hd : (s.size : Int) / 2 = (m : Int) := by omega
    have hmk : ∀ W : World, (Instr.makeSlice 36 (.int .i64 (m : Int)) (.int .i64 (m : Int))).run Try.prog W = .ok (.slice (some ⟨W.heap.size, 0, none⟩) m m) (W.alloc (.cells ((List.replicate m 0).map yv).toArray 5)) := fun W => by
      have h := run_make (P := Try.prog) W 36 5 i0 _ Try.underlying36 hi hz0 .i64 .i64 (m : Int) (m : Int) (by omega) (by omega) (by rw [hz2]; omega) (by omega)
      rw [hz1, Int.toNat_natCast, made_zero] at h
      exact h
    have hst : (w.alloc (.cells (Array.replicate m (yv 0)) 5)).heap[w.heap.size]? = some (.cells (((Hx.raw s.data.toList).take 0 ++ List.replicate (m - 0) 0).map yv).toArray 5 (0, 0)) := by
      rw [heap_alloc_new]
      simp
    have HST := Lib.hid hst
    have HL := Lib.hid hl
    have HM := Lib.hid hm
    clear hst hl hm hodd
    have hms : m ≤ 70368744177664 := by have := HM.out; omega
    go_enter Try.func18, Try.ntmps18
    go_wp2_with fail
    go_loopw [19] (fun iv wr => ∃ k : Nat, iv = .int .i64 k ∧ k ≤ m ∧ Hid (∀ j, j < 2 * k → 0 ≤ Hx.val (s.data.toList.getD j 0).toNat) ∧ Hid (wr.heap[w.heap.size]? = some (.cells (((Hx.raw s.data.toList).take k ++ List.replicate (m - k) 0).map yv).toArray 5 (0, 0))) ∧ Hid (Below w.heap.size w wr)) (fun iv _ => m - (intOf iv).toNat)
    case atStart => exact ⟨0, rfl, Nat.zero_le _, Lib.hid (fun j hj => by omega), HST, Lib.hid ((Below.refl _ w).alloc (Nat.le_refl _) _)⟩
    case round =>
      obtain ⟨k, rfl, hk, HV, HH, HB⟩ := hrel
      clear HST hmk
      by_cases hkm : k < m
      · have w1 : IntKind.i64.wrap (2 * (k : Int)) = 2 * (k : Int) := by rw [IntKind.wrap_i64]; omega
        have w2 : IntKind.i64.wrap (2 * (k : Int) + 1) = 2 * (k : Int) + 1 := by rw [IntKind.wrap_i64]; omega
        have t1 : (2 * (k : Int)).toNat = 2 * k := by omega
        have t2 : (2 * (k : Int) + 1).toNat = 2 * k + 1 := by omega
        have b0 : (0 : Int) ≤ 2 * (k : Int) := by omega
        have b1 : 2 * (k : Int) < (s.size : Int) := by have := HM.out; omega
        have b2 : (0 : Int) ≤ 2 * (k : Int) + 1 := by omega
        have b3 : 2 * (k : Int) + 1 < (s.size : Int) := by have := HM.out; omega
        go_wp2_with fail
        go_quiet ((go_at_call 27; refine Calls.quiet_of_same (digit_c _ (UInt8.toNat_lt _) _)))
        have hk1 : 2 * k < s.size := by have := HM.out; omega
        have hk2 : 2 * k + 1 < s.size := by have := HM.out; omega
        have e1 : s[2 * k] = s.data.toList.getD (2 * k) 0 := by
          rw [List.getD_eq_getElem?_getD, List.getElem?_eq_getElem (by rw [HL.out]; exact hk1)]
          rfl
        have e2 : s[2 * k + 1] = s.data.toList.getD (2 * k + 1) 0 := by
          rw [List.getD_eq_getElem?_getD, List.getElem?_eq_getElem (by rw [HL.out]; exact hk2)]
          rfl
        simp only [e1, e2]
        clear e1 e2 w1 w2 t1 t2 b0 b1 b2 b3
        have hraw : (Hx.raw s.data.toList)[k]? = some (Hx.pair s.data.toList k) := by
          unfold Hx.raw
          rw [List.getElem?_map, List.getElem?_range (by rw [HL.out, HM.out]; omega)]
          rfl
        have hbad : ∀ j, j < s.size → Hx.val (s.data.toList.getD j 0).toNat < 0 → Hx.unhex s.data.toList = ([], false) := fun j hj hneg => by
          unfold Hx.unhex
          rw [if_neg]
          rintro ⟨_, hok⟩
          have := hok j (by rw [HL.out]; exact hj)
          omega
        have hb1 := hbad _ hk1
        have hb2 := hbad _ hk2
        have hnext : 0 ≤ Hx.val (s.data.toList.getD (2 * k) 0).toNat → 0 ≤ Hx.val (s.data.toList.getD (2 * k + 1) 0).toNat → ∀ j, j < 2 * (k + 1) → 0 ≤ Hx.val (s.data.toList.getD j 0).toNat := fun h1 h2 j hj => by
          by_cases hj0 : j < 2 * k
          · exact HV.out j hj0
          · by_cases hj1 : j = 2 * k
            · rw [hj1]; exact h1
            · rw [show j = 2 * k + 1 from by omega]; exact h2
        have v1 := Hx.val_lt (s.data.toList.getD (2 * k) 0).toNat
        have v2 := Hx.val_lt (s.data.toList.getD (2 * k + 1) 0).toNat
        unfold Hx.pair at hraw
        generalize Hx.val (s.data.toList.getD (2 * k) 0).toNat = A at hraw hb1 hnext v1 ⊢
        generalize Hx.val (s.data.toList.getD (2 * k + 1) 0).toNat = B at hraw hb2 hnext v2 ⊢
        have HRW := Lib.hid hraw
        have HN := Lib.hid hnext
        have HB1 := Lib.hid hb1
        have HB2 := Lib.hid hb2
        clear hraw hnext hb1 hb2 hbad HV hk1 hk2
        have bq : Below w.heap.size w (wr.drewN nq) := HB.out.trans ⟨rfl, rfl, rfl, Nat.le_refl _, fun _ _ => rfl⟩
        have BQ := Lib.hid bq
        clear bq
        by_cases hA : A < 0
        · have hu := HB1.out hA
          have HU := Lib.hid hu; clear hu
          go_wp2_with fail
          go_ret2
          rw [HU.out]
          exact ⟨rfl, BQ.out⟩
        · by_cases hB : B < 0
          · have hu := HB2.out hB
            have HU := Lib.hid hu; clear hu
            go_wp2_with fail
            go_ret2
            rw [HU.out]
            exact ⟨rfl, BQ.out⟩
          · obtain ⟨a, rfl⟩ := Int.eq_ofNat_of_zero_le (Int.not_lt.1 hA)
            obtain ⟨b, rfl⟩ := Int.eq_ofNat_of_zero_le (Int.not_lt.1 hB)
            have ha : a < 16 := by omega
            have hb : b < 16 := by omega
            have hor := or_i64 a b ha hb
            have hab : a * 16 + b < 256 := by omega
            have hh : (wr.drewN nq).heap[w.heap.size]? = some (.cells (((Hx.raw s.data.toList).take k ++ List.replicate (m - k) 0).map yv).toArray 5 (0, 0)) := HH.out
            have hc : (wr.drewN nq).cell? ⟨w.heap.size, k, none⟩ = some (.int .u8 0) := at_n hkm (by rw [Hx.raw_len, HL.out, HM.out]; omega) hh
            have hf : (wr.drewN nq).frozen? ⟨w.heap.size, k, none⟩ = false := Lib.frozen_of_heap hh k
            have HH2 := Lib.hid hh
            clear hh HH HB
            generalize wr.drewN nq = wq at *
            go_wp2_with fail
            go_roundw
            case rel => exact ⟨k + 1, by go_num, by omega, Lib.hid (HN.out (by omega) (by omega)), Lib.hid (put_n hkm HRW.out (by simp) HH2.out), Lib.hid (BQ.out.setCell (p := ⟨w.heap.size, k, none⟩) (Nat.le_refl _) _)⟩
            case measure => simp [intOf] <;> omega
      · obtain rfl : k = m := by omega
        have hu : Hx.unhex s.data.toList = (Hx.raw s.data.toList, true) := by
          unfold Hx.unhex
          rw [if_pos]
          refine ⟨by rw [HL.out, HM.out]; omega, fun j hj => HV.out j ?_⟩
          rw [HL.out, HM.out] at hj
          exact hj
        have HU := Lib.hid hu
        have hrl : (Hx.raw s.data.toList).length = k := by rw [Hx.raw_len, HL.out, HM.out]; omega
        have hh := HH.out
        rw [Nat.sub_self, List.replicate_zero, List.append_nil, List.take_of_length_le (by omega)] at hh
        have hrlt := Hx.raw_lt s.data.toList
        generalize Hx.raw s.data.toList = R at hrl hh hrlt HU
        have hcv : ∀ W : World, W = wr → (convert 36 9 (.slice (some ⟨w.heap.size, 0, none⟩) k k)).run Try.prog W = .ok (.string (bs (R.map UInt8.ofNat))) W := fun W hW => by
          have h := run_convert_bytes_back (P := Try.prog) W 36 9 5 ⟨w.heap.size, 0, none⟩ k (R.map UInt8.ofNat) Try.underlying36 Try.underlying5 Try.underlying9 (fun j hj => by
            rw [List.length_map] at hj
            have hadd : (⟨w.heap.size, 0, none⟩ : Addr).add j = ⟨w.heap.size, j, none⟩ := by unfold Addr.add; split <;> simp_all
            rw [hadd, hW, Lib.cell_of_heap hh, List.getElem?_toArray, List.getElem?_map, List.getElem?_eq_getElem hj, List.getElem_map, Vi.ofNat_toNat (hrlt _ (List.getElem_mem hj))]
            rfl)
          rw [List.length_map, hrl] at h
          exact h
        have hcw := hcv wr rfl
        clear hcv hh hrlt hrl hu HV HH
        go_wp2_with fail
        go_ret2
        rw [HU.out]
        exact ⟨rfl, HB.out⟩
end Go.Proofs.Ytjijmgmobdoliaa
