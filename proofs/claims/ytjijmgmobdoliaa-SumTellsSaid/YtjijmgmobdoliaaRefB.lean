/- The reference's digests: their digits read and written. -/
import Derived.Test.YtjijmgmobdoliaaRefA
namespace Go.Proofs.Ytjijmgmobdoliaa
open Go.RowKit

theorem set_cell {W : World} {b k y : Nat} {t : TypeId} {L : List Nat} {x : Int} (hx : x = (y : Int)) (h : W.heap[b]? = some (.cells (L.map yv).toArray t (0, 0))) :
    (W.setCell ⟨b, k, none⟩ (.int .u8 x)).heap[b]? = some (.cells ((L.set k y).map yv).toArray t (0, 0)) := by
  subst hx
  have h1 := heap_setCell_same W b k _ t (yv y) h
  rw [List.setIfInBounds_toArray, ← List.map_set] at h1
  exact h1
theorem put_dig (w : World) (B : Nat) (old vs : List Nat) (W : World) (h : Dg W B old) (ho : old.length = 32) (hv : vs.length = 32) (hb : Below w.heap.size w W) (hB : w.heap.size ≤ B) : W.there B 0 (vs.map yv).toArray.size ∧
    ∀ V, W.setCells B 0 (vs.map yv).toArray.toList = V → Dg V B vs ∧ Below w.heap.size w V := by
  have h8 : (vs.map yv).toArray.size = (old.map yv).toArray.size := by simp [ho, hv]
  refine ⟨by rw [h8]; exact there_of (cs := old.map yv) h, fun V hV => ?_⟩
  subst hV
  exact ⟨heap_setCells_full (vs.map yv) (old.map yv) h (by simp [ho, hv]), below_setCells _ 0 hb hB⟩
set_option maxHeartbeats 8000000 in
set_option maxRecDepth 100000 in
theorem RRead_c (s : ByteArray) (w : World) :
    Calls Try.prog 9 #[.string s] w fun e w' => e = .returned (.tuple #[.agg ((Hx.rd s.data.toList).1.map yv).toArray, .bool (Hx.rd s.data.toList).2]) ∧ Below w.heap.size w w' := by
  have hl : s.data.toList.length = s.size := rfl
  have hi32 : (Try.prog.info? 23).map (·.size) = some ((List.replicate 32 0).map yv).toArray.size := by kernel_rfl
  have HI := Lib.hid hi32
  clear hi32
  by_cases h64 : s.size = 64
  · have HL := Lib.hid hl
    have H64 := Lib.hid h64
    have h64i : (s.size : Int) = 64 := by omega
    clear hl
    go_enter Try.func9, Try.ntmps9
    go_wp2_with fail
    generalize hW : (w.alloc _).alloc _ = W
    obtain ⟨h1, h2, hb, hz⟩ := two_boxes _ _ _ _ hW
    have D1 := Lib.hid (show Dg W w.heap.size (List.replicate 32 0) from h1)
    have D2 := Lib.hid (show Dg W (w.heap.size + 1) (Hx.part s.data.toList 0) by rw [Hx.part_zero]; exact h2)
    have HB := Lib.hid hb
    clear hW h1 h2 hb hz
    go_loopw [5] (fun iv wr => ∃ k : Nat, k ≤ 64 ∧ iv = .int .i64 k ∧ Hid (∀ j, j < k → Hx.dAt s.data.toList j ≠ 16) ∧ Hid (Dg wr w.heap.size (List.replicate 32 0)) ∧ Hid (Dg wr (w.heap.size + 1) (Hx.part s.data.toList k)) ∧ Hid (Below w.heap.size w wr)) (fun iv _ => (64 - intOf iv).toNat)
    case atStart => exact ⟨0, by omega, rfl, Lib.hid (fun j hj => by omega), D1, D2, HB⟩
    case round =>
      clear D1 D2 HB
      obtain ⟨k, hk, rfl, HT, D1, D2, HB⟩ := hrel
      by_cases k64 : k < 64
      · have hks : k < s.size := by omega
        have hdc := rdigit_c s[k].toNat (UInt8.toNat_lt _) wr
        have hd : Hx.dr s[k].toNat = Hx.dAt s.data.toList k := by
          unfold Hx.dAt
          rw [List.getD_eq_getElem?_getD, List.getElem?_eq_getElem (by rw [HL.out]; exact hks)]
          rfl
        rw [hd] at hdc
        have hle : Hx.dAt s.data.toList k ≤ 16 := Hx.dr_le _
        have hpo := Hx.part_at s.data.toList k64
        have hst := fun o ho => Hx.part_step s.data.toList (o := o) k64 ho
        have hodd : k % 2 = 1 → Hx.dAt s.data.toList (k - 1) ≠ 16 := fun h => HT.out (k - 1) (by omega)
        have hle2 : Hx.dAt s.data.toList (k - 1) ≤ 16 := Hx.dr_le _
        obtain ⟨o, ho, ho15⟩ : ∃ o, (Hx.part s.data.toList k)[k / 2]? = some o ∧ o ≤ 15 := by
          refine ⟨_, hpo, ?_⟩
          split <;> omega
        have hst2 := hst o ho
        have hno : Hx.dAt s.data.toList k = 16 → Hx.rd s.data.toList = (List.replicate 32 0, false) := fun h => Hx.rd_none _ (.inr ⟨k, k64, h⟩)
        have hT2 : Hx.dAt s.data.toList k ≠ 16 → ∀ j, j < k + 1 → Hx.dAt s.data.toList j ≠ 16 := fun h j hj => by
          by_cases e : j = k
          · rw [e]; exact h
          · exact HT.out j (by omega)
        clear hst hpo hodd hle2 hd
        generalize Hx.dAt s.data.toList k = d at hdc hle hst2 hno hT2
        obtain ⟨q, hq⟩ : ∃ q, q = k / 2 := ⟨_, rfl⟩
        rw [← hq] at ho hst2
        have c1 : wr.cell? ⟨w.heap.size + 1, q, none⟩ = some (.int .u8 o) := by
          rw [Lib.cell_of_heap D2.out, List.getElem?_toArray, List.getElem?_map, ho]
          rfl
        have f1 : wr.frozen? ⟨w.heap.size + 1, q, none⟩ = false := Lib.frozen_of_heap D2.out q
        have iq : (k : Int) / 2 = (q : Int) := by omega
        have q0 : (0 : Int) ≤ (q : Int) := by omega
        have q1 : (q : Int) < 32 := by omega
        have k0 : (0 : Int) ≤ (k : Int) := by omega
        have k1 : (k : Int) < 64 := by omega
        have DC := Lib.hid hdc
        have HST := Lib.hid hst2
        have HNO := Lib.hid hno
        have HT2 := Lib.hid hT2
        clear hdc hst2 hno hT2 ho hq
        by_cases d16 : d = 16
        · subst d16
          have P1 := Lib.hid (put_dig w w.heap.size (List.replicate 32 0) (List.replicate 32 0) wr D1.out (by simp) (by simp) HB.out (Nat.le_refl _))
          go_wp2_with (first
            | (go_at_call 20; refine DC.out.mono ?_; rintro e w1 ⟨rfl, hw⟩; obtain rfl := hw.symm)
            | (refine wpList_store_mid rfl 23 (.tmp 2) (.tmp 21) rfl w.heap.size 0 ((List.replicate 32 0).map yv).toArray rfl rfl P1.out.1 HI.out (all_oneY _) ?_
               generalize hV : World.setCells _ _ _ _ = V
               have h6 := P1.out.2 V hV
               clear hV))
          refine ⟨rfl, _, results_cell_row_tmp rfl _ _ _ _ _ _ _ rfl h6.1 Try.underlying23 rfl HI.out, ?_, h6.2⟩
          rw [HNO.out trivial]
          rfl
        · have d15 : d ≤ 15 := by omega
          have w1 : IntKind.u8.wrap (16 * (o : Int)) = 16 * (o : Int) := by rw [IntKind.wrap_u8]; omega
          have w2 : IntKind.u8.wrap (d : Int) = (d : Int) := by rw [IntKind.wrap_u8]; omega
          have w3 : IntKind.u8.wrap (16 * (o : Int) + (d : Int)) = 16 * (o : Int) + (d : Int) := by rw [IntKind.wrap_u8]; omega
          have e16 : ((d : Int) == 16) = false := by rw [beq_eq_false_iff_ne]; omega
          have hne : w.heap.size ≠ w.heap.size + 1 := by omega
          go_wp2_with (go_at_call 20; refine DC.out.mono ?_; rintro e w1 ⟨rfl, hw⟩; obtain rfl := hw.symm)
          go_roundw
          case rel =>
            have hs := set_cell (k := q) (y := 16 * o + d) (x := 16 * (o : Int) + (d : Int)) (by omega) D2.out
            rw [HST.out] at hs
            exact ⟨k + 1, by omega, by go_num, Lib.hid (HT2.out d16), Lib.hid ((Below.heap_setCell wr ⟨w.heap.size + 1, q, none⟩ _ w.heap.size hne).trans D1.out), Lib.hid hs, Lib.hid (HB.out.setCell (p := ⟨w.heap.size + 1, q, none⟩) (by simp) _)⟩
          case measure => simp [intOf] <;> omega
      · obtain rfl : k = 64 := by omega
        have hrd := Hx.part_full s.data.toList (by rw [HL.out]; exact H64.out) (fun j hj => HT.out j hj)
        have P1 := Lib.hid (put_dig w w.heap.size (List.replicate 32 0) (Hx.part s.data.toList 64) wr D1.out (by simp) (Hx.part_len _ _) HB.out (Nat.le_refl _))
        have hiP : (Try.prog.info? 23).map (·.size) = some ((Hx.part s.data.toList 64).map yv).length := by rw [List.length_map, Hx.part_len]; kernel_rfl
        have HP := Lib.hid hiP
        have HRD := Lib.hid hrd
        clear hiP hrd
        generalize Hx.part s.data.toList 64 = R at D2 P1 HP HRD
        go_wp2_with (first
          | refine wpList_load_mid rfl 23 (.tmp 4) rfl (w.heap.size + 1) 0 rfl (R.map yv) _ (range_of D2.out) Try.underlying23 rfl HP.out ?_
          | (refine wpList_store_mid rfl 23 (.tmp 2) (.tmp 33) rfl w.heap.size 0 (R.map yv).toArray rfl rfl P1.out.1 (by simpa using HP.out) (all_oneY _) ?_
             generalize hV : World.setCells _ _ _ _ = V
             have h6 := P1.out.2 V hV
             clear hV))
        refine ⟨rfl, _, results_cell_row_tmp rfl _ _ _ _ _ _ _ rfl h6.1 Try.underlying23 rfl (by simpa using HP.out), ?_, h6.2⟩
        rw [HRD.out]
        rfl
  · have hrd := Hx.rd_none s.data.toList (.inl (by rw [hl]; exact h64))
    have h64i : ((s.size : Int) == 64) = false := by rw [beq_eq_false_iff_ne]; omega
    have HRD := Lib.hid hrd
    clear hrd hl h64
    have hone : ∀ W : World, Dg W w.heap.size (List.replicate 32 0) → Below w.heap.size w W → W.there w.heap.size 0 ((List.replicate 32 0).map yv).toArray.size ∧ ∀ V, W.setCells w.heap.size 0 ((List.replicate 32 0).map yv).toArray.toList = V → Dg V w.heap.size (List.replicate 32 0) ∧ Below w.heap.size w V :=
      fun W h hb => put_dig w w.heap.size (List.replicate 32 0) (List.replicate 32 0) W h (by simp) (by simp) hb (Nat.le_refl _)
    have HONE := Lib.hid hone
    clear hone
    have h2b := two_boxes w (.cells ((List.replicate 32 0).map yv).toArray 23) (.cells ((List.replicate 32 0).map yv).toArray 23) _ rfl
    have P1 := Lib.hid (HONE.out _ h2b.1 h2b.2.2.1)
    clear h2b
    go_enter Try.func9, Try.ntmps9
    go_wp2_with (first
      | (refine wpList_store_mid rfl 23 (.tmp 2) (.tmp 10) rfl w.heap.size 0 ((List.replicate 32 0).map yv).toArray rfl rfl P1.out.1 HI.out (all_oneY _) ?_
         generalize hV : World.setCells _ _ _ _ = V
         have h6 := P1.out.2 V hV
         clear hV))
    refine ⟨rfl, _, results_cell_row_tmp rfl _ _ _ _ _ _ _ rfl h6.1 Try.underlying23 rfl HI.out, ?_, h6.2⟩
    rw [HRD.out]
    rfl
end Go.Proofs.Ytjijmgmobdoliaa
