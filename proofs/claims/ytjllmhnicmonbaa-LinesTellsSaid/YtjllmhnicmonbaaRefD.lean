/- Walks: the reference's stuffing. -/
import Derived.Test.YtjllmhnicmonbaaRefC
namespace Go.Proofs.Ytjllmhnicmonbaa
open Go Go.RowKit

set_option maxHeartbeats 8000000 in
set_option maxRecDepth 100000 in
theorem RStuff_c (s : ByteArray) (hs : s.size ≤ 1000000) (w : World) :
    Calls Try.prog 18 #[.string s] w fun e w' => e = .returned (.string (bs (Ln.stuff s.data.toList))) ∧ Below w.heap.size w w' := by
  obtain ⟨j0, hj, jz0, jz1, jz2⟩ := info_parts infoByteM
  have hsl : s.data.toList.length = s.size := rfl
  have hml := map_len Ln.stuff1 stuff1_le (Ln.lns s.data.toList) (fun l hl => Ln.ne_nil (Ln.lns_mem hl))
  rw [Ln.flat, hsl] at hml
  have hmem : ∀ x ∈ Ln.lns s.data.toList, Ln.T x ∨ Ln.U x := fun x hx => Ln.lns_mem hx
  have hlen : ∀ x ∈ Ln.lns s.data.toList, x.length ≤ 1000000 := fun x hx => by
    obtain ⟨pre, post, h⟩ := List.append_of_mem hx
    have := (part_len h).1
    omega
  have hll := Ln.lns_len s.data.toList
  have hres : Ln.stuff s.data.toList = (Ln.lns s.data.toList).flatMap Ln.stuff1 := rfl
  have hsp := fun u => RSplit_c s hs u
  generalize Ln.lns s.data.toList = L at hsp hml hmem hlen hll hres
  have hLl : L.length ≤ 1000000 := by omega
  have hpart : ∀ i, i < L.length → ((L.take i).flatMap Ln.stuff1).length ≤ 3000000 := fun i hi => by
    have h1 : L.flatMap Ln.stuff1 = (L.take i).flatMap Ln.stuff1 ++ (L.drop i).flatMap Ln.stuff1 := by rw [← List.flatMap_append, List.take_append_drop]
    rw [h1, List.length_append] at hml
    omega
  have HSP := Lib.hid hsp
  have HMEM := Lib.hid hmem
  have HLEN := Lib.hid hlen
  have HRES := Lib.hid hres
  have HPART := Lib.hid hpart
  clear hsp hml hmem hlen hll hres hsl hpart
  go_enter Try.func18, Try.ntmps18
  go_wp2_with fail
  refine (HSP.out w).mono ?_
  rintro e w3 ⟨v3, rfl, own3, k3⟩
  obtain ⟨A3, c3, rfl⟩ := own_len own3
  have HS3 := Lib.hid (row_seq own3)
  have B3 := Lib.hid k3
  have hz3 := k3.size
  clear k3 own3
  go_wp2_with fail
  go_loopw [4, 5] (fun v iv wr => ∃ (i : Nat) (acc : List UInt8), i ≤ L.length ∧ iv = .int .i64 i ∧ Hid (acc = (L.take i).flatMap Ln.stuff1) ∧ Hid (wr.ownsRow w3.heap.size 5 1 v acc.length (Lib.byteCells acc)) ∧ Hid (Below w3.heap.size w3 wr)) (fun _ iv _ => L.length - (intOf iv).toNat)
  case atStart => exact ⟨0, [], by omega, rfl, Lib.hid rfl, Lib.hid (World.ownsRow_nil _ _ _ _), Lib.hid (Below.refl _ _)⟩
  case round =>
    obtain ⟨i, acc, hik, rfl, HA, HO, HB⟩ := hrel
    have hwz := HB.out.size
    obtain ⟨A0, c0, rfl⟩ := own_len HO.out
    by_cases k1 : i < L.length
    · obtain ⟨b3, o3, rfl, hc3⟩ := seq_at (k := i) HS3.out (by simpa using k1)
      have hc3' : wr.cell? ⟨b3, o3 + i, none⟩ = some (.string (bs L[i])) := cell_keep HB.out.block (by rw [hc3, List.getElem_map]; rfl)
      have hx := HMEM.out L[i] (List.getElem_mem k1)
      have hxl := HLEN.out L[i] (List.getElem_mem k1)
      have hsn := flatmap_snoc Ln.stuff1 L k1
      have hal : acc.length ≤ 3000000 := by rw [HA.out]; exact HPART.out i k1
      rw [← HA.out] at hsn
      clear hc3
      generalize L[i] = x at hc3' hx hxl hsn
      have i0 : (0 : Int) ≤ (i : Int) := by omega
      have i1 : (i : Int) < (L.length : Int) := by omega
      have hml := stuff1_le x
      have hne : x ≠ [] := Ln.ne_nil hx
      have hXs : (bs x).size ≤ 1000000 := by rw [bs_size]; exact hxl
      obtain ⟨c, t, hct⟩ := List.exists_cons_of_ne_nil hne
      obtain ⟨hz, hc⟩ := first_byte (s := bs x) (by rw [bs_data]; exact hct)
      by_cases h46 : c = 46
      · have hm2 : Ln.stuff1 x = 46 :: x := by unfold Ln.stuff1; rw [hct, if_pos (by simp [h46])]
        rw [hm2] at hsn
        have HSN := Lib.hid hsn
        have hq : ((bs x)[0].toNat : Int) = 46 := by rw [hc, h46]; rfl
        clear hml hm2 hsn hx hne hct hc h46
        generalize hY : bs x = X at hc3' hXs hz hq
        have HY := Lib.hid hY
        clear hY
        go_wp2_with (first
          | (at_builtin
             go_must (refine wpList_append_own _ rfl (.tmp 20) (.tmp 21) 43 rfl w3.heap.size 5 j0 _ 1 1 Try.underlying43 hj jz0 jz1 jz2 rfl (by decide) _ acc.length (Lib.byteCells acc) rfl (HO.out.alloc _) ⟨wr.heap.size, 0, none⟩ 1 1 [.int .u8 46] rfl rfl (cell_one_new _ _ _) (by simp [Value.oneCell']) (by unfold maxLen; omega) (by omega) (by simp; omega) ?_)))
        intro v5 w5 r5 g5 _
        have b5 := grown_below (HO.out.alloc _) g5 (HB.out.alloc hwz _) (by simp; omega)
        have r5' : w5.ownsRow w3.heap.size 5 1 v5 (acc ++ [46]).length (Lib.byteCells (acc ++ [46])) := by
          have e : Lib.byteCells (acc ++ [46]) = Lib.byteCells acc ++ [.int .u8 46] := by simp [Lib.byteCells]
          rw [List.length_append, e]
          exact r5
        obtain ⟨A5, c5, rfl⟩ := own_len r5'
        have HO5 := Lib.hid r5'
        have HB5 := Lib.hid b5
        have hz5 := b5.size
        have hc5 : w5.cell? ⟨b3, o3 + i, none⟩ = some (.string X) := by
          obtain ⟨_, o9, he9, hc9⟩ := seq_at (k := i) HS3.out (by simpa using k1)
          injection he9 with he9
          have hblk := World.block_lt_of_cell? w3 _ hc9
          refine (World.cell?_of_block (w := wr) ?_).trans hc3'
          injection he9 with h1 h2
          subst h1
          exact (HB5.out.block _ hblk).trans (HB.out.block _ hblk).symm
        have hal2 : (acc ++ [46]).length ≤ 4000000 := by
          rw [List.length_append]
          simp
          omega
        clear r5 r5' g5 b5 hc3' HO HB
        generalize hac : acc ++ [46] = ac2 at HO5 hal2
        have HAC := Lib.hid hac
        clear hac
        go_wp2_with (first
          | (at_builtin
             go_must (refine Lib.wpList_append_own_string _ rfl (.tmp 23) (.tmp 27) 43 9 rfl w3.heap.size 5 j0 Try.underlying43 Try.underlying9 hj jz0 jz1 jz2 _ ac2.length (Lib.byteCells ac2) rfl HO5.out X rfl (by unfold maxLen; omega) (by omega) hz5 ?_)))
        intro v6 w6 r6 g6 _
        have b6 := grown_below HO5.out g6 HB5.out hz5
        rw [← HY.out] at r6
        have r6' := row_str r6
        have HO6 := Lib.hid r6'
        have HB6 := Lib.hid b6
        clear r6 r6' g6 b6
        go_wp2_with fail
        go_roundw
        case rel => exact ⟨i + 1, ac2 ++ x, by omega, by go_num, Lib.hid (by rw [HSN.out, ← HAC.out, List.append_assoc]; rfl), HO6, HB6⟩
        case measure => simp [intOf] <;> omega
      · have hm2 : Ln.stuff1 x = x := by unfold Ln.stuff1; rw [hct, if_neg (by simpa using h46)]
        rw [hm2] at hsn
        have HSN := Lib.hid hsn
        have hq : (((bs x)[0].toNat : Int) == 46) = false := by
          rw [beq_eq_false_iff_ne, hc]
          intro e
          exact h46 (UInt8.toNat.inj (by show c.toNat = 46; omega))
        clear hml hm2 hsn hx hne hct hc h46
        generalize hY : bs x = X at hc3' hXs hz hq
        have HY := Lib.hid hY
        clear hY
        go_wp2_with (first
          | (at_builtin
             go_must (refine Lib.wpList_append_own_string _ rfl (.tmp 23) (.tmp 27) 43 9 rfl w3.heap.size 5 j0 Try.underlying43 Try.underlying9 hj jz0 jz1 jz2 _ acc.length (Lib.byteCells acc) rfl HO.out X rfl (by unfold maxLen; omega) (by omega) hwz ?_)))
        intro v6 w6 r6 g6 _
        have b6 := grown_below HO.out g6 HB.out hwz
        rw [← HY.out] at r6
        have r6' := row_str r6
        have HO6 := Lib.hid r6'
        have HB6 := Lib.hid b6
        clear r6 r6' g6 b6
        go_wp2_with fail
        go_roundw
        case rel => exact ⟨i + 1, acc ++ x, by omega, by go_num, Lib.hid HSN.out.symm, HO6, HB6⟩
        case measure => simp [intOf] <;> omega
    · obtain rfl : i = L.length := by omega
      have hfin : acc = Ln.stuff s.data.toList := by rw [HA.out, HRES.out, List.take_of_length_le (Nat.le_refl _)]
      have hcv := back_any HO.out
      have HF := Lib.hid hfin
      have BB := Lib.hid (B3.out.trans (HB.out.mono hz3))
      clear hfin
      go_wp2_with fail
      go_ret
      rw [← HF.out]
      exact ⟨rfl, BB.out⟩
set_option maxHeartbeats 8000000 in
set_option maxRecDepth 100000 in
theorem RUnstuff_c (s : ByteArray) (hs : s.size ≤ 1000000) (w : World) :
    Calls Try.prog 20 #[.string s] w fun e w' => e = .returned (.string (bs (Ln.unst s.data.toList))) ∧ Below w.heap.size w w' := by
  obtain ⟨j0, hj, jz0, jz1, jz2⟩ := info_parts infoByteM
  have hsl : s.data.toList.length = s.size := rfl
  have hml := map_len Ln.unst1 unst1_le (Ln.lns s.data.toList) (fun l hl => Ln.ne_nil (Ln.lns_mem hl))
  rw [Ln.flat, hsl] at hml
  have hmem : ∀ x ∈ Ln.lns s.data.toList, Ln.T x ∨ Ln.U x := fun x hx => Ln.lns_mem hx
  have hlen : ∀ x ∈ Ln.lns s.data.toList, x.length ≤ 1000000 := fun x hx => by
    obtain ⟨pre, post, h⟩ := List.append_of_mem hx
    have := (part_len h).1
    omega
  have hll := Ln.lns_len s.data.toList
  have hres : Ln.unst s.data.toList = (Ln.lns s.data.toList).flatMap Ln.unst1 := rfl
  have hsp := fun u => RSplit_c s hs u
  generalize Ln.lns s.data.toList = L at hsp hml hmem hlen hll hres
  have hLl : L.length ≤ 1000000 := by omega
  have hpart : ∀ i, i < L.length → ((L.take i).flatMap Ln.unst1).length ≤ 3000000 := fun i hi => by
    have h1 : L.flatMap Ln.unst1 = (L.take i).flatMap Ln.unst1 ++ (L.drop i).flatMap Ln.unst1 := by rw [← List.flatMap_append, List.take_append_drop]
    rw [h1, List.length_append] at hml
    omega
  have HSP := Lib.hid hsp
  have HMEM := Lib.hid hmem
  have HLEN := Lib.hid hlen
  have HRES := Lib.hid hres
  have HPART := Lib.hid hpart
  clear hsp hml hmem hlen hll hres hsl hpart
  go_enter Try.func20, Try.ntmps20
  go_wp2_with fail
  refine (HSP.out w).mono ?_
  rintro e w3 ⟨v3, rfl, own3, k3⟩
  obtain ⟨A3, c3, rfl⟩ := own_len own3
  have HS3 := Lib.hid (row_seq own3)
  have B3 := Lib.hid k3
  have hz3 := k3.size
  clear k3 own3
  go_wp2_with fail
  go_loopw [4, 5, 6] (fun v iv _ wr => ∃ (i : Nat) (acc : List UInt8), i ≤ L.length ∧ iv = .int .i64 i ∧ Hid (acc = (L.take i).flatMap Ln.unst1) ∧ Hid (wr.ownsRow w3.heap.size 5 1 v acc.length (Lib.byteCells acc)) ∧ Hid (Below w3.heap.size w3 wr)) (fun _ iv _ _ => L.length - (intOf iv).toNat)
  case atStart => exact ⟨0, [], by omega, rfl, Lib.hid rfl, Lib.hid (World.ownsRow_nil _ _ _ _), Lib.hid (Below.refl _ _)⟩
  case round =>
    obtain ⟨i, acc, hik, rfl, HA, HO, HB⟩ := hrel
    have hwz := HB.out.size
    obtain ⟨A0, c0, rfl⟩ := own_len HO.out
    by_cases k1 : i < L.length
    · obtain ⟨b3, o3, rfl, hc3⟩ := seq_at (k := i) HS3.out (by simpa using k1)
      have hc3' : wr.cell? ⟨b3, o3 + i, none⟩ = some (.string (bs L[i])) := cell_keep HB.out.block (by rw [hc3, List.getElem_map]; rfl)
      have hx := HMEM.out L[i] (List.getElem_mem k1)
      have hxl := HLEN.out L[i] (List.getElem_mem k1)
      have hsn := flatmap_snoc Ln.unst1 L k1
      have hal : acc.length ≤ 3000000 := by rw [HA.out]; exact HPART.out i k1
      rw [← HA.out] at hsn
      clear hc3
      generalize L[i] = x at hc3' hx hxl hsn
      have i0 : (0 : Int) ≤ (i : Int) := by omega
      have i1 : (i : Int) < (L.length : Int) := by omega
      have hml := unst1_le x
      have hne : x ≠ [] := Ln.ne_nil hx
      have hXs : (bs x).size ≤ 1000000 := by rw [bs_size]; exact hxl
      obtain ⟨c, t, hct⟩ := List.exists_cons_of_ne_nil hne
      obtain ⟨hz, hc⟩ := first_byte (s := bs x) (by rw [bs_data]; exact hct)
      by_cases h46 : c = 46
      · have hm2 : Ln.unst1 x = x.tail := by unfold Ln.unst1; rw [hct, if_pos (by simp [h46])]
        have hex : (bs x).extract 1 (bs x).size = bs (Ln.unst1 x) := by
          rw [hm2, extract_at, bs_data, bs_size, List.take_of_length_le (by simp), List.drop_one]
        have HEX := Lib.hid hex
        clear hex hm2
        generalize Ln.unst1 x = m at hsn hml HEX
        have HSN := Lib.hid hsn
        have hq : ((bs x)[0].toNat : Int) = 46 := by rw [hc, h46]; rfl
        clear hml hsn hx hne hct hc h46
        generalize bs x = X at hc3' hXs hz hq HEX
        have hYs : (X.extract 1 X.size).size ≤ 1000000 := by rw [ByteArray.size_extract]; omega
        go_wp2_with (first
          | (at_builtin
             go_must (refine Lib.wpList_append_own_string _ rfl (.tmp 21) (.tmp 27) 43 9 rfl w3.heap.size 5 j0 Try.underlying43 Try.underlying9 hj jz0 jz1 jz2 _ acc.length (Lib.byteCells acc) rfl HO.out (X.extract 1 X.size) rfl (by unfold maxLen; omega) (by omega) hwz ?_)))
        intro v6 w6 r6 g6 _
        have b6 := grown_below HO.out g6 HB.out hwz
        rw [show X.size - 1 = (bs m).size from by rw [← HEX.out, ByteArray.size_extract]; omega, HEX.out] at r6
        have r6' := row_str r6
        have HO6 := Lib.hid r6'
        have HB6 := Lib.hid b6
        clear r6 r6' g6 b6
        go_wp2_with fail
        go_roundw
        case rel => exact ⟨i + 1, acc ++ m, by omega, by go_num, Lib.hid HSN.out.symm, HO6, HB6⟩
        case measure => simp [intOf] <;> omega
      · have hm2 : Ln.unst1 x = x := by unfold Ln.unst1; rw [hct, if_neg (by simpa using h46)]
        have hex : bs x = bs (Ln.unst1 x) := by rw [hm2]
        have HEX := Lib.hid hex
        clear hex hm2
        generalize Ln.unst1 x = m at hsn hml HEX
        have HSN := Lib.hid hsn
        have hq : (((bs x)[0].toNat : Int) == 46) = false := by
          rw [beq_eq_false_iff_ne, hc]
          intro e
          exact h46 (UInt8.toNat.inj (by show c.toNat = 46; omega))
        clear hml hsn hx hne hct hc h46
        generalize bs x = X at hc3' hXs hz hq HEX
        have hYs : (X.extract 0 X.size).size ≤ 1000000 := by rw [ByteArray.size_extract]; omega
        go_wp2_with (first
          | (at_builtin
             go_must (refine Lib.wpList_append_own_string _ rfl (.tmp 21) (.tmp 27) 43 9 rfl w3.heap.size 5 j0 Try.underlying43 Try.underlying9 hj jz0 jz1 jz2 _ acc.length (Lib.byteCells acc) rfl HO.out X rfl (by unfold maxLen; omega) (by omega) hwz ?_)))
        intro v6 w6 r6 g6 _
        have b6 := grown_below HO.out g6 HB.out hwz
        rw [HEX.out] at r6
        have r6' := row_str r6
        have HO6 := Lib.hid r6'
        have HB6 := Lib.hid b6
        clear r6 r6' g6 b6
        go_wp2_with fail
        go_roundw
        case rel => exact ⟨i + 1, acc ++ m, by omega, by go_num, Lib.hid HSN.out.symm, HO6, HB6⟩
        case measure => simp [intOf] <;> omega
    · obtain rfl : i = L.length := by omega
      have hfin : acc = Ln.unst s.data.toList := by rw [HA.out, HRES.out, List.take_of_length_le (Nat.le_refl _)]
      have hcv := back_any HO.out
      have HF := Lib.hid hfin
      have BB := Lib.hid (B3.out.trans (HB.out.mono hz3))
      clear hfin
      go_wp2_with fail
      go_ret
      rw [← HF.out]
      exact ⟨rfl, BB.out⟩
end Go.Proofs.Ytjllmhnicmonbaa
