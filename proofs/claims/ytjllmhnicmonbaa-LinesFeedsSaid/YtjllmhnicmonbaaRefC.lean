/- Walks: the reference's changes of every line. -/
import Derived.Test.YtjllmhnicmonbaaRefB
import Derived.Laws.BytesArg
namespace Go.Proofs.Ytjllmhnicmonbaa
open Go Go.RowKit

theorem back_any {w : World} {B c : Nat} {A : Option Addr} {l : List UInt8} (h : w.ownsRow B 5 1 (.slice A l.length c) l.length (Lib.byteCells l)) : (convert 43 9 (.slice A l.length c)).run Try.prog w = .ok (.string (bs l)) w := by
  rcases h.2 with ⟨hv, h0⟩ | ⟨g, cap, cur, hv, hr⟩
  · injection hv with h1 h2 h3
    subst h1
    subst h3
    obtain rfl := List.eq_nil_of_length_eq_zero h0
    exact run_convert_bytes_nil w 43 5 Try.underlying43 Try.underlying5 0 0 9 Try.underlying9
  · injection hv with h1 h2 h3
    subst h1
    subst h3
    exact back_own h rfl
theorem str_cells (l y : List UInt8) : Lib.byteCells l ++ Lib.strCells (bs y) = Lib.byteCells (l ++ y) := by simp [Lib.byteCells, Lib.strCells, bs]
theorem row_str {w : World} {B : Nat} {v : Value} {l y : List UInt8} (h : w.ownsRow B 5 1 v (l.length + (bs y).size) (Lib.byteCells l ++ Lib.strCells (bs y))) : w.ownsRow B 5 1 v (l ++ y).length (Lib.byteCells (l ++ y)) := by
  rw [str_cells, bs_size] at h
  rw [List.length_append]
  exact h
theorem flatmap_snoc (f : List UInt8 → List UInt8) (L : List (List UInt8)) {i : Nat} (h : i < L.length) : (L.take (i + 1)).flatMap f = (L.take i).flatMap f ++ f L[i] := by
  rw [List.take_succ_eq_append_getElem h, List.flatMap_append]
  simp
theorem grown_below {w u u2 : World} {B n s : Nat} {e : TypeId} {v : Value} {xs : List Value} (ho : u.ownsRow B e s v n xs) (g : u.grownBy u2 v.ownBlock) (hb : Below B w u) (hB : B ≤ u.heap.size) : Below B w u2 :=
  hb.grown g hB (fun b e => (ho.lt b e).1)
theorem cell_keep {w w' : World} {B : Nat} (hk : ∀ b, b < B → w'.heap[b]? = w.heap[b]?) {a : Addr} {v : Value} (h : w.cell? a = some v) (hb : w.heap.size ≤ B := by exact Nat.le_refl _) : w'.cell? a = some v :=
  (World.cell?_of_block (w := w) (hk a.block (Nat.lt_of_lt_of_le (World.block_lt_of_cell? w _ h) hb))).trans h
set_option maxHeartbeats 8000000 in
set_option maxRecDepth 100000 in
theorem RCrlf_c (s : ByteArray) (hs : s.size ≤ 1000000) (w : World) :
    Calls Try.prog 16 #[.string s] w fun e w' => e = .returned (.string (bs (Ln.crlf s.data.toList))) ∧ Below w.heap.size w w' := by
  obtain ⟨j0, hj, jz0, jz1, jz2⟩ := info_parts infoByteM
  have hsl : s.data.toList.length = s.size := rfl
  have hml := map_len Ln.crlf1 crlf1_le (Ln.lns s.data.toList) (fun l hl => Ln.ne_nil (Ln.lns_mem hl))
  rw [Ln.flat, hsl] at hml
  have hmem : ∀ x ∈ Ln.lns s.data.toList, Ln.T x ∨ Ln.U x := fun x hx => Ln.lns_mem hx
  have hlen : ∀ x ∈ Ln.lns s.data.toList, x.length ≤ 1000000 := fun x hx => by
    obtain ⟨pre, post, h⟩ := List.append_of_mem hx
    have := (part_len h).1
    omega
  have hll := Ln.lns_len s.data.toList
  have hres : Ln.crlf s.data.toList = (Ln.lns s.data.toList).flatMap Ln.crlf1 := rfl
  have hsp := fun u => RSplit_c s hs u
  generalize Ln.lns s.data.toList = L at hsp hml hmem hlen hll hres
  have hLl : L.length ≤ 1000000 := by omega
  have hpart : ∀ i, i < L.length → ((L.take i).flatMap Ln.crlf1).length ≤ 3000000 := fun i hi => by
    have h1 : L.flatMap Ln.crlf1 = (L.take i).flatMap Ln.crlf1 ++ (L.drop i).flatMap Ln.crlf1 := by rw [← List.flatMap_append, List.take_append_drop]
    rw [h1, List.length_append] at hml
    omega
  have HSP := Lib.hid hsp
  have HMEM := Lib.hid hmem
  have HLEN := Lib.hid hlen
  have HRES := Lib.hid hres
  have HPART := Lib.hid hpart
  clear hsp hml hmem hlen hll hres hsl hpart
  go_enter Try.func16, Try.ntmps16
  go_wp2_with fail
  refine (HSP.out w).mono ?_
  rintro e w3 ⟨v3, rfl, own3, k3⟩
  obtain ⟨A3, c3, rfl⟩ := own_len own3
  have HS3 := Lib.hid (row_seq own3)
  have B3 := Lib.hid k3
  have hz3 := k3.size
  clear k3 own3
  go_wp2_with fail
  go_loopw [4, 5, 6] (fun v iv _ wr => ∃ (i : Nat) (acc : List UInt8), i ≤ L.length ∧ iv = .int .i64 i ∧ Hid (acc = (L.take i).flatMap Ln.crlf1) ∧ Hid (wr.ownsRow w3.heap.size 5 1 v acc.length (Lib.byteCells acc)) ∧ Hid (Below w3.heap.size w3 wr)) (fun _ iv _ _ => L.length - (intOf iv).toNat)
  case atStart => exact ⟨0, [], by omega, rfl, Lib.hid rfl, Lib.hid (World.ownsRow_nil _ _ _ _), Lib.hid (Below.refl _ _)⟩
  case round =>
    obtain ⟨i, acc, hik, rfl, HA, HO, HB⟩ := hrel
    have hwz := HB.out.size
    obtain ⟨A0, c0, rfl⟩ := own_len HO.out
    by_cases k1 : i < L.length
    · obtain ⟨b3, o3, rfl, hc3⟩ := seq_at (k := i) HS3.out (by simpa using k1)
      have hc3' : wr.cell? ⟨b3, o3 + i, none⟩ = some (.string (bs L[i])) := cell_keep HB.out.block (by rw [hc3, List.getElem_map]; rfl)
      have hx := HMEM.out L[i] (List.getElem_mem k1)
      have hxl := HLEN.out L[i] (List.getElem_mem k1)
      have hsn := flatmap_snoc Ln.crlf1 L k1
      have hal : acc.length ≤ 3000000 := by rw [HA.out]; exact HPART.out i k1
      rw [← HA.out] at hsn
      clear hc3
      generalize L[i] = x at hc3' hx hxl hsn
      have i0 : (0 : Int) ≤ (i : Int) := by omega
      have i1 : (i : Int) < (L.length : Int) := by omega
      have hml := crlf1_le x
      have hbx := fun u => RBare_c (bs x) u (by rw [bs_size]; omega)
      rw [bs_data] at hbx
      have HBX := Lib.hid hbx
      have hbl : (bs (Ln.bare x)).size ≤ 1000000 := by
        rw [bs_size]
        rcases hx with ht | hu
        · obtain ⟨b, rfl, _⟩ := ht
          have := Ln.bare_lt (b := b)
          omega
        · rw [Ln.bare_U hu.2]; exact hxl
      rcases hx with ht | hu
      · have hm2 : Ln.crlf1 x = Ln.bare x ++ [13, 10] := by unfold Ln.crlf1; rw [Ln.ends_T ht]; rfl
        have hlt : (bs (Ln.bare x)).size < (bs x).size := by
          rw [bs_size, bs_size]
          obtain ⟨b, rfl, _⟩ := ht
          exact Ln.bare_lt
        rw [hm2] at hsn
        have HSN := Lib.hid hsn
        clear hbx hml hm2 hsn ht
        generalize hb : Ln.bare x = b at HBX hlt HSN hbl
        clear hb
        have HO1 := HO
        generalize hY : bs b = Y at HBX hlt hbl
        generalize bs x = X at hc3' HBX hlt
        have e3 : decide ((Y.size : Int) < (X.size : Int)) = true := by rw [decide_eq_true_iff]; omega
        have HY := Lib.hid hY
        clear hY
        go_wp2_with (first
          | (go_at_call 14; refine (HBX.out _).mono ?_; rintro e w5 ⟨rfl, hw⟩; obtain rfl := hw.symm)
          | (at_builtin
             go_must (refine Lib.wpList_append_own_string _ rfl (.tmp 20) (.tmp 21) 43 9 rfl w3.heap.size 5 j0 Try.underlying43 Try.underlying9 hj jz0 jz1 jz2 _ acc.length (Lib.byteCells acc) rfl HO.out Y rfl (by unfold maxLen; omega) (by omega) hwz ?_)))
        intro v5 w5 r5 g5 _
        have b5 := grown_below HO.out g5 HB.out hwz
        rw [← HY.out] at r5
        have r5' := row_str r5
        obtain ⟨A5, c5, rfl⟩ := own_len r5'
        have HO5 := Lib.hid r5'
        have HB5 := Lib.hid b5
        have hz5 := b5.size
        have hc5 : w5.cell? ⟨b3, o3 + i, none⟩ = some (.string X) := by
          obtain ⟨_, o9, he9, hc9⟩ := seq_at (k := i) HS3.out (by simpa using k1)
          injection he9 with he9
          have hblk := World.block_lt_of_cell? w3 _ hc9
          refine (World.cell?_of_block (w := wr) ?_).trans hc3'
          injection he9 with h1 h2
          subst h1
          exact (HB5.out.block _ hblk).trans (HB.out.block _ hblk).symm
        have hal2 : (acc ++ b).length ≤ 4000000 := by
          rw [List.length_append]
          have : b.length = Y.size := by rw [← HY.out]; rfl
          omega
        clear r5 r5' g5 b5 hc3' HO HB HBX
        generalize hac : acc ++ b = ac2 at HO5 hal2
        have HAC := Lib.hid hac
        clear hac
        go_wp2_with (first
          | (at_builtin
             go_must (refine wpList_append_own _ rfl (.tmp 31) (.tmp 32) 43 rfl w3.heap.size 5 j0 _ 1 1 Try.underlying43 hj jz0 jz1 jz2 rfl (by decide) _ ac2.length (Lib.byteCells ac2) rfl (HO5.out.alloc _) ⟨w5.heap.size, 0, none⟩ 2 2 [.int .u8 13, .int .u8 10] rfl rfl (cell_two_new _ _ _ _) (by simp [Value.oneCell']) (by unfold maxLen; omega) (by omega) (by simp; omega) ?_)))
        intro v6 w6 r6 g6 _
        have b6 := grown_below (HO5.out.alloc _) g6 (HB5.out.alloc hz5 _) (by simp; omega)
        have r6' : w6.ownsRow w3.heap.size 5 1 v6 (ac2 ++ [13, 10]).length (Lib.byteCells (ac2 ++ [13, 10])) := by
          have e : Lib.byteCells (ac2 ++ [13, 10]) = Lib.byteCells ac2 ++ [.int .u8 13, .int .u8 10] := by simp [Lib.byteCells]
          rw [List.length_append, e]
          exact r6
        have HO6 := Lib.hid r6'
        have HB6 := Lib.hid b6
        clear r6 r6' g6 b6
        go_wp2_with fail
        go_roundw
        case rel => exact ⟨i + 1, ac2 ++ [13, 10], by omega, by go_num, Lib.hid (by rw [HSN.out, ← HAC.out, List.append_assoc]), HO6, HB6⟩
        case measure => simp [intOf] <;> omega
      · have hm2 : Ln.crlf1 x = x := Ln.crlf1_U hu
        rw [hm2] at hsn
        rw [Ln.bare_U hu.2] at HBX hbl
        have HSN := Lib.hid hsn
        clear hbx hml hm2 hsn hu
        generalize hY : bs x = X at hc3' HBX hbl
        have HY := Lib.hid hY
        have e3 : decide ((X.size : Int) < (X.size : Int)) = false := by rw [decide_eq_false_iff_not]; omega
        clear hY
        go_wp2_with (first
          | (go_at_call 14; refine (HBX.out _).mono ?_; rintro e w5 ⟨rfl, hw⟩; obtain rfl := hw.symm)
          | (at_builtin
             go_must (refine Lib.wpList_append_own_string _ rfl (.tmp 20) (.tmp 21) 43 9 rfl w3.heap.size 5 j0 Try.underlying43 Try.underlying9 hj jz0 jz1 jz2 _ acc.length (Lib.byteCells acc) rfl HO.out X rfl (by unfold maxLen; omega) (by omega) hwz ?_)))
        intro v5 w5 r5 g5 _
        have b5 := grown_below HO.out g5 HB.out hwz
        rw [← HY.out] at r5
        have r5' := row_str r5
        have HO5 := Lib.hid r5'
        have HB5 := Lib.hid b5
        have hc5 : w5.cell? ⟨b3, o3 + i, none⟩ = some (.string X) := by
          obtain ⟨_, o9, he9, hc9⟩ := seq_at (k := i) HS3.out (by simpa using k1)
          injection he9 with he9
          have hblk := World.block_lt_of_cell? w3 _ hc9
          refine (World.cell?_of_block (w := wr) ?_).trans hc3'
          injection he9 with h1 h2
          subst h1
          exact (HB5.out.block _ hblk).trans (HB.out.block _ hblk).symm
        clear r5 r5' g5 b5 hc3' HO HB HBX
        go_wp2_with fail
        go_roundw
        case rel => exact ⟨i + 1, acc ++ x, by omega, by go_num, Lib.hid HSN.out.symm, HO5, HB5⟩
        case measure => simp [intOf] <;> omega
    · obtain rfl : i = L.length := by omega
      have hfin : acc = Ln.crlf s.data.toList := by rw [HA.out, HRES.out, List.take_of_length_le (Nat.le_refl _)]
      have hcv := back_any HO.out
      have HF := Lib.hid hfin
      have BB := Lib.hid (B3.out.trans (HB.out.mono hz3))
      clear hfin
      go_wp2_with fail
      go_ret
      rw [← HF.out]
      exact ⟨rfl, BB.out⟩
end Go.Proofs.Ytjllmhnicmonbaa
