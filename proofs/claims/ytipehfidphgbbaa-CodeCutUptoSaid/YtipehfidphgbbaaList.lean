/- List and Nums (the encoders) of the program and of the reference. -/
import Derived.Test.YtipehfidphgbbaaEnc
namespace Go.Proofs.Ytipehfidphgbbaa
open Go.RowKit

theorem take_flat {α : Type} (g : α → List UInt8) (xs : List α) (k : Nat) (h : k < xs.length) : (xs.take (k + 1)).flatMap g = (xs.take k).flatMap g ++ g xs[k] := by
  rw [List.take_succ_eq_append_getElem h, List.flatMap_append]
  simp
theorem flat_le {α : Type} (g : α → List UInt8) (xs : List α) (k : Nat) : ((xs.take k).flatMap g).length ≤ (xs.flatMap g).length := by
  conv => rhs; rw [← List.take_append_drop k xs, List.flatMap_append, List.length_append]
  omega
theorem one_le {α : Type} (g : α → List UInt8) (xs : List α) (k : Nat) (h : k < xs.length) : (g xs[k]).length ≤ (xs.flatMap g).length := by
  have := flat_le g xs (k + 1)
  rw [take_flat g xs k h, List.length_append] at this
  omega
theorem vi_num (n : Nat) : Vi.eNum (n : Int) = Vi.vi n := by unfold Vi.eNum; rw [if_neg (by omega)]; simp
theorem text_le (x : List UInt8) : x.length ≤ (Vi.eText x).length := by unfold Vi.eText; simp
theorem encTextL_c (l : List UInt8) (w : World) (hs : l.length ≤ 140737488355328) :
    Calls Try.prog 13 #[.string (bs l)] w fun e w' => e = .returned (.string (bs (Vi.eText l))) ∧ Below w.heap.size w w' := encText_c (bs l) w hs
theorem encTextRL_c (l : List UInt8) (w : World) (hs : l.length ≤ 140737488355328) :
    Calls Try.prog 14 #[.string (bs l)] w fun e w' => e = .returned (.string (bs (Vi.eText l))) ∧ Below w.heap.size w w' := encTextR_c (bs l) w hs
theorem strCells_bs (l : List UInt8) : Lib.strCells (bs l) = Lib.byteCells l := rfl

theorem builder_below {T e : TypeId} {B b : Nat} {bs : List Value} {w w' : World} (h : Lib.IsBuilderF T e B b bs w) (hb : Below w.heap.size w w') : Lib.IsBuilderF T e B b bs w' := by
  have key : ∀ p, Lib.BuilderAtF T e B b p bs w → Lib.BuilderAtF T e B b p bs w' := by
    rintro p ⟨hB, v, hbk, hown, hne⟩
    have hlt := blk_lt hbk
    refine ⟨hB, v, (hb.block b hlt).trans hbk, hown.kept (row := none) ⟨hb.os, hb.tape, hb.output, hb.size, fun k hk _ => hb.block k hk⟩ ?_, hne⟩
    cases v.ownBlock <;> simp
  rcases h with h | h
  · exact .inl (key _ h)
  · exact .inr (key _ h)
theorem builder_below' {T e : TypeId} {B b : Nat} {bs : List Value} {w w' : World} (h : Lib.IsBuilderF T e B b bs w) (hb : Below w.heap.size w w') : Lib.IsBuilderF T e B b bs w' := builder_below h hb

set_option maxHeartbeats 4000000 in
set_option maxRecDepth 100000 in
theorem encAllTexts_c (va : Value) (xs : List (List UInt8)) (w : World) (ha : Seq w va (xs.map sv)) (hb : (Vi.eMany Vi.eText xs).length ≤ 70368744177664) :
    Calls Try.prog 42 #[va, .func (.func 13) #[] #[]] w fun e w' => e = .returned (.string (bs (Vi.eMany Vi.eText xs))) ∧ Below w.heap.size w w' := by
  have hmf : ∀ (fn : Fn) (first cap : Array Value) (w : World), (Instr.makeFunc fn first cap).run Try.prog w = .ok (.func fn first cap) w := fun _ _ _ _ => rfl
  have hfr := Lib.IsBuilderF.of (Lib.fresh_isBuilder 54 5 w)
  obtain ⟨A, ca, rfl, hca, hma, ha⟩ := ha
  rw [List.length_map] at hca
  unfold maxLen at hma
  simp only [List.length_map]
  have hb' : (Vi.vi xs.length).length + (xs.flatMap Vi.eText).length ≤ 70368744177664 := by unfold Vi.eMany at hb; simpa using hb
  have hvl := (Vi.vi_len xs.length).2
  have HA := Lib.hid ha; clear ha
  have hbn : (bs (Vi.eNum (xs.length : Int))).size ≤ 9 := by rw [bs_size]; exact Vi.eNum_le _
  go_enter Try.func42, Try.ntmps42
  go_wp2_with fail
  refine (enc_c _ _ (by omega) (by omega)).mono ?_
  rintro e w1 ⟨rfl, h1⟩
  have hb1 : Below w.heap.size w w1 := ((Below.refl _ w).alloc (Nat.le_refl _) _).trans (h1.mono (by simp))
  have hI1 : Lib.IsBuilderF 54 5 w.heap.size w.heap.size (Lib.byteCells []) w1 := builder_below hfr h1
  have hsz1 := hb1.size
  go_wp2_with fail
  refine (WriteString_k w.heap.size w.heap.size _ _ w1 hI1 (by rw [Lib.byteCells_length]; simp; omega) hsz1).mono ?_
  rintro e w2 ⟨rfl, h2, b2, _⟩
  rw [strCells_bs, ← Lib.byteCells_append, List.nil_append, vi_num] at h2
  have hb2 : Below w.heap.size w w2 := hb1.trans b2
  go_wp2
  go_loopw [17] (fun i wr => ∃ (k : Nat), k ≤ xs.length ∧ i = .int .i64 k ∧ Lib.IsBuilderF 54 5 w.heap.size w.heap.size (Lib.byteCells (Vi.vi xs.length ++ (xs.take k).flatMap Vi.eText)) wr ∧ Below w.heap.size w wr) (fun i _ => xs.length - (intOf i).toNat)
  case atStart => exact ⟨0, by omega, rfl, by simpa using .inr h2, hb2⟩
  case round =>
    obtain ⟨k, hk, rfl, hI, hbw⟩ := hrel
    have hwz := hbw.size
    by_cases k1 : k < xs.length
    · obtain ⟨b1, o1, rfl, hc⟩ := HA.out.resolve_left (by intro e; have := congrArg List.length e; simp at this; rw [this] at k1; simp at k1)
      have hcell : w.cell? ⟨b1, o1 + k, none⟩ = some (sv xs[k]) := hc k _ (by simp [k1])
      have hlt := World.block_lt_of_cell? w _ hcell
      have hcellr : wr.cell? ⟨b1, o1 + k, none⟩ = some (sv xs[k]) := (hbw.cell hlt).trans hcell
      clear hc hcell hlt
      have hfl := flat_le Vi.eText xs k
      have hone := one_le Vi.eText xs k k1
      have HTF := Lib.hid (take_flat Vi.eText xs k k1)
      have HX : True := trivial
      generalize xs[k] = x at *
      unfold sv at hcellr
      have i0 : (0 : Int) ≤ (k : Int) := by omega
      have i1 : (k : Int) < (xs.length : Int) := by omega
      go_wp2_with fail
      refine (encTextL_c x wr (by have := text_le x; omega)).mono ?_
      rintro e w3 ⟨rfl, h3⟩
      have hI3 := builder_below' hI h3
      have hb3 : Below w.heap.size w w3 := hbw.trans (h3.mono hwz)
      have hsz3 := hb3.size
      go_wp2_with fail
      refine (WriteString_k w.heap.size w.heap.size _ _ w3 hI3 (by simp only [Lib.byteCells_length, List.length_append, bs_size]; omega) hsz3).mono ?_
      rintro e w4 ⟨rfl, h4, b4, _⟩
      go_wp2
      go_roundw
      case rel =>
        refine ⟨k + 1, by omega, by go_num, ?_, hb3.trans b4⟩
        rw [HTF.out, ← List.append_assoc, Lib.byteCells_append]
        exact .inr h4
      case measure => simp [intOf] <;> omega
    · obtain rfl : k = xs.length := by omega
      rw [List.take_of_length_le (Nat.le_refl _)] at hI
      go_wp2_with fail
      refine (Try.Builder_String_any_k w.heap.size w.heap.size _ _ hI hwz).mono ?_
      rintro e w5 ⟨rfl, _, b5, _⟩
      go_wp2_with fail
      go_ret
      exact ⟨rfl, hbw.trans b5⟩

theorem encList_c (va : Value) (xs : List (List UInt8)) (w : World) (ha : Seq w va (xs.map sv)) (hb : (Vi.eMany Vi.eText xs).length ≤ 70368744177664) :
    Calls Try.prog 15 #[va] w fun e w' => e = .returned (.string (bs (Vi.eMany Vi.eText xs))) ∧ Below w.heap.size w w' := by
  obtain ⟨A, ca, hv, _⟩ := id ha
  have HV := Lib.hid hv; clear hv
  go_enter Try.func15, Try.ntmps15
  go_wp2_with fail
  refine (encAllTexts_c va xs w ha hb).mono ?_
  rintro e w1 ⟨rfl, h1⟩
  go_wp2_with fail
  go_ret
  exact ⟨rfl, h1⟩

set_option maxHeartbeats 4000000 in
set_option maxRecDepth 100000 in
theorem encListR_c (va : Value) (xs : List (List UInt8)) (w : World) (ha : Seq w va (xs.map sv)) (hb : (Vi.eMany Vi.eText xs).length ≤ 70368744177664) :
    Calls Try.prog 16 #[va] w fun e w' => e = .returned (.string (bs (Vi.eMany Vi.eText xs))) ∧ Below w.heap.size w w' := by
  obtain ⟨A, ca, rfl, hca, hma, ha⟩ := ha
  rw [List.length_map] at hca
  unfold maxLen at hma
  simp only [List.length_map]
  have hb' : (Vi.vi xs.length).length + (xs.flatMap Vi.eText).length ≤ 70368744177664 := by unfold Vi.eMany at hb; simpa using hb
  have hvl := (Vi.vi_len xs.length).2
  have HA := Lib.hid ha; clear ha
  go_enter Try.func16, Try.ntmps16
  go_wp2_with fail
  refine (encR_c _ w (by omega) (by omega)).mono ?_
  rintro e w1 ⟨rfl, h1⟩
  go_wp2
  go_loopw [3, 4] (fun v i wr => ∃ (k : Nat) (X : ByteArray), k ≤ xs.length ∧ i = .int .i64 k ∧ v = .string X ∧ Hid (X = bs (Vi.vi xs.length ++ (xs.take k).flatMap Vi.eText)) ∧ X.size ≤ 70368744177664 ∧ Below w.heap.size w wr) (fun _ i _ => xs.length - (intOf i).toNat)
  case atStart => exact ⟨0, _, by omega, rfl, rfl, by show _ = _; rw [vi_num]; simp, by rw [bs_size, vi_num]; omega, h1⟩
  case round =>
    obtain ⟨k, X, hk, rfl, rfl, hX, hXs, hbw⟩ := hrel
    have hwz := hbw.size
    by_cases k1 : k < xs.length
    · obtain ⟨b1, o1, rfl, hc⟩ := HA.out.resolve_left (by intro e; have := congrArg List.length e; simp at this; rw [this] at k1; simp at k1)
      have hcell : w.cell? ⟨b1, o1 + k, none⟩ = some (sv xs[k]) := hc k _ (by simp [k1])
      have hlt := World.block_lt_of_cell? w _ hcell
      have hcellr : wr.cell? ⟨b1, o1 + k, none⟩ = some (sv xs[k]) := (hbw.cell hlt).trans hcell
      clear hc hcell hlt
      have hfl := flat_le Vi.eText xs (k + 1)
      have hone := one_le Vi.eText xs k k1
      have HTF := Lib.hid (take_flat Vi.eText xs k k1)
      have hflk := congrArg List.length HTF.out
      rw [List.length_append] at hflk
      have HFLK := Lib.hid hflk; clear hflk
      have HX : True := trivial
      generalize xs[k] = x at *
      unfold sv at hcellr
      have i0 : (0 : Int) ≤ (k : Int) := by omega
      have i1 : (k : Int) < (xs.length : Int) := by omega
      go_wp2_with fail
      refine (encTextRL_c x wr (by have := text_le x; omega)).mono ?_
      rintro e w3 ⟨rfl, h3⟩
      have hYs : (bs (Vi.eText x)).size ≤ 70368744177664 := by rw [bs_size]; omega
      go_wp2
      go_roundw
      case rel =>
        refine ⟨k + 1, _, by omega, by go_num, rfl, ?_, ?_, hbw.trans (h3.mono hwz)⟩
        · show _ = _
          rw [hX.out, HTF.out, ← List.append_assoc, ← bs_append]
          rfl
        · show (X ++ bs (Vi.eText x)).size ≤ _
          have hXs2 := congrArg ByteArray.size hX.out
          rw [bs_size, List.length_append] at hXs2
          have := HFLK.out
          rw [ByteArray.size_append, bs_size]
          omega
      case measure => simp [intOf] <;> omega
    · obtain rfl : k = xs.length := by omega
      go_wp2_with fail
      go_ret
      refine ⟨?_, hbw⟩
      have h2 := hX.out
      rw [List.take_of_length_le (Nat.le_refl _)] at h2
      show Ending.returned (.string X) = _
      rw [h2]
      rfl

set_option maxHeartbeats 4000000 in
set_option maxRecDepth 100000 in
theorem encAllInts_c (va : Value) (xs : List Int) (w : World) (ha : Seq w va (xs.map iv)) (hb : (Vi.eMany Vi.eNum xs).length ≤ 70368744177664) (hx : ∀ x ∈ xs, -9223372036854775808 ≤ x ∧ x ≤ 9223372036854775807) :
    Calls Try.prog 43 #[va, .func (.func 11) #[] #[]] w fun e w' => e = .returned (.string (bs (Vi.eMany Vi.eNum xs))) ∧ Below w.heap.size w w' := by
  have hmf : ∀ (fn : Fn) (first cap : Array Value) (w : World), (Instr.makeFunc fn first cap).run Try.prog w = .ok (.func fn first cap) w := fun _ _ _ _ => rfl
  have hfr := Lib.IsBuilderF.of (Lib.fresh_isBuilder 54 5 w)
  obtain ⟨A, ca, rfl, hca, hma, ha⟩ := ha
  rw [List.length_map] at hca
  unfold maxLen at hma
  simp only [List.length_map]
  have hb' : (Vi.vi xs.length).length + (xs.flatMap Vi.eNum).length ≤ 70368744177664 := by unfold Vi.eMany at hb; simpa using hb
  have hvl := (Vi.vi_len xs.length).2
  have HA := Lib.hid ha; clear ha
  have hbn : (bs (Vi.eNum (xs.length : Int))).size ≤ 9 := by rw [bs_size]; exact Vi.eNum_le _
  go_enter Try.func43, Try.ntmps43
  go_wp2_with fail
  refine (enc_c _ _ (by omega) (by omega)).mono ?_
  rintro e w1 ⟨rfl, h1⟩
  have hb1 : Below w.heap.size w w1 := ((Below.refl _ w).alloc (Nat.le_refl _) _).trans (h1.mono (by simp))
  have hI1 : Lib.IsBuilderF 54 5 w.heap.size w.heap.size (Lib.byteCells []) w1 := builder_below hfr h1
  have hsz1 := hb1.size
  go_wp2_with fail
  refine (WriteString_k w.heap.size w.heap.size _ _ w1 hI1 (by rw [Lib.byteCells_length]; simp; omega) hsz1).mono ?_
  rintro e w2 ⟨rfl, h2, b2, _⟩
  rw [strCells_bs, ← Lib.byteCells_append, List.nil_append, vi_num] at h2
  have hb2 : Below w.heap.size w w2 := hb1.trans b2
  go_wp2
  go_loopw [17] (fun i wr => ∃ (k : Nat), k ≤ xs.length ∧ i = .int .i64 k ∧ Lib.IsBuilderF 54 5 w.heap.size w.heap.size (Lib.byteCells (Vi.vi xs.length ++ (xs.take k).flatMap Vi.eNum)) wr ∧ Below w.heap.size w wr) (fun i _ => xs.length - (intOf i).toNat)
  case atStart => exact ⟨0, by omega, rfl, by simpa using .inr h2, hb2⟩
  case round =>
    obtain ⟨k, hk, rfl, hI, hbw⟩ := hrel
    have hwz := hbw.size
    by_cases k1 : k < xs.length
    · obtain ⟨b1, o1, rfl, hc⟩ := HA.out.resolve_left (by intro e; have := congrArg List.length e; simp at this; rw [this] at k1; simp at k1)
      have hcell : w.cell? ⟨b1, o1 + k, none⟩ = some (iv xs[k]) := hc k _ (by simp [k1])
      have hlt := World.block_lt_of_cell? w _ hcell
      have hcellr : wr.cell? ⟨b1, o1 + k, none⟩ = some (iv xs[k]) := (hbw.cell hlt).trans hcell
      clear hc hcell hlt
      have hfl := flat_le Vi.eNum xs k
      have hone := one_le Vi.eNum xs k k1
      have HTF := Lib.hid (take_flat Vi.eNum xs k k1)
      have hxk := hx xs[k] (List.getElem_mem k1)
      generalize xs[k] = x at *
      unfold iv at hcellr
      have i0 : (0 : Int) ≤ (k : Int) := by omega
      have i1 : (k : Int) < (xs.length : Int) := by omega
      go_wp2_with fail
      refine (enc_c x wr hxk.1 hxk.2).mono ?_
      rintro e w3 ⟨rfl, h3⟩
      have hI3 := builder_below' hI h3
      have hb3 : Below w.heap.size w w3 := hbw.trans (h3.mono hwz)
      have hsz3 := hb3.size
      go_wp2_with fail
      refine (WriteString_k w.heap.size w.heap.size _ _ w3 hI3 (by simp only [Lib.byteCells_length, List.length_append, bs_size]; omega) hsz3).mono ?_
      rintro e w4 ⟨rfl, h4, b4, _⟩
      go_wp2
      go_roundw
      case rel =>
        refine ⟨k + 1, by omega, by go_num, ?_, hb3.trans b4⟩
        rw [HTF.out, ← List.append_assoc, Lib.byteCells_append]
        exact .inr h4
      case measure => simp [intOf] <;> omega
    · obtain rfl : k = xs.length := by omega
      rw [List.take_of_length_le (Nat.le_refl _)] at hI
      go_wp2_with fail
      refine (Try.Builder_String_any_k w.heap.size w.heap.size _ _ hI hwz).mono ?_
      rintro e w5 ⟨rfl, _, b5, _⟩
      go_wp2_with fail
      go_ret
      exact ⟨rfl, hbw.trans b5⟩

theorem encNums_c (va : Value) (xs : List Int) (w : World) (ha : Seq w va (xs.map iv)) (hb : (Vi.eMany Vi.eNum xs).length ≤ 70368744177664) (hx : ∀ x ∈ xs, -9223372036854775808 ≤ x ∧ x ≤ 9223372036854775807) :
    Calls Try.prog 17 #[va] w fun e w' => e = .returned (.string (bs (Vi.eMany Vi.eNum xs))) ∧ Below w.heap.size w w' := by
  obtain ⟨A, ca, hv, _⟩ := id ha
  have HV := Lib.hid hv; clear hv
  go_enter Try.func17, Try.ntmps17
  go_wp2_with fail
  refine (encAllInts_c va xs w ha hb hx).mono ?_
  rintro e w1 ⟨rfl, h1⟩
  go_wp2_with fail
  go_ret
  exact ⟨rfl, h1⟩

set_option maxHeartbeats 4000000 in
set_option maxRecDepth 100000 in
theorem encNumsR_c (va : Value) (xs : List Int) (w : World) (ha : Seq w va (xs.map iv)) (hb : (Vi.eMany Vi.eNum xs).length ≤ 70368744177664) (hx : ∀ x ∈ xs, -9223372036854775808 ≤ x ∧ x ≤ 9223372036854775807) :
    Calls Try.prog 18 #[va] w fun e w' => e = .returned (.string (bs (Vi.eMany Vi.eNum xs))) ∧ Below w.heap.size w w' := by
  obtain ⟨A, ca, rfl, hca, hma, ha⟩ := ha
  rw [List.length_map] at hca
  unfold maxLen at hma
  simp only [List.length_map]
  have hb' : (Vi.vi xs.length).length + (xs.flatMap Vi.eNum).length ≤ 70368744177664 := by unfold Vi.eMany at hb; simpa using hb
  have hvl := (Vi.vi_len xs.length).2
  have HA := Lib.hid ha; clear ha
  go_enter Try.func18, Try.ntmps18
  go_wp2_with fail
  refine (encR_c _ w (by omega) (by omega)).mono ?_
  rintro e w1 ⟨rfl, h1⟩
  go_wp2
  go_loopw [3, 4] (fun v i wr => ∃ (k : Nat) (X : ByteArray), k ≤ xs.length ∧ i = .int .i64 k ∧ v = .string X ∧ Hid (X = bs (Vi.vi xs.length ++ (xs.take k).flatMap Vi.eNum)) ∧ X.size ≤ 70368744177664 ∧ Below w.heap.size w wr) (fun _ i _ => xs.length - (intOf i).toNat)
  case atStart => exact ⟨0, _, by omega, rfl, rfl, by show _ = _; rw [vi_num]; simp, by rw [bs_size, vi_num]; omega, h1⟩
  case round =>
    obtain ⟨k, X, hk, rfl, rfl, hX, hXs, hbw⟩ := hrel
    have hwz := hbw.size
    by_cases k1 : k < xs.length
    · obtain ⟨b1, o1, rfl, hc⟩ := HA.out.resolve_left (by intro e; have := congrArg List.length e; simp at this; rw [this] at k1; simp at k1)
      have hcell : w.cell? ⟨b1, o1 + k, none⟩ = some (iv xs[k]) := hc k _ (by simp [k1])
      have hlt := World.block_lt_of_cell? w _ hcell
      have hcellr : wr.cell? ⟨b1, o1 + k, none⟩ = some (iv xs[k]) := (hbw.cell hlt).trans hcell
      clear hc hcell hlt
      have hfl := flat_le Vi.eNum xs (k + 1)
      have hone := one_le Vi.eNum xs k k1
      have HTF := Lib.hid (take_flat Vi.eNum xs k k1)
      have hflk := congrArg List.length HTF.out
      rw [List.length_append] at hflk
      have HFLK := Lib.hid hflk; clear hflk
      have hxk := hx xs[k] (List.getElem_mem k1)
      generalize xs[k] = x at *
      unfold iv at hcellr
      have i0 : (0 : Int) ≤ (k : Int) := by omega
      have i1 : (k : Int) < (xs.length : Int) := by omega
      go_wp2_with fail
      refine (encR_c x wr hxk.1 hxk.2).mono ?_
      rintro e w3 ⟨rfl, h3⟩
      have hYs : (bs (Vi.eNum x)).size ≤ 70368744177664 := by rw [bs_size]; omega
      go_wp2
      go_roundw
      case rel =>
        refine ⟨k + 1, _, by omega, by go_num, rfl, ?_, ?_, hbw.trans (h3.mono hwz)⟩
        · show _ = _
          rw [hX.out, HTF.out, ← List.append_assoc, ← bs_append]
          rfl
        · show (X ++ bs (Vi.eNum x)).size ≤ _
          have hXs2 := congrArg ByteArray.size hX.out
          rw [bs_size, List.length_append] at hXs2
          have := HFLK.out
          rw [ByteArray.size_append, bs_size]
          omega
      case measure => simp [intOf] <;> omega
    · obtain rfl : k = xs.length := by omega
      go_wp2_with fail
      go_ret
      refine ⟨?_, hbw⟩
      have h2 := hX.out
      rw [List.take_of_length_le (Nat.le_refl _)] at h2
      show Ending.returned (.string X) = _
      rw [h2]
      rfl
end Go.Proofs.Ytipehfidphgbbaa
