/- small of the statements of chapter 02: the fixed example. -/
import Derived.Test.YtipehfidphgbbaaLawC
import Derived.Test.YtipehfidphgbbaaRead6
import Derived.BigQuiet
namespace Go.Proofs.Ytipehfidphgbbaa
open Go.RowKit

theorem seq_new (w : World) (t : TypeId) (xs : List Value) (h : xs.length ≤ maxLen) : Seq (w.alloc (.cells xs.toArray t)) (.slice (some ⟨w.heap.size, 0, none⟩) xs.length xs.length) xs := by
  refine ⟨_, _, rfl, Nat.le_refl _, h, .inr ⟨_, _, rfl, fun i u hu => ?_⟩⟩
  rw [World.cell?_alloc_mark, Nat.zero_add]
  simpa using hu

theorem heap_of_drew {w w' : World} (h : ∃ n, w' = w.drewN n) : w'.heap = w.heap := by
  obtain ⟨n, rfl⟩ := h
  rfl
theorem below_of_drew {w w' : World} (h : ∃ n, w' = w.drewN n) : Below w.heap.size w w' := by
  obtain ⟨n, rfl⟩ := h
  exact ⟨rfl, rfl, rfl, Nat.le_refl _, fun _ _ => rfl⟩

def ex : List UInt8 := [172, 2, 2, 97, 98, 2, 0, 1, 99, 2, 7, 128, 1]
theorem ex1 : bs (Vi.eNum 300) = ⟨#[172, 2]⟩ := congrArg bs (by decide : Vi.eNum 300 = [172, 2])
theorem ex2 : bs (Vi.eText [97, 98]) = ⟨#[2, 97, 98]⟩ := congrArg bs (by decide : Vi.eText [97, 98] = [2, 97, 98])
theorem ex3 : bs (Vi.eMany Vi.eText [[], [99]]) = ⟨#[2, 0, 1, 99]⟩ := congrArg bs (by decide : Vi.eMany Vi.eText [[], [99]] = [2, 0, 1, 99])
theorem ex4 : bs (Vi.eMany Vi.eNum [7, 128]) = ⟨#[2, 7, 128, 1]⟩ := congrArg bs (by decide : Vi.eMany Vi.eNum [7, 128] = [2, 7, 128, 1])

theorem st0 : Vi.rNum (ex ++ [122], false) = (300, ([2, 97, 98, 2, 0, 1, 99, 2, 7, 128, 1, 122], false)) := by decide +kernel
theorem st1 : Vi.rText ([2, 97, 98, 2, 0, 1, 99, 2, 7, 128, 1, 122], false) = ([97, 98], ([2, 0, 1, 99, 2, 7, 128, 1, 122], false)) := by decide +kernel
theorem st2 : Vi.rMany Vi.rText ([2, 0, 1, 99, 2, 7, 128, 1, 122], false) = ([[], [99]], ([2, 7, 128, 1, 122], false)) := by decide +kernel
theorem st3 : Vi.rMany Vi.rNum ([2, 7, 128, 1, 122], false) = ([7, 128], ([122], false)) := by decide +kernel
theorem st4 : Vi.rTake 1 ([122], false) = ([122], ([], false)) := by decide +kernel
theorem st5 : Vi.rNum ([128, 0], false) = (0, ([], true)) := by decide +kernel
theorem fit_f (l : List UInt8) : Vi.Fit (l, false) := fun h => by cases h
theorem sum_ex : (({ data := #[172, 2] } ++ { data := #[2, 97, 98] } ++ { data := #[2, 0, 1, 99] } ++ { data := #[2, 7, 128, 1] } : ByteArray)) = bs ex := by decide +kernel
theorem ex_ne : (bs ex ++ ⟨#[122]⟩ : ByteArray) = bs (ex ++ [122]) := by decide +kernel
theorem neg1 : bs (Vi.eNum (-1)) = ⟨#[]⟩ := congrArg bs (by decide : Vi.eNum (-1) = [])

set_option maxHeartbeats 8000000 in
set_option maxRecDepth 100000 in
theorem small_c (w : World) :
    Calls Try.prog 9 #[] w fun e w' => e = .returned (.bool true) ∧ Below w.heap.size w w' := by
  go_enter Try.func9, Try.ntmps9
  go_wp2_with fail
  refine (enc_c 300 w (by decide) (by decide)).mono ?_
  rintro e w1 ⟨rfl, h1⟩
  rw [ex1]
  go_wp2_with fail
  refine (encTextL_c [97, 98] w1 (by decide)).mono ?_
  rintro e w2 ⟨rfl, h2⟩
  rw [ex2]
  go_wp2_with fail
  refine (encList_c _ [[], [99]] _ (seq_new w2 9 _ (by decide)) (by decide)).mono ?_
  rintro e w3 ⟨rfl, h3⟩
  rw [ex3]
  go_wp2_with fail
  refine (encNums_c _ [7, 128] _ (seq_new w3 3 _ (by decide)) (by decide) (by decide)).mono ?_
  rintro e w4 ⟨rfl, h4⟩
  rw [ex4]
  go_wp2_with fail
  rw [sum_ex, ex_ne]
  refine (Open_c _ w4).mono ?_
  rintro e w5 ⟨rfl, r5, b5, z5⟩
  go_wp2_with fail
  refine (Open_c _ w5).mono ?_
  rintro e w6 ⟨rfl, q6, b6, z6⟩
  have r6 := r5.below b6 z5
  have hne : w4.heap.size ≠ w5.heap.size := by omega
  go_wp2_with fail
  have c7 := Num_c w4.heap.size _ w6 r6 (by decide)
  rw [bs_data, st0] at c7
  refine c7.mono ?_
  rintro e w7 ⟨rfl, r7, g7⟩
  have q7 := q6.grown g7 (by simp; omega)
  go_wp2_with fail
  have c8 := Text_c w4.heap.size _ w7 r7 (by decide)
  rw [st1] at c8
  refine c8.mono ?_
  rintro e w8 ⟨t8, ht8, rfl, r8, g8⟩
  have q8 := q7.grown g8 (by simp; omega)
  obtain rfl := bs_of ht8
  go_wp2_with fail
  have c9 := List_c w4.heap.size _ w8 r8 (fit_f _) (by decide)
  rw [st2] at c9
  refine c9.mono ?_
  rintro e w9 ⟨v9, rfl, o9, r9, g9⟩
  have q9 := q8.grown g9 (by simp; omega)
  go_wp2_with fail
  have c10 := Nums_c w4.heap.size _ w9 r9 (fit_f _) (by decide)
  rw [st3] at c10
  refine c10.mono ?_
  rintro e w10 ⟨v10, rfl, o10, r10, g10⟩
  have q10 := q9.grown g10 (by simp; omega)
  go_wp2_with fail
  refine (Left_c w4.heap.size _ w10 r10).mono ?_
  rintro e w11 ⟨rfl, rfl⟩
  go_wp2_with fail
  have c11 := Done_c w4.heap.size _ w10 r10
  rw [show isDone ([122], false) = false from by decide] at c11
  refine c11.mono ?_
  rintro e w11 ⟨rfl, rfl⟩
  go_wp2_with fail
  have c12 := Take_c w4.heap.size 1 _ w10 r10 (by decide)
  rw [st4] at c12
  refine c12.mono ?_
  rintro e w12 ⟨t12, ht12, rfl, r12, g12⟩
  have q12 := q10.grown g12 (by simp; omega)
  obtain rfl := bs_of ht12
  go_wp2_with fail
  have c13 := Num_c w5.heap.size _ w12 q12 (by decide)
  rw [st5] at c13
  refine c13.mono ?_
  rintro e w13 ⟨rfl, q13, g13⟩
  have r13 := r12.grown g13 (by simp; omega)
  have hE : ((bs ex).toList == [172, 2, 2, 97, 98, 2, 0, 1, 99, 2, 7, 128, 1]) = true := by decide +kernel
  have hE2 : ((bs [97, 98]).toList == [97, 98]) = true := by decide +kernel
  have hE3 : ((bs [122]).toList == [122]) = true := by decide +kernel
  have z8 := g8.size
  have z7 := g7.size
  have z9 := g9.size
  have z10 := g10.size
  have z12 := g12.size
  have z13 := g13.size
  have o9' := ((o9.kept g10 (own_ne o9 (by omega))).kept g12 (own_ne (o9.kept g10 (own_ne o9 (by omega))) (by omega))).kept g13 (own_ne ((o9.kept g10 (own_ne o9 (by omega))).kept g12 (own_ne (o9.kept g10 (own_ne o9 (by omega))) (by omega))) (by omega))
  have o10' := (o10.kept g12 (own_ne o10 (by omega))).kept g13 (own_ne (o10.kept g12 (own_ne o10 (by omega))) (by omega))
  have s9 := Seq.of_own (xs := [[], [99]].map sv) o9'
  have s10 := Seq.of_own (xs := [7, 128].map nv) o10'
  rw [nv_map] at s10
  go_wp2_with fail
  have c14 := SameTexts_c v9 _ [[], [99]] [[], [99]] _ (s9.keep (fun b hb => Below.heap_alloc w13 (.cells (List.map sv [[], [99]]).toArray 9) b hb)) (seq_new w13 9 _ (by decide))
  rw [show decide (([[], [99]] : List (List UInt8)) = [[], [99]]) = true from by decide] at c14
  refine c14.mono ?_
  rintro e w14 ⟨rfl, n14⟩
  have hh14 := heap_of_drew n14
  have b14 := below_of_drew n14
  clear n14
  have s14 := s10.keep (w' := w14) (fun b hb => by rw [hh14]; exact Below.heap_alloc w13 _ b hb)
  have z14 : w14.heap.size = w13.heap.size + 1 := by rw [hh14]; simp
  have r14 := r13.of_block (w' := w14) (by rw [hh14]; exact Below.heap_alloc w13 _ _ (by omega))
  have q14 := q13.of_block (w' := w14) (by rw [hh14]; exact Below.heap_alloc w13 _ _ (by omega))
  clear hh14
  have Z14 := Lib.hid z14; clear z14
  go_wp2_with fail
  have c15 := SameInts_c v10 _ [7, 128] [7, 128] _ (s14.keep (fun b hb => Below.heap_alloc w14 (.cells (List.map iv [7, 128]).toArray 3) b hb)) (seq_new w14 3 _ (by decide))
  rw [show decide (([7, 128] : List Int) = [7, 128]) = true from by decide] at c15
  refine c15.mono ?_
  rintro e w15 ⟨rfl, n15⟩
  have hh15 := heap_of_drew n15
  have b15 := below_of_drew n15
  clear n15
  have r15 := r14.of_block (w' := w15) (by rw [hh15]; exact Below.heap_alloc w14 _ _ (by have := Z14.out; omega))
  have q15 := q14.of_block (w' := w15) (by rw [hh15]; exact Below.heap_alloc w14 _ _ (by have := Z14.out; omega))
  clear hh15
  go_wp2_with fail
  have c16 := Done_c w4.heap.size _ w15 r15
  rw [show isDone ([], false) = true from by decide] at c16
  refine c16.mono ?_
  rintro e w16 ⟨rfl, rfl⟩
  go_wp2_with fail
  have c17 := Done_c w5.heap.size _ w15 q15
  rw [show isDone ([], true) = false from by decide] at c17
  refine c17.mono ?_
  rintro e w17 ⟨rfl, rfl⟩
  go_wp2_with fail
  refine (Left_c w5.heap.size _ w15 q15).mono ?_
  rintro e w18 ⟨rfl, rfl⟩
  go_wp2_with fail
  refine (enc_c (-1) w15 (by decide) (by decide)).mono ?_
  rintro e w19 ⟨rfl, b19⟩
  rw [neg1]
  go_wp2_with fail
  go_ret
  refine ⟨rfl, ?_⟩
  have a4 := chain_alloc (chain_alloc (chain h1 h2) h3) h4
  have l4 := a4.size
  have a6 := chain (chain a4 b5) b6
  have l5 : w.heap.size ≤ w5.heap.size := Nat.le_trans l4 (Nat.le_of_lt z5)
  have a13 := chain_grown (chain_grown (chain_grown (chain_grown (chain_grown (chain_grown a6 g7 l4) g8 l4) g9 l4) g10 l4) g12 l4) g13 l5
  exact chain (chain_alloc (chain_alloc a13 b14) b15) b19
end Go.Proofs.Ytipehfidphgbbaa
