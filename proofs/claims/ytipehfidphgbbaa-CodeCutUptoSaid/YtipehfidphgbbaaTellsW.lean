/- The walk of CodeTells. -/
import Derived.Test.YtipehfidphgbbaaSmall
namespace Go.Proofs.Ytipehfidphgbbaa
open Go.RowKit

theorem lens_all {xs : List (List UInt8)} (h : fewB xs = true) : xs.length ≤ 100 ∧ lens xs ≤ 10000 := by
  unfold fewB at h
  simp only [Bool.and_eq_true, decide_eq_true_eq] at h
  obtain ⟨h1, h2⟩ := h
  rw [List.take_of_length_le (by omega)] at h2
  exact ⟨h1, h2⟩
theorem texts_len : ∀ xs : List (List UInt8), (xs.flatMap Vi.eText).length ≤ 9 * xs.length + lens xs
  | [] => by simp [lens]
  | x :: xs => by
    have := texts_len xs
    have hv := (Vi.vi_len x.length).2
    simp only [List.flatMap_cons, List.length_append, List.length_cons]
    have e : lens (x :: xs) = x.length + lens xs := by simp [lens]
    have e2 : (Vi.eText x).length = (Vi.vi x.length).length + x.length := by unfold Vi.eText; simp
    omega
theorem nums_len : ∀ xs : List Int, (xs.flatMap Vi.eNum).length ≤ 9 * xs.length
  | [] => by simp
  | x :: xs => by
    have := nums_len xs
    have hv := Vi.eNum_le x
    simp only [List.flatMap_cons, List.length_append, List.length_cons]
    omega
theorem many_texts {xs : List (List UInt8)} (h : fewB xs = true) : (Vi.eMany Vi.eText xs).length ≤ 20000 := by
  obtain ⟨h1, h2⟩ := lens_all h
  have := texts_len xs
  have hv := (Vi.vi_len xs.length).2
  unfold Vi.eMany
  simp only [List.length_append]
  omega
theorem many_nums {xs : List Int} (h : xs.length ≤ 100) : (Vi.eMany Vi.eNum xs).length ≤ 20000 := by
  have := nums_len xs
  have hv := (Vi.vi_len xs.length).2
  unfold Vi.eMany
  simp only [List.length_append]
  omega

set_option maxHeartbeats 4000000 in
set_option maxRecDepth 100000 in
theorem tells_w (n : Int) (hn : I64 n) (s : ByteArray) (hs : s.data.toList.length ≤ 140737488355328) (vl vm : Value) (xs : List (List UInt8)) (ms : List Int) (w : World)
    (ql : Seq w vl (xs.map sv)) (bl : ∀ y ∈ xs, y.length ≤ 140737488355328) (qm : Seq w vm (ms.map iv)) (bm : ∀ y ∈ ms, I64 y) :
    Calls Try.prog 3 #[.int .i64 n, .string s, vl, vm] w fun e w' => e = .returned (.bool true) ∧ Below w.heap.size w w' := by
  unfold I64 at hn
  obtain ⟨Al, cl, rfl, _, _⟩ := id ql
  obtain ⟨Am, cm, rfl, hcm, hmm, _⟩ := id qm
  simp only [List.length_map] at hcm
  unfold maxLen at hmm
  have QL := Lib.hid ql; clear ql
  have QM := Lib.hid qm; clear qm
  have BL := Lib.hid bl; clear bl
  have BM := Lib.hid bm; clear bm
  simp only [List.length_map] at QL QM ⊢
  have hs2 : s.size ≤ 140737488355328 := hs
  clear hs
  cases hf : fewB xs with
  | false =>
    have HF := Lib.hid hf; clear hf
    go_enter Try.func3, Try.ntmps3
    go_wp2_with fail
    refine (small_c w).mono ?_
    rintro e w1 ⟨rfl, h1⟩
    go_wp2_with fail
    have c := few_c _ xs w1 (QL.out.below h1) BL.out
    rw [HF.out] at c
    refine c.mono ?_
    rintro e w2 ⟨rfl, rfl⟩
    go_wp2_with fail
    go_ret
    exact ⟨rfl, h1⟩
  | true =>
    have HF := Lib.hid hf; clear hf
    by_cases k : (100 : Int) < (ms.length : Int)
    · go_enter Try.func3, Try.ntmps3
      go_wp2_with fail
      refine (small_c w).mono ?_
      rintro e w1 ⟨rfl, h1⟩
      go_wp2_with fail
      have c := few_c _ xs w1 (QL.out.below h1) BL.out
      rw [HF.out] at c
      refine c.mono ?_
      rintro e w2 ⟨rfl, rfl⟩
      go_wp2_with fail
      go_ret
      exact ⟨rfl, h1⟩
    · have b1 := many_texts HF.out
      have b2 := many_nums (xs := ms) (by omega)
      go_enter Try.func3, Try.ntmps3
      go_wp2_with fail
      refine (small_c w).mono ?_
      rintro e w1 ⟨rfl, h1⟩
      go_wp2_with fail
      have c := few_c _ xs w1 (QL.out.below h1) BL.out
      rw [HF.out] at c
      refine c.mono ?_
      rintro e w2 ⟨rfl, rfl⟩
      go_wp2_with fail
      refine (enc_c n w1 hn.1 hn.2).mono ?_
      rintro e w3 ⟨rfl, h3⟩
      have a3 := chain h1 h3
      go_wp2_with fail
      refine (encR_c n w3 hn.1 hn.2).mono ?_
      rintro e w4 ⟨rfl, h4⟩
      have a4 := chain a3 h4
      go_wp2_with fail
      refine (encText_c s w4 hs2).mono ?_
      rintro e w5 ⟨rfl, h5⟩
      have a5 := chain a4 h5
      go_wp2_with fail
      refine (encTextR_c s w5 hs2).mono ?_
      rintro e w6 ⟨rfl, h6⟩
      have a6 := chain a5 h6
      go_wp2_with fail
      refine (encList_c _ xs w6 (QL.out.below a6) (by omega)).mono ?_
      rintro e w7 ⟨rfl, h7⟩
      have a7 := chain a6 h7
      go_wp2_with fail
      refine (encListR_c _ xs w7 (QL.out.below a7) (by omega)).mono ?_
      rintro e w8 ⟨rfl, h8⟩
      have a8 := chain a7 h8
      go_wp2_with fail
      refine (encNums_c _ ms w8 (QM.out.below a8) (by omega) BM.out).mono ?_
      rintro e w9 ⟨rfl, h9⟩
      have a9 := chain a8 h9
      go_wp2_with fail
      refine (encNumsR_c _ ms w9 (QM.out.below a9) (by omega) BM.out).mono ?_
      rintro e w10 ⟨rfl, h10⟩
      have a10 := chain a9 h10
      go_wp2_with fail
      go_ret
      exact ⟨rfl, a10⟩
theorem codeTells_w (n : Int) (hn : I64 n) (s : ByteArray) (hs : s.data.toList.length ≤ 140737488355328) (vl : Value) (xs : List (List UInt8)) {w : World} (ql : Seq w vl (xs.map sv)) (bl : ∀ y ∈ xs, y.length ≤ 140737488355328) (_zl : xs.length ≤ 8796093022208)
    (vm : Value) (ms : List Int) (qm : Seq w vm (ms.map iv)) (bm : ∀ y ∈ ms, -9223372036854775808 ≤ y ∧ y ≤ 9223372036854775807) (_zm : ms.length ≤ 17592186044416) (_ : World) :
    Calls Try.prog 3 #[.int .i64 n, .string s, vl, vm] w fun e w'' => e = .returned (.bool true) ∧ Below w.heap.size w w'' :=
  tells_w n hn s hs vl vm xs ms w ql bl qm bm
end Go.Proofs.Ytipehfidphgbbaa
