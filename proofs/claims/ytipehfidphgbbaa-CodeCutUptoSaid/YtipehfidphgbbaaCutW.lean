/- The walk of CodeCut. -/
import Derived.Test.YtipehfidphgbbaaAgainX
import Derived.Test.YtipehfidphgbbaaBackW
namespace Go.Proofs.Ytipehfidphgbbaa
open Go.RowKit

theorem cut_bad {α : Type} {f : Vi.St → α × Vi.St} {E : List UInt8} {M : Nat} {a : α} (hx : Vi.Ext f) (hE : f (E, false) = (a, ([], false))) (hM : M < E.length) (hf : Vi.Fit (f (E.take M, false)).2) : (f (E.take M, false)).2 = ([], true) := by
  cases h : (f (E.take M, false)).2.2 with
  | true => exact Prod.ext (hf h) h
  | false =>
    have h1 := hx _ (E.drop M) h
    rw [List.take_append_drop, hE] at h1
    have h2 := congrArg (fun q => q.2.1.length) h1
    simp at h2
    omega
theorem cut_num {x : V} {M : Nat} (hk : x.kind % 4 = 0) (h : okV x = true) (hn : I64 x.n) (hM : M < (encV x).length) : (Vi.rNum ((encV x).take M, false)).2 = ([], true) := by
  have e := back_num [] hk h hn
  rw [List.append_nil] at e
  exact cut_bad Vi.rNum_ext e hM (Vi.rNum_fit (fit_f _))
theorem cut_text {x : V} {M : Nat} (hk : x.kind % 4 = 1) (h : okV x = true) (hM : M < (encV x).length) : (Vi.rText ((encV x).take M, false)).2 = ([], true) := by
  have e := back_text [] hk h
  rw [List.append_nil] at e
  exact cut_bad Vi.rText_ext e hM Vi.rText_fit
theorem cut_texts {x : V} {M : Nat} (hk : x.kind % 4 = 2) (h : okV x = true) (hM : M < (encV x).length) : (Vi.rMany Vi.rText ((encV x).take M, false)).2 = ([], true) := by
  have e := back_texts [] hk h
  rw [List.append_nil] at e
  exact cut_bad (Vi.rMany_ext Vi.rText_ext (fun st h => (Vi.rText_back h).2)) e hM (Vi.rMany_fit _)
theorem cut_nums {x : V} {M : Nat} (hk : x.kind % 4 = 3) (h : okV x = true) (hn : ∀ y ∈ x.nums, I64 y) (hM : M < (encV x).length) : (Vi.rMany Vi.rNum ((encV x).take M, false)).2 = ([], true) := by
  have e := back_nums [] hk h hn
  rw [List.append_nil] at e
  exact cut_bad (Vi.rMany_ext Vi.rNum_ext (fun st h => (Vi.rNum_back h).2)) e hM (Vi.rMany_fit _)

theorem box5 {w : World} {b : Nat} {T : TypeId} {a0 a1 a2 a3 a4 : Value} (h : w.heap[b]? = some (.cells #[a0, a1, a2, a3, a4] T (0, 0))) :
    w.cell? ⟨b, 0, none⟩ = some a0 ∧ w.cell? ⟨b, 1, none⟩ = some a1 ∧ w.cell? ⟨b, 2, none⟩ = some a2 ∧ w.cell? ⟨b, 3, none⟩ = some a3 ∧ w.cell? ⟨b, 4, none⟩ = some a4 := by
  refine ⟨?_, ?_, ?_, ?_, ?_⟩ <;> (rw [Lib.cell_of_heap h]; rfl)
theorem seqV_new (w : World) (T : TypeId) (x : V) (v3 v4 : Value) (q3 : Seq w v3 (x.texts.map sv)) (q4 : Seq w v4 (x.nums.map iv)) :
    SeqV (w.alloc (.cells #[.int .i64 x.kind, .int .i64 x.n, .string (bs x.text), v3, v4] T)) (.slice (some ⟨w.heap.size, 0, none⟩) 1 1) [x] := by
  obtain ⟨e0, e1, e2, e3, e4⟩ := box5 (heap_alloc_new w (.cells #[.int .i64 x.kind, .int .i64 x.n, .string (bs x.text), v3, v4] T))
  refine ⟨_, 1, rfl, Nat.le_refl _, by decide, .inr ⟨_, _, rfl, fun i y hy => ?_⟩⟩
  match i, hy with
  | 0, hy =>
    simp at hy
    subst hy
    exact ⟨e0, e1, e2, ⟨v3, e3, q3.keep fun b hb => Below.heap_alloc w _ b hb⟩, ⟨v4, e4, q4.keep fun b hb => Below.heap_alloc w _ b hb⟩⟩
theorem Seq_below {w w' : World} {v : Value} {xs : List Value} (h : Seq w v xs) (hb : Below w.heap.size w w') : Seq w' v xs := h.keep fun b hlt => hb.block b hlt

set_option maxHeartbeats 8000000 in
set_option maxRecDepth 100000 in
theorem cut_w (x : V) (v3 v4 : Value) (m : Int) (w : World) (q3 : Seq w v3 (x.texts.map sv)) (q4 : Seq w v4 (x.nums.map iv)) (ok : VOk x) (hb : (encV x).length ≤ 70368744177664) :
    Calls Try.prog 7 #[.agg #[.int .i64 x.kind, .int .i64 x.n, .string (bs x.text), v3, v4], .int .i64 m] w fun e w' => e = .returned (.bool true) ∧ Below w.heap.size w w' := by
  have hokx : ∀ y ∈ [x], VOk y := fun y hy => by rw [List.mem_singleton.1 hy]; exact ok
  have hflat : [x].flatMap encV = encV x := by simp
  have HOK := Lib.hid ok; clear ok
  have HOKX := Lib.hid hokx; clear hokx
  have HFL := Lib.hid hflat; clear hflat
  obtain ⟨A3, p3, rfl, _⟩ := id q3
  obtain ⟨A4, p4, rfl, _⟩ := id q4
  rw [List.length_map] at q3
  rw [List.length_map] at q4
  rw [List.length_map, List.length_map]
  have Q3 := Lib.hid q3; clear q3
  have Q4 := Lib.hid q4; clear q4
  go_enter Try.func7, Try.ntmps7
  go_wp2_with fail
  refine (small_c _).mono ?_
  rintro e w1 ⟨rfl, h1⟩
  have b1 := (h1.block w.heap.size (by simp)).trans (heap_alloc_new w _)
  have k1 : Below w.heap.size w w1 := chain_alloc (Below.refl _ _) h1
  obtain ⟨e0, e1, e2, e3, e4⟩ := box5 b1
  have l1 : w.heap.size < w1.heap.size := blk_lt b1
  go_wp2_with fail
  refine (valid_c _ [x] _ (seqV_new w1 _ x _ _ (Seq_below Q3.out k1) (Seq_below Q4.out k1)) HOKX.out).mono ?_
  rintro e w2 ⟨rfl, hw2⟩
  have k2 : Below w.heap.size w w2 := by rw [← hw2]; exact k1.alloc k1.size _
  have b2 := (show w2.heap[w.heap.size]? = w1.heap[w.heap.size]? from by rw [← hw2]; exact Below.heap_alloc _ _ _ l1).trans b1
  clear e0 e1 e2 e3 e4 hw2
  obtain ⟨e0, e1, e2, e3, e4⟩ := box5 b2
  have l2 : w.heap.size < w2.heap.size := blk_lt b2
  go_wp2_with fail
  refine (encoded_c _ [x] _ (seqV_new w2 _ x _ _ (Seq_below Q3.out k2) (Seq_below Q4.out k2)) HOKX.out (by rw [HFL.out]; exact hb)).mono ?_
  rintro e w3 ⟨rfl, h3⟩
  have k3 : Below w.heap.size w w3 := chain_alloc k2 h3
  have b3 := (h3.block _ (by simp; omega)).trans ((Below.heap_alloc _ _ _ l2).trans b2)
  clear e0 e1 e2 e3 e4 h3 b1 b2 h1
  rw [HFL.out]
  have hEs : (bs (encV x)).size = (encV x).length := rfl
  cases hv : validB [x] with
  | false =>
    clear hEs
    go_wp2_with fail
    go_ret
    exact ⟨rfl, k3⟩
  | true =>
    by_cases m0 : m < 0
    · clear hEs
      have d1 : decide (m < 0) = true := by simpa using m0
      go_wp2_with fail
      go_ret
      exact ⟨rfl, k3⟩
    · by_cases m1 : ((bs (encV x)).size : Int) ≤ m
      · clear hEs
        have d1 : decide (m < 0) = false := by simpa using m0
        have d2 : decide (((bs (encV x)).size : Int) ≤ m) = true := by simpa using m1
        go_wp2_with fail
        go_ret
        exact ⟨rfl, k3⟩
      · obtain ⟨M, rfl⟩ : ∃ M : Nat, m = M := ⟨m.toNat, by omega⟩
        have hM : M < (encV x).length := by omega
        have hM2 : M < (bs (encV x)).size := by omega
        have hcut : (bs (encV x)).extract 0 M = bs ((encV x).take M) := bs_of (by rw [Lib.extract_data]; simp [bs_data])
        have hov : okV x = true := (validB_parts hv).2 x (by simp)
        have d1 : decide ((M : Int) < 0) = false := by simp
        have d2 : decide ((bs (encV x)).size ≤ M) = false := by simpa using hM2
        have HC := Lib.hid hcut
        have HV := Lib.hid hov
        have hMs := Lib.hid hM
        clear hcut hov hv m0 m1 hM hEs
        go_wp2_with fail
        rw [HC.out]
        refine (Open_c _ w3).mono ?_
        rintro e w4 ⟨rfl, r4, h4, z4⟩
        rw [bs_data] at r4
        have k4 := chain k3 h4
        have b4 := (h4.block _ (blk_lt b3)).trans b3
        have lB : w.heap.size ≤ w3.heap.size := k3.size
        obtain ⟨e0, e1, e2, e3, e4⟩ := box5 b4
        generalize w3.heap.size = B at *
        clear h4 b3
        go_upto_block 0 with (go_at_call 39; refine (kind_c _ _ _ _ _ _).mono ?_; rintro e w5 ⟨rfl, h5⟩)
        have k5 := chain k4 h5
        have r5 := r4.below h5 r4.lt
        have hk4 : x.kind % 4 = 0 ∨ x.kind % 4 = 1 ∨ x.kind % 4 = 2 ∨ x.kind % 4 = 3 := by omega
        have hlen : ((encV x).take M).length ≤ 20000 := by have := encV_len HV.out; rw [List.length_take]; omega
        clear e0 e1 e2 e3 e4 b4 h5 r4 k4 z4
        go_cut [] from 40 to 68 (fun wc => Rd 61 wc B ([], true) ∧ Below w.heap.size w wc)
        case first =>
          generalize hj : x.kind % 4 = j at *
          have HJ := Lib.hid hj; clear hj
          rcases hk4 with rfl | rfl | rfl | rfl
          · have c := Num_c B _ w5 r5 (Nat.le_trans hlen (by decide))
            rw [cut_num HJ.out HV.out HOK.out.n hMs.out] at c
            have C := Lib.hid c; clear c
            go_wp2_with fail
            refine C.out.mono ?_
            rintro e w6 ⟨rfl, u6, g6⟩
            go_wp2_with fail
            go_meet
            case rel => exact ⟨u6, below_of_grown k5 g6 k5.size lB⟩
          · have c := Text_c B _ w5 r5 (Nat.le_trans hlen (by decide))
            rw [cut_text HJ.out HV.out hMs.out] at c
            have C := Lib.hid c; clear c
            go_wp2_with fail
            refine C.out.mono ?_
            rintro e w6 ⟨t6, _, rfl, u6, g6⟩
            go_wp2_with fail
            go_meet
            case rel => exact ⟨u6, below_of_grown k5 g6 k5.size lB⟩
          · have c := List_c B _ w5 r5 (fit_f _) (Nat.le_trans hlen (by decide))
            rw [cut_texts HJ.out HV.out hMs.out] at c
            have C := Lib.hid c; clear c
            go_wp2_with fail
            refine C.out.mono ?_
            rintro e w6 ⟨v6, rfl, _, u6, g6⟩
            go_wp2_with fail
            go_meet
            case rel => exact ⟨u6, below_of_grown k5 g6 k5.size lB⟩
          · have c := Nums_c B _ w5 r5 (fit_f _) (Nat.le_trans hlen (by decide))
            rw [cut_nums HJ.out HV.out HOK.out.nums hMs.out] at c
            have C := Lib.hid c; clear c
            go_wp2_with fail
            refine C.out.mono ?_
            rintro e w6 ⟨v6, rfl, _, u6, g6⟩
            go_wp2_with fail
            go_meet
            case rel => exact ⟨u6, below_of_grown k5 g6 k5.size lB⟩
        case rest =>
          obtain ⟨u6, k6⟩ := hcut
          have c := Num_c B _ wc u6 (by unfold maxLen; simp)
          rw [Vi.rNum_bad (fun _ => rfl) rfl] at c
          have C := Lib.hid c; clear c
          go_wp2_with fail
          refine C.out.mono ?_
          rintro e w7 ⟨rfl, u7, g7⟩
          have k7 := below_of_grown k6 g7 k6.size lB
          have c := Done_c B _ w7 u7
          rw [show isDone ([], true) = false from by decide] at c
          have C2 := Lib.hid c; clear c
          have C3 := Lib.hid (Left_c B _ w7 u7)
          go_wp2_with fail
          refine C2.out.mono ?_
          rintro e w8 ⟨rfl, rfl⟩
          go_wp2_with fail
          refine C3.out.mono ?_
          rintro e w8 ⟨rfl, rfl⟩
          go_wp2_with fail
          go_ret
          exact ⟨rfl, k7⟩
end Go.Proofs.Ytipehfidphgbbaa
