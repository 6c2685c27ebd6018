/- The walk of CodeBack. -/
import Derived.Test.YtipehfidphgbbaaTellsW
import Derived.Deep.CutRange
import Derived.Deep.CutBlock
import Derived.Deep.RegionHeld3
import Derived.Deep.LoopGhost
namespace Go.Proofs.Ytipehfidphgbbaa
open Go.RowKit

structure One (w0 w : World) (b : Nat) (st : Vi.St) : Prop where
  rd : Rd 61 w b st
  below : Below w0.heap.size w0 w

theorem okV_parts {x : V} (h : okV x = true) : 0 ≤ x.n ∧ fewB x.texts = true ∧ x.text.length ≤ 10000 ∧ x.nums.length ≤ 100 ∧ ∀ y ∈ x.nums, 0 ≤ y := by
  unfold okV at h
  simp only [Bool.and_eq_true, decide_eq_true_eq, List.all_eq_true] at h
  obtain ⟨⟨⟨⟨h1, h2⟩, h3⟩, h4⟩, h5⟩ := h
  exact ⟨h1, h2, h3, h4, h5⟩
theorem mem_lens : ∀ {l : List (List UInt8)} {y : List UInt8}, y ∈ l → y.length ≤ lens l
  | x :: l, y, h => by
    have e : lens (x :: l) = x.length + lens l := by simp [lens]
    rcases List.mem_cons.1 h with rfl | h
    · omega
    · have := mem_lens h; omega
theorem encV_len {x : V} (h : okV x = true) : (encV x).length ≤ 20000 := by
  obtain ⟨h1, h2, h3, h4, h5⟩ := okV_parts h
  unfold encV
  split
  · have := Vi.eNum_le x.n; omega
  · split
    · have := (Vi.vi_len x.text.length).2
      have e2 : (Vi.eText x.text).length = (Vi.vi x.text.length).length + x.text.length := by unfold Vi.eText; simp
      omega
    · split
      · exact many_texts h2
      · exact many_nums h4
theorem flat_len : ∀ (xs : List V), (∀ x ∈ xs, okV x = true) → (xs.flatMap encV).length ≤ 20000 * xs.length
  | [], _ => by simp
  | x :: xs, h => by
    have h1 := encV_len (h x (by simp))
    have h2 := flat_len xs (fun y hy => h y (by simp [hy]))
    simp only [List.flatMap_cons, List.length_append, List.length_cons]
    omega
theorem validB_parts {xs : List V} (h : validB xs = true) : xs.length ≤ 20 ∧ ∀ x ∈ xs, okV x = true := by
  unfold validB at h
  simp only [Bool.and_eq_true, decide_eq_true_eq, List.all_eq_true] at h
  exact ⟨h.2, h.1⟩
/-- what is still to be read at round k -/
def stA (xs : List V) (F : List UInt8) (k : Nat) : Vi.St := ((xs.drop k).flatMap encV ++ F, false)
theorem stA_step {xs : List V} {F : List UInt8} {k : Nat} (h : k < xs.length) : stA xs F k = (encV xs[k] ++ (stA xs F (k + 1)).1, false) := by
  unfold stA
  rw [List.drop_eq_getElem_cons h, List.flatMap_cons, List.append_assoc]
theorem stA_len {xs : List V} {F : List UInt8} {k : Nat} (h : ∀ x ∈ xs, okV x = true) (hx : xs.length ≤ 20) (hF : F.length ≤ 10000) : (stA xs F k).1.length ≤ 1000000 := by
  have := flat_len (xs.drop k) (fun x hx => h x (List.mem_of_mem_drop hx))
  simp only [stA, List.length_append, List.length_drop] at this ⊢
  omega
theorem toNat_list (l : List Int) (h : ∀ y ∈ l, 0 ≤ y) : (l.map Int.toNat).map (fun n : Nat => (n : Int)) = l := by
  rw [List.map_map]
  conv => rhs; rw [← List.map_id l]
  exact List.map_congr_left (fun y hy => by have := h y hy; simp; omega)
theorem eNum_list : ∀ (l : List Int), (∀ y ∈ l, 0 ≤ y) → l.flatMap Vi.eNum = (l.map Int.toNat).flatMap (fun n : Nat => Vi.eNum (n : Int))
  | [], _ => rfl
  | x :: l, h => by
    simp only [List.flatMap_cons, List.map_cons]
    rw [eNum_list l (fun y hy => h y (by simp [hy]))]
    have := h x (by simp)
    rw [show ((x.toNat : Nat) : Int) = x from by omega]
theorem back_num {x : V} (r : List UInt8) (hk : x.kind % 4 = 0) (h : okV x = true) (hn : I64 x.n) : Vi.rNum (encV x ++ r, false) = (x.n.toNat, (r, false)) := by
  unfold encV
  rw [if_pos hk]
  unfold I64 at hn
  exact Vi.rNum_eNum x.n (okV_parts h).1 (by omega) r false
theorem back_text {x : V} (r : List UInt8) (hk : x.kind % 4 = 1) (h : okV x = true) : Vi.rText (encV x ++ r, false) = (x.text, (r, false)) := by
  unfold encV
  rw [if_neg (by omega), if_pos hk]
  exact Vi.rText_eText x.text r (by have := (okV_parts h).2.2.1; omega)
theorem back_texts {x : V} (r : List UInt8) (hk : x.kind % 4 = 2) (h : okV x = true) : Vi.rMany Vi.rText (encV x ++ r, false) = (x.texts, (r, false)) := by
  have hl := lens_all (okV_parts h).2.1
  unfold encV
  rw [if_neg (by omega), if_neg (by omega), if_pos hk]
  refine Vi.rMany_enc r x.texts (fun y hy t => Vi.rText_eText y t ?_) (fun y _ => ?_) (by omega)
  · have h1 : y.length ≤ lens x.texts := mem_lens hy
    omega
  · have := (Vi.vi_len y.length).1
    unfold Vi.eText
    simp; omega
theorem back_nums {x : V} (r : List UInt8) (hk : x.kind % 4 = 3) (h : okV x = true) (hn : ∀ y ∈ x.nums, I64 y) : Vi.rMany Vi.rNum (encV x ++ r, false) = (x.nums.map Int.toNat, (r, false)) := by
  obtain ⟨_, _, _, h4, h5⟩ := okV_parts h
  unfold encV
  rw [if_neg (by omega), if_neg (by omega), if_neg (by omega)]
  have e : Vi.eMany Vi.eNum x.nums = Vi.eMany (fun n : Nat => Vi.eNum (n : Int)) (x.nums.map Int.toNat) := by
    unfold Vi.eMany
    rw [eNum_list x.nums h5]
    simp
  rw [e]
  refine Vi.rMany_enc r _ (fun y hy t => ?_) (fun y _ => ?_) (by simp; omega)
  · obtain ⟨z, hz, rfl⟩ := List.mem_map.1 hy
    have := hn z hz
    unfold I64 at this
    exact Vi.rNum_eNum _ (by omega) (by omega) t false
  · have := (Vi.vi_len y).1
    rw [vi_num]
    exact this

theorem same_texts (va vb : Value) (xs : List (List UInt8)) (w : World) (ha : Seq w va (xs.map sv)) (hb : Seq w vb (xs.map sv)) :
    Calls Try.prog 25 #[va, vb] w fun e w' => e = .returned (.bool true) ∧ ∃ n, w' = w.drewN n := by
  have c := SameTexts_c va vb xs xs w ha hb
  rwa [show decide (xs = xs) = true from by simp] at c
theorem same_ints (va vb : Value) (xs : List Int) (w : World) (ha : Seq w va (xs.map iv)) (hb : Seq w vb (xs.map iv)) :
    Calls Try.prog 28 #[va, vb] w fun e w' => e = .returned (.bool true) ∧ ∃ n, w' = w.drewN n := by
  have c := SameInts_c va vb xs xs w ha hb
  rwa [show decide (xs = xs) = true from by simp] at c
theorem nums_seq {w : World} {base : Nat} {v : Value} {l : List Int} (hl : ∀ y ∈ l, 0 ≤ y) (h : w.ownsRow base 3 1 v (l.map Int.toNat).length ((l.map Int.toNat).map nv)) : Seq w v (l.map iv) := by
  have q := Seq.of_own (xs := (l.map Int.toNat).map nv) (by rw [List.length_map]; exact h)
  rwa [nv_map, toNat_list l hl] at q

set_option maxHeartbeats 4000000 in
set_option maxRecDepth 100000 in
theorem back_w (va : Value) (xs : List V) (F : List UInt8) (hF : F.length ≤ 140737488355328) (w : World) (ha : SeqV w va xs) (hx : ∀ x ∈ xs, VOk x) :
    Calls Try.prog 5 #[va, .string (bs F)] w fun e w' => e = .returned (.bool true) ∧ Below w.heap.size w w' := by
  have QA := Lib.hid ha
  obtain ⟨A, ca, rfl, hca, hma, ha⟩ := ha
  unfold maxLen at hma
  have HA := Lib.hid ha; clear ha
  have HX := Lib.hid hx; clear hx
  have hFs : (bs F).size = F.length := rfl
  cases hv : validB xs with
  | false =>
    have HV := Lib.hid hv; clear hv
    go_enter Try.func5, Try.ntmps5
    go_wp2_with fail
    refine (small_c w).mono ?_
    rintro e w1 ⟨rfl, h1⟩
    go_wp2_with fail
    have c := valid_c _ xs w1 (QA.out.below h1) HX.out
    rw [HV.out] at c
    refine c.mono ?_
    rintro e w2 ⟨rfl, rfl⟩
    go_wp2_with fail
    go_ret
    exact ⟨rfl, h1⟩
  | true =>
    have HV := Lib.hid hv; clear hv
    by_cases kF : (10000 : Int) < ((bs F).size : Int)
    · go_enter Try.func5, Try.ntmps5
      go_wp2_with fail
      refine (small_c w).mono ?_
      rintro e w1 ⟨rfl, h1⟩
      go_wp2_with fail
      have c := valid_c _ xs w1 (QA.out.below h1) HX.out
      rw [HV.out] at c
      refine c.mono ?_
      rintro e w2 ⟨rfl, rfl⟩
      go_wp2_with fail
      go_ret
      exact ⟨rfl, h1⟩
    · have hF' : F.length ≤ 10000 := by omega
      obtain ⟨hl20, hok⟩ := validB_parts HV.out
      have HO := Lib.hid hok
      have hfl := flat_len xs hok
      clear hok hFs
      go_enter Try.func5, Try.ntmps5
      go_wp2_with fail
      refine (small_c w).mono ?_
      rintro e w1 ⟨rfl, h1⟩
      go_wp2_with fail
      have c := valid_c _ xs w1 (QA.out.below h1) HX.out
      rw [HV.out] at c
      refine c.mono ?_
      rintro e w2 ⟨rfl, rfl⟩
      clear c
      go_wp2_with fail
      refine (encoded_c _ xs w1 (QA.out.below h1) HX.out (by omega)).mono ?_
      rintro e w2 ⟨rfl, h2⟩
      have hcat : (bs (xs.flatMap encV)).size + (bs F).size ≤ 9223372036854775807 := by rw [bs_size, bs_size]; omega
      go_wp2_with fail
      rw [bs_append]
      refine (Open_c _ w2).mono ?_
      rintro e w3 ⟨rfl, r3, b3, z3⟩
      have a2 := chain h1 h2
      have T3 : One w w3 w2.heap.size (stA xs F 0) := ⟨by rw [bs_data] at r3; simpa [stA] using r3, chain a2 b3⟩
      have l2 := a2.size
      generalize w2.heap.size = B at *
      clear r3 b3 h1 h2 a2
      go_wp2_with fail
      go_loopw [8] (fun i wr => ∃ (k : Nat), k ≤ xs.length ∧ i = .int .i64 k ∧ One w wr B (stA xs F k)) (fun i _ => xs.length - (intOf i).toNat)
      case atStart => exact ⟨0, by omega, rfl, T3⟩
      case round =>
        obtain ⟨k, hk, rfl, hT⟩ := hrel
        have hlen := stA_len (F := F) (k := k) HO.out hl20 hF'
        by_cases k1 : k < xs.length
        · obtain ⟨b1, o1, rfl, hc⟩ := HA.out.resolve_left (by intro e; rw [e] at k1; simp at k1)
          have hat := (hc k xs[k] (by simp [k1]))
          have hlt : b1 < w.heap.size := World.block_lt_of_cell? w _ hat.c0
          have hok := HX.out xs[k] (List.getElem_mem k1)
          have hov := HO.out xs[k] (List.getElem_mem k1)
          have hst := stA_step (F := F) k1
          have i0 : (0 : Int) ≤ (k : Int) := by omega
          have i1 : (k : Int) < (xs.length : Int) := by omega
          clear hc
          generalize xs[k] = x at *
          have HST := Lib.hid hst; clear hst
          have HOV := Lib.hid hov; clear hov
          obtain ⟨e0, e1, e2, ⟨v3, e3, s3⟩, ⟨v4, e4, s4⟩⟩ := hat
          have c0 := (hT.below.cell (p := ⟨b1, _, none⟩) hlt).trans e0
          have c1 := (hT.below.cell (p := ⟨b1, _, none⟩) hlt).trans e1
          have c2 := (hT.below.cell (p := ⟨b1, _, none⟩) hlt).trans e2
          have c3 := (hT.below.cell (p := ⟨b1, _, none⟩) hlt).trans e3
          have c4 := (hT.below.cell (p := ⟨b1, _, none⟩) hlt).trans e4
          clear e0
          go_upto_block 2 with (go_at_call 39; refine (kind_c _ _ _ _ _ wr).mono ?_; rintro e w4 ⟨rfl, h4⟩)
          have hT4 : One w w4 B (stA xs F k) := ⟨hT.rd.below h4 hT.rd.lt, chain hT.below h4⟩
          go_cut [9] from 30 to 80 (fun v wc => v = .bool true ∧ One w wc B (stA xs F (k + 1)))
          case first =>
            clear c0 c1 c2 c3 c4 hT h4
            have c1 := (hT4.below.cell (p := ⟨b1, _, none⟩) hlt).trans e1
            have c2 := (hT4.below.cell (p := ⟨b1, _, none⟩) hlt).trans e2
            have c3 := (hT4.below.cell (p := ⟨b1, _, none⟩) hlt).trans e3
            have c4 := (hT4.below.cell (p := ⟨b1, _, none⟩) hlt).trans e4
            clear e1 e2 e3 e4
            have hT4d : Below w.heap.size w w4.drew := hT4.below.drew
            obtain ⟨hok1, hok2, hok3, hok4, hok5⟩ := hok
            have HOK5 := Lib.hid hok5; clear hok5
            have HOK2 := Lib.hid hok2; clear hok2
            clear hok1 hok4
            have hk4 : x.kind % 4 = 0 ∨ x.kind % 4 = 1 ∨ x.kind % 4 = 2 ∨ x.kind % 4 = 3 := by omega
            have hne : b1 ≠ B := by omega
            have hlB := hT4.below.size
            have hr := hT4.rd
            rw [HST.out] at hr hlen
            have hr' : Rd 61 w4.drew B (encV x ++ (stA xs F (k + 1)).1, false) := hr
            have hEst : (stA xs F (k + 1)).2 = false := rfl
            have HST2 : Hid (((stA xs F (k + 1)).1, false) = stA xs F (k + 1)) := rfl
            generalize hj : x.kind % 4 = j at *
            have HJ := Lib.hid hj; clear hj hEst
            rcases hk4 with rfl | rfl | rfl | rfl
            · have c := Num_c B _ w4.drew hr' (by unfold maxLen; simp only [List.length_append] at hlen ⊢; omega)
              rw [back_num _ HJ.out HOV.out HOK2.out, HST2.out] at c
              have hxn : ((x.n.toNat : Nat) : Int) = x.n := by have := (okV_parts HOV.out).1; omega
              simp only at c
              rw [hxn] at c
              have HC := Lib.hid c; clear c hxn
              have d1 : w4.drew.cell? ⟨b1, o1 + k * 5 + 1, none⟩ = some (.int .i64 x.n) := c1
              go_wp2_with fail
              go_region_held3 (fun w' => w'.cell? ⟨b1, o1 + k * 5 + 1, none⟩ = some (.int .i64 x.n)) (first | exact c1 | exact e1) ((first | (go_at_call 21; refine HC.out.mono ?_; rintro e w5 ⟨rfl, u1, g1⟩; have e1 := g1.cell d1 (by simp; omega))))
              have hT5 : One w w5 B (stA xs F (k + 1)) := ⟨u1, below_of_grown (w := w4.drew) hT4.below.drew g1 hlB l2⟩
              go_wp2_with fail
              go_meet
              case rel => exact ⟨rfl, hT5⟩
            · have c := Text_c B _ w4.drew hr' (by unfold maxLen; simp only [List.length_append] at hlen ⊢; omega)
              rw [back_text _ HJ.out HOV.out, HST2.out] at c
              have HC := Lib.hid c; clear c
              have d1 : w4.drew.cell? ⟨b1, o1 + k * 5 + 2, none⟩ = some (.string (bs x.text)) := c2
              go_wp2_with fail
              go_region_held3 (fun w' => w'.cell? ⟨b1, o1 + k * 5 + 2, none⟩ = some (.string (bs x.text))) (first | exact c2 | exact e1) ((first | (go_at_call 23; refine HC.out.mono ?_; rintro e w5 ⟨t5, ht5, rfl, u1, g1⟩; have e1 := g1.cell d1 (by simp; omega); obtain rfl := bs_of ht5; clear ht5)))
              have hT5 : One w w5 B (stA xs F (k + 1)) := ⟨u1, below_of_grown (w := w4.drew) hT4d g1 hlB l2⟩
              go_wp2_with fail
              go_meet
              case rel => exact ⟨rfl, hT5⟩
            · have c := List_c B _ w4.drew hr' (fit_f _) (by simp only [List.length_append] at hlen ⊢; omega)
              rw [back_texts _ HJ.out HOV.out, HST2.out] at c
              have HC := Lib.hid c; clear c
              have d1 : w4.drew.cell? ⟨b1, o1 + k * 5 + 3, none⟩ = some v3 := c3
              obtain ⟨A3, p3, rfl, _⟩ := id s3
              rw [List.length_map] at s3 c3 d1
              have S3 := Lib.hid s3; clear s3
              go_wp2_with fail
              go_region_held3 (fun w' => w'.cell? ⟨b1, o1 + k * 5 + 3, none⟩ = some (.slice A3 x.texts.length p3)) (first | exact c3 | exact e1 | exact e2) ((first | (go_at_call 26; refine HC.out.mono ?_; rintro e w5 ⟨v5, rfl, o5, u1, g1⟩; have e1 := g1.cell d1 (by simp; omega); have q5 := Seq.of_own (xs := x.texts.map sv) (by rw [List.length_map]; exact o5); have p5 := S3.out.keep (w' := w5) (fun b hb => (below_of_grown (w := w4.drew) hT4d g1 hlB l2).block b hb); have SC := Lib.hid (same_texts v5 _ x.texts w5 q5 p5); have m5 := below_of_grown (w := w4.drew) hT4d g1 hlB l2) | (go_at_call 25; refine SC.out.mono ?_; rintro e w6 ⟨rfl, n6⟩; have e2 : w6.cell? ⟨b1, o1 + k * 5 + 3, none⟩ = some (.slice A3 x.texts.length p3) := by rw [World.cell?, heap_of_drew n6]; exact e1)))
              have hT6 : One w w6 B (stA xs F (k + 1)) := ⟨u1.of_block (by rw [heap_of_drew n6]), chain m5 (below_of_drew n6)⟩
              clear n6
              go_wp2_with fail
              go_meet
              case rel => exact ⟨rfl, hT6⟩
            · have c := Nums_c B _ w4.drew hr' (fit_f _) (by simp only [List.length_append] at hlen ⊢; omega)
              rw [back_nums _ HJ.out HOV.out HOK5.out, HST2.out] at c
              have HC := Lib.hid c; clear c
              have d1 : w4.drew.cell? ⟨b1, o1 + k * 5 + 4, none⟩ = some v4 := c4
              obtain ⟨A4, p4, rfl, _⟩ := id s4
              rw [List.length_map] at s4 c4 d1
              have S4 := Lib.hid s4; clear s4
              go_wp2_with fail
              go_region_held3 (fun w' => w'.cell? ⟨b1, o1 + k * 5 + 4, none⟩ = some (.slice A4 x.nums.length p4)) (first | exact c4 | exact e1 | exact e2) ((first | (go_at_call 29; refine HC.out.mono ?_; rintro e w5 ⟨v5, rfl, o5, u1, g1⟩; have e1 := g1.cell d1 (by simp; omega); have q5 := nums_seq (okV_parts HOV.out).2.2.2.2 o5; have p5 := S4.out.keep (w' := w5) (fun b hb => (below_of_grown (w := w4.drew) hT4d g1 hlB l2).block b hb); have SC := Lib.hid (same_ints v5 _ x.nums w5 q5 p5); have m5 := below_of_grown (w := w4.drew) hT4d g1 hlB l2) | (go_at_call 28; refine SC.out.mono ?_; rintro e w6 ⟨rfl, n6⟩; have e2 : w6.cell? ⟨b1, o1 + k * 5 + 4, none⟩ = some (.slice A4 x.nums.length p4) := by rw [World.cell?, heap_of_drew n6]; exact e1)))
              have hT6 : One w w6 B (stA xs F (k + 1)) := ⟨u1.of_block (by rw [heap_of_drew n6]), chain m5 (below_of_drew n6)⟩
              clear n6
              go_wp2_with fail
              go_meet
              case rel => exact ⟨rfl, hT6⟩
          case rest =>
            obtain ⟨rfl, hT'⟩ := hcut
            go_wp2_with fail
            go_roundw
            case rel => first | exact ⟨k + 1, by omega, by go_num, hT'⟩ | ((repeat apply Exists.intro); exact ⟨⟨k + 1, by omega, by go_num, hT'⟩, rfl⟩)
            case measure => simp [intOf] <;> omega
        · obtain rfl : k = xs.length := by omega
          have hst : stA xs F xs.length = (F, false) := by unfold stA; rw [List.drop_length]; rfl
          rw [hst] at hT
          clear hst hlen
          obtain ⟨t1, tb⟩ := hT
          have c1 := Left_c B (F, false) wr t1
          have c2 := Done_c B (F, false) wr t1
          have c3 := Take_c B ((bs F).size : Int) (F, false) wr t1 (by unfold maxLen; simp only; omega)
          have e3 : Vi.rTake ((bs F).size : Int) (F, false) = (F, ([], false)) := by
            unfold Vi.rTake
            rw [bs_size, if_neg (by simp)]
            simp
          rw [e3] at c3
          have c1' : Calls Try.prog 33 #[.pointer (some ⟨B, 0, none⟩)] wr fun e w' => e = .returned (.int .i64 ((bs F).size : Nat)) ∧ wr = w' := c1
          rw [show isDone (F, false) = (bs F).toList.isEmpty from by rw [Lib.toList_data]; rfl] at c2
          have C1 := Lib.hid c1'; clear c1 c1'
          have C2 := Lib.hid c2; clear c2
          have C3 := Lib.hid c3; clear c3 e3
          clear t1
          go_wp2_with fail
          refine C1.out.mono ?_
          rintro e w5 ⟨rfl, rfl⟩
          go_wp2_with fail
          refine C2.out.mono ?_
          rintro e w5 ⟨rfl, rfl⟩
          go_wp2_with fail
          refine C3.out.mono ?_
          rintro e w5 ⟨t5, ht5, rfl, u5, g5⟩
          obtain rfl := bs_of ht5
          clear ht5
          have c4 := Done_c B ([], false) w5 u5
          rw [show isDone ([], false) = true from by decide] at c4
          have C4 := Lib.hid c4; clear c4
          have hb5 := below_of_grown tb g5 tb.size l2
          go_wp2_with fail
          refine C4.out.mono ?_
          rintro e w6 ⟨rfl, rfl⟩
          go_wp2_with fail
          go_ret
          exact ⟨rfl, hb5⟩

theorem codeBack_w {va : Value} {xs : List V} {w : World} (c : SeqV w va xs ∧ ∀ x ∈ xs, VOk x) (s : ByteArray) (hs : s.data.toList.length ≤ 140737488355328) (_ : World) :
    Calls Try.prog 5 #[va, .string s] w fun e w' => e = .returned (.bool true) ∧ Below w.heap.size w w' := by
  have e : s = bs s.data.toList := bs_of rfl
  rw [e]
  exact back_w va xs _ hs w c.1 c.2
end Go.Proofs.Ytipehfidphgbbaa
