/- LinesPieces walked. -/
import Derived.Test.YtjllmhnicmonbaaFs
namespace Go.Proofs.Ytjllmhnicmonbaa
open Go Go.RowKit

theorem bs_cat (a b : List UInt8) : bs a ++ bs b = bs (a ++ b) := by
  refine bs_of ?_
  rw [cat_data]
  rfl
theorem any_succ (p : List UInt8 → Bool) (L : List (List UInt8)) {i : Nat} (h : i < L.length) : (L.take (i + 1)).any p = ((L.take i).any p || p L[i]) := by
  rw [List.take_succ_eq_append_getElem h, List.any_append]
  simp
theorem flat_upto (L : List (List UInt8)) (i : Nat) : (L.take i).flatten.length ≤ L.flatten.length := by
  have h1 : L.flatten = (L.take i).flatten ++ (L.drop i).flatten := by rw [← List.flatten_append, List.take_append_drop]
  rw [h1, List.length_append]
  omega
set_option maxHeartbeats 1500000 in
set_option maxRecDepth 100000 in
theorem linesPieces_w (most : Int) (_hm : -9223372036854775808 ≤ most ∧ most ≤ 9223372036854775807) (v1 : Value) (xs : List (List UInt8)) (w : World) (q1 : Seq w v1 (xs.map sv)) (b1 : ∀ y ∈ xs, y.length ≤ 140737488355328) (z1 : xs.length ≤ 8796093022208) :
    Calls Try.prog 5 #[.int .i64 most, v1] w fun e w' => e = .returned (.bool true) ∧ Below w.heap.size w w' := by
  have Q1 := Lib.hid q1
  obtain ⟨A, c, rfl, -, -, -⟩ := q1
  rw [List.length_map] at Q1 ⊢
  have hfew := fun u (hb : Below w.heap.size w u) => few_c A c xs u (Q1.out.below hb) b1 z1
  have HFEW := Lib.hid hfew
  have HB1 := Lib.hid b1
  clear hfew b1
  cases hfw : fewB xs
  · rw [hfw] at HFEW
    clear hfw
    go_enter Try.func5, Try.ntmps5
    go_wp2_with fail
    refine (small_c w).mono ?_
    rintro e w1 ⟨rfl, k1⟩
    have K1 := Lib.hid k1
    clear k1
    go_wp2_with fail
    refine (HFEW.out w1 K1.out).mono ?_
    rintro e w1' ⟨rfl, hw⟩
    obtain rfl := hw.symm
    go_wp2_with fail
    refine (New_c most w1).mono ?_
    rintro e w2 ⟨rfl, hw2⟩
    have K2 := Lib.hid (show Below w.heap.size w w2 by rw [hw2]; exact K1.out.alloc K1.out.size _)
    clear hw2
    go_wp2_with fail
    refine (New_c most w2).mono ?_
    rintro e w3 ⟨rfl, hw3⟩
    have K3 := Lib.hid (show Below w.heap.size w w3 by rw [hw3]; exact K2.out.alloc K2.out.size _)
    clear hw3
    go_wp2_with fail
    go_ret
    exact ⟨rfl, K3.out⟩
  · rw [hfw] at HFEW
    have hxl : xs.length ≤ 30 ∧ xs.flatten.length ≤ 3000 := by
      unfold fewB at hfw
      rw [Bool.and_eq_true, decide_eq_true_iff, decide_eq_true_iff] at hfw
      refine ⟨hfw.1, ?_⟩
      have := hfw.2
      rwa [List.take_of_length_le (by omega)] at this
    obtain ⟨hxl, hxf⟩ := hxl
    clear hfw
    obtain ⟨j0, hi, hz0, hz1, hz2⟩ := info_parts infoStr
    obtain ⟨n, hn⟩ : ∃ n, n = lim most := ⟨_, rfl⟩
    have hn1 := lim_lo most
    have hn2 := lim_hi most
    have hnl := lim_eq most
    have hnew := fun u => New_c most u
    rw [← hn] at hn1 hn2 hnl
    have HNEW := Lib.hid hnew
    have HNL := Lib.hid hnl
    have HN := Lib.hid hn
    clear hnew hnl hn
    go_enter Try.func5, Try.ntmps5
    go_wp2_with fail
    refine (small_c w).mono ?_
    rintro e w1 ⟨rfl, k1⟩
    have K1 := Lib.hid k1
    clear k1
    go_wp2_with fail
    refine (HFEW.out w1 K1.out).mono ?_
    rintro e w1' ⟨rfl, hw⟩
    obtain rfl := hw.symm
    clear HFEW
    go_wp2_with fail
    refine (HNEW.out w1).mono ?_
    rintro e w2 ⟨rfl, hw2⟩
    rw [← HN.out] at hw2
    have K2 := Lib.hid (show Below w.heap.size w w2 by rw [hw2]; exact K1.out.alloc K1.out.size _)
    have F2 := Lib.hid (show ∀ B, Fd w2 B w1.heap.size n [] by intro B; rw [hw2]; exact fd_new w1 B n)
    have z2 : w2.heap.size = w1.heap.size + 1 := by rw [hw2]; simp
    have z0 := K1.out.size
    generalize w1.heap.size = f at F2 z2 z0 ⊢
    clear hw2 K1
    go_wp2_with fail
    refine (HNEW.out w2).mono ?_
    rintro e w3 ⟨rfl, hw3⟩
    rw [← HN.out] at hw3
    have K3 := Lib.hid (show Below w.heap.size w w3 by rw [hw3]; exact K2.out.alloc K2.out.size _)
    have F3 := Lib.hid (show Fd w3 w3.heap.size f n [] by
      refine (F2.out _).below ?_
      rw [hw3]
      exact (Below.refl _ w2).alloc (Nat.le_refl _) _)
    have G3 := Lib.hid (show w3.heap[w2.heap.size]? = some (.cells #[.int .i64 (n : Int), .slice none 0 0] 45 (0, 0)) by rw [hw3]; exact heap_alloc_new _ _)
    have z3 : w3.heap.size = w2.heap.size + 1 := by rw [hw3]; simp
    generalize w2.heap.size = g at G3 z2 z3 ⊢
    have hgf : f < g := by omega
    have hg3 : g < w3.heap.size := by omega
    have hf3 : f < w3.heap.size := by omega
    clear hw3 K2 F2 HNEW z2 z3
    go_wp2_with fail
    have h0 := FS.start F3.out
    go_loopw [9, 10, 11] (fun st av iv wr => ∃ i : Nat, i ≤ xs.length ∧ iv = .int .i64 i ∧ st = .string (bs (xs.take i).flatten) ∧ Hid (FS w3 f n (Ln.tells n (xs.take i).flatten).1 (Ln.tells n (xs.take i).flatten).2 av wr)) (fun _ _ iv _ => xs.length - (intOf iv).toNat)
    case atStart => exact ⟨0, by omega, rfl, rfl, Lib.hid (by rw [List.take_zero, List.flatten_nil, Ln.tells_nil]; exact h0)⟩
    case round =>
      obtain ⟨i, hik, rfl, rfl, HS⟩ := hrel
      clear h0
      have KR := Lib.hid (HS.out.below K3.out z0)
      have zr := HS.out.size
      by_cases k1 : i < xs.length
      · obtain ⟨b3, o3, rfl, hc3⟩ := seq_at (k := i) (Q1.out.below KR.out) (by simpa using k1)
        have hc3' : wr.cell? ⟨b3, o3 + i, none⟩ = some (.string (bs xs[i])) := by rw [hc3, List.getElem_map]; rfl
        have hsucc := Ln.flat_succ xs k1
        have hup := flat_upto xs (i + 1)
        have hup0 := flat_upto xs i
        have hstep := Ln.tells_push n (xs.take i).flatten xs[i]
        rw [← hsucc] at hstep
        have hul := congrArg List.length hsucc
        rw [List.length_append] at hul
        have hcat : bs (xs.take (i + 1)).flatten = bs (xs.take i).flatten ++ bs xs[i] := by rw [bs_cat, hsucc]
        obtain ⟨tl1, tl2⟩ := Ln.tells_len n (xs.take i).flatten
        have tl1 := Nat.le_trans tl1 (Nat.le_trans hup0 hxf)
        have tl3 := (Ln.tells_len n (xs.take (i + 1)).flatten).1
        obtain ⟨A0, c0, rfl⟩ := own_len HS.out.2.1
        have hpush := Push_c w3.heap.size f n (Ln.tells n (xs.take i).flatten).2 (bs xs[i]) (by rw [bs_size]; omega) hn1 hn2 wr tl2 HS.out.1 zr
        rw [bs_data] at hpush
        have HSTEP := Lib.hid hstep
        have HCAT := Lib.hid hcat
        have hXs : (bs xs[i]).size ≤ 3000 := by rw [bs_size]; omega
        have hSs : (bs (xs.take i).flatten).size ≤ 3000 := by rw [bs_size]; omega
        generalize Ln.pushF n (Ln.tells n (xs.take i).flatten).2 (Ln.lns xs[i]) = pf at hpush HSTEP
        have hpl : pf.1.length ≤ 3000 := by
          have h := congrArg (fun p => p.1.length) HSTEP.out
          simp only [List.length_append] at h
          omega
        have HPUSH := Lib.hid hpush
        clear hc3 hsucc hup hup0 hstep hul hcat hpush
        generalize bs xs[i] = X at hc3' HPUSH HCAT hXs
        generalize bs (xs.take i).flatten = S at HCAT hSs ⊢
        generalize hT0 : Ln.tells n (xs.take i).flatten = t0 at HS HSTEP tl1 tl2
        have i0 : (0 : Int) ≤ (i : Int) := by omega
        have i1 : (i : Int) < (xs.length : Int) := by omega
        have hsz2 : ¬ 9223372036854775807 < S.size + X.size := by omega
        clear hT0
        go_wp2_with fail
        refine HPUSH.out.mono ?_
        rintro e w5 ⟨v5, rfl, own5, F5, P5⟩
        have HF5 := Lib.hid (HS.out.push (by omega) P5 F5)
        have z5 := HF5.out.size
        obtain ⟨A5, c5, rfl⟩ := own_len own5
        have HS5 := Lib.hid (row_seq own5)
        clear own5 F5 P5 HPUSH HS KR
        go_wp2_with (first
          | (at_builtin
             go_must (refine wpList_append_seq (by rfl) (.tmp 46) (.tmp 52) 24 rfl w3.heap.size 9 j0 _ 16 Try.underlying24 hi hz0 hz1 hz2 rfl _ t0.1.length (t0.1.map sv) rfl HF5.out.2.1 _ (pf.1.map sv) rfl HS5.out (sv_one _) (by rw [List.length_map]; unfold maxLen; omega) (by rw [List.length_map]; omega) z5 ?_)))
        intro v6 w6 own6 g6
        have own6' : w6.ownsRow w3.heap.size 9 1 v6 (t0.1 ++ pf.1).length ((t0.1 ++ pf.1).map sv) := by
          rw [List.length_append, List.map_append]
          simpa using own6
        have HF6 := Lib.hid (HF5.out.app (by omega) g6 own6')
        clear own6 own6' g6 HF5 HS5
        go_wp2_with fail
        go_roundw
        case rel =>
          refine ⟨i + 1, by omega, by go_num, by rw [HCAT.out], ?_⟩
          rw [← HSTEP.out]
          exact HF6
        case measure => simp [intOf] <;> omega
      · obtain rfl : i = xs.length := by omega
        rw [List.take_of_length_le (Nat.le_refl _)] at HS ⊢
        obtain ⟨A0, c0, rfl⟩ := own_len HS.out.2.1
        generalize xs.flatten = s at HS hxf ⊢
        have hts := Ln.tells_size n s
        have htl := (Ln.tells_len n s).1
        have hgp := Push_c wr.heap.size g n [] (bs s) (by rw [bs_size]; omega) hn1 hn2 wr (Nat.zero_le _) (HS.out.other (by omega) (by omega) G3.out _) (Nat.le_refl _)
        rw [bs_data, Ln.tells_once] at hgp
        have hsp := fun u => Split_c (bs s) (by rw [bs_size]; omega) u
        rw [bs_data] at hsp
        have hll := Ln.lns_len s
        have hlen : ∀ x ∈ Ln.lns s, x.length ≤ 3000 := fun x hx => by
          obtain ⟨pre, post, h⟩ := List.append_of_mem hx
          have := (part_len h).1
          omega
        have hall : (Ln.lns s).any (fun l => decide (max most 1 < (l.length : Int))) = false → bs (Ln.tells n s).1.flatten ++ bs (Ln.tells n s).2 = bs s := fun h => by
          rw [bs_cat, Ln.tells_all n s fun l hl => ?_]
          rw [List.any_eq_false] at h
          have h1 := h l hl
          rw [decide_eq_true_iff] at h1
          have h2 := hlen l hl
          have h3 := HNL.out
          omega
        have HGP := Lib.hid hgp
        have HSP := Lib.hid hsp
        have HLEN := Lib.hid hlen
        have HALL := Lib.hid hall
        clear hgp hsp hlen hall
        generalize Ln.lns s = L at HSP HLEN HALL hll
        generalize Ln.tells n s = t at HS HGP HALL hts htl ⊢
        obtain ⟨outs, r⟩ := t
        simp only at hts htl ⊢
        have hSs : (bs s).size ≤ 3000 := by rw [bs_size]; omega
        have hrs : (bs r).size ≤ 3000 := by rw [bs_size]; omega
        have hLl : L.length ≤ 3000 := by omega
        have hol : outs.length ≤ 3000 := by omega
        have hof : outs.flatten.length ≤ 3000 := by omega
        clear hts htl hll
        generalize bs s = S at HGP HSP HALL hSs ⊢
        go_wp2_with fail
        refine HGP.out.mono ?_
        rintro e w5 ⟨v5, rfl, own5, G5, P5⟩
        have hk : ∀ k, k < wr.heap.size → k ≠ g → w5.heap[k]? = wr.heap[k]? := fun k hk hg => P5.2.1 k hk hk hg
        obtain ⟨F5, own5'⟩ := HS.out.late (by omega) (by omega) hk
        have hKR := KR.out
        have K5 : Below w.heap.size w w5 := ⟨P5.1.1.trans hKR.os, P5.1.2.1.trans hKR.tape, P5.1.2.2.1.trans hKR.output, Nat.le_trans hKR.size P5.1.2.2.2, fun k hk => (P5.2.1 k (by have := hKR.size; omega) (by have := hKR.size; omega) (by omega)).trans (hKR.block k hk)⟩
        have HK5 := Lib.hid K5
        have HA5 := Lib.hid (row_seq own5')
        have HO5 := Lib.hid (row_seq own5)
        have HF5 := Lib.hid F5
        have HG5 := Lib.hid G5
        obtain ⟨A5, c5, rfl⟩ := own_len own5
        clear own5 own5' G5 F5 P5 hk hKR K5 HGP HS KR
        go_wp2_with fail
        refine (HSP.out w5).mono ?_
        rintro e w6 ⟨v6, rfl, own6, k6⟩
        have HA6 := Lib.hid (HA5.out.below k6)
        have HO6 := Lib.hid (HO5.out.below k6)
        have HF6 := Lib.hid (HF5.out.below k6)
        have HG6 := Lib.hid (HG5.out.below k6)
        have HK6 := Lib.hid (chain HK5.out k6)
        have HW6 := Lib.hid (row_seq own6)
        obtain ⟨A6, c6, rfl⟩ := own_len own6
        clear own6 k6 HA5 HO5 HF5 HG5 HK5 HSP
        go_wp2_with fail
        go_loopw [14, 15] (fun bv iv wq => ∃ i : Nat, i ≤ outs.length ∧ iv = .int .i64 i ∧ bv = .string (bs (outs.take i).flatten) ∧ wq = w6) (fun _ iv _ => outs.length - (intOf iv).toNat)
        case atStart => exact ⟨0, by omega, rfl, rfl, by trivial⟩
        case round =>
          obtain ⟨i, hio, rfl, rfl, hw⟩ := hrel
          obtain rfl := hw.symm
          by_cases k2 : i < outs.length
          · obtain ⟨b3, o3, rfl, hc3⟩ := seq_at (k := i) HA6.out (by simpa using k2)
            have hc3' : w6.cell? ⟨b3, o3 + i, none⟩ = some (.string (bs outs[i])) := by rw [hc3, List.getElem_map]; rfl
            have hsucc := Ln.flat_succ outs k2
            have hup := flat_upto outs (i + 1)
            have hul := congrArg List.length hsucc
            rw [List.length_append] at hul
            have hcat : bs (outs.take (i + 1)).flatten = bs (outs.take i).flatten ++ bs outs[i] := by rw [bs_cat, hsucc]
            have HCAT := Lib.hid hcat
            have hXs : (bs outs[i]).size ≤ 3000 := by rw [bs_size]; omega
            have hYs : (bs (outs.take i).flatten).size ≤ 3000 := by rw [bs_size]; omega
            clear hc3 hsucc hup hul hcat
            generalize bs outs[i] = X at hc3' HCAT hXs
            generalize bs (outs.take i).flatten = Y at HCAT hYs ⊢
            have i0 : (0 : Int) ≤ (i : Int) := by omega
            have i1 : (i : Int) < (outs.length : Int) := by omega
            have hsz2 : ¬ 9223372036854775807 < Y.size + X.size := by omega
            go_wp2_with fail
            go_roundw
            case rel => exact ⟨i + 1, by omega, by go_num, by rw [HCAT.out], by trivial⟩
            case measure => simp [intOf] <;> omega
          · obtain rfl : i = outs.length := by omega
            rw [List.take_of_length_le (Nat.le_refl _)]
            have hYs : (bs outs.flatten).size ≤ 3000 := by rw [bs_size]; exact hof
            generalize bs outs.flatten = Y at HALL hYs ⊢
            go_wp2_with fail
            go_loopw [16, 17] (fun lv iv wq => ∃ k : Nat, k ≤ L.length ∧ iv = .int .i64 k ∧ lv = .bool ((L.take k).any (fun l => decide (max most 1 < (l.length : Int)))) ∧ wq = w6) (fun _ iv _ => L.length - (intOf iv).toNat)
            case atStart => exact ⟨0, by omega, rfl, rfl, by trivial⟩
            case round =>
              obtain ⟨k, hkl, rfl, rfl, hw⟩ := hrel
              obtain rfl := hw.symm
              by_cases k3 : k < L.length
              · obtain ⟨b3, o3, rfl, hc3⟩ := seq_at (k := k) HW6.out (by simpa using k3)
                have hc3' : w6.cell? ⟨b3, o3 + k, none⟩ = some (.string (bs L[k])) := by rw [hc3, List.getElem_map]; rfl
                have hany := any_succ (fun l => decide (max most 1 < (l.length : Int))) L k3
                have HANY := Lib.hid hany
                have hXs : (bs L[k]).size = L[k].length := bs_size _
                have HXS := Lib.hid hXs
                clear hc3 hany hXs
                generalize bs L[k] = X at hc3' HXS
                generalize L[k] = x at HXS HANY
                have i0 : (0 : Int) ≤ (k : Int) := by omega
                have i1 : (k : Int) < (L.length : Int) := by omega
                generalize (L.take k).any (fun l => decide (max most 1 < (l.length : Int))) = q at HANY ⊢
                cases q
                · go_wp2_with fail
                  go_roundw
                  case rel => exact ⟨k + 1, by omega, by go_num, by rw [HANY.out, ← HXS.out]; simp, by trivial⟩
                  case measure => simp [intOf] <;> omega
                · go_wp2_with fail
                  go_roundw
                  case rel => exact ⟨k + 1, by omega, by go_num, by rw [HANY.out]; simp, by trivial⟩
                  case measure => simp [intOf] <;> omega
              · obtain rfl : k = L.length := by omega
                rw [List.take_of_length_le (Nat.le_refl _)]
                have hsm := SameTexts_c _ _ outs outs w6 HA6.out HO6.out
                rw [decide_eq_true rfl] at hsm
                have HSM := Lib.hid hsm
                clear hsm
                generalize L.any (fun l => decide (max most 1 < (l.length : Int))) = q at HALL ⊢
                have hfr := fun m => Rest_c _ f n r (w6.drewN m) HF6.out
                have hgr := fun m => Rest_c _ g n r (w6.drewN m) HG6.out
                have HFR := Lib.hid hfr
                have HGR := Lib.hid hgr
                clear hfr hgr
                generalize bs r = R at HFR HGR HALL hrs
                have hsz2 : ¬ 9223372036854775807 < Y.size + R.size := by omega
                cases q
                · have hfin := HALL.out rfl
                  have e1 : ((Y ++ R).toList == S.toList) = true := by rw [hfin]; simp
                  clear hfin HALL
                  go_wp2_with fail
                  refine HSM.out.mono ?_
                  rintro e w7 ⟨rfl, q7, rfl⟩
                  go_wp2_with fail
                  refine (HFR.out _).mono ?_
                  rintro e w8 ⟨rfl, hw⟩
                  obtain rfl := hw.symm
                  go_wp2_with fail
                  refine (HGR.out _).mono ?_
                  rintro e w8 ⟨rfl, hw⟩
                  obtain rfl := hw.symm
                  go_wp2_with fail
                  refine (HFR.out _).mono ?_
                  rintro e w8 ⟨rfl, hw⟩
                  obtain rfl := hw.symm
                  go_wp2_with fail
                  go_ret
                  exact ⟨rfl, below_drewN HK6.out _⟩
                · clear HALL
                  go_wp2_with fail
                  refine HSM.out.mono ?_
                  rintro e w7 ⟨rfl, q7, rfl⟩
                  go_wp2_with fail
                  refine (HFR.out _).mono ?_
                  rintro e w8 ⟨rfl, hw⟩
                  obtain rfl := hw.symm
                  go_wp2_with fail
                  refine (HGR.out _).mono ?_
                  rintro e w8 ⟨rfl, hw⟩
                  obtain rfl := hw.symm
                  go_wp2_with fail
                  go_ret
                  exact ⟨rfl, below_drewN HK6.out _⟩
end Go.Proofs.Ytjllmhnicmonbaa
