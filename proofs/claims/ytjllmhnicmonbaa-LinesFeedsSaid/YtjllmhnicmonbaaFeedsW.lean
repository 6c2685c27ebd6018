/- LinesFeeds walked. -/
import Derived.Test.YtjllmhnicmonbaaToldC
import Derived.Deep.RegionHeld3
namespace Go.Proofs.Ytjllmhnicmonbaa
open Go Go.RowKit

theorem WR.frame {B n : Nat} {xs : List (List UInt8)} {vo : Value} {RV : List Value} {u u' : World} (h : WR B n xs vo RV u) (hk : ∀ k, k < u.heap.size → B ≤ k → u'.heap[k]? = u.heap[k]?) : WR B n xs vo RV u' :=
  ⟨own_keep h.1 fun b hb' => by obtain ⟨hB, _, hc⟩ := row_block h.1 hb'; exact hk b (blk_lt hc) hB, h.2.1, fun j v hv => own_keep (h.2.2 j v hv) fun b hb' => by obtain ⟨hB, _, hc⟩ := row_block (h.2.2 j v hv) hb'; exact hk b (blk_lt hc) hB⟩
theorem WR.at {B n : Nat} {xs : List (List UInt8)} {A : Option Addr} {m c : Nat} {RV : List Value} {u : World} (h : WR B n xs (.slice A m c) RV u) {i : Nat} (hi : i < RV.length) : ∃ b, A = some ⟨b, 0, none⟩ ∧ B ≤ b ∧ u.cell? ⟨b, i, none⟩ = some RV[i] ∧ b < u.heap.size ∧ Seq u RV[i] ((Ln.stp n xs i).map sv) := by
  have hs : Seq u RV[i] ((Ln.stp n xs i).map sv) := row_seq (h.2.2 i _ (List.getElem?_eq_getElem hi))
  have h1 := h.1
  rcases h1.2 with ⟨_, h0⟩ | ⟨g, cap, cur, hv, hB, hg, r⟩
  · omega
  · injection hv with e1 e2 e3
    subst e1
    refine ⟨g, rfl, hB, ?_, blk_lt hg, hs⟩
    have := h1.cells (g := g) (by rw [e2, e3]; rfl) i RV[i] (List.getElem?_eq_getElem hi)
    simpa [Addr.add_lit] using this
theorem same_refl (va vb : Value) (xs : List (List UInt8)) (w : World) (ha : Seq w va (xs.map sv)) (hb : Seq w vb (xs.map sv)) : Calls Try.prog 10 #[va, vb] w fun e w' => e = .returned (.bool true) ∧ ∃ n, w' = w.drewN n := by
  have h := SameTexts_c va vb xs xs w ha hb
  rw [decide_eq_true rfl] at h
  exact h
theorem push_stp (n : Nat) (xs : List (List UInt8)) {i : Nat} (h : i < xs.length) : Ln.pushF n (Ln.tells n (xs.take i).flatten).2 (Ln.lns xs[i]) = (Ln.stp n xs i, (Ln.tells n (xs.take (i + 1)).flatten).2) := by
  have h1 := Ln.push_told n (Ln.rem (Ln.lns (xs.take i).flatten)) xs[i] (Ln.rem_no _)
  have h2 := Ln.tells_push n (xs.take i).flatten xs[i]
  rw [← Ln.flat_succ xs h] at h2
  have h3 : Ln.stp n xs i = (Ln.pushF n (Ln.tells n (xs.take i).flatten).2 (Ln.lns xs[i])).1 := by
    show _ = (Ln.pushF n ((Ln.rem (Ln.lns (xs.take i).flatten)).take n) (Ln.lns xs[i])).1
    rw [h1]
    unfold Ln.stp
    rw [List.getD_eq_getElem?_getD, List.getElem?_eq_getElem h]
    rfl
  rw [h3, ← h2]
set_option maxHeartbeats 1500000 in
set_option maxRecDepth 100000 in
theorem linesFeeds_w (most : Int) (_hm : -9223372036854775808 ≤ most ∧ most ≤ 9223372036854775807) (v1 : Value) (xs : List (List UInt8)) (w : World) (q1 : Seq w v1 (xs.map sv)) (b1 : ∀ y ∈ xs, y.length ≤ 140737488355328) (z1 : xs.length ≤ 8796093022208) :
    Calls Try.prog 4 #[.int .i64 most, v1] w fun e w' => e = .returned (.bool true) ∧ Below w.heap.size w w' := by
  have Q1 := Lib.hid q1
  obtain ⟨A, c, rfl, -, -, -⟩ := q1
  rw [List.length_map] at Q1 ⊢
  have hfew := fun u (hb : Below w.heap.size w u) => few_c A c xs u (Q1.out.below hb) b1 z1
  have HFEW := Lib.hid hfew
  clear hfew b1
  cases hfw : fewB xs
  · rw [hfw] at HFEW
    clear hfw
    go_enter Try.func4, Try.ntmps4
    go_wp2_with fail
    refine (small_c w).mono ?_
    rintro e w1 ⟨rfl, k1⟩
    have K1 := Lib.hid k1
    clear k1
    go_wp2_with fail
    refine (HFEW.out w1 K1.out).mono ?_
    rintro e w1' ⟨rfl, hw⟩
    obtain rfl := hw.symm
    go_wp2_with fail
    refine (New_c most w1).mono ?_
    rintro e w2 ⟨rfl, hw2⟩
    have K2 := Lib.hid (show Below w.heap.size w w2 by rw [hw2]; exact K1.out.alloc K1.out.size _)
    clear hw2
    go_wp2_with fail
    go_ret
    exact ⟨rfl, K2.out⟩
  · rw [hfw] at HFEW
    have hxl : xs.length ≤ 30 ∧ xs.flatten.length ≤ 3000 := by
      unfold fewB at hfw
      rw [Bool.and_eq_true, decide_eq_true_iff, decide_eq_true_iff] at hfw
      refine ⟨hfw.1, ?_⟩
      have := hfw.2
      rwa [List.take_of_length_le (by omega)] at this
    obtain ⟨hxl, hxf⟩ := hxl
    clear hfw
    have hn1 := lim_lo most
    have hn2 := lim_hi most
    have hnew := fun u => New_c most u
    have htold := fun u (hb : Below w.heap.size w u) => Told_c most A c xs u (Q1.out.below hb) hxl hxf
    generalize lim most = n at hn1 hn2 hnew htold
    have HNEW := Lib.hid hnew
    have HTOLD := Lib.hid htold
    clear hnew htold
    go_enter Try.func4, Try.ntmps4
    go_wp2_with fail
    refine (small_c w).mono ?_
    rintro e w1 ⟨rfl, k1⟩
    have K1 := Lib.hid k1
    clear k1
    go_wp2_with fail
    refine (HFEW.out w1 K1.out).mono ?_
    rintro e w1' ⟨rfl, hw⟩
    obtain rfl := hw.symm
    clear HFEW
    go_wp2_with fail
    refine (HNEW.out w1).mono ?_
    rintro e w2 ⟨rfl, hw2⟩
    have K2 := Lib.hid (show Below w.heap.size w w2 by rw [hw2]; exact K1.out.alloc K1.out.size _)
    have F2 := Lib.hid (show ∀ B, Fd w2 B w1.heap.size n [] by intro B; rw [hw2]; exact fd_new w1 B n)
    have z2 : w1.heap.size < w2.heap.size := by rw [hw2]; simp
    have z0 := K1.out.size
    generalize w1.heap.size = f at F2 z2 z0 ⊢
    clear hw2 K1 HNEW
    go_wp2_with fail
    refine (HTOLD.out w2 K2.out).mono ?_
    rintro e w4 ⟨⟨vo, RV, hRV, rfl, hR4⟩, k4⟩
    obtain ⟨A4, c4, rfl⟩ := own_len hR4.1
    rw [hRV] at hR4 ⊢
    have HR4 := Lib.hid hR4
    have h0 := Lib.hid (FS.start ((F2.out w4.heap.size).below k4))
    have K4 := Lib.hid (chain K2.out k4)
    have z4 := k4.size
    clear hR4 k4 K2 F2 HTOLD
    go_wp2_with fail
    go_loopw [10] (fun iv wr => ∃ (wz : World) (i : Nat), wr = wz ∧ i ≤ xs.length ∧ iv = .int .i64 i ∧ Hid (FS w4 f n [] (Ln.tells n (xs.take i).flatten).2 (.slice none 0 0) wz)) (fun iv _ => xs.length - (intOf iv).toNat)
    case atStart => exact ⟨w4, 0, rfl, by omega, rfl, Lib.hid (by rw [List.take_zero, List.flatten_nil, Ln.tells_nil]; exact h0.out)⟩
    case round =>
      obtain ⟨wz, i, hw, hik, rfl, HS⟩ := hrel
      obtain rfl := hw.symm
      clear h0
      have KR := Lib.hid (HS.out.below K4.out z0)
      have zr := HS.out.size
      by_cases k1 : i < xs.length
      · obtain ⟨b3, o3, rfl, hc3⟩ := seq_at (k := i) (Q1.out.below KR.out) (by simpa using k1)
        rw [List.getElem_map, sv] at hc3
        obtain ⟨b3', o3', he3, hq3⟩ := seq_at (k := i) Q1.out (by simpa using k1)
        injection he3 with he3
        injection he3 with h31 h32
        have hb3 : b3 < w.heap.size := by rw [h31]; exact World.block_lt_of_cell? w _ hq3
        clear hq3 h31 h32
        have hRz := HR4.out.frame (u' := wz) (fun k hk hB => HS.out.2.2.2 k hk (by omega))
        obtain ⟨b4, rfl, hb4, hc4, hb4', hq4⟩ := hRz.at (i := i) (by omega)
        have hb4w : b4 < w4.heap.size := by
          obtain ⟨b9, he9, _, _, h9, _⟩ := HR4.out.at (i := i) (by omega)
          injection he9 with he9
          injection he9 with he9
          rw [he9]
          exact h9
        have hup := flat_upto xs (i + 1)
        have hsucc := congrArg List.length (Ln.flat_succ xs k1)
        rw [List.length_append] at hsucc
        obtain ⟨_, tl2⟩ := Ln.tells_len n (xs.take i).flatten
        have hpush := Push_c w4.heap.size f n (Ln.tells n (xs.take i).flatten).2 (bs xs[i]) (by rw [bs_size]; omega) hn1 hn2 wz.drew tl2 HS.out.1 zr
        rw [bs_data, push_stp n xs k1] at hpush
        dsimp only at hpush
        have HPUSH := Lib.hid hpush
        have hqq : ∀ u : World, (∀ k, k < w4.heap.size → w2.heap.size ≤ k → u.heap[k]? = w4.heap[k]?) → Seq u RV[i] ((Ln.stp n xs i).map sv) := fun u hk => by
          obtain ⟨_, _, _, _, _, h⟩ := (HR4.out.frame (u' := u) hk).at (i := i) (by omega)
          exact h
        have HQ4 := Lib.hid hqq
        clear hpush hup hsucc hRz hq4 hqq
        generalize Ln.stp n xs i = L at HPUSH HQ4
        generalize hr2 : (Ln.tells n (xs.take (i + 1)).flatten).2 = r2 at HPUSH
        have HR2 := Lib.hid hr2
        clear hr2
        generalize bs xs[i] = X at hc3 HPUSH
        generalize RV[i] = v4 at hc4 HQ4
        have i0 : (0 : Int) ≤ (i : Int) := by omega
        have i1 : (i : Int) < (xs.length : Int) := by omega
        have hkeep : ∀ u, Pw w4.heap.size f wz.drew u → ∀ k, k < w4.heap.size → k ≠ f → u.heap[k]? = wz.heap[k]? := fun u P k hk hf => P.2.1 k hk (Nat.lt_of_lt_of_le hk zr) hf
        have HKEEP := Lib.hid hkeep
        clear hkeep
        have d3 : wz.drew.cell? ⟨b3, o3 + i, none⟩ = some (.string X) := hc3
        have d4 : wz.drew.cell? ⟨b4, i, none⟩ = some v4 := hc4
        have HS1 := Lib.hid (show FS w4 f n [] (Ln.tells n (xs.take i).flatten).2 (.slice none 0 0) wz.drew from HS.out)
        go_wp2_with fail
        go_region_held3 (fun w' => w'.cell? ⟨b3, o3 + i, none⟩ = some (.string X) ∧ w'.cell? ⟨b4, i, none⟩ = some v4) (first | exact ⟨hc3, hc4⟩ | exact ⟨d3, d4⟩ | exact e1 | exact e2) ((first | (go_at_call 24; refine HPUSH.out.mono ?_; rintro e w5 ⟨v5, rfl, own5, F5, P5⟩; have kk5 := HKEEP.out w5 P5; have e1 : w5.cell? ⟨b3, o3 + i, none⟩ = some (.string X) ∧ w5.cell? ⟨b4, i, none⟩ = some v4 := ⟨(World.cell?_of_block (w := wz) (kk5 b3 (by omega) (by omega))).trans hc3, (World.cell?_of_block (w := wz) (kk5 b4 (by omega) (by omega))).trans hc4⟩; have SM := Lib.hid (same_refl v5 v4 L w5 (row_seq own5) (HQ4.out w5 (fun k hk hB => (kk5 k hk (by omega)).trans (HS.out.2.2.2 k hk (by omega))))); have FF := Lib.hid (HS1.out.push (by omega) P5 F5)) | (go_at_call 10; refine SM.out.mono ?_; rintro e w6 ⟨rfl, n6, rfl⟩; have e2 : (w5.drewN n6).cell? ⟨b3, o3 + i, none⟩ = some (.string X) ∧ (w5.drewN n6).cell? ⟨b4, i, none⟩ = some v4 := e1)))
        have HF6 := Lib.hid (show FS w4 f n [] r2 (.slice none 0 0) (w5.drewN n6) from FF.out)
        go_wp2_with fail
        go_roundw
        case rel => exact ⟨_, i + 1, rfl, by omega, by go_num, by rw [HR2.out]; exact HF6⟩
        case measure => simp [intOf] <;> omega
      · obtain rfl : i = xs.length := by omega
        rw [List.take_of_length_le (Nat.le_refl _)] at HS
        have hfr := Rest_c _ f n _ wz HS.out.1
        generalize (Ln.tells n xs.flatten).2 = r at hfr ⊢
        have HFR := Lib.hid hfr
        clear hfr
        generalize bs r = R at HFR ⊢
        go_wp2_with fail
        refine HFR.out.mono ?_
        rintro e w8 ⟨rfl, hw⟩
        obtain rfl := hw.symm
        go_wp2_with fail
        go_ret
        exact ⟨rfl, KR.out⟩
end Go.Proofs.Ytjllmhnicmonbaa
