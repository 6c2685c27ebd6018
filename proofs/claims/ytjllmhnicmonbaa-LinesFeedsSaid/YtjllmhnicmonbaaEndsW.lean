/- LinesEnds walked. -/
import Derived.Test.YtjllmhnicmonbaaSmall
namespace Go.Proofs.Ytjllmhnicmonbaa
open Go Go.RowKit

theorem seq_at {w : World} {A : Option Addr} {n c k : Nat} {xs : List Value} (h : Seq w (.slice A n c) xs) (hk : k < xs.length) : ∃ b o, A = some ⟨b, o, none⟩ ∧ w.cell? ⟨b, o + k, none⟩ = some xs[k] := by
  obtain ⟨A', c', hv, _, _, h⟩ := h
  injection hv with h1
  subst h1
  rcases h with rfl | ⟨b, o, rfl, h⟩
  · cases hk
  · exact ⟨b, o, rfl, h k _ (List.getElem?_eq_getElem hk)⟩
theorem row_seq {w : World} {B : Nat} {v : Value} {L : List (List UInt8)} (h : w.ownsRow B 9 1 v L.length (L.map sv)) : Seq w v (L.map sv) := Seq.of_own (by simpa using h)
theorem eq_of_lists {a b : List UInt8} (h : a = b) : ((bs a).toList == (bs b).toList) = true := by rw [h]; simp
theorem ne_of_lists {a b : List UInt8} (h : a ≠ b) : ((bs a).toList == (bs b).toList) = false := by
  rw [beq_eq_false_iff_ne]
  exact fun e => h (bs_inj (toList_inj e))
theorem ne_bang {a b : List UInt8} (h : (a == b) = false) : (a != b) = true := by rw [bne, h]; rfl
theorem keep_drewN (w : World) (n : Nat) : ∀ b, b < w.heap.size → (w.drewN n).heap[b]? = w.heap[b]? := fun _ _ => rfl
theorem below_drewN {a w : World} (h : Below a.heap.size a w) (n : Nat) : Below a.heap.size a (w.drewN n) := ⟨h.os, h.tape, h.output, h.size, h.block⟩
set_option maxHeartbeats 8000000 in
set_option maxRecDepth 100000 in
theorem linesEnds_w (s : ByteArray) (hs0 : s.data.toList.length ≤ 140737488355328) (w : World) :
    Calls Try.prog 8 #[.string s] w fun e w' => e = .returned (.bool true) ∧ Below w.heap.size w w' := by
  have hsz : s.data.toList.length = s.size := rfl
  rw [hsz] at hs0
  by_cases big : 10000 < s.size
  · have big' : (10000 : Int) < (s.size : Int) := by omega
    go_enter Try.func8, Try.ntmps8
    go_wp2_with fail
    refine (small_c w).mono ?_
    rintro e w1 ⟨rfl, k1⟩
    have B1 := Lib.hid k1
    clear k1
    go_wp2_with fail
    go_ret
    exact ⟨rfl, B1.out⟩
  · have big' : ¬ (10000 : Int) < (s.size : Int) := by omega
    have hcl : (bs (Ln.crlf s.data.toList)).size ≤ 1000000 := by
      have h1 := map_len Ln.crlf1 crlf1_le (Ln.lns s.data.toList) (fun l hl => Ln.ne_nil (Ln.lns_mem hl))
      rw [Ln.flat, hsz] at h1
      rw [bs_size]
      exact Nat.le_trans h1 (by omega)
    have hcr := fun u => Crlf_c s (by omega) u
    have hcc := fun u => Crlf_c (bs (Ln.crlf s.data.toList)) hcl u
    have hsp := fun u => Split_c s (by omega) u
    have hsq := fun u => Split_c (bs (Ln.crlf s.data.toList)) hcl u
    rw [bs_data, Ln.crlf_crlf] at hcc
    rw [bs_data, Ln.lns_crlf] at hsq
    have hmem : ∀ x ∈ Ln.lns s.data.toList, Ln.T x ∨ Ln.U x := fun x hx => Ln.lns_mem hx
    have hlen : ∀ x ∈ Ln.lns s.data.toList, x.length ≤ 10000 := fun x hx => by
      obtain ⟨pre, post, h⟩ := List.append_of_mem hx
      have := (part_len h).1
      omega
    have hll := Ln.lns_len s.data.toList
    generalize Ln.lns s.data.toList = L at hsp hsq hmem hlen hll
    generalize bs (Ln.crlf s.data.toList) = t at hcl hcr hcc hsq
    have HCR := Lib.hid hcr
    have HCC := Lib.hid hcc
    have HSP := Lib.hid hsp
    have HSQ := Lib.hid hsq
    have HMEM := Lib.hid hmem
    have HLEN := Lib.hid hlen
    have hLl : L.length ≤ 10000 := by omega
    clear hcr hcc hsp hsq hmem hlen hsz hll
    go_enter Try.func8, Try.ntmps8
    go_wp2_with fail
    refine (small_c w).mono ?_
    rintro e w1 ⟨rfl, k1⟩
    have B1 := Lib.hid k1
    clear k1
    go_wp2_with fail
    refine (HCR.out w1).mono ?_
    rintro e w2 ⟨rfl, k2⟩
    have B2 := Lib.hid (chain B1.out k2)
    clear k2 B1
    go_wp2_with fail
    refine (HSP.out w2).mono ?_
    rintro e w3 ⟨v3, rfl, own3, k3⟩
    obtain ⟨A3, c3, rfl⟩ := own_len own3
    have S3 := row_seq own3
    have B3 := Lib.hid (chain B2.out k3)
    clear k3 B2 own3
    have HS3 := Lib.hid S3
    clear S3
    go_wp2_with fail
    refine (HSQ.out w3).mono ?_
    rintro e w4 ⟨v4, rfl, own4, k4⟩
    have S4 := row_seq own4
    obtain ⟨A4, c4, rfl⟩ := own_len own4
    rw [List.length_map] at S4 ⊢
    have HS4 := Lib.hid S4
    have B4 := Lib.hid (chain B3.out k4)
    have HT4 := Lib.hid (HS3.out.below k4)
    clear k4 B3 own4 S4 HS3
    go_wp2_with fail
    go_loopw [7, 8] (fun i _ wr => ∃ k : Nat, k ≤ L.length ∧ i = .int .i64 k ∧ Hid (Seq wr (.slice A3 L.length c3) (L.map sv)) ∧ Hid (Seq wr (.slice A4 L.length c4) ((L.map Ln.crlf1).map sv)) ∧ Hid (Below w.heap.size w wr)) (fun i _ _ => L.length - (intOf i).toNat)
    case atStart => exact ⟨0, by omega, rfl, HT4, HS4, B4⟩
    case round =>
      obtain ⟨k, hk, rfl, HX, HY, HB⟩ := hrel
      clear HT4 HS4 B4
      by_cases k1 : k < L.length
      · obtain ⟨b3, o3, rfl, hc3⟩ := seq_at (k := k) HX.out (by simpa using k1)
        obtain ⟨b4, o4, rfl, hc4⟩ := seq_at (k := k) HY.out (by simpa using k1)
        have hc3' : wr.cell? ⟨b3, o3 + k, none⟩ = some (.string (bs L[k])) := by rw [hc3, List.getElem_map]; rfl
        have hc4' : wr.cell? ⟨b4, o4 + k, none⟩ = some (.string (bs (Ln.crlf1 L[k]))) := by rw [hc4, List.getElem_map, List.getElem_map]; rfl
        have hx := HMEM.out L[k] (List.getElem_mem k1)
        have hxl := HLEN.out L[k] (List.getElem_mem k1)
        clear hc3 hc4
        generalize L[k] = x at hc3' hc4' hx hxl
        have hml := crlf1_le x
        have hbx := fun u => Bare_c (bs x) u (by rw [bs_size]; omega)
        have hbm := fun u => Bare_c (bs (Ln.crlf1 x)) u (by rw [bs_size]; omega)
        rw [bs_data] at hbx hbm
        rw [Ln.bare_crlf1 hx] at hbm
        have i0 : (0 : Int) ≤ (k : Int) := by omega
        have i1 : (k : Int) < (L.length : Int) := by omega
        rcases hx with ht | hu
        · have hne : x ≠ Ln.bare x := by
            obtain ⟨b, rfl, _⟩ := ht
            intro e
            have := congrArg List.length e
            have := Ln.bare_lt (b := b)
            omega
          have e1 := ne_of_lists hne
          have e2 := ne_bang e1
          have hm2 : Ln.crlf1 x = Ln.bare x ++ [13, 10] := by unfold Ln.crlf1; rw [Ln.ends_T ht]; rfl
          have e3 : (((bs (Ln.crlf1 x)).size : Int) == ((bs (Ln.bare x)).size : Int) + 2) = true := by
            rw [beq_iff_eq, bs_size, bs_size, hm2, List.length_append]
            simp
          have hbl : (bs (Ln.bare x)).size ≤ 100000 := by
            rw [bs_size]
            have := congrArg List.length hm2
            simp only [List.length_append, List.length_cons, List.length_nil] at this
            omega
          generalize bs (Ln.crlf1 x) = M at hc4' hbm e3
          generalize bs (Ln.bare x) = Bx at hbx hbm e1 e2 e3 hbl
          generalize bs x = X at hc3' hbx e1 e2
          have HBX := Lib.hid hbx
          have HBM := Lib.hid hbm
          clear hbx hbm hne hm2 ht
          go_wp2_with fail
          go_quiet ((go_at_call 13; exact Calls.quiet_of_same (HBX.out _)))
          generalize hW : World.drewN _ _ = W1
          have HX1 := Lib.hid (show Seq W1 (.slice (some ⟨b3, o3, none⟩) L.length c3) (L.map sv) by rw [← hW]; exact HX.out.keep (fun _ _ => rfl))
          have HY1 := Lib.hid (show Seq W1 (.slice (some ⟨b4, o4, none⟩) L.length c4) ((L.map Ln.crlf1).map sv) by rw [← hW]; exact HY.out.keep (fun _ _ => rfl))
          have HB1 := Lib.hid (show Below w.heap.size w W1 by rw [← hW]; exact below_drewN HB.out _)
          have hc3 : W1.cell? ⟨b3, o3 + k, none⟩ = some (.string X) := by rw [← hW]; exact hc3'
          have hc4 : W1.cell? ⟨b4, o4 + k, none⟩ = some (.string M) := by rw [← hW]; exact hc4'
          clear hW hc3' hc4' HX HY HB
          go_wp2_with fail
          go_quiet ((first
            | (go_at_call 13; (with_reducible show Calls _ _ #[.string X] _ _); exact Calls.quiet_of_same (HBX.out _))
            | (go_at_call 13; (with_reducible show Calls _ _ #[.string M] _ _); exact Calls.quiet_of_same (HBM.out _))))
          go_wp2_with fail
          go_roundw
          case rel => exact ⟨k + 1, by omega, by go_num, Lib.hid (HX1.out.keep (fun _ _ => rfl)), Lib.hid (HY1.out.keep (fun _ _ => rfl)), Lib.hid (below_drewN HB1.out _)⟩
          case measure => simp [intOf] <;> omega
        · have he : Ln.bare x = x := Ln.bare_U hu.2
          have hm2 : Ln.crlf1 x = x := Ln.crlf1_U hu
          rw [he] at hbx hbm
          rw [hm2] at hbm hc4'
          have e3 : (((bs x).size : Int) == ((bs x).size : Int) + 2) = false := by rw [beq_eq_false_iff_ne]; omega
          have hbl : (bs x).size ≤ 100000 := by rw [bs_size]; omega
          generalize bs x = X at hc3' hc4' hbx hbm e3 hbl
          have HBX := Lib.hid hbx
          clear hbx hbm hm2 he hu hml
          go_wp2_with fail
          go_quiet ((go_at_call 13; exact Calls.quiet_of_same (HBX.out _)))
          generalize hW : World.drewN _ _ = W1
          have HX1 := Lib.hid (show Seq W1 (.slice (some ⟨b3, o3, none⟩) L.length c3) (L.map sv) by rw [← hW]; exact HX.out.keep (fun _ _ => rfl))
          have HY1 := Lib.hid (show Seq W1 (.slice (some ⟨b4, o4, none⟩) L.length c4) ((L.map Ln.crlf1).map sv) by rw [← hW]; exact HY.out.keep (fun _ _ => rfl))
          have HB1 := Lib.hid (show Below w.heap.size w W1 by rw [← hW]; exact below_drewN HB.out _)
          have hc3 : W1.cell? ⟨b3, o3 + k, none⟩ = some (.string X) := by rw [← hW]; exact hc3'
          have hc4 : W1.cell? ⟨b4, o4 + k, none⟩ = some (.string X) := by rw [← hW]; exact hc4'
          clear hW hc3' hc4' HX HY HB
          go_wp2_with fail
          go_quiet ((go_at_call 13; exact Calls.quiet_of_same (HBX.out _)))
          go_wp2_with fail
          go_roundw
          case rel => exact ⟨k + 1, by omega, by go_num, Lib.hid (HX1.out.keep (fun _ _ => rfl)), Lib.hid (HY1.out.keep (fun _ _ => rfl)), Lib.hid (below_drewN HB1.out _)⟩
          case measure => simp [intOf] <;> omega
      · obtain rfl : k = L.length := by omega
        go_wp2_with fail
        refine (HCC.out wr).mono ?_
        rintro e w8 ⟨rfl, k8⟩
        have HB8 := Lib.hid (chain HB.out k8)
        clear k8
        go_wp2_with fail
        go_ret
        exact ⟨rfl, HB8.out⟩
end Go.Proofs.Ytjllmhnicmonbaa
