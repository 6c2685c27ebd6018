/- LinesDots walked. -/
import Derived.Test.YtjllmhnicmonbaaEndsW
namespace Go.Proofs.Ytjllmhnicmonbaa
open Go Go.RowKit

set_option maxHeartbeats 8000000 in
set_option maxRecDepth 100000 in
theorem linesDots_w (s : ByteArray) (hs0 : s.data.toList.length ≤ 140737488355328) (w : World) :
    Calls Try.prog 7 #[.string s] w fun e w' => e = .returned (.bool true) ∧ Below w.heap.size w w' := by
  have hsz : s.data.toList.length = s.size := rfl
  rw [hsz] at hs0
  by_cases big : 10000 < s.size
  · have big' : (10000 : Int) < (s.size : Int) := by omega
    go_enter Try.func7, Try.ntmps7
    go_wp2_with fail
    refine (small_c w).mono ?_
    rintro e w1 ⟨rfl, k1⟩
    have B1 := Lib.hid k1
    clear k1
    go_wp2_with fail
    go_ret
    exact ⟨rfl, B1.out⟩
  · have big' : ¬ (10000 : Int) < (s.size : Int) := by omega
    have hcl : (bs (Ln.stuff s.data.toList)).size ≤ 1000000 := by
      have h1 := map_len Ln.stuff1 stuff1_le (Ln.lns s.data.toList) (fun l hl => Ln.ne_nil (Ln.lns_mem hl))
      rw [Ln.flat, hsz] at h1
      rw [bs_size]
      exact Nat.le_trans h1 (by omega)
    have hcl2 : (bs (Ln.crlf s.data.toList)).size ≤ 1000000 := by
      have h1 := map_len Ln.crlf1 crlf1_le (Ln.lns s.data.toList) (fun l hl => Ln.ne_nil (Ln.lns_mem hl))
      rw [Ln.flat, hsz] at h1
      rw [bs_size]
      exact Nat.le_trans h1 (by omega)
    have hst := fun u => Stuff_c s (by omega) u
    have hun := fun u => Unstuff_c (bs (Ln.stuff s.data.toList)) hcl u
    have hct := fun u => Crlf_c (bs (Ln.stuff s.data.toList)) hcl u
    have hcs := fun u => Crlf_c s (by omega) u
    have hsc := fun u => Stuff_c (bs (Ln.crlf s.data.toList)) hcl2 u
    have hsp := fun u => Split_c s (by omega) u
    have hsq := fun u => Split_c (bs (Ln.stuff s.data.toList)) hcl u
    rw [bs_data, Ln.unst_stuff, bs_self] at hun
    rw [bs_data, Ln.crlf_stuff] at hct
    rw [bs_data] at hsc
    rw [bs_data, Ln.lns_stuff] at hsq
    have hmem : ∀ x ∈ Ln.lns s.data.toList, Ln.T x ∨ Ln.U x := fun x hx => Ln.lns_mem hx
    have hlen : ∀ x ∈ Ln.lns s.data.toList, x.length ≤ 10000 := fun x hx => by
      obtain ⟨pre, post, h⟩ := List.append_of_mem hx
      have := (part_len h).1
      omega
    have hll := Ln.lns_len s.data.toList
    generalize Ln.lns s.data.toList = L at hsp hsq hmem hlen hll
    generalize bs (Ln.stuff s.data.toList) = t at hcl hst hun hct hsq
    generalize bs (Ln.stuff (Ln.crlf s.data.toList)) = z at hct hsc
    generalize bs (Ln.crlf s.data.toList) = y at hcl2 hcs hsc
    have HST := Lib.hid hst
    have HUN := Lib.hid hun
    have HCT := Lib.hid hct
    have HCS := Lib.hid hcs
    have HSC := Lib.hid hsc
    have HSP := Lib.hid hsp
    have HSQ := Lib.hid hsq
    have HMEM := Lib.hid hmem
    have HLEN := Lib.hid hlen
    have hLl : L.length ≤ 10000 := by omega
    clear hst hun hct hcs hsc hsp hsq hmem hlen hsz hll
    go_enter Try.func7, Try.ntmps7
    go_wp2_with fail
    refine (small_c w).mono ?_
    rintro e w1 ⟨rfl, k1⟩
    have B1 := Lib.hid k1
    clear k1
    go_wp2_with fail
    refine (HST.out w1).mono ?_
    rintro e w2 ⟨rfl, k2⟩
    have B2 := Lib.hid (chain B1.out k2)
    clear k2 B1
    go_wp2_with fail
    refine (HSP.out w2).mono ?_
    rintro e w3 ⟨v3, rfl, own3, k3⟩
    obtain ⟨A3, c3, rfl⟩ := own_len own3
    have S3 := row_seq own3
    have B3 := Lib.hid (chain B2.out k3)
    clear k3 B2 own3
    have HS3 := Lib.hid S3
    clear S3
    go_wp2_with fail
    refine (HSQ.out w3).mono ?_
    rintro e w4 ⟨v4, rfl, own4, k4⟩
    have S4 := row_seq own4
    obtain ⟨A4, c4, rfl⟩ := own_len own4
    rw [List.length_map] at S4 ⊢
    have HS4 := Lib.hid S4
    have B4 := Lib.hid (chain B3.out k4)
    have HT4 := Lib.hid (HS3.out.below k4)
    clear k4 B3 own4 S4 HS3
    go_wp2_with fail
    go_loopw [7] (fun i wr => ∃ k : Nat, k ≤ L.length ∧ i = .int .i64 k ∧ Hid (Seq wr (.slice A3 L.length c3) (L.map sv)) ∧ Hid (Seq wr (.slice A4 L.length c4) ((L.map Ln.stuff1).map sv)) ∧ Hid (Below w.heap.size w wr)) (fun i _ => L.length - (intOf i).toNat)
    case atStart => exact ⟨0, by omega, rfl, HT4, HS4, B4⟩
    case round =>
      obtain ⟨k, hk, rfl, HX, HY, HB⟩ := hrel
      clear HT4 HS4 B4
      by_cases k1 : k < L.length
      · obtain ⟨b3, o3, rfl, hc3⟩ := seq_at (k := k) HX.out (by simpa using k1)
        obtain ⟨b4, o4, rfl, hc4⟩ := seq_at (k := k) HY.out (by simpa using k1)
        have hc3' : wr.cell? ⟨b3, o3 + k, none⟩ = some (.string (bs L[k])) := by rw [hc3, List.getElem_map]; rfl
        have hc4' : wr.cell? ⟨b4, o4 + k, none⟩ = some (.string (bs (Ln.stuff1 L[k]))) := by rw [hc4, List.getElem_map, List.getElem_map]; rfl
        have hx := HMEM.out L[k] (List.getElem_mem k1)
        have hxl := HLEN.out L[k] (List.getElem_mem k1)
        clear hc3 hc4
        generalize L[k] = x at hc3' hc4' hx hxl
        have hml := stuff1_le x
        have hbx := fun u => Bare_c (bs x) u (by rw [bs_size]; omega)
        have hbm := fun u => Bare_c (bs (Ln.stuff1 x)) u (by rw [bs_size]; omega)
        rw [bs_data] at hbx hbm
        have hne := Ln.bare_stuff1_ne hx
        obtain ⟨q1, q2, q3⟩ := Ln.bare_stuff1_len hx
        have e1 : ((bs (Ln.bare (Ln.stuff1 x))).toList == [46]) = false := by
          rw [beq_eq_false_iff_ne, Lib.toList_data, bs_data]
          exact hne
        have e2 : ¬ (bs (Ln.bare (Ln.stuff1 x))).toList = [46] := by simpa using e1
        rw [← bs_size (Ln.stuff1 x)] at q1 q3 hml
        rw [← bs_size (Ln.bare (Ln.stuff1 x))] at q1 q3
        rw [← bs_size x] at q1 q2 hml hxl
        rw [← bs_size (Ln.bare x)] at q1 q2
        have i0 : (0 : Int) ≤ (k : Int) := by omega
        have i1 : (k : Int) < (L.length : Int) := by omega
        generalize bs (Ln.bare (Ln.stuff1 x)) = Bm at hbm e1 e2 q1 q3
        generalize bs (Ln.stuff1 x) = M at hc4' hbm q1 q3 hml
        generalize bs (Ln.bare x) = Bx at hbx q1 q2
        generalize bs x = X at hc3' hbx q1 q2 hml hxl
        have HBX := Lib.hid hbx
        have HBM := Lib.hid hbm
        have w1 : IntKind.i64.wrap ((M.size : Int) - (Bm.size : Int)) = (M.size : Int) - (Bm.size : Int) := by rw [IntKind.wrap_i64]; omega
        have w2 : IntKind.i64.wrap ((X.size : Int) - (Bx.size : Int)) = (X.size : Int) - (Bx.size : Int) := by rw [IntKind.wrap_i64]; omega
        have e3 : ((M.size : Int) - (Bm.size : Int) == (X.size : Int) - (Bx.size : Int)) = true := by rw [beq_iff_eq]; omega
        have e4 : ((M.size : Int) - (Bm.size : Int) != (X.size : Int) - (Bx.size : Int)) = false := by rw [bne, e3]; rfl
        clear hbx hbm hne hx q1
        go_wp2_with fail
        go_quiet ((first
          | (go_at_call 13; (with_reducible show Calls _ _ #[.string X] _ _); exact Calls.quiet_of_same (HBX.out _))
          | (go_at_call 13; (with_reducible show Calls _ _ #[.string M] _ _); exact Calls.quiet_of_same (HBM.out _))))
        go_wp2_with fail
        go_roundw
        case rel => exact ⟨k + 1, by omega, by go_num, Lib.hid (HX.out.keep (fun _ _ => rfl)), Lib.hid (HY.out.keep (fun _ _ => rfl)), Lib.hid (below_drewN HB.out _)⟩
        case measure => simp [intOf] <;> omega
      · obtain rfl : k = L.length := by omega
        go_wp2_with fail
        refine (HUN.out wr).mono ?_
        rintro e w8 ⟨rfl, k8⟩
        have HB8 := Lib.hid (chain HB.out k8)
        clear k8
        go_wp2_with fail
        refine (HCT.out w8).mono ?_
        rintro e w9 ⟨rfl, k9⟩
        have HB9 := Lib.hid (chain HB8.out k9)
        clear k9
        go_wp2_with fail
        refine (HCS.out w9).mono ?_
        rintro e w10 ⟨rfl, k10⟩
        have HB10 := Lib.hid (chain HB9.out k10)
        clear k10
        go_wp2_with fail
        refine (HSC.out w10).mono ?_
        rintro e w11 ⟨rfl, k11⟩
        have HB11 := Lib.hid (chain HB10.out k11)
        clear k11
        go_wp2_with fail
        go_ret
        exact ⟨rfl, HB11.out⟩
end Go.Proofs.Ytjllmhnicmonbaa
