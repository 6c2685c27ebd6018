/- Walks: the reference tells the lines that each chunk completes. -/
import Derived.Test.YtjllmhnicmonbaaTold
import Derived.Test.YtjllmhnicmonbaaPiecesW
import Derived.Test.YtjllmhnicmonbaaRefC
namespace Go.Proofs.Ytjllmhnicmonbaa
open Go Go.RowKit

theorem row_one {w : World} {B : Nat} {v : Value} {L : List (List UInt8)} {x : List UInt8} (h : w.ownsRow B 9 1 v (L.length + 1) (L.map sv ++ [.string (bs x)])) : w.ownsRow B 9 1 v (L ++ [x]).length ((L ++ [x]).map sv) := row_snoc h
theorem last_at (x : List UInt8) (h0 : x ≠ []) : ∃ (m : Nat) (h : m < (bs x).size), (bs x).size = m + 1 ∧ (((bs x)[m].toNat : Int) == 10) = Ln.ends x := by
  have hp := List.length_pos_iff.2 h0
  have h1 : (bs x).size - 1 < (bs x).size := by rw [bs_size]; omega
  refine ⟨_, h1, by rw [bs_size]; omega, byte_ten ?_⟩
  rw [bs_at x _ h1]
  unfold Ln.ends
  rw [List.getLast?_eq_getElem?, bs_size, List.getD_eq_getElem?_getD, List.getElem?_eq_getElem (by omega)]
  rfl
set_option maxHeartbeats 1500000 in
set_option maxRecDepth 100000 in
theorem Told_c (most : Int) (A : Option Addr) (c : Nat) (xs : List (List UInt8)) (w : World) (hs : Seq w (.slice A xs.length c) (xs.map sv)) (hxl : xs.length ≤ 30) (hxf : xs.flatten.length ≤ 3000) :
    Calls Try.prog 23 #[.int .i64 most, .slice A xs.length c] w fun e w' => (∃ vo RV, RV.length = xs.length ∧ e = .returned (.tuple #[vo, .string (bs (Ln.tells (lim most) xs.flatten).2)]) ∧ WR w.heap.size (lim most) xs vo RV w') ∧ Below w.heap.size w w' := by
  have HS := Lib.hid hs
  obtain ⟨j0, hi, hz0, hz1, hz2⟩ := info_parts infoStr
  obtain ⟨m0, mi, mz0, mz1, mz2⟩ := info_parts infoRow
  have hnl := lim_eq most
  generalize lim most = n at hnl ⊢
  clear hs
  go_enter Try.func23, Try.ntmps23
  go_wp2_with fail
  clear hnl
  go_loopw [7, 8, 9, 10, 11, 12] (fun st vo iv _ _ _ wr => ∃ (i : Nat) (RV : List Value), i ≤ xs.length ∧ RV.length = i ∧ iv = .int .i64 i ∧ st = .string (bs (Ln.rem (Ln.lns (xs.take i).flatten))) ∧ Hid (WR w.heap.size n xs vo RV wr) ∧ Hid (Below w.heap.size w wr)) (fun _ _ iv _ _ _ _ => xs.length - (intOf iv).toNat)
  case atStart => exact ⟨0, [], by omega, rfl, rfl, rfl, Lib.hid ⟨World.ownsRow_nil _ _ _ _, by simp, by simp⟩, Lib.hid (Below.refl _ _)⟩
  case round =>
    obtain ⟨i, RV, hik, hRV, rfl, rfl, HR, HB⟩ := hrel
    have hwz := HB.out.size
    by_cases k1 : i < xs.length
    · obtain ⟨b3, o3, rfl, hc3⟩ := seq_at (k := i) (HS.out.below HB.out) (by simpa using k1)
      have hc3' : wr.cell? ⟨b3, o3 + i, none⟩ = some (.string (bs xs[i])) := by rw [hc3, List.getElem_map]; rfl
      have hsucc := Ln.flat_succ xs k1
      have hrem := Ln.rem_cat (xs.take i).flatten xs[i]
      rw [← hsucc] at hrem
      have hup := flat_upto xs (i + 1)
      have hul := congrArg List.length hsucc
      rw [List.length_append] at hul
      have hrl := Ln.rem_len (xs.take i).flatten
      have hcat : bs (Ln.rem (Ln.lns (xs.take i).flatten) ++ xs[i]) = bs (Ln.rem (Ln.lns (xs.take i).flatten)) ++ bs xs[i] := (bs_cat _ _).symm
      have hst : Ln.stp n xs i = (Ln.fin (Ln.lns (Ln.rem (Ln.lns (xs.take i).flatten) ++ xs[i]))).map (List.take n) := by
        unfold Ln.stp
        rw [List.getD_eq_getElem?_getD, List.getElem?_eq_getElem k1]
        rfl
      have hXs : (bs xs[i]).size ≤ 3000 := by rw [bs_size]; omega
      have hPs : (bs (Ln.rem (Ln.lns (xs.take i).flatten))).size ≤ 3000 := by rw [bs_size]; omega
      generalize Ln.rem (Ln.lns (xs.take i).flatten) ++ xs[i] = s at hrem hcat hst
      have hss : (bs s).size ≤ 6000 := by rw [hcat]; simp; omega
      have hsp := fun u => RSplit_c (bs s) (by omega) u
      rw [bs_data] at hsp
      have hll := Ln.lns_len s
      rw [← bs_size] at hll
      have hmem : ∀ x ∈ Ln.lns s, Ln.T x ∨ Ln.U x := fun x hx => Ln.lns_mem hx
      have hlen : ∀ x ∈ Ln.lns s, x.length ≤ 6000 := fun x hx => by
        obtain ⟨pre, post, h⟩ := List.append_of_mem hx
        have := (part_len h).1
        rw [bs_size] at hss
        omega
      generalize Ln.lns s = L at hrem hst hsp hll hmem hlen
      have HLEN := Lib.hid hlen
      clear hlen
      have HSP := Lib.hid hsp
      have HCAT := Lib.hid hcat
      have HREM := Lib.hid hrem
      have HST := Lib.hid hst
      have HMEM := Lib.hid hmem
      clear hc3 hsucc hrem hup hul hrl hcat hst hsp hmem
      generalize bs xs[i] = X at hc3' HCAT hXs
      generalize bs (Ln.rem (Ln.lns (xs.take i).flatten)) = Pp at HCAT hPs ⊢
      generalize bs s = S at HCAT HSP hss hll
      obtain rfl := HCAT.out
      have i0 : (0 : Int) ≤ (i : Int) := by omega
      have i1 : (i : Int) < (xs.length : Int) := by omega
      have hsz2 : ¬ 9223372036854775807 < Pp.size + X.size := by omega
      go_wp2_with fail
      refine (HSP.out wr).mono ?_
      rintro e w5 ⟨v5, rfl, own5, k5⟩
      have HL5 := Lib.hid (row_seq own5)
      obtain ⟨A5, c5, rfl⟩ := own_len own5
      have HR5 := Lib.hid (HR.out.below k5)
      have HB5 := Lib.hid (chain HB.out k5)
      have z5 := k5.size
      have hLl : L.length ≤ 6000 := by omega
      clear own5 k5 HR HB HSP HCAT
      go_wp2_with fail
      go_loopw [7, 10, 12] (fun st nv kv wq => ∃ (wz : World) (k : Nat), wq = wz ∧ k ≤ L.length ∧ kv = .int .i64 k ∧ st = .string (bs (Ln.rem (L.take k))) ∧ Hid (wz.ownsRow w5.heap.size 9 1 nv ((Ln.fin (L.take k)).map (List.take n)).length (((Ln.fin (L.take k)).map (List.take n)).map sv)) ∧ Hid (Below w5.heap.size w5 wz)) (fun _ _ kv _ => L.length - (intOf kv).toNat)
      case atStart => exact ⟨w5, 0, rfl, by omega, rfl, rfl, Lib.hid (World.ownsRow_nil _ _ _ _), Lib.hid (Below.refl _ _)⟩
      case round =>
        obtain ⟨wz, k, hw, hkl, rfl, rfl, HN, HK⟩ := hrel
        obtain rfl := hw.symm
        have hqz := HK.out.size
        obtain ⟨A7, c7, rfl⟩ := own_len HN.out
        have hml : ((Ln.fin (L.take k)).map (List.take n)).length ≤ 6000 := by
          rw [List.length_map]
          have h1 : (Ln.fin (L.take k)).length ≤ (L.take k).length := List.length_filter_le _ _
          rw [List.length_take] at h1
          omega
        by_cases k2 : k < L.length
        · obtain ⟨b6, o6, rfl, hc6⟩ := seq_at (k := k) (HL5.out.below HK.out) (by simpa using k2)
          rw [List.getElem_map, sv] at hc6
          have hx := HMEM.out L[k] (List.getElem_mem k2)
          have hxl : (bs L[k]).size ≤ 6000 := HLEN.out L[k] (List.getElem_mem k2)
          have hfs := Ln.fin_succ L k2
          have hrs := Ln.rem_succ L k2
          generalize L[k] = x at hc6 hx hfs hrs hxl
          obtain ⟨m, hq, hxp, he⟩ := last_at x (Ln.ne_nil hx)
          have htl := fun u => told_c x n u
          have i0' : (0 : Int) ≤ (k : Int) := by omega
          have i1' : (k : Int) < (L.length : Int) := by omega
          rcases hx with ht | hu
          · rw [Ln.ends_T ht] at he hfs hrs
            rw [if_pos rfl] at hfs hrs
            have hmm : (Ln.fin (L.take (k + 1))).map (List.take n) = (Ln.fin (L.take k)).map (List.take n) ++ [x.take n] := by rw [hfs, List.map_append]; rfl
            have HTL := Lib.hid htl
            have HMM := Lib.hid hmm
            have HRS := Lib.hid hrs
            clear ht hfs hrs hmm htl
            generalize Ln.rem (L.take k) = rm at HRS ⊢
            generalize (Ln.fin (L.take k)).map (List.take n) = M at HN HMM hml ⊢
            generalize hY : x.take n = y at HTL HMM
            clear hY
            generalize bs x = X at hc6 hq hxp he HTL hxl
            have qw : IntKind.i64.wrap ((X.size : Int) - 1) = (m : Int) := by rw [IntKind.wrap_i64] <;> omega
            have q0 : (0 : Int) ≤ (m : Int) := by omega
            have q1 : (m : Int) < (X.size : Int) := by omega
            clear hxp
            go_wp2_with fail
            go_quiet (fail)
            go_wp2_with fail
            generalize hW : World.drewN _ _ = W1
            have HN1 := Lib.hid (show W1.ownsRow w5.heap.size 9 1 (.slice A7 M.length c7) M.length (M.map sv) by rw [← hW]; exact HN.out)
            have HK1 := Lib.hid (show Below w5.heap.size w5 W1 by rw [← hW]; exact below_drewN HK.out _)
            have hqz1 := HK1.out.size
            have hc7 : W1.cell? ⟨b6, o6 + k, none⟩ = some (.string X) := by rw [← hW]; exact hc6
            clear hW HN HK hc6 hqz
            refine (HTL.out W1).mono ?_
            rintro e w8 ⟨rfl, hw⟩
            obtain rfl := hw.symm
            have HN2 := Lib.hid (HN1.out.alloc (.cells #[.string (bs y)] 9))
            go_wp2_with (first
              | (at_builtin
                 go_must (refine wpList_append_own _ rfl (.tmp 48) (.tmp 55) 24 rfl w5.heap.size 9 j0 _ 1 16 Try.underlying24 hi hz0 hz1 hz2 rfl (by decide) _ M.length (M.map sv) rfl HN2.out ⟨W1.heap.size, 0, none⟩ 1 1 [.string (bs y)] rfl rfl (cell_one_new _ _ _) (by simp [Value.oneCell']) (by unfold maxLen; omega) (by omega) (by simp; omega) ?_)))
            intro v9 w9 r9 g9 _
            have b9 := grown_below HN2.out g9 (HK1.out.alloc hqz1 _) (by simp; omega)
            have R9 := Lib.hid (row_snoc r9)
            have B9 := Lib.hid b9
            clear r9 g9 b9 HN1 HN2 HK1
            go_wp2_with fail
            go_roundw
            case rel =>
              refine ⟨w9, k + 1, rfl, by omega, by go_num, by rw [HRS.out], ?_, B9⟩
              rw [HMM.out]
              exact R9
            case measure => simp [intOf] <;> omega
          · rw [Ln.ends_U hu.2] at he hfs hrs
            rw [if_neg (by simp)] at hfs hrs
            rw [List.append_nil] at hfs
            have hmm : (Ln.fin (L.take (k + 1))).map (List.take n) = (Ln.fin (L.take k)).map (List.take n) := by rw [hfs]
            have HMM := Lib.hid hmm
            have HRS := Lib.hid hrs
            clear hu hfs hrs htl hmm
            generalize Ln.rem (L.take k) = rm
            generalize (Ln.fin (L.take k)).map (List.take n) = M at HN hml HMM ⊢
            generalize hX : bs x = X at hc6 hq hxp he hxl
            have HX := Lib.hid hX
            clear hX
            have qw : IntKind.i64.wrap ((X.size : Int) - 1) = (m : Int) := by rw [IntKind.wrap_i64] <;> omega
            have q0 : (0 : Int) ≤ (m : Int) := by omega
            have q1 : (m : Int) < (X.size : Int) := by omega
            clear hxp
            go_wp2_with fail
            go_quiet (fail)
            go_wp2_with fail
            generalize hW : World.drewN _ _ = W1
            have HN1 := Lib.hid (show W1.ownsRow w5.heap.size 9 1 (.slice A7 M.length c7) M.length (M.map sv) by rw [← hW]; exact HN.out)
            have HK1 := Lib.hid (show Below w5.heap.size w5 W1 by rw [← hW]; exact below_drewN HK.out _)
            have hqz1 := HK1.out.size
            have hc7 : W1.cell? ⟨b6, o6 + k, none⟩ = some (.string X) := by rw [← hW]; exact hc6
            clear hW HN HK hc6 hqz
            go_wp2_with fail
            go_roundw
            case rel =>
              refine ⟨W1, k + 1, rfl, by omega, by go_num, by rw [HRS.out, HX.out], ?_, HK1⟩
              rw [HMM.out]
              exact HN1
            case measure => simp [intOf] <;> omega
        · obtain rfl : k = L.length := by omega
          rw [List.take_of_length_le (Nat.le_refl _)] at HN hml ⊢
          generalize Ln.rem L = rm at HREM ⊢
          generalize (Ln.fin L).map (List.take n) = M at HN hml HST ⊢
          have HR6 := Lib.hid ((HR5.out.below HK.out).below ((Below.refl _ wz).alloc (Nat.le_refl _) (.cells #[.slice A7 M.length c7] 24)))
          have HB6 := Lib.hid ((chain HB5.out HK.out).alloc (by omega) (.cells #[.slice A7 M.length c7] 24))
          go_wp2_with (first
            | (at_builtin
               go_must (refine wpList_append_own _ rfl (.tmp 61) (.tmp 63) 31 rfl w.heap.size 24 m0 _ 1 24 Try.underlying31 mi mz0 mz1 mz2 rfl (by decide) _ RV.length RV rfl HR6.out.1 ⟨wz.heap.size, 0, none⟩ 1 1 [.slice A7 M.length c7] rfl rfl (cell_one_new _ _ _) (by simp [Value.oneCell']) (by unfold maxLen; omega) (by omega) (by simp; omega) ?_)))
          intro v9 w9 r9 g9 _
          have hv : (wz.alloc (.cells #[.slice A7 M.length c7] 24)).ownsRow w.heap.size 9 1 (.slice A7 M.length c7) (Ln.stp n xs RV.length).length ((Ln.stp n xs RV.length).map sv) := by
            rw [hRV, HST.out]
            exact (own_base HN.out (by omega)).alloc _
          have W9 := Lib.hid (HR6.out.snoc hv rfl g9 (by rw [List.length_append, hRV]; exact r9))
          have B9 := Lib.hid (grown_below HR6.out.1 g9 HB6.out (by simp; omega))
          clear r9 g9 hv
          go_wp2_with fail
          go_roundw
          case rel => exact ⟨i + 1, RV ++ [.slice A7 M.length c7], by omega, by rw [List.length_append, hRV]; rfl, by go_num, by rw [HREM.out], W9, B9⟩
          case measure => simp [intOf] <;> omega
    · obtain rfl : i = xs.length := by omega
      rw [List.take_of_length_le (Nat.le_refl _)]
      have htl := fun u => told_c (Ln.rem (Ln.lns xs.flatten)) n u
      have htt : (Ln.rem (Ln.lns xs.flatten)).take n = (Ln.tells n xs.flatten).2 := rfl
      rw [htt] at htl
      have HTL := Lib.hid htl
      clear htl htt
      generalize hR : bs (Ln.tells n xs.flatten).2 = R at HTL
      have HRR := Lib.hid hR
      clear hR
      generalize bs (Ln.rem (Ln.lns xs.flatten)) = Q at HTL ⊢
      go_wp2_with fail
      refine (HTL.out wr).mono ?_
      rintro e w8 ⟨rfl, hw⟩
      obtain rfl := hw.symm
      go_wp2_with fail
      go_ret2
      exact ⟨⟨_, _, hRV, by rw [HRR.out]; rfl, HR.out⟩, HB.out⟩
end Go.Proofs.Ytjllmhnicmonbaa
