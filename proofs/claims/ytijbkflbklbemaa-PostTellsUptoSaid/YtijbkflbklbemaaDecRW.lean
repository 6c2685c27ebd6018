/- Walk: the reference's Decode. -/
import Derived.Test.YtijbkflbklbemaaDecR
namespace Go.Proofs.Ytijbkflbklbemaa
open Go.RowKit

set_option maxHeartbeats 16000000 in
theorem DecodeR_c (s : List UInt8) (w : World) (hs : s.length ≤ 1073741824) :
    Calls Try.prog 19 #[.string (bs s)] w fun e w' => ∃ v, e = .returned (.tuple #[v, .bool (decOk s)]) ∧ SeqP w' v (decL s) ∧ Below w.heap.size w w' := by
  obtain ⟨i0, hi, hz0, hz1, hz2⟩ := info_parts infoInt
  obtain ⟨j0, hj, hy0, hy1, hy2⟩ := info_parts infoP
  generalize hD : decP s = D
  have HD := Lib.hid hD; clear hD
  have hok : decOk s = (isDone D.2 && decide (encL D.1 = s)) := by unfold decOk; rw [HD.out]
  have hdl : decL s = if decOk s then D.1 else [] := by unfold decL; rw [HD.out]
  have HOK := Lib.hid hok; clear hok
  have HDL := Lib.hid hdl; clear hdl
  have hbs : (bs s).data.toList = s := rfl
  go_enter Try.func19, Try.ntmps19
  go_wp2_with fail
  refine (OpenR_c (bs s) w).mono ?_
  rintro e w1 ⟨rfl, hr1, hb1, hs1⟩
  rw [hbs] at hr1
  clear hbs
  go_wp2_with fail
  refine (NumR_c w.heap.size (s, false) w1 hr1 (by unfold maxLen; show s.length ≤ _; omega)).mono ?_
  rintro e w2 ⟨rfl, hr2, g2⟩
  have hle2 := Vi.rNum_le (s, false)
  have hlt2 := Vi.rNum_lt (s, false)
  have hO : R.OutD w w.heap.size (w.heap.size + 1) w2 (Vi.rNum (s, false)).2 (.slice none 0 0) [] :=
    ⟨hr2, ⟨World.ownsRow_nil _ _ _ _, by simp⟩, chain_grown hb1 g2 (Nat.le_refl _), Nat.le_refl _, Nat.lt_succ_self _, by have := g2.size; omega⟩
  have hd2 : decB (Vi.rNum (s, false)).1 0 (Vi.rNum (s, false)).2 = D := HD.out
  generalize (Vi.rNum (s, false)).1 = n0 at hd2 hlt2
  generalize (Vi.rNum (s, false)).2 = st0 at hd2 hO hle2
  have HD2 := Lib.hid hd2
  have HO := Lib.hid hO
  clear hr1 hb1 hs1 hr2 g2 hd2 hO
  go_wp2_with fail
  go_loopw [6, 7, 8] (fun v d n wr => ∃ (k ic : Nat) (dz : Int) (st : Vi.St) (vs : List PP), n = .int .i64 ic ∧ ic + k = n0 ∧ d = .int .i64 dz ∧ 0 ≤ dz ∧ dz ≤ 1099511627776 ∧ Hid (R.OutD w w.heap.size (w.heap.size + 1) wr st v vs) ∧ cnt (vs.map (·.1)) + st.1.length ≤ s.length ∧ Hid (vs.map (·.1) ++ (decB k dz st).1 = D.1 ∧ (decB k dz st).2 = D.2)) (fun _ _ n _ => n0 - (intOf n).toNat)
  case atStart => exact ⟨n0, 0, 0, st0, [], rfl, by omega, rfl, by omega, by omega, HO, by simpa [cnt] using hle2, Lib.hid ⟨by rw [HD2.out]; rfl, by rw [HD2.out]⟩⟩
  case round =>
    obtain ⟨k, ic, dz, st, vs, rfl, hk, rfl, g0, g1, HI, hcn, HE⟩ := hrel
    clear HO HD2 hle2
    have hr := HI.out.rd
    by_cases hx : k = 0 ∨ st.1 = []
    · have hst : decB k dz st = ([], st) := by
        rcases hx with rfl | hx
        · rfl
        · cases k with
          | zero => rfl
          | succ k => rw [decB, if_pos hx]
      have he := HE.out
      rw [hst] at he
      obtain ⟨e1, e2⟩ := he
      rw [List.append_nil] at e1
      clear HE hst
      cases k with
      | zero =>
        clear hx
        obtain rfl : ic = n0 := by omega
        go_wp2_with fail
        refine (DoneR_c w.heap.size st wr hr).mono ?_
        rintro e w3 ⟨rfl, hw3⟩
        obtain rfl := hw3
        cases hdn : isDone st with
        | false =>
          have h1 : decOk s = false := by rw [HOK.out, ← e2, hdn]; rfl
          have h2 : decL s = [] := by rw [HDL.out, h1]; rfl
          have K1 := Lib.hid h1
          have K2 := Lib.hid h2
          clear h1 h2 hdn
          go_wp2_with fail
          go_ret2
          rw [K1.out, K2.out]
          exact ⟨_, rfl, ⟨none, 0, rfl, Nat.le_refl _, by decide, .inl rfl⟩, HI.out.below⟩
        | true =>
          have hel := encL_le (vs.map (·.1))
          have hvl := cnt_len (vs.map (·.1))
          have hE := EncodeR_c _ _ wr HI.out.row.seqP (by omega) (by omega)
          by_cases hq : encL (vs.map (·.1)) = s
          · have h1 : decOk s = true := by rw [HOK.out, ← e2, hdn, ← e1]; simp [hq]
            have h2 : decL s = vs.map (·.1) := by rw [HDL.out, h1, e1]; rfl
            have K1 := Lib.hid h1
            have K2 := Lib.hid h2
            rw [hq] at hE
            have HE2 := Lib.hid hE
            clear h1 h2 hdn hE hq hel hvl
            go_wp2_with fail
            refine HE2.out.mono ?_
            rintro e w4 ⟨rfl, h4⟩
            go_wp2_with fail
            go_ret2
            rw [K1.out, K2.out]
            exact ⟨_, rfl, (HI.out.row.below h4).seqP, HI.out.below.trans (h4.mono HI.out.below.size)⟩
          · have h1 : decOk s = false := by rw [HOK.out, ← e2, hdn, ← e1]; simp [hq]
            have h2 : decL s = [] := by rw [HDL.out, h1]; rfl
            have K1 := Lib.hid h1
            have K2 := Lib.hid h2
            have hb1 : ((bs (encL (vs.map (·.1)))).toList == (bs s).toList) = false := by rw [beq_eq_false_iff_ne]; exact fun e => hq (bs_inj (toList_inj e))
            rw [e1] at hb1
            have HE2 := Lib.hid hE
            clear h1 h2 hdn hE hq hel hvl
            go_wp2_with fail
            refine HE2.out.mono ?_
            rintro e w4 ⟨rfl, h4⟩
            go_wp2_with fail
            go_ret2
            rw [K1.out, K2.out]
            exact ⟨_, rfl, ⟨none, 0, rfl, Nat.le_refl _, by decide, .inl rfl⟩, HI.out.below.trans (h4.mono HI.out.below.size)⟩
      | succ k =>
        have hl0 : st.1.length = 0 := by rcases hx with h | h; cases h; rw [h]; rfl
        have hL := LeftR_c w.heap.size st wr hr
        rw [hl0] at hL
        have HL := Lib.hid hL
        have p0 : (ic : Int) < (n0 : Int) := by omega
        clear hx hL
        go_wp2_with fail
        refine HL.out.mono ?_
        rintro e w3 ⟨rfl, hw3⟩
        obtain rfl := hw3
        go_wp2_with fail
        refine (DoneR_c w.heap.size st wr hr).mono ?_
        rintro e w3 ⟨rfl, hw3⟩
        obtain rfl := hw3
        cases hdn : isDone st with
        | false =>
          have h1 : decOk s = false := by rw [HOK.out, ← e2, hdn]; rfl
          have h2 : decL s = [] := by rw [HDL.out, h1]; rfl
          have K1 := Lib.hid h1
          have K2 := Lib.hid h2
          clear h1 h2 hdn
          go_wp2_with fail
          go_ret2
          rw [K1.out, K2.out]
          exact ⟨_, rfl, ⟨none, 0, rfl, Nat.le_refl _, by decide, .inl rfl⟩, HI.out.below⟩
        | true =>
          have hel := encL_le (vs.map (·.1))
          have hvl := cnt_len (vs.map (·.1))
          have hE := EncodeR_c _ _ wr HI.out.row.seqP (by omega) (by omega)
          by_cases hq : encL (vs.map (·.1)) = s
          · have h1 : decOk s = true := by rw [HOK.out, ← e2, hdn, ← e1]; simp [hq]
            have h2 : decL s = vs.map (·.1) := by rw [HDL.out, h1, e1]; rfl
            have K1 := Lib.hid h1
            have K2 := Lib.hid h2
            rw [hq] at hE
            have HE2 := Lib.hid hE
            clear h1 h2 hdn hE hq hel hvl
            go_wp2_with fail
            refine HE2.out.mono ?_
            rintro e w4 ⟨rfl, h4⟩
            go_wp2_with fail
            go_ret2
            rw [K1.out, K2.out]
            exact ⟨_, rfl, (HI.out.row.below h4).seqP, HI.out.below.trans (h4.mono HI.out.below.size)⟩
          · have h1 : decOk s = false := by rw [HOK.out, ← e2, hdn, ← e1]; simp [hq]
            have h2 : decL s = [] := by rw [HDL.out, h1]; rfl
            have K1 := Lib.hid h1
            have K2 := Lib.hid h2
            have hb1 : ((bs (encL (vs.map (·.1)))).toList == (bs s).toList) = false := by rw [beq_eq_false_iff_ne]; exact fun e => hq (bs_inj (toList_inj e))
            rw [e1] at hb1
            have HE2 := Lib.hid hE
            clear h1 h2 hdn hE hq hel hvl
            go_wp2_with fail
            refine HE2.out.mono ?_
            rintro e w4 ⟨rfl, h4⟩
            go_wp2_with fail
            go_ret2
            rw [K1.out, K2.out]
            exact ⟨_, rfl, ⟨none, 0, rfl, Nat.le_refl _, by decide, .inl rfl⟩, HI.out.below.trans (h4.mono HI.out.below.size)⟩
    · obtain ⟨k0, hne⟩ := not_or.1 hx
      clear hx
      obtain ⟨k, rfl⟩ := Nat.exists_eq_succ_of_ne_zero k0
      clear k0
      rw [Nat.succ_eq_add_one] at *
      have he := HE.out
      rw [decB, if_neg hne] at he
      have hpos := List.length_pos_iff.2 hne
      have hsh := rNum_shorter hne
      have hnl := Vi.rNum_lt st
      have q0 : (ic : Int) < (n0 : Int) := by omega
      have q1 : (0 : Int) < (st.1.length : Int) := by omega
      have hml : st.1.length ≤ maxLen := by unfold maxLen; omega
      clear hne HE
      go_wp2_with fail
      refine (LeftR_c w.heap.size st wr hr).mono ?_
      rintro e w3 ⟨rfl, rfl⟩
      go_wp2_with fail
      refine (NumR_c w.heap.size st wr hr hml).mono ?_
      rintro e w5 ⟨rfl, hr5, g5⟩
      have hO5 := HI.out.grow hr5 g5
      have hsh2 := Vi.rNum_le (Vi.rNum st).2
      have hnl2 := Vi.rNum_lt (Vi.rNum st).2
      generalize (Vi.rNum st).1 = m at *
      generalize (Vi.rNum st).2 = st5 at *
      have HI0 := Lib.hid HI.out.below
      clear HI hr g5 hpos q1 hml hr5
      by_cases hhi : 1099511627776 - dz < (m : Int)
      · have hpm : (⟨stp dz (m : Int), (decI (Vi.rNum st5).1 0 (Vi.rNum st5).2).1⟩ : Po.P) ∈ D.1 := by rw [← he.1]; simp
        have hno : decOk s = false := dec_high (p := ⟨stp dz (m : Int), (decI (Vi.rNum st5).1 0 (Vi.rNum st5).2).1⟩) (by rw [HD.out]; exact hpm) (.inl (by show Po.most < stp dz (m : Int); rw [stp_high hhi g0]; decide))
        have K1 := Lib.hid hno
        have K2 := Lib.hid (dec_none hno)
        have hd1 : decide (1099511627776 - dz < (m : Int)) = true := decide_eq_true hhi
        have HB5 := Lib.hid hO5.below
        clear hpm hno hhi he hO5
        go_wp2_with fail
        go_ret2
        rw [K1.out, K2.out]
        exact ⟨_, rfl, ⟨none, 0, rfl, Nat.le_refl _, by decide, .inl rfl⟩, HB5.out⟩
      have hlo : (m : Int) ≤ 1099511627776 - dz := Int.not_lt.1 hhi
      have hd1 : decide (1099511627776 - dz < (m : Int)) = false := decide_eq_false hhi
      rw [stp_low hlo g0] at he
      have hsr0 : 0 ≤ dz + (m : Int) := by omega
      have hsr1 : dz + (m : Int) ≤ 1099511627776 := by omega
      obtain ⟨d', hd'⟩ : ∃ d', d' = dz + (m : Int) := ⟨_, rfl⟩
      have hsr2 := hsr0
      have hsr3 := hsr1
      rw [← hd'] at he hsr0 hsr1
      have HDD := Lib.hid hd'
      clear hhi hlo hd'
      go_wp2_with fail
      rw [← HDD.out]
      clear hsr2 hsr3
      have hI := R.InI.start (d := d') hO5.rd
      have HO5 := Lib.hid hO5; clear hO5
      go_wp2_with fail
      refine (NumR_c w.heap.size st5 _ hI.rd (by unfold maxLen; omega)).mono ?_
      rintro e w7 ⟨rfl, hr7, g7⟩
      have hI7 := hI.num hr7 g7
      generalize (Vi.rNum st5).1 = m2 at *
      generalize (Vi.rNum st5).2 = st7 at *
      clear hI hr7 g7
      generalize hQ : decI m2 0 st7 = Q at he
      have HQ := Lib.hid hQ; clear hQ
      have HE := Lib.hid he; clear he
      have HI7 := Lib.hid hI7; clear hI7
      go_wp2_with fail
      go_loopw [12, 13] (fun a n wq => ∃ (kk jc : Nat) (az : Int) (st2 : Vi.St) (A : Option Addr) (kx cx : Nat) (zs : List Int), n = .int .i64 jc ∧ jc + kk = m2 ∧ a = .int .i64 az ∧ 0 ≤ az ∧ az ≤ 1099511627776 ∧ Hid (R.InI w5 w.heap.size w5.heap.size d' wq st2 A kx cx zs) ∧ cnt (vs.map (·.1)) + 1 + zs.length + st2.1.length ≤ s.length ∧ Hid (zs ++ (decI kk az st2).1 = Q.1 ∧ (decI kk az st2).2 = Q.2)) (fun _ n _ => m2 - (intOf n).toNat)
      case atStart => exact ⟨m2, 0, 0, st7, none, 0, 0, [], rfl, by omega, rfl, by omega, by omega, HI7, by simp; omega, Lib.hid ⟨by rw [HQ.out]; rfl, by rw [HQ.out]⟩⟩
      case round =>
        obtain ⟨kk, jc, az, st2, A, kx, cx, zs, rfl, hkk, rfl, f0, f1, HJ, hcq, HF⟩ := hrel
        clear HI7 HQ hsh2
        have hrq := HJ.out.rd
        have cT0 : wr.cell? ⟨w5.heap.size, 0, none⟩ = some (.int .i64 d') := by rw [Lib.cell_of_heap HJ.out.blk]; rfl
        have cT1 : wr.cell? ⟨w5.heap.size, 1, none⟩ = some (.slice A kx cx) := by rw [Lib.cell_of_heap HJ.out.blk]; rfl
        by_cases hy : kk = 0 ∨ st2.1 = []
        · have hst : decI kk az st2 = ([], st2) := by
            rcases hy with rfl | hy
            · rfl
            · cases kk with
              | zero => rfl
              | succ k => rw [decI, if_pos hy]
          have he := HF.out
          rw [hst, List.append_nil] at he
          obtain ⟨e1, e2⟩ := he
          have hO := HO5.out.grow hrq HJ.out.grown
          have hp : PV wr (w.heap.size + 1) (⟨d', zs⟩, .slice A kx cx) := own_base HJ.out.own (by have := HO5.out.hC; omega)
          have hn : (vs ++ [((⟨d', zs⟩, .slice A kx cx) : PP)]).map (·.1) ++ (decB k d' st2).1 = D.1 ∧ (decB k d' st2).2 = D.2 := by
            have h := HE.out
            rw [← e1, ← e2] at h
            exact ⟨by rw [← h.1]; simp, h.2⟩
          have hsz := hO.hC
          have hvl : vs.length ≤ s.length := by have := cnt_len (vs.map (·.1)); rw [List.length_map] at this; omega
          have HN := Lib.hid hn
          have HPV := Lib.hid hp
          have HO := Lib.hid hO
          clear hn hp hO HF hst HE e1 e2 HJ
          cases kk with
          | zero =>
            clear hy
            obtain rfl : jc = m2 := by omega
            go_wp2_with (at_builtin; refine wpList_append_own _ rfl _ _ 22 rfl (w.heap.size + 1) 40 j0 _ 2 32 Try.underlying22 hj hy0 hy1 hy2 rfl (by decide) _ _ _ rfl (HO.out.row.own.alloc _) ⟨wr.heap.size, 0, none⟩ 1 1 [.int .i64 d', .slice A kx cx] rfl rfl (cell_two_new _ _ _ _) (by simp [Value.oneCell']) (by unfold maxLen; omega) (by omega) (by simp; omega) ?_; intro v' w9 hown9 hg9 _)
            go_roundw
            case rel => exact ⟨k, ic + 1, d', st2, vs ++ [(⟨d', zs⟩, .slice A kx cx)], by go_num, by omega, rfl, hsr0, hsr1, Lib.hid (HO.out.push HPV.out hown9 hg9), by rw [List.map_append]; show cnt (_ ++ [_]) + _ ≤ _; rw [cnt_snoc]; simp only at *; omega, HN⟩
            case measure => simp [intOf] <;> omega
          | succ kk =>
            have hl0 : st2.1.length = 0 := by rcases hy with h | h; cases h; rw [h]; rfl
            have hL := LeftR_c w.heap.size st2 wr hrq
            rw [hl0] at hL
            have HL := Lib.hid hL
            have p0 : (jc : Int) < (m2 : Int) := by omega
            clear hy hL
            go_wp2_with fail
            refine HL.out.mono ?_
            rintro e w3 ⟨rfl, hw3⟩
            obtain rfl := hw3
            go_wp2_with (at_builtin; refine wpList_append_own _ rfl _ _ 22 rfl (w.heap.size + 1) 40 j0 _ 2 32 Try.underlying22 hj hy0 hy1 hy2 rfl (by decide) _ _ _ rfl (HO.out.row.own.alloc _) ⟨wr.heap.size, 0, none⟩ 1 1 [.int .i64 d', .slice A kx cx] rfl rfl (cell_two_new _ _ _ _) (by simp [Value.oneCell']) (by unfold maxLen; omega) (by omega) (by simp; omega) ?_; intro v' w9 hown9 hg9 _)
            go_roundw
            case rel => exact ⟨k, ic + 1, d', st2, vs ++ [(⟨d', zs⟩, .slice A kx cx)], by go_num, by omega, rfl, hsr0, hsr1, Lib.hid (HO.out.push HPV.out hown9 hg9), by rw [List.map_append]; show cnt (_ ++ [_]) + _ ≤ _; rw [cnt_snoc]; simp only at *; omega, HN⟩
            case measure => simp [intOf] <;> omega
        · obtain ⟨k0, hne⟩ := not_or.1 hy
          clear hy
          obtain ⟨kk, rfl⟩ := Nat.exists_eq_succ_of_ne_zero k0
          clear k0
          rw [Nat.succ_eq_add_one] at *
          have he := HF.out
          rw [decI, if_neg hne] at he
          have hpos := List.length_pos_iff.2 hne
          have hsh := rNum_shorter hne
          have hnl := Vi.rNum_lt st2
          have p0 : (jc : Int) < (m2 : Int) := by omega
          have p1 : (0 : Int) < (st2.1.length : Int) := by omega
          have hml : st2.1.length ≤ maxLen := by unfold maxLen; omega
          clear hne HF cT0 cT1
          go_wp2_with fail
          refine (LeftR_c w.heap.size st2 wr hrq).mono ?_
          rintro e w3 ⟨rfl, rfl⟩
          go_wp2_with fail
          refine (NumR_c w.heap.size st2 wr hrq hml).mono ?_
          rintro e w6 ⟨rfl, hr6, g6⟩
          have hJ6 := HJ.out.num hr6 g6
          generalize (Vi.rNum st2).1 = m at *
          generalize (Vi.rNum st2).2 = st6 at *
          clear HJ hrq g6 hpos p1 hml hr6
          by_cases hhi : 1099511627776 - az < (m : Int)
          · have hqm : stp az (m : Int) ∈ Q.1 := by rw [← he.1]; simp
            have hpm : (⟨d', Q.1⟩ : Po.P) ∈ D.1 := by rw [← HE.out.1]; simp
            have hno : decOk s = false := dec_high (p := ⟨d', Q.1⟩) (by rw [HD.out]; exact hpm) (.inr ⟨_, hqm, by rw [stp_high hhi f0]; decide⟩)
            have K1 := Lib.hid hno
            have K2 := Lib.hid (dec_none hno)
            have hd1 : decide (1099511627776 - az < (m : Int)) = true := decide_eq_true hhi
            have HB6 := Lib.hid (HO5.out.grow hJ6.rd hJ6.grown).below
            clear hqm hpm hno hhi he hJ6
            go_wp2_with fail
            go_ret2
            rw [K1.out, K2.out]
            exact ⟨_, rfl, ⟨none, 0, rfl, Nat.le_refl _, by decide, .inl rfl⟩, HB6.out⟩
          have hlo : (m : Int) ≤ 1099511627776 - az := Int.not_lt.1 hhi
          have hd1 : decide (1099511627776 - az < (m : Int)) = false := decide_eq_false hhi
          rw [stp_low hlo f0] at he
          have hz0' : 0 ≤ az + (m : Int) := by omega
          have hz1' : az + (m : Int) ≤ 1099511627776 := by omega
          clear hhi
          have HE2 := Lib.hid he; clear he
          have c61 : w6.cell? ⟨w5.heap.size, 1, none⟩ = some (.slice A kx cx) := by rw [Lib.cell_of_heap hJ6.blk]; rfl
          have HJ6 := Lib.hid hJ6
          have hsz6 : w5.heap.size + 1 ≤ w6.heap.size := blk_lt hJ6.blk
          clear hJ6
          go_wp2_with (at_builtin; refine wpList_append_own _ rfl _ _ 28 rfl (w5.heap.size + 1) 3 i0 _ 1 8 Try.underlying28 hi hz0 hz1 hz2 rfl (by decide) _ _ _ rfl (HJ6.out.own.alloc _) ⟨w6.heap.size, 0, none⟩ 1 1 [.int .i64 (az + (m : Int))] rfl rfl (cell_one_new _ _ _) (by simp [Value.oneCell']) (by unfold maxLen; omega) (by omega) (by simp; omega) ?_; intro v' w8 hown8 hg8 _; obtain ⟨A2, k2, c2, rfl⟩ := own_slice hown8; have f8 := Lib.frozen_of_heap (HJ6.out.two hg8) 1; have d8 : w8.cell? ⟨w5.heap.size, 1, none⟩ = some (.slice A kx cx) := (by rw [Lib.cell_of_heap (HJ6.out.two hg8)]; rfl))
          go_roundw
          case rel => exact ⟨kk, jc + 1, az + (m : Int), st6, A2, k2, c2, zs ++ [az + (m : Int)], by go_num, by omega, rfl, hz0', hz1', Lib.hid (HJ6.out.push hg8 hown8), by simp; omega, Lib.hid ⟨by rw [← HE2.out.1]; simp, HE2.out.2⟩⟩
          case measure => simp [intOf] <;> omega
end Go.Proofs.Ytijbkflbklbemaa
