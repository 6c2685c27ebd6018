/- The walk of PostSets. -/
import Derived.Test.YtijbkflbklbemaaSmall
import Derived.Test.YtijbkflbklbemaaOpenP
namespace Go.Proofs.Ytijbkflbklbemaa
open Go.RowKit

theorem decB_true (b : Bool) : b = true ∨ b = false := by cases b <;> simp
theorem right_ok {l : List Po.P} (h : Po.Ok l) : Po.rightB l = true := (Po.right_iff l).2 h
/-- Right of a valid list -/
theorem right_t (va : Value) (l : List Po.P) (w : World) (ha : SeqP w va l) (hl : Po.Ok l) : Calls Try.prog 9 #[va] w fun e w' => e = .returned (.bool true) ∧ Below w.heap.size w w' := by
  have := Right_c va l w ha (by have := (okSz hl).len; omega)
  rwa [right_ok hl] at this
theorem docs_has (va : Value) (l : List Po.P) (w : World) (ha : SeqP w va l) (hl : Po.Ok l) :
    Calls Try.prog 15 #[va] w fun e w' => ∃ v, e = .returned v ∧ (∀ d u, Below w'.heap.size w' u → Calls Try.prog 14 #[v, .int .i64 d] u fun e u' => e = .returned (.bool (Po.hasDoc l d)) ∧ u' = u) ∧ Below w.heap.size w w' := by
  refine (Docs_c va l w ha (by have := (okSz hl).len; omega)).mono ?_
  rintro e w' ⟨v, rfl, hv, hb⟩
  exact ⟨v, rfl, fun d u hk => Has_c v _ d u (hv.keep hk.block), hb⟩

set_option maxHeartbeats 16000000 in
set_option maxRecDepth 100000 in
theorem postSets_k (va vb : Value) (xs ys : List Po.P) (d : Int) (w : World) (ha : SeqP w va xs) (hb : SeqP w vb ys) (hx : xs.length ≤ 4398046511104) (hy : ys.length ≤ 4398046511104) :
    Calls Try.prog 3 #[va, vb, .int .i64 d] w fun e w' => e = .returned (.bool true) ∧ Below w.heap.size w w' := by
  have HA := Lib.hid ha; clear ha
  have HB := Lib.hid hb; clear hb
  go_enter Try.func3, Try.ntmps3
  go_wp2_with fail
  refine (small_c w).mono ?_
  rintro e w1 ⟨rfl, b1⟩
  have HB1 := Lib.hid b1; clear b1
  go_wp2_with fail
  refine (Few_c va xs w1 (HA.out.keep HB1.out.block)).mono ?_
  rintro e w2 ⟨f1, rfl, hw2, _⟩
  obtain rfl := hw2.symm
  cases f1 with
  | false =>
    go_wp2_with fail
    go_ret
    exact ⟨rfl, HB1.out⟩
  | true =>
  go_wp2_with fail
  refine (Few_c vb ys w1 (HB.out.keep HB1.out.block)).mono ?_
  rintro e w2 ⟨f2, rfl, hw2, _⟩
  obtain rfl := hw2.symm
  cases f2 with
  | false =>
    go_wp2_with fail
    go_ret
    exact ⟨rfl, HB1.out⟩
  | true =>
  go_wp2_with fail
  have hr := Right_c va xs w1 (HA.out.keep HB1.out.block) hx
  cases hrx : Po.rightB xs with
  | false =>
    rw [hrx] at hr
    refine hr.mono ?_
    rintro e w2 ⟨rfl, b2⟩
    go_wp2_with fail
    go_ret
    exact ⟨rfl, chain HB1.out b2⟩
  | true =>
  rw [hrx] at hr
  refine hr.mono ?_
  rintro e w2 ⟨rfl, b2⟩
  have HB2 := Lib.hid (chain HB1.out b2); clear b2 hr
  clear HB1
  have OX := Lib.hid ((Po.right_iff xs).1 hrx); clear hrx
  go_wp2_with fail
  have hr := Right_c vb ys w2 (HB.out.keep HB2.out.block) hy
  cases hry : Po.rightB ys with
  | false =>
    rw [hry] at hr
    refine hr.mono ?_
    rintro e w3 ⟨rfl, b3⟩
    go_wp2_with fail
    go_ret
    exact ⟨rfl, chain HB2.out b3⟩
  | true =>
  rw [hry] at hr
  refine hr.mono ?_
  rintro e w3 ⟨rfl, b3⟩
  have HB3 := Lib.hid (chain HB2.out b3); clear b3 hr
  clear HB2
  have OY := Lib.hid ((Po.right_iff ys).1 hry); clear hry
  go_wp2_with fail

  refine (And_c va vb (xs) (ys) w3 (HA.out.keep HB3.out.block) (HB.out.keep HB3.out.block) (okSz OX.out) (okSz OY.out)).mono ?_
  rintro e w4 ⟨vN, rfl, sN, bb⟩
  have SN := Lib.hid sN; clear sN
  have HB4 := Lib.hid (chain HB3.out bb)
  clear bb HB3
  go_wp2_with fail
  refine (Or_c va vb (xs) (ys) w4 (HA.out.keep HB4.out.block) (HB.out.keep HB4.out.block) (okSz OX.out) (okSz OY.out)).mono ?_
  rintro e w5 ⟨vO, rfl, sO, bb⟩
  have SO := Lib.hid sO; clear sO
  have HB5 := Lib.hid (chain HB4.out bb)
  have SN' := Lib.hid (SN.out.keep bb.block); clear SN; have SN := SN'; clear SN'
  clear bb HB4
  go_wp2_with fail
  refine (Less_c va vb (xs) (ys) w5 (HA.out.keep HB5.out.block) (HB.out.keep HB5.out.block) (okSz OX.out) (okSz OY.out)).mono ?_
  rintro e w6 ⟨vL, rfl, sL, bb⟩
  have SL := Lib.hid sL; clear sL
  have HB6 := Lib.hid (chain HB5.out bb)
  have SN' := Lib.hid (SN.out.keep bb.block); clear SN; have SN := SN'; clear SN'
  have SO' := Lib.hid (SO.out.keep bb.block); clear SO; have SO := SO'; clear SO'
  clear bb HB5
  go_wp2_with fail
  refine (right_t vN (Po.andL xs ys) w6 (SN.out) (Po.and_ok OX.out OY.out)).mono ?_
  rintro e w7 ⟨rfl, bb⟩
  have HB7 := Lib.hid (chain HB6.out bb)
  have SN' := Lib.hid (SN.out.keep bb.block); clear SN; have SN := SN'; clear SN'
  have SO' := Lib.hid (SO.out.keep bb.block); clear SO; have SO := SO'; clear SO'
  have SL' := Lib.hid (SL.out.keep bb.block); clear SL; have SL := SL'; clear SL'
  clear bb HB6
  go_wp2_with fail
  refine (right_t vO (Po.orL xs ys) w7 (SO.out) (Po.or_ok OX.out OY.out)).mono ?_
  rintro e w8 ⟨rfl, bb⟩
  have HB8 := Lib.hid (chain HB7.out bb)
  have SN' := Lib.hid (SN.out.keep bb.block); clear SN; have SN := SN'; clear SN'
  have SO' := Lib.hid (SO.out.keep bb.block); clear SO; have SO := SO'; clear SO'
  have SL' := Lib.hid (SL.out.keep bb.block); clear SL; have SL := SL'; clear SL'
  clear bb HB7
  go_wp2_with fail
  refine (right_t vL (Po.lessL xs ys) w8 (SL.out) (Po.less_ok OX.out OY.out)).mono ?_
  rintro e w9 ⟨rfl, bb⟩
  have HB9 := Lib.hid (chain HB8.out bb)
  have SN' := Lib.hid (SN.out.keep bb.block); clear SN; have SN := SN'; clear SN'
  have SO' := Lib.hid (SO.out.keep bb.block); clear SO; have SO := SO'; clear SO'
  have SL' := Lib.hid (SL.out.keep bb.block); clear SL; have SL := SL'; clear SL'
  clear bb HB8
  go_wp2_with fail
  refine (And_c vb va (ys) (xs) w9 (HB.out.keep HB9.out.block) (HA.out.keep HB9.out.block) (okSz OY.out) (okSz OX.out)).mono ?_
  rintro e w10 ⟨vM, rfl, sM, bb⟩
  have SM := Lib.hid sM; clear sM
  have HB10 := Lib.hid (chain HB9.out bb)
  have SN' := Lib.hid (SN.out.keep bb.block); clear SN; have SN := SN'; clear SN'
  have SO' := Lib.hid (SO.out.keep bb.block); clear SO; have SO := SO'; clear SO'
  have SL' := Lib.hid (SL.out.keep bb.block); clear SL; have SL := SL'; clear SL'
  clear bb HB9
  go_wp2_with fail
  have hq := (SM.out)
  rw [Po.and_comm OY.out OX.out] at hq
  refine (same_t vN vM (Po.andL xs ys) w10 (SN.out) hq).mono ?_
  rintro e w11 ⟨rfl, bb⟩
  clear hq
  have HB11 := Lib.hid (chain HB10.out bb)
  have SN' := Lib.hid (SN.out.keep bb.block); clear SN; have SN := SN'; clear SN'
  have SO' := Lib.hid (SO.out.keep bb.block); clear SO; have SO := SO'; clear SO'
  have SL' := Lib.hid (SL.out.keep bb.block); clear SL; have SL := SL'; clear SL'
  have SM' := Lib.hid (SM.out.keep bb.block); clear SM; have SM := SM'; clear SM'
  clear bb HB10
  go_wp2_with fail
  clear SM
  refine (Or_c vb va (ys) (xs) w11 (HB.out.keep HB11.out.block) (HA.out.keep HB11.out.block) (okSz OY.out) (okSz OX.out)).mono ?_
  rintro e w12 ⟨vQ, rfl, sQ, bb⟩
  have SQ := Lib.hid sQ; clear sQ
  have HB12 := Lib.hid (chain HB11.out bb)
  have SN' := Lib.hid (SN.out.keep bb.block); clear SN; have SN := SN'; clear SN'
  have SO' := Lib.hid (SO.out.keep bb.block); clear SO; have SO := SO'; clear SO'
  have SL' := Lib.hid (SL.out.keep bb.block); clear SL; have SL := SL'; clear SL'
  clear bb HB11
  go_wp2_with fail
  have hq := (SQ.out)
  rw [Po.or_comm OY.out OX.out] at hq
  refine (same_t vO vQ (Po.orL xs ys) w12 (SO.out) hq).mono ?_
  rintro e w13 ⟨rfl, bb⟩
  clear hq
  have HB13 := Lib.hid (chain HB12.out bb)
  have SN' := Lib.hid (SN.out.keep bb.block); clear SN; have SN := SN'; clear SN'
  have SO' := Lib.hid (SO.out.keep bb.block); clear SO; have SO := SO'; clear SO'
  have SL' := Lib.hid (SL.out.keep bb.block); clear SL; have SL := SL'; clear SL'
  have SQ' := Lib.hid (SQ.out.keep bb.block); clear SQ; have SQ := SQ'; clear SQ'
  clear bb HB12
  go_wp2_with fail
  clear SQ
  refine (docs_has va (xs) w13 (HA.out.keep HB13.out.block) OX.out).mono ?_
  rintro e w14 ⟨dA, rfl, hh, bb⟩
  have HH := Lib.hid hh; clear hh
  have HB14 := Lib.hid (chain HB13.out bb)
  have SN' := Lib.hid (SN.out.keep bb.block); clear SN; have SN := SN'; clear SN'
  have SO' := Lib.hid (SO.out.keep bb.block); clear SO; have SO := SO'; clear SO'
  have SL' := Lib.hid (SL.out.keep bb.block); clear SL; have SL := SL'; clear SL'
  clear bb HB13
  go_wp2_with fail
  refine (HH.out d w14 (Below.refl _ _)).mono ?_
  rintro e wq ⟨rfl, hq⟩
  obtain rfl := hq.symm
  clear HH
  generalize hdx : Po.hasDoc xs d = X
  have HDX := Lib.hid hdx; clear hdx
  go_wp2_with fail
  refine (docs_has vb (ys) w14 (HB.out.keep HB14.out.block) OY.out).mono ?_
  rintro e w15 ⟨dB, rfl, hh, bb⟩
  have HH := Lib.hid hh; clear hh
  have HB15 := Lib.hid (chain HB14.out bb)
  have SN' := Lib.hid (SN.out.keep bb.block); clear SN; have SN := SN'; clear SN'
  have SO' := Lib.hid (SO.out.keep bb.block); clear SO; have SO := SO'; clear SO'
  have SL' := Lib.hid (SL.out.keep bb.block); clear SL; have SL := SL'; clear SL'
  clear bb HB14
  go_wp2_with fail
  refine (HH.out d w15 (Below.refl _ _)).mono ?_
  rintro e wq ⟨rfl, hq⟩
  obtain rfl := hq.symm
  clear HH
  generalize hdy : Po.hasDoc ys d = Y
  have HDY := Lib.hid hdy; clear hdy
  go_wp2_with fail
  cases X <;> cases Y
  all_goals
    refine (docs_has vN (Po.andL xs ys) w15 (SN.out) (Po.and_ok OX.out OY.out)).mono ?_
    rintro e w16 ⟨dN, rfl, hh, bb⟩
    have HH := Lib.hid hh; clear hh
    have HB16 := Lib.hid (chain HB15.out bb)
    have SN' := Lib.hid (SN.out.keep bb.block); clear SN; have SN := SN'; clear SN'
    have SO' := Lib.hid (SO.out.keep bb.block); clear SO; have SO := SO'; clear SO'
    have SL' := Lib.hid (SL.out.keep bb.block); clear SL; have SL := SL'; clear SL'
    clear bb HB15
    go_wp2_with fail
    refine (HH.out d w16 (Below.refl _ _)).mono ?_
    rintro e wq ⟨rfl, hq⟩
    obtain rfl := hq.symm
    clear HH
    rw [Po.and_has OX.out OY.out d, HDX.out, HDY.out]
    simp only [Bool.and_true, Bool.and_false]
    go_wp2_with fail
    refine (docs_has vO (Po.orL xs ys) w16 (SO.out) (Po.or_ok OX.out OY.out)).mono ?_
    rintro e w17 ⟨dO, rfl, hh, bb⟩
    have HH := Lib.hid hh; clear hh
    have HB17 := Lib.hid (chain HB16.out bb)
    have SN' := Lib.hid (SN.out.keep bb.block); clear SN; have SN := SN'; clear SN'
    have SO' := Lib.hid (SO.out.keep bb.block); clear SO; have SO := SO'; clear SO'
    have SL' := Lib.hid (SL.out.keep bb.block); clear SL; have SL := SL'; clear SL'
    clear bb HB16
    go_wp2_with fail
    refine (HH.out d w17 (Below.refl _ _)).mono ?_
    rintro e wq ⟨rfl, hq⟩
    obtain rfl := hq.symm
    clear HH
    rw [Po.or_has OX.out OY.out d, HDX.out, HDY.out]
    simp only [Bool.or_true, Bool.or_false]
    go_wp2_with fail
    refine (docs_has vL (Po.lessL xs ys) w17 (SL.out) (Po.less_ok OX.out OY.out)).mono ?_
    rintro e w18 ⟨dL, rfl, hh, bb⟩
    have HH := Lib.hid hh; clear hh
    have HB18 := Lib.hid (chain HB17.out bb)
    have SN' := Lib.hid (SN.out.keep bb.block); clear SN; have SN := SN'; clear SN'
    have SO' := Lib.hid (SO.out.keep bb.block); clear SO; have SO := SO'; clear SO'
    have SL' := Lib.hid (SL.out.keep bb.block); clear SL; have SL := SL'; clear SL'
    clear bb HB17
    go_wp2_with fail
    refine (HH.out d w18 (Below.refl _ _)).mono ?_
    rintro e wq ⟨rfl, hq⟩
    obtain rfl := hq.symm
    clear HH
    rw [Po.less_has OX.out OY.out d, HDX.out, HDY.out]
    simp only [Bool.and_true, Bool.and_false, Bool.not_true, Bool.not_false]
    go_wp2_with fail
    refine (Less_c vb va (ys) (xs) w18 (HB.out.keep HB18.out.block) (HA.out.keep HB18.out.block) (okSz OY.out) (okSz OX.out)).mono ?_
    rintro e w19 ⟨vR, rfl, sR, bb⟩
    have SR := Lib.hid sR; clear sR
    have HB19 := Lib.hid (chain HB18.out bb)
    have SN' := Lib.hid (SN.out.keep bb.block); clear SN; have SN := SN'; clear SN'
    have SO' := Lib.hid (SO.out.keep bb.block); clear SO; have SO := SO'; clear SO'
    have SL' := Lib.hid (SL.out.keep bb.block); clear SL; have SL := SL'; clear SL'
    clear bb HB18
    go_wp2_with fail
    refine (Or_c vN vL (Po.andL xs ys) (Po.lessL xs ys) w19 (SN.out) (SL.out) (okSz (Po.and_ok OX.out OY.out)) (okSz (Po.less_ok OX.out OY.out))).mono ?_
    rintro e w20 ⟨vS, rfl, sS, bb⟩
    have SS := Lib.hid sS; clear sS
    have HB20 := Lib.hid (chain HB19.out bb)
    have SN' := Lib.hid (SN.out.keep bb.block); clear SN; have SN := SN'; clear SN'
    have SO' := Lib.hid (SO.out.keep bb.block); clear SO; have SO := SO'; clear SO'
    have SL' := Lib.hid (SL.out.keep bb.block); clear SL; have SL := SL'; clear SL'
    have SR' := Lib.hid (SR.out.keep bb.block); clear SR; have SR := SR'; clear SR'
    clear bb HB19
    go_wp2_with fail
    refine (Or_c vR vS (Po.lessL ys xs) (Po.orL (Po.andL xs ys) (Po.lessL xs ys)) w20 (SR.out) (SS.out) (okSz (Po.less_ok OY.out OX.out)) (okSz (Po.or_ok (Po.and_ok OX.out OY.out) (Po.less_ok OX.out OY.out)))).mono ?_
    rintro e w21 ⟨vT, rfl, sT, bb⟩
    have ST := Lib.hid sT; clear sT
    have HB21 := Lib.hid (chain HB20.out bb)
    have SN' := Lib.hid (SN.out.keep bb.block); clear SN; have SN := SN'; clear SN'
    have SO' := Lib.hid (SO.out.keep bb.block); clear SO; have SO := SO'; clear SO'
    have SL' := Lib.hid (SL.out.keep bb.block); clear SL; have SL := SL'; clear SL'
    have SR' := Lib.hid (SR.out.keep bb.block); clear SR; have SR := SR'; clear SR'
    have SS' := Lib.hid (SS.out.keep bb.block); clear SS; have SS := SS'; clear SS'
    clear bb HB20
    go_wp2_with fail
    have hq := (ST.out)
    rw [Po.split3 OX.out OY.out] at hq
    refine (same_t vT vO (Po.orL xs ys) w21 hq (SO.out)).mono ?_
    rintro e w22 ⟨rfl, bb⟩
    clear hq
    have HB22 := Lib.hid (chain HB21.out bb)
    have SN' := Lib.hid (SN.out.keep bb.block); clear SN; have SN := SN'; clear SN'
    have SO' := Lib.hid (SO.out.keep bb.block); clear SO; have SO := SO'; clear SO'
    have SL' := Lib.hid (SL.out.keep bb.block); clear SL; have SL := SL'; clear SL'
    have SR' := Lib.hid (SR.out.keep bb.block); clear SR; have SR := SR'; clear SR'
    have SS' := Lib.hid (SS.out.keep bb.block); clear SS; have SS := SS'; clear SS'
    have ST' := Lib.hid (ST.out.keep bb.block); clear ST; have ST := ST'; clear ST'
    clear bb HB21
    go_wp2_with fail
    clear SR
    clear SS
    clear ST
    refine (Less_c va vO (xs) (Po.orL xs ys) w22 (HA.out.keep HB22.out.block) (SO.out) (okSz OX.out) (okSz (Po.or_ok OX.out OY.out))).mono ?_
    rintro e w23 ⟨vU, rfl, sU, bb⟩
    have SU := Lib.hid sU; clear sU
    have HB23 := Lib.hid (chain HB22.out bb)
    have SN' := Lib.hid (SN.out.keep bb.block); clear SN; have SN := SN'; clear SN'
    have SO' := Lib.hid (SO.out.keep bb.block); clear SO; have SO := SO'; clear SO'
    have SL' := Lib.hid (SL.out.keep bb.block); clear SL; have SL := SL'; clear SL'
    clear bb HB22
    have hu := SU.out
    rw [Po.less_or OX.out OY.out] at hu
    obtain ⟨AU, cU, rfl, _⟩ := hu
    rw [List.length_nil]
    clear SU
    go_wp2_with fail
    refine (Or_c va va (xs) (xs) w23 (HA.out.keep HB23.out.block) (HA.out.keep HB23.out.block) (okSz OX.out) (okSz OX.out)).mono ?_
    rintro e w24 ⟨vV, rfl, sV, bb⟩
    have SV := Lib.hid sV; clear sV
    have HB24 := Lib.hid (chain HB23.out bb)
    have SN' := Lib.hid (SN.out.keep bb.block); clear SN; have SN := SN'; clear SN'
    have SO' := Lib.hid (SO.out.keep bb.block); clear SO; have SO := SO'; clear SO'
    have SL' := Lib.hid (SL.out.keep bb.block); clear SL; have SL := SL'; clear SL'
    clear bb HB23
    go_wp2_with fail
    have hq := (SV.out)
    rw [Po.or_self OX.out] at hq
    refine (same_t vV va (xs) w24 hq (HA.out.keep HB24.out.block)).mono ?_
    rintro e w25 ⟨rfl, bb⟩
    clear hq
    have HB25 := Lib.hid (chain HB24.out bb)
    have SN' := Lib.hid (SN.out.keep bb.block); clear SN; have SN := SN'; clear SN'
    have SO' := Lib.hid (SO.out.keep bb.block); clear SO; have SO := SO'; clear SO'
    have SL' := Lib.hid (SL.out.keep bb.block); clear SL; have SL := SL'; clear SL'
    have SV' := Lib.hid (SV.out.keep bb.block); clear SV; have SV := SV'; clear SV'
    clear bb HB24
    go_wp2_with fail
    clear SV
    refine (And_c va vO (xs) (Po.orL xs ys) w25 (HA.out.keep HB25.out.block) (SO.out) (okSz OX.out) (okSz (Po.or_ok OX.out OY.out))).mono ?_
    rintro e w26 ⟨vW, rfl, sW, bb⟩
    have SW := Lib.hid sW; clear sW
    have HB26 := Lib.hid (chain HB25.out bb)
    have SN' := Lib.hid (SN.out.keep bb.block); clear SN; have SN := SN'; clear SN'
    have SO' := Lib.hid (SO.out.keep bb.block); clear SO; have SO := SO'; clear SO'
    have SL' := Lib.hid (SL.out.keep bb.block); clear SL; have SL := SL'; clear SL'
    clear bb HB25
    go_wp2_with fail
    refine (Or_c va vN (xs) (Po.andL xs ys) w26 (HA.out.keep HB26.out.block) (SN.out) (okSz OX.out) (okSz (Po.and_ok OX.out OY.out))).mono ?_
    rintro e w27 ⟨vZ, rfl, sZ, bb⟩
    have SZ := Lib.hid sZ; clear sZ
    have HB27 := Lib.hid (chain HB26.out bb)
    have SN' := Lib.hid (SN.out.keep bb.block); clear SN; have SN := SN'; clear SN'
    have SO' := Lib.hid (SO.out.keep bb.block); clear SO; have SO := SO'; clear SO'
    have SL' := Lib.hid (SL.out.keep bb.block); clear SL; have SL := SL'; clear SL'
    have SW' := Lib.hid (SW.out.keep bb.block); clear SW; have SW := SW'; clear SW'
    clear bb HB26
    go_wp2_with fail
    have hq := (SW.out)
    rw [Po.and_or OX.out OY.out] at hq
    refine (same_t vW vZ (Po.orL xs (Po.andL xs ys)) w27 hq (SZ.out)).mono ?_
    rintro e w28 ⟨rfl, bb⟩
    clear hq
    have HB28 := Lib.hid (chain HB27.out bb)
    have SN' := Lib.hid (SN.out.keep bb.block); clear SN; have SN := SN'; clear SN'
    have SO' := Lib.hid (SO.out.keep bb.block); clear SO; have SO := SO'; clear SO'
    have SL' := Lib.hid (SL.out.keep bb.block); clear SL; have SL := SL'; clear SL'
    have SW' := Lib.hid (SW.out.keep bb.block); clear SW; have SW := SW'; clear SW'
    have SZ' := Lib.hid (SZ.out.keep bb.block); clear SZ; have SZ := SZ'; clear SZ'
    clear bb HB27
    go_wp2_with fail
    go_ret
    exact ⟨rfl, HB28.out⟩
theorem postSets_w {va vb : Value} {xs ys : List Po.P} {w : World} (c : SeqP w va xs ∧ xs.length ≤ 4398046511104 ∧ ∀ y ∈ xs, POk y) (c' : SeqP w vb ys ∧ ys.length ≤ 4398046511104 ∧ ∀ y ∈ ys, POk y) (d : Int) (_ : -9223372036854775808 ≤ d ∧ d ≤ 9223372036854775807) (_ : World) :
    Calls Try.prog 3 #[va, vb, .int .i64 d] w fun e w' => e = .returned (.bool true) ∧ Below w.heap.size w w' := postSets_k va vb xs ys d w c.1 c'.1 c.2.1 c'.2.1
end Go.Proofs.Ytijbkflbklbemaa
