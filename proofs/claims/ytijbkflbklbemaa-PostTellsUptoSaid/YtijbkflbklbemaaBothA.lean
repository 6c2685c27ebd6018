/- Walks: 'both' at Posting, for each that sees. -/
import Derived.Test.YtijbkflbklbemaaBothP
namespace Go.Proofs.Ytijbkflbklbemaa
open Go.RowKit

set_option maxHeartbeats 16000000 in
theorem bothAnd_c (va vb : Value) (xs ys : List Po.P) (ptr : Value) (w1 w : World) (ha : SeqP w1 va xs) (hb : SeqP w1 vb ys)
    (Inv : List (Option Po.P × Option Po.P) → World → Prop) (h0 : Inv [] w) (hkeep : ∀ l u, Inv l u → Below w1.heap.size w1 u) (hbelow : ∀ l u u', Inv l u → Below u.heap.size u u' → Inv l u')
    (hsee : ∀ l x y px py u, Inv l u → SeeP u x px → SeeP u y py → (l ++ [(x, y)]) <+: Po.mrg Po.P.doc xs ys → Calls Try.prog 25 #[px, py, ptr] u fun e u' => e = .returned (.tuple #[]) ∧ Inv (l ++ [(x, y)]) u') :
    Calls Try.prog 47 #[va, vb, .func (.func 48) #[] #[], .func (.func 25) #[] #[ptr]] w fun e w' => e = .returned (.tuple #[]) ∧ Inv (Po.mrg Po.P.doc xs ys) w' := by
  have QA := Lib.hid ha; clear ha
  have QB := Lib.hid hb; clear hb
  have hdrew : ∀ l u n, Inv l u → Inv l (World.drewN u n) := fun l u n h => hbelow l u _ h ⟨rfl, rfl, rfl, Nat.le_refl _, fun _ _ => rfl⟩
  go_enter Try.func47, Try.ntmps47
  go_wp2_with fail
  go_loopw [0, 1] (fun v v' wr => ∃ (es fs : List Po.P) (l : List (Option Po.P × Option Po.P)), SeqP w1 v es ∧ SeqP w1 v' fs ∧ Inv l wr ∧ l ++ Po.mrg Po.P.doc es fs = Po.mrg Po.P.doc xs ys) (fun v v' _ => slen v + slen v')
  case atStart => exact ⟨xs, ys, [], QA.out, QB.out, h0, rfl⟩
  case round =>
    obtain ⟨es, fs, l, qa, qb, hi, hl⟩ := hrel
    obtain ⟨A, ca, rfl, hca, hma, ha⟩ := id qa
    obtain ⟨B, cb, rfl, hcb, hmb, hb⟩ := id qb
    have HQA := Lib.hid qa; clear qa
    have HQB := Lib.hid qb; clear qb
    have HL := Lib.hid hl; clear hl
    cases es with
    | nil =>
      cases fs with
      | nil =>
        go_wp2
        go_end0
        rw [← HL.out, show Po.mrg Po.P.doc ([] : List Po.P) [] = [] from by rw [Po.mrg], List.append_nil]
        exact ⟨rfl, hi⟩
      | cons y fs =>
        obtain ⟨b2, o2, rfl, hc2⟩ := hb.resolve_left (by simp)
        have HC2 := Lib.hid hc2
        have hat2 := hc2 0 _ rfl
        simp only [Nat.zero_mul, Nat.add_zero] at hat2
        have d2 : PAt wr b2 o2 y := hat2.keep fun b hb => (hkeep _ _ hi).block b hb
        have D2 := Lib.hid d2
        obtain ⟨p2, P2, n2, m2', q2, s2⟩ := d2
        have i2 : (0 : Int) < ((fs.length + 1 : Nat) : Int) := by omega
        have j2 : (((fs.length : Nat) : Int) + 1 == 0) = false := by simp; omega
        have m2 : fs.length + 1 ≤ cb := by simpa using hcb
        have HM2 := Lib.hid hmb
        unfold maxLen at hmb
        clear hc2 hat2 hb s2
        go_wp2_with fail
        go_quiet (fail)
        all_goals go_wp2_with fail
        all_goals (refine (hsee l none (some y) _ _ _ (hdrew _ _ _ hi) rfl ⟨b2, o2, rfl, D2.out⟩ ⟨_, mrg_r HL.out⟩).mono ?_; rintro e u' ⟨rfl, hu⟩; go_wp2_with fail; go_roundw; (case rel => exact ⟨[], fs, _, HQA.out, (by first | exact SeqP.tail HM2.out m2 HC2.out | exact SeqP.none (by omega)), hu, mrg_r HL.out⟩); (case measure => simp [slen] <;> omega))
    | cons x es =>
      cases fs with
      | nil =>
        obtain ⟨b1, o1, rfl, hc1⟩ := ha.resolve_left (by simp)
        have HC1 := Lib.hid hc1
        have hat1 := hc1 0 _ rfl
        simp only [Nat.zero_mul, Nat.add_zero] at hat1
        have d1 : PAt wr b1 o1 x := hat1.keep fun b hb => (hkeep _ _ hi).block b hb
        have D1 := Lib.hid d1
        obtain ⟨p1, P1, n1, m1', q1, s1⟩ := d1
        have i1 : (0 : Int) < ((es.length + 1 : Nat) : Int) := by omega
        have j1 : (((es.length : Nat) : Int) + 1 == 0) = false := by simp; omega
        have m1 : es.length + 1 ≤ ca := by simpa using hca
        have HM1 := Lib.hid hma
        unfold maxLen at hma
        clear hc1 hat1 ha s1
        go_wp2_with fail
        go_quiet (fail)
        all_goals go_wp2_with fail
        all_goals (refine (hsee l (some x) none _ _ _ (hdrew _ _ _ hi) ⟨b1, o1, rfl, D1.out⟩ rfl ⟨_, mrg_l HL.out⟩).mono ?_; rintro e u' ⟨rfl, hu⟩; go_wp2_with fail; go_roundw; (case rel => exact ⟨es, [], _, (by first | exact SeqP.tail HM1.out m1 HC1.out | exact SeqP.none (by omega)), HQB.out, hu, mrg_l HL.out⟩); (case measure => simp [slen] <;> omega))
      | cons y fs =>
        obtain ⟨b1, o1, rfl, hc1⟩ := ha.resolve_left (by simp)
        have HC1 := Lib.hid hc1
        have hat1 := hc1 0 _ rfl
        simp only [Nat.zero_mul, Nat.add_zero] at hat1
        have d1 : PAt wr b1 o1 x := hat1.keep fun b hb => (hkeep _ _ hi).block b hb
        have D1 := Lib.hid d1
        obtain ⟨p1, P1, n1, m1', q1, s1⟩ := d1
        have i1 : (0 : Int) < ((es.length + 1 : Nat) : Int) := by omega
        have j1 : (((es.length : Nat) : Int) + 1 == 0) = false := by simp; omega
        have m1 : es.length + 1 ≤ ca := by simpa using hca
        have HM1 := Lib.hid hma
        unfold maxLen at hma
        clear hc1 hat1 ha s1
        obtain ⟨b2, o2, rfl, hc2⟩ := hb.resolve_left (by simp)
        have HC2 := Lib.hid hc2
        have hat2 := hc2 0 _ rfl
        simp only [Nat.zero_mul, Nat.add_zero] at hat2
        have d2 : PAt wr b2 o2 y := hat2.keep fun b hb => (hkeep _ _ hi).block b hb
        have D2 := Lib.hid d2
        obtain ⟨p2, P2, n2, m2', q2, s2⟩ := d2
        have i2 : (0 : Int) < ((fs.length + 1 : Nat) : Int) := by omega
        have j2 : (((fs.length : Nat) : Int) + 1 == 0) = false := by simp; omega
        have m2 : fs.length + 1 ≤ cb := by simpa using hcb
        have HM2 := Lib.hid hmb
        unfold maxLen at hmb
        clear hc2 hat2 hb s2
        by_cases k1 : x.doc < y.doc
        · have K1 := Lib.hid k1; clear k1
          have hcm : ∀ u, Calls Try.prog 48 #[.agg #[.int .i64 x.doc, .slice P1 n1 m1'], .agg #[.int .i64 y.doc, .slice P2 n2 m2']] u fun e w' => e = .returned (.int .i64 (-1)) ∧ Below u.heap.size u w' := fun u => by
            have := order_c x.doc y.doc P1 P2 n1 m1' n2 m2' u
            rwa [show cmpI x.doc y.doc = -1 from by unfold cmpI; rw [if_pos K1.out]] at this
          have HCM := Lib.hid hcm; clear hcm
          go_wp2_with fail
          go_region_held3 (fun u => (u.cell? ⟨b1, o1, none⟩ = some (.int .i64 x.doc) ∧ u.cell? ⟨b1, o1 + 1, none⟩ = some (.slice P1 n1 m1')) ∧ (u.cell? ⟨b2, o2, none⟩ = some (.int .i64 y.doc) ∧ u.cell? ⟨b2, o2 + 1, none⟩ = some (.slice P2 n2 m2'))) (first | exact ⟨⟨p1, q1⟩, p2, q2⟩ | exact e1) ((first | (go_at_call 48; refine (HCM.out wr.drew).mono ?_; rintro e w5 ⟨rfl, h5⟩; have e1 := And.intro (And.intro (cell_keep h5.block (show wr.drew.cell? _ = _ from p1)) (cell_keep h5.block (show wr.drew.cell? _ = _ from q1))) (And.intro (cell_keep h5.block (show wr.drew.cell? _ = _ from p2)) (cell_keep h5.block (show wr.drew.cell? _ = _ from q2))))))
          have hi5 : Inv l w5 := hbelow l wr.drew w5 (hdrew l wr 1 hi) h5
          have d15 : PAt w5 b1 o1 x := D1.out.keep h5.block
          have d25 : PAt w5 b2 o2 y := D2.out.keep h5.block
          have X15 := Lib.hid d15
          have X25 := Lib.hid d25
          clear e1 h5 hi d15 d25
          go_wp2_with fail
          all_goals go_quiet (fail)
          all_goals go_wp2_with fail
          all_goals (refine (hsee l (some x) none _ _ _ (hdrew _ _ _ hi5) ⟨b1, o1, rfl, X15.out⟩ rfl ⟨_, mrg_lt HL.out K1.out⟩).mono ?_; rintro e u' ⟨rfl, hu⟩; go_wp2_with fail; go_roundw; (case rel => exact ⟨es, (y :: fs), _, (by first | exact SeqP.tail HM1.out m1 HC1.out | exact SeqP.none (by omega)), HQB.out, hu, mrg_lt HL.out K1.out⟩); (case measure => simp [slen] <;> omega))
        · by_cases k2 : y.doc < x.doc
          · have K1 := Lib.hid (Int.not_lt.1 k1); clear k1
            have K2 := Lib.hid k2; clear k2
            have hcm : ∀ u, Calls Try.prog 48 #[.agg #[.int .i64 x.doc, .slice P1 n1 m1'], .agg #[.int .i64 y.doc, .slice P2 n2 m2']] u fun e w' => e = .returned (.int .i64 (1)) ∧ Below u.heap.size u w' := fun u => by
              have := order_c x.doc y.doc P1 P2 n1 m1' n2 m2' u
              rwa [show cmpI x.doc y.doc = 1 from by unfold cmpI; rw [if_neg (Int.not_lt.2 K1.out), if_pos K2.out]] at this
            have HCM := Lib.hid hcm; clear hcm
            go_wp2_with fail
            go_region_held3 (fun u => (u.cell? ⟨b1, o1, none⟩ = some (.int .i64 x.doc) ∧ u.cell? ⟨b1, o1 + 1, none⟩ = some (.slice P1 n1 m1')) ∧ (u.cell? ⟨b2, o2, none⟩ = some (.int .i64 y.doc) ∧ u.cell? ⟨b2, o2 + 1, none⟩ = some (.slice P2 n2 m2'))) (first | exact ⟨⟨p1, q1⟩, p2, q2⟩ | exact e1) ((first | (go_at_call 48; refine (HCM.out wr.drew).mono ?_; rintro e w5 ⟨rfl, h5⟩; have e1 := And.intro (And.intro (cell_keep h5.block (show wr.drew.cell? _ = _ from p1)) (cell_keep h5.block (show wr.drew.cell? _ = _ from q1))) (And.intro (cell_keep h5.block (show wr.drew.cell? _ = _ from p2)) (cell_keep h5.block (show wr.drew.cell? _ = _ from q2))))))
            have hi5 : Inv l w5 := hbelow l wr.drew w5 (hdrew l wr 1 hi) h5
            have d15 : PAt w5 b1 o1 x := D1.out.keep h5.block
            have d25 : PAt w5 b2 o2 y := D2.out.keep h5.block
            have X15 := Lib.hid d15
            have X25 := Lib.hid d25
            clear e1 h5 hi d15 d25
            go_wp2_with fail
            all_goals go_quiet (fail)
            all_goals go_wp2_with fail
            all_goals (refine (hsee l none (some y) _ _ _ (hdrew _ _ _ hi5) rfl ⟨b2, o2, rfl, X25.out⟩ ⟨_, mrg_gt HL.out K1.out K2.out⟩).mono ?_; rintro e u' ⟨rfl, hu⟩; go_wp2_with fail; go_roundw; (case rel => exact ⟨(x :: es), fs, _, HQA.out, (by first | exact SeqP.tail HM2.out m2 HC2.out | exact SeqP.none (by omega)), hu, mrg_gt HL.out K1.out K2.out⟩); (case measure => simp [slen] <;> omega))
          · have K1 := Lib.hid (Int.not_lt.1 k1); clear k1
            have K2 := Lib.hid (Int.not_lt.1 k2); clear k2
            have hcm : ∀ u, Calls Try.prog 48 #[.agg #[.int .i64 x.doc, .slice P1 n1 m1'], .agg #[.int .i64 y.doc, .slice P2 n2 m2']] u fun e w' => e = .returned (.int .i64 (0)) ∧ Below u.heap.size u w' := fun u => by
              have := order_c x.doc y.doc P1 P2 n1 m1' n2 m2' u
              rwa [show cmpI x.doc y.doc = 0 from by unfold cmpI; rw [if_neg (Int.not_lt.2 K1.out), if_neg (Int.not_lt.2 K2.out)]] at this
            have HCM := Lib.hid hcm; clear hcm
            go_wp2_with fail
            go_region_held3 (fun u => (u.cell? ⟨b1, o1, none⟩ = some (.int .i64 x.doc) ∧ u.cell? ⟨b1, o1 + 1, none⟩ = some (.slice P1 n1 m1')) ∧ (u.cell? ⟨b2, o2, none⟩ = some (.int .i64 y.doc) ∧ u.cell? ⟨b2, o2 + 1, none⟩ = some (.slice P2 n2 m2'))) (first | exact ⟨⟨p1, q1⟩, p2, q2⟩ | exact e1) ((first | (go_at_call 48; refine (HCM.out wr.drew).mono ?_; rintro e w5 ⟨rfl, h5⟩; have e1 := And.intro (And.intro (cell_keep h5.block (show wr.drew.cell? _ = _ from p1)) (cell_keep h5.block (show wr.drew.cell? _ = _ from q1))) (And.intro (cell_keep h5.block (show wr.drew.cell? _ = _ from p2)) (cell_keep h5.block (show wr.drew.cell? _ = _ from q2))))))
            have hi5 : Inv l w5 := hbelow l wr.drew w5 (hdrew l wr 1 hi) h5
            have d15 : PAt w5 b1 o1 x := D1.out.keep h5.block
            have d25 : PAt w5 b2 o2 y := D2.out.keep h5.block
            have X15 := Lib.hid d15
            have X25 := Lib.hid d25
            clear e1 h5 hi d15 d25
            go_wp2_with fail
            all_goals go_quiet (fail)
            all_goals go_wp2_with fail
            all_goals go_quiet (fail)
            all_goals go_wp2_with fail
            all_goals (refine (hsee l (some x) (some y) _ _ _ (hdrew _ _ _ hi5) ⟨b1, o1, rfl, X15.out⟩ ⟨b2, o2, rfl, X25.out⟩ ⟨_, mrg_eq HL.out K1.out K2.out⟩).mono ?_; rintro e u' ⟨rfl, hu⟩; go_wp2_with fail; go_roundw; (case rel => exact ⟨es, fs, _, (by first | exact SeqP.tail HM1.out m1 HC1.out | exact SeqP.none (by omega)), (by first | exact SeqP.tail HM2.out m2 HC2.out | exact SeqP.none (by omega)), hu, mrg_eq HL.out K1.out K2.out⟩); (case measure => simp [slen] <;> omega))

end Go.Proofs.Ytijbkflbklbemaa
