/- The walk of CodeReads. -/
import Derived.Test.YtipehfidphgbbaaSmall
import Derived.Deep.CutRange
import Derived.Deep.CutBlock
import Derived.Deep.RegionHeld3
import Derived.Deep.LoopGhost
namespace Go.Proofs.Ytipehfidphgbbaa
open Go.RowKit

/-- both readers are in one state -/
structure Two (w0 w : World) (b1 b2 : Nat) (st : Vi.St) : Prop where
  r1 : Rd 61 w b1 st
  r2 : Rd 63 w b2 st
  fit : Vi.Fit st
  len : st.1.length ≤ 10000
  below : Below w0.heap.size w0 w

theorem Two.drew {w0 w w' : World} {b1 b2 : Nat} {st : Vi.St} (h : Two w0 w b1 b2 st) (hd : ∃ n, w' = w.drewN n) : Two w0 w' b1 b2 st := by
  obtain ⟨n, rfl⟩ := hd
  obtain ⟨h1, h2, h3, h4, h5⟩ := h
  exact ⟨h1, h2, h3, h4, ⟨h5.os, h5.tape, h5.output, h5.size, h5.block⟩⟩

set_option maxHeartbeats 4000000 in
set_option maxRecDepth 100000 in
theorem reads_w (s : ByteArray) (hs : s.size ≤ 140737488355328) (va : Value) (xs : List Int) (w : World) (qa : Seq w va (xs.map iv)) (ba : ∀ y ∈ xs, I64 y) :
    Calls Try.prog 4 #[.string s, va] w fun e w' => e = .returned (.bool true) ∧ Below w.heap.size w w' := by
  obtain ⟨A, ca, rfl, hca, hma, qa⟩ := qa
  simp only [List.length_map] at hca ⊢
  unfold maxLen at hma
  have QA := Lib.hid qa; clear qa
  have BA := Lib.hid ba; clear ba
  by_cases k0 : (10000 : Int) < (s.size : Int) ∨ (40 : Int) < (xs.length : Int)
  · have k0' : (10000 : Int) < (s.size : Int) ∨ (decide ((10000 : Int) < (s.size : Int)) = false ∧ decide ((40 : Int) < (xs.length : Int)) = true) := by
      simp; omega
    clear k0
    rcases k0' with k0 | ⟨k0, k1⟩
    all_goals
      go_enter Try.func4, Try.ntmps4
      go_wp2_with fail
      refine (small_c w).mono ?_
      rintro e w1 ⟨rfl, h1⟩
      go_wp2_with fail
      refine (Open_c s w1).mono ?_
      rintro e w2 ⟨rfl, r2, b2, z2⟩
      go_wp2_with fail
      refine (OpenR_c s w2).mono ?_
      rintro e w3 ⟨rfl, q3, b3, z3⟩
      go_wp2_with fail
      go_ret
      exact ⟨rfl, chain (chain h1 b2) b3⟩
  · have e1 : decide ((10000 : Int) < (s.size : Int)) = false := by simp; omega
    have e2 : decide ((40 : Int) < (xs.length : Int)) = false := by simp; omega
    have hs' : s.size ≤ 10000 := by omega
    have hx' : xs.length ≤ 40 := by omega
    clear k0
    go_enter Try.func4, Try.ntmps4
    go_wp2_with fail
    refine (small_c w).mono ?_
    rintro e w1 ⟨rfl, h1⟩
    go_wp2_with fail
    refine (Open_c s w1).mono ?_
    rintro e w2 ⟨rfl, r2, b2, z2⟩
    go_wp2_with fail
    refine (OpenR_c s w2).mono ?_
    rintro e w3 ⟨rfl, q3, b3, z3⟩
    have r3 := r2.below b3 z2
    have hne : w1.heap.size ≠ w2.heap.size := by omega
    have a3 := chain (chain h1 b2) b3
    have l1 := h1.size
    have T3 : Two w w3 w1.heap.size w2.heap.size (s.data.toList, false) := ⟨r3, q3, fit_f _, hs', a3⟩
    generalize w1.heap.size = B1 at *
    generalize w2.heap.size = B2 at *
    clear r2 r3 q3 b2 b3 h1 a3 e1 e2
    go_wp2_with fail
    go_loopw [8] (fun i wr => ∃ (k : Nat) (st : Vi.St), k ≤ xs.length ∧ i = .int .i64 k ∧ Two w wr B1 B2 st) (fun i _ => xs.length - (intOf i).toNat)
    case atStart => exact ⟨0, _, by omega, rfl, T3⟩
    case round =>
      obtain ⟨k, st, hk, rfl, hT⟩ := hrel
      by_cases k1 : k < xs.length
      · obtain ⟨b1, o1, rfl, hc⟩ := QA.out.resolve_left (by intro e; have := congrArg List.length e; simp at this; rw [this] at k1; simp at k1)
        have hcell : w.cell? ⟨b1, o1 + k, none⟩ = some (.int .i64 xs[k]) := hc k _ (by simp [k1, iv])
        have hlt := World.block_lt_of_cell? w _ hcell
        have hz := BA.out _ (List.getElem_mem k1)
        clear hc
        generalize xs[k] = z at *
        have i0 : (0 : Int) ≤ (k : Int) := by omega
        have i1 : (k : Int) < (xs.length : Int) := by omega
        have hcellr : wr.cell? ⟨b1, o1 + k, none⟩ = some (.int .i64 z) := (hT.below.cell hlt).trans hcell
        clear hcell
        go_upto_block 2 with fail
        go_cut [9] from 26 to 94 (fun v wc => v = .bool true ∧ ∃ st', Two w wc B1 B2 st')
        case first =>
          obtain ⟨t1, t2, tf, tl, tb⟩ := hT
          have tm1 : B1 < wr.heap.size := t1.lt
          have hn1 : B1 ≠ B2 := hne
          have hb2 := t2.lt
          by_cases j0 : z = 0
          · subst j0
            go_wp2_with fail
            refine (Num_c B1 st wr t1 (by unfold maxLen; omega)).mono ?_
            rintro e w4 ⟨rfl, u1, g1⟩
            go_wp2_with fail
            refine (NumR_c B2 st w4 (t2.grown g1 (by simp; omega)) (by unfold maxLen; omega)).mono ?_
            rintro e w5 ⟨rfl, u2, g2⟩
            have hT5 : Two w w5 B1 B2 (Vi.rNum st).2 := ⟨u1.grown g2 (by simp; omega), u2, Vi.rNum_fit tf, Nat.le_trans (Vi.rNum_le st) tl, below_of_grown (below_of_grown tb g1 tb.size l1) g2 (Nat.le_trans tb.size g1.size) (by omega)⟩
            go_wp2_with fail
            go_meet
            case rel => exact ⟨rfl, _, hT5⟩
          · by_cases j1 : z = 1
            · subst j1
              go_wp2_with fail
              refine (Text_c B1 st wr t1 (by unfold maxLen; omega)).mono ?_
              rintro e w4 ⟨x4, hx4, rfl, u1, g1⟩
              go_wp2_with fail
              refine (TextR_c B2 st w4 (t2.grown g1 (by simp; omega)) (by unfold maxLen; omega)).mono ?_
              rintro e w5 ⟨x5, hx5, rfl, u2, g2⟩
              have hT5 : Two w w5 B1 B2 (Vi.rText st).2 := ⟨u1.grown g2 (by simp; omega), u2, Vi.rText_fit, Nat.le_trans (Vi.rText_le st).1 tl, below_of_grown (below_of_grown tb g1 tb.size l1) g2 (Nat.le_trans tb.size g1.size) (by omega)⟩
              obtain rfl := bs_of hx4
              obtain rfl := bs_of hx5
              clear hx4 hx5
              go_wp2_with fail
              go_meet
              case rel => exact ⟨rfl, _, hT5⟩
            · by_cases j2 : z = 2
              · subst j2
                go_wp2_with fail
                refine (List_c B1 st wr t1 tf (by omega)).mono ?_
                rintro e w4 ⟨v4, rfl, o4, u1, g1⟩
                go_wp2_with fail
                refine (ListR_c B2 st w4 (t2.grown g1 (by simp; omega)) tf (by omega)).mono ?_
                rintro e w5 ⟨v5, rfl, o5, u2, g2⟩
                have hT5 : Two w w5 B1 B2 (Vi.rMany Vi.rText st).2 := ⟨u1.grown g2 (by simp; omega), u2, Vi.rMany_fit st, Nat.le_trans (Vi.rMany_le (fun st => (Vi.rText_le st).1) st) tl, below_of_grown (below_of_grown tb g1 tb.size l1) g2 (Nat.le_trans tb.size g1.size) (by omega)⟩
                have s4 := Seq.of_own (xs := (Vi.rMany Vi.rText st).1.map sv) (by rw [List.length_map]; exact o4.kept g2 (own_ne o4 (by omega)))
                have s5 := Seq.of_own (xs := (Vi.rMany Vi.rText st).1.map sv) (by rw [List.length_map]; exact o5)
                go_wp2_with fail
                have c := SameTexts_c v4 v5 (Vi.rMany Vi.rText st).1 (Vi.rMany Vi.rText st).1 w5 s4 s5
                rw [show decide ((Vi.rMany Vi.rText st).1 = (Vi.rMany Vi.rText st).1) = true from by simp] at c
                refine c.mono ?_
                rintro e w6 ⟨rfl, n6⟩
                have hT6 := hT5.drew n6
                clear n6
                go_wp2_with fail
                go_meet
                case rel => exact ⟨rfl, _, hT6⟩
              · by_cases j3 : z = 3
                · subst j3
                  go_wp2_with fail
                  refine (Nums_c B1 st wr t1 tf (by omega)).mono ?_
                  rintro e w4 ⟨v4, rfl, o4, u1, g1⟩
                  go_wp2_with fail
                  refine (NumsR_c B2 st w4 (t2.grown g1 (by simp; omega)) tf (by omega)).mono ?_
                  rintro e w5 ⟨v5, rfl, o5, u2, g2⟩
                  have hT5 : Two w w5 B1 B2 (Vi.rMany Vi.rNum st).2 := ⟨u1.grown g2 (by simp; omega), u2, Vi.rMany_fit st, Nat.le_trans (Vi.rMany_le (fun st => Vi.rNum_le st) st) tl, below_of_grown (below_of_grown tb g1 tb.size l1) g2 (Nat.le_trans tb.size g1.size) (by omega)⟩
                  have s4 := Seq.of_own (xs := (Vi.rMany Vi.rNum st).1.map nv) (by rw [List.length_map]; exact o4.kept g2 (own_ne o4 (by omega)))
                  have s5 := Seq.of_own (xs := (Vi.rMany Vi.rNum st).1.map nv) (by rw [List.length_map]; exact o5)
                  rw [nv_map] at s4 s5
                  go_wp2_with fail
                  have c := SameInts_c v4 v5 _ _ w5 s4 s5
                  rw [show decide ((Vi.rMany Vi.rNum st).1.map (fun n : Nat => (n : Int)) = (Vi.rMany Vi.rNum st).1.map (fun n : Nat => (n : Int))) = true from by simp] at c
                  refine c.mono ?_
                  rintro e w6 ⟨rfl, n6⟩
                  have hT6 := hT5.drew n6
                  clear n6
                  go_wp2_with fail
                  go_meet
                  case rel => exact ⟨rfl, _, hT6⟩
                · have q0 : (z == 0) = false := by simpa using j0
                  have q1 : (z == 1) = false := by simpa using j1
                  have q2 : (z == 2) = false := by simpa using j2
                  have q3 : (z == 3) = false := by simpa using j3
                  clear j0 j1 j2 j3
                  go_wp2_with fail
                  have tD : Rd 61 wr.drew B1 st := t1
                  have hc0 : wr.drew.cell? ⟨b1, o1 + k, none⟩ = some (.int .i64 z) := hcellr
                  go_region_held3 (fun w' => w'.cell? ⟨b1, o1 + k, none⟩ = some (.int .i64 z)) (first | exact hcellr | exact c4 | exact c5) ((first | (go_at_call 31; refine (Take_c B1 _ st wr.drew tD (by unfold maxLen; omega)).mono ?_; rintro e w4 ⟨x4, hx4, rfl, u1, g1⟩; have c4 := g1.cell hc0 (by simp; omega); obtain rfl := bs_of hx4; clear hx4) | (go_at_call 32; refine (TakeR_c B2 _ st w4 (Rd.grown (w := wr.drew) t2 g1 (by simp; omega)) (by unfold maxLen; omega)).mono ?_; rintro e w5 ⟨x5, hx5, rfl, u2, g2⟩; have c5 := g2.cell c4 (by simp; omega); obtain rfl := bs_of hx5; clear hx5)))
                  have hT5 : Two w w5 B1 B2 (Vi.rTake (IntKind.i64.wrap (z - 4)) st).2 := ⟨u1.grown g2 (by simp; omega), u2, Vi.rTake_fit, Nat.le_trans (Vi.rTake_le _ st).1 tl, below_of_grown (below_of_grown tb.drew g1 tb.size l1) g2 (Nat.le_trans tb.size g1.size) (by omega)⟩
                  go_wp2_with fail
                  go_meet
                  case rel => exact ⟨rfl, _, hT5⟩
        case rest =>
          obtain ⟨rfl, st', hT'⟩ := hcut
          obtain ⟨t1, t2, tf, tl, tb⟩ := id hT'
          go_wp2_with fail
          refine (Left_c B1 st' wc t1).mono ?_
          rintro e w4 ⟨rfl, rfl⟩
          go_wp2_with fail
          refine (LeftR_c B2 st' wc t2).mono ?_
          rintro e w4 ⟨rfl, rfl⟩
          go_wp2_with fail
          refine (Done_c B1 st' wc t1).mono ?_
          rintro e w4 ⟨rfl, rfl⟩
          go_wp2_with fail
          refine (DoneR_c B2 st' wc t2).mono ?_
          rintro e w4 ⟨rfl, rfl⟩
          go_wp2
          go_roundw
          case rel => first | exact ⟨k + 1, st', by omega, by go_num, hT'⟩ | ((repeat apply Exists.intro); exact ⟨⟨k + 1, st', by omega, by go_num, hT'⟩, rfl⟩)
          case measure => simp [intOf] <;> omega
      · go_wp2
        go_ret
        exact ⟨rfl, hT.below⟩

theorem codeReads_w (s : ByteArray) (hs : s.data.toList.length ≤ 140737488355328) (va : Value) (xs : List Int) {w : World} (qa : Seq w va (xs.map iv)) (ba : ∀ y ∈ xs, -9223372036854775808 ≤ y ∧ y ≤ 9223372036854775807) (_za : xs.length ≤ 17592186044416) (_ : World) :
    Calls Try.prog 4 #[.string s, va] w fun e w' => e = .returned (.bool true) ∧ Below w.heap.size w w' := reads_w s hs va xs w qa ba
end Go.Proofs.Ytipehfidphgbbaa
