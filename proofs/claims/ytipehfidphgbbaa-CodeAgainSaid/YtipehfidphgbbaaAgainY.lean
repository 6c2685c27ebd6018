/- The walk of CodeAgain. -/
import Derived.Test.YtipehfidphgbbaaAgainX
import Derived.Test.YtipehfidphgbbaaBackW
namespace Go.Proofs.Ytipehfidphgbbaa
open Go.RowKit

set_option maxHeartbeats 8000000 in
set_option maxRecDepth 100000 in
theorem again_w (S : List UInt8) (va : Value) (ks : List Int) (w : World) (ha : Seq w va (ks.map iv)) (hks : ∀ y ∈ ks, I64 y) :
    Calls Try.prog 6 #[.string (bs S), va] w fun e w' => e = .returned (.bool true) ∧ Below w.heap.size w w' := by
  obtain ⟨A, ca, rfl, hca, hma, ha⟩ := ha
  rw [List.length_map] at hca ⊢
  unfold maxLen at hma
  have HA := Lib.hid ha; clear ha
  have HX := Lib.hid hks; clear hks
  have hSs : (bs S).size = S.length := rfl
  by_cases kF : (10000 : Int) < ((bs S).size : Int)
  · go_enter Try.func6, Try.ntmps6
    go_wp2_with fail
    refine (small_c w).mono ?_
    rintro e w1 ⟨rfl, h1⟩
    go_wp2_with fail
    refine (Open_c _ w1).mono ?_
    rintro e w2 ⟨rfl, r2, b2, z2⟩
    go_wp2_with fail
    go_ret
    exact ⟨rfl, chain h1 b2⟩
  · by_cases kK : (20 : Int) < (ks.length : Int)
    · go_enter Try.func6, Try.ntmps6
      go_wp2_with fail
      refine (small_c w).mono ?_
      rintro e w1 ⟨rfl, h1⟩
      go_wp2_with fail
      refine (Open_c _ w1).mono ?_
      rintro e w2 ⟨rfl, r2, b2, z2⟩
      have d1 : decide ((10000 : Int) < ((bs S).size : Int)) = false := by simpa using kF
      have d2 : decide ((20 : Int) < (ks.length : Int)) = true := by simpa using kK
      go_wp2_with fail
      go_ret
      exact ⟨rfl, chain h1 b2⟩
    · have hF' : S.length ≤ 10000 := by omega
      have hK' : ks.length ≤ 20 := by omega
      have d1 : decide ((10000 : Int) < ((bs S).size : Int)) = false := by simpa using kF
      have d2 : decide ((20 : Int) < (ks.length : Int)) = false := by simpa using kK
      obtain ⟨i0, hi, hz0, hz1, hz2⟩ := info_parts infoV
      clear hSs
      go_enter Try.func6, Try.ntmps6
      go_wp2_with fail
      refine (small_c w).mono ?_
      rintro e w1 ⟨rfl, h1⟩
      go_wp2_with fail
      refine (Open_c _ w1).mono ?_
      rintro e w3 ⟨rfl, r3, b3, z3⟩
      have T3 : Ag w w3.heap.size w1.heap.size S w3 (S, false) (.slice none 0 0) [] :=
        ⟨by rw [bs_data] at r3; exact r3, World.ownsRow_nil _ _ _ _, by simp, chain h1 b3, Nat.le_refl _, fit_f _, hF', fun _ => by simp⟩
      have l2 := h1.size
      generalize w1.heap.size = B at *
      generalize hC : w3.heap.size = C at *
      clear r3 b3 h1 hC kF kK
      go_wp2_with fail
      go_loopw [7, 8] (fun l i wr => ∃ (k : Nat) (st : Vi.St) (vs : List P3), k ≤ ks.length ∧ i = .int .i64 k ∧ vs.length = k ∧ Ag w C B S wr st l vs) (fun _ i _ => ks.length - (intOf i).toNat)
      case atStart => exact ⟨0, _, [], by omega, rfl, rfl, T3⟩
      case round =>
        obtain ⟨k, st, vs, hk, rfl, hvl, hT⟩ := hrel
        by_cases k1 : k < ks.length
        · obtain ⟨b1, o1, rfl, hc⟩ := HA.out.resolve_left (by intro e; rw [List.map_eq_nil_iff] at e; rw [e] at k1; simp at k1)
          have hat := hc k (iv ks[k]) (by simp [k1])
          have hlt : b1 < w.heap.size := World.block_lt_of_cell? w _ hat
          have hik := HX.out ks[k] (List.getElem_mem k1)
          have j0 : (0 : Int) ≤ (k : Int) := by omega
          have j1 : (k : Int) < (ks.length : Int) := by omega
          clear hc
          generalize ks[k] = kk at *
          have c0 : wr.cell? ⟨b1, o1 + k, none⟩ = some (.int .i64 kk) := (hT.below.cell (p := ⟨b1, _, none⟩) hlt).trans hat
          have hsz := hT.size
          go_upto_block 2 with (go_at_call 39; refine (kind_c _ _ _ _ _ _).mono ?_; rintro e w4 ⟨rfl, h4⟩)
          have hBT : B < wr.heap.size := hT.rd.lt
          have hT4 : Mid4 wr w4 B wr.heap.size st kk :=
            ⟨(hT.rd.of_block (Below.heap_alloc wr _ B hT.rd.lt)).below h4 (by simp; omega), (h4.block _ (by simp)).trans (heap_alloc_new wr _), grown_of_below (grown_alloc (grown_refl wr _) _) h4⟩
          have hr4 := hT4.rd
          have hfit := hT.fit
          have hlen := hT.len
          have hk4 : kk % 4 = 0 ∨ kk % 4 = 1 ∨ kk % 4 = 2 ∨ kk % 4 = 3 := by omega
          clear h4
          have HT := Lib.hid hT; clear hT
          generalize hTT : wr.heap.size = T at *
          go_cut [] from 26 to 60 (fun wc => ∃ (st' : Vi.St) (p : P3), Sw w C B wr T st st' p wc)
          case first =>
            clear c0 hat
            generalize hj : kk % 4 = j at *
            have HJ := Lib.hid hj; clear hj
            rcases hk4 with rfl | rfl | rfl | rfl
            · have HC := Lib.hid (Num_c B st w4 hr4 (by unfold maxLen; omega))
              go_wp2_with fail
              refine HC.out.mono ?_
              rintro e w5 ⟨rfl, u5, g5⟩
              obtain ⟨f1, e1⟩ := hT4.cells hBT g5 1 _ rfl
              go_wp2_with fail
              go_meet
              case rel => exact ⟨_, (⟨kk, ((Vi.rNum st).1 : Nat), [], [], []⟩, .slice none 0 0, .slice none 0 0), hT4.put hTT.symm hBT hsz g5 u5 _ 1 _ rfl (ok_num hik (num_i64 st)) (World.ownsRow_nil _ _ _ _) (World.ownsRow_nil _ _ _ _) (Vi.rNum_fit hfit) (len_of (Vi.rNum_le st) hlen) (sw_num HJ.out)⟩
            · have HC := Lib.hid (Text_c B st w4 hr4 (by unfold maxLen; omega))
              go_wp2_with fail
              refine HC.out.mono ?_
              rintro e w5 ⟨t5, ht5, rfl, u5, g5⟩
              obtain rfl := bs_of ht5
              clear ht5
              obtain ⟨f1, e1⟩ := hT4.cells hBT g5 2 _ rfl
              go_wp2_with fail
              go_meet
              case rel => exact ⟨_, (⟨kk, 0, (Vi.rText st).1, [], []⟩, .slice none 0 0, .slice none 0 0), hT4.put hTT.symm hBT hsz g5 u5 _ 2 _ rfl (ok_text hik (len_of (Vi.rText_le st).2 hlen)) (World.ownsRow_nil _ _ _ _) (World.ownsRow_nil _ _ _ _) Vi.rText_fit (len_of (Vi.rText_le st).1 hlen) (sw_text HJ.out)⟩
            · have HC := Lib.hid (List_c B st w4 hr4 hfit (by omega))
              go_wp2_with fail
              refine HC.out.mono ?_
              rintro e w5 ⟨v5, rfl, o5, u5, g5⟩
              obtain ⟨A5, n5, m5, rfl⟩ := own_slice o5
              obtain ⟨f1, e1⟩ := hT4.cells hBT g5 3 _ rfl
              go_wp2_with fail
              go_meet
              case rel => exact ⟨_, (⟨kk, 0, [], (Vi.rMany Vi.rText st).1, []⟩, .slice A5 n5 m5, .slice none 0 0), hT4.put hTT.symm hBT hsz g5 u5 _ 3 _ rfl (ok_texts hik (fun y hy => Nat.le_trans (texts_le y hy) hlen)) o5 (World.ownsRow_nil _ _ _ _) (Vi.rMany_fit st) (len_of (Vi.rMany_le (fun st => (Vi.rText_le st).1) st) hlen) (sw_texts HJ.out)⟩
            · have HC := Lib.hid (Nums_c B st w4 hr4 hfit (by omega))
              go_wp2_with fail
              refine HC.out.mono ?_
              rintro e w5 ⟨v5, rfl, o5, u5, g5⟩
              obtain ⟨A5, n5, m5, rfl⟩ := own_slice o5
              obtain ⟨f1, e1⟩ := hT4.cells hBT g5 4 _ rfl
              go_wp2_with fail
              go_meet
              case rel => exact ⟨_, (⟨kk, 0, [], [], (Vi.rMany Vi.rNum st).1.map (fun n : Nat => (n : Int))⟩, .slice none 0 0, .slice A5 n5 m5), hT4.put hTT.symm hBT hsz g5 u5 _ 4 _ rfl (ok_nums hik (nums_i64 st)) (World.ownsRow_nil _ _ _ _) (by rw [← nv_iv, List.length_map]; exact o5) (Vi.rMany_fit st) (len_of (Vi.rMany_le Vi.rNum_le st) hlen) (sw_nums HJ.out)⟩
          case rest =>
            obtain ⟨st', p, hS⟩ := hcut
            have e0 := hS.cell 0 _ rfl
            have e1 := hS.cell 1 _ rfl
            have e2 := hS.cell 2 _ rfl
            have e3 := hS.cell 3 _ rfl
            have e4 := hS.cell 4 _ rfl
            have hown := HT.out.own.kept hS.grown (own_ne HT.out.own z3)
            go_wp2_with ((at_builtin; refine wpList_append_own _ rfl _ _ 42 rfl C 47 i0 _ 5 80 Try.underlying42 hi hz0 hz1 hz2 rfl (by decide) _ _ _ rfl (hown.alloc _) ⟨wc.heap.size, 0, none⟩ 1 1 (vc p) rfl rfl (cells_new _ _ _) (vc_one hS.pv) (by unfold maxLen; omega) (by omega) (by have := hS.grown.size; simp; omega) ?_; intro v' w6 hown6 hg6 _))
            go_roundw
            case rel => first | exact ⟨k + 1, st', vs ++ [p], by omega, by go_num, by simp [hvl], HT.out.next l2 z3 hS _ hown6 hg6⟩ | ((repeat apply Exists.intro); exact ⟨⟨k + 1, st', vs ++ [p], by omega, by go_num, by simp [hvl], HT.out.next l2 z3 hS _ hown6 hg6⟩, rfl⟩)
            case measure => simp [intOf] <;> omega
        · have hr := hT.rd
          have hfit := hT.fit
          have hlen := hT.len
          have c1 := Left_c B st wr hr
          have c3 := Take_c B ((st.1.length : Nat) : Int) st wr hr (by unfold maxLen; omega)
          cases hb : st.2 with
          | true =>
            have e0 : ((st.1.length : Nat) : Int) = 0 := by rw [hfit hb]; rfl
            have e3 : Vi.rTake ((st.1.length : Nat) : Int) st = ([], ([], true)) := by unfold Vi.rTake; rw [if_pos (.inr (.inr hb))]
            rw [e3, e0] at c3
            rw [e0] at c1
            have C1 := Lib.hid c1; clear c1
            have C3 := Lib.hid c3; clear c3 e3 e0
            have HT := Lib.hid hT; clear hT hb hr hfit hlen
            go_wp2_with fail
            refine C1.out.mono ?_
            rintro e w5 ⟨rfl, rfl⟩
            go_wp2_with fail
            refine C3.out.mono ?_
            rintro e w5 ⟨t5, ht5, rfl, u5, g5⟩
            clear ht5
            have c4 := Done_c B ([], true) w5 u5
            rw [show isDone ([], true) = false from by decide] at c4
            have C4 := Lib.hid c4; clear c4
            go_wp2_with fail
            refine C4.out.mono ?_
            rintro e w6 ⟨rfl, rfl⟩
            go_wp2_with fail
            go_ret
            exact ⟨rfl, below_of_grown HT.out.below g5 HT.out.below.size l2⟩
          | false =>
            have e3 : Vi.rTake ((st.1.length : Nat) : Int) st = (st.1, ([], false)) := by unfold Vi.rTake; rw [if_neg (by simp [hb])]; simp [hb]
            have hq := hT.eq hb
            have hql := congrArg List.length hq
            rw [List.length_append] at hql
            have hE : ((bs ((vs.map (·.1)).flatMap encV) ++ bs st.1).toList == (bs S).toList) = true := by rw [bs_append, hq]; simp
            have hcat : (bs ((vs.map (·.1)).flatMap encV)).size + (bs st.1).size ≤ 9223372036854775807 := by rw [bs_size, bs_size]; omega
            rw [e3] at c3
            have C1 := Lib.hid c1; clear c1
            have C3 := Lib.hid c3; clear c3 e3
            have HT := Lib.hid hT; clear hT hb hr hfit hq
            generalize hY : st.1.length = Y at *
            clear hY
            go_wp2_with fail
            refine C1.out.mono ?_
            rintro e w5 ⟨rfl, rfl⟩
            go_wp2_with fail
            refine C3.out.mono ?_
            rintro e w5 ⟨t5, ht5, rfl, u5, g5⟩
            obtain rfl := bs_of ht5
            clear ht5
            have c4 := Done_c B ([], false) w5 u5
            rw [show isDone ([], false) = true from by decide] at c4
            have C4 := Lib.hid c4; clear c4
            have o5 := HT.out.own.kept g5 (own_ne HT.out.own z3)
            have p5 : ∀ q ∈ vs, PV w5 C q := fun q hq => (HT.out.each q hq).other g5 z3
            go_wp2_with fail
            refine C4.out.mono ?_
            rintro e w6 ⟨rfl, rfl⟩
            go_wp2_with fail
            refine (encoded_c _ (vs.map (·.1)) w5 (seqV_own o5 p5) (fun x hx => by obtain ⟨q, hq, rfl⟩ := List.mem_map.1 hx; exact (p5 q hq).ok) (by omega)).mono ?_
            rintro e w7 ⟨rfl, h7⟩
            go_wp2_with fail
            go_ret
            exact ⟨rfl, chain (below_of_grown HT.out.below g5 HT.out.below.size l2) h7⟩
theorem codeAgain_w (s : ByteArray) (_hs : s.data.toList.length ≤ 140737488355328) (vm : Value) (ms : List Int) {w : World} (qm : Seq w vm (ms.map iv)) (bm : ∀ y ∈ ms, -9223372036854775808 ≤ y ∧ y ≤ 9223372036854775807) (_zm : ms.length ≤ 17592186044416) (_ : World) :
    Calls Try.prog 6 #[.string s, vm] w fun e w'' => e = .returned (.bool true) ∧ Below w.heap.size w w'' := by
  have e : s = bs s.data.toList := bs_of rfl
  rw [e]
  exact again_w _ vm ms w qm bm
end Go.Proofs.Ytipehfidphgbbaa
