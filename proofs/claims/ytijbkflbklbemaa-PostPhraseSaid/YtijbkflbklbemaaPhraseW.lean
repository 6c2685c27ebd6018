/- The walk of PostPhrase. -/
import Derived.Test.YtijbkflbklbemaaPhrase
namespace Go.Proofs.Ytijbkflbklbemaa
open Go.RowKit

theorem SeqS.at {w u : World} {ls : List (List Po.P)} {b off : Nat} (h : ∀ i l, ls[i]? = some l → ∃ A' k c, w.cell? ⟨b, off + i, none⟩ = some (.slice A' k c) ∧ SeqP w (.slice A' k c) l) (hb : Below w.heap.size w u) {k : Nat} (hk : k < ls.length) :
    ∃ A' c, u.cell? ⟨b, off + k, none⟩ = some (.slice A' ls[k].length c) ∧ SeqP u (.slice A' ls[k].length c) ls[k] := by
  obtain ⟨A', n, c, h1, h2⟩ := h k ls[k] (by simp [hk])
  have : n = ls[k].length := by obtain ⟨_, _, h, _⟩ := h2; injection h
  subst this
  exact ⟨A', c, cell_keep hb.block h1, h2.keep hb.block⟩
theorem right_t (va : Value) (l : List Po.P) (w : World) (ha : SeqP w va l) (hl : Po.Ok l) : Calls Try.prog 9 #[va] w fun e w' => e = .returned (.bool true) ∧ Below w.heap.size w w' := by
  have := Right_c va l w ha (by have := (okSz hl).len; omega)
  rwa [(Po.right_iff l).2 hl] at this

set_option maxHeartbeats 16000000 in
set_option maxRecDepth 100000 in
theorem postPhrase_k (v0 : Value) (ls : List (List Po.P)) (d place : Int) (w : World) (ha : SeqS w v0 ls) (hb : ∀ y ∈ ls, y.length ≤ 4398046511104) (hp0 : -9223372036854775808 ≤ place) (hp1 : place ≤ 9223372036854775807) :
    Calls Try.prog 4 #[v0, .int .i64 d, .int .i64 place] w fun e w' => e = .returned (.bool true) ∧ Below w.heap.size w w' := by
  obtain ⟨A, ca, rfl, hca, hma, ha⟩ := ha
  unfold maxLen at hma
  by_cases x0 : ls = []
  · subst x0
    clear ha
    go_enter Try.func4, Try.ntmps4
    go_wp2_with fail
    refine (small_c w).mono ?_
    rintro e w1 ⟨rfl, b1⟩
    go_wp2_with fail
    go_ret
    exact ⟨rfl, b1⟩
  obtain ⟨b1, o1, rfl, h1⟩ := ha.resolve_left x0
  have HS := Lib.hid h1; clear h1 ha
  have hln : 0 < ls.length := List.length_pos_iff.2 x0
  have hln' : ((ls.length : Int) == 0) = false := by simpa using x0
  clear x0
  by_cases y0 : 6 < ls.length
  · have y1 : (6 : Int) < (ls.length : Int) := by omega
    go_enter Try.func4, Try.ntmps4
    go_wp2_with fail
    refine (small_c w).mono ?_
    rintro e w1 ⟨rfl, b1⟩
    go_wp2_with fail
    go_ret
    exact ⟨rfl, b1⟩
  have y1 : (ls.length : Int) ≤ 6 := by omega
  clear y0
  by_cases z0 : place < 0
  · go_enter Try.func4, Try.ntmps4
    go_wp2_with fail
    refine (small_c w).mono ?_
    rintro e w1 ⟨rfl, b1⟩
    go_wp2_with fail
    go_ret
    exact ⟨rfl, b1⟩
  have z1 : 0 ≤ place := by omega
  clear z0
  by_cases z2 : 1099511627776 < place
  · go_enter Try.func4, Try.ntmps4
    go_wp2_with fail
    refine (small_c w).mono ?_
    rintro e w1 ⟨rfl, b1⟩
    go_wp2_with fail
    go_ret
    exact ⟨rfl, b1⟩
  have z3 : place ≤ 1099511627776 := by omega
  clear z2
  have y2 : decide (6 < (ls.length : Int)) = false := decide_eq_false (by omega)
  have z4 : decide (place < 0) = false := decide_eq_false (by omega)
  have z5 : decide (1099511627776 < place) = false := decide_eq_false (by omega)
  have HBB := Lib.hid hb; clear hb
  go_enter Try.func4, Try.ntmps4
  go_wp2_with fail
  refine (small_c w).mono ?_
  rintro e w1 ⟨rfl, bb1⟩
  have HB1 := Lib.hid bb1; clear bb1
  go_wp2_with fail
  go_loopw [8, 9] (fun nv i wr => ∃ (k : Nat) (nz : Int), k ≤ ls.length ∧ i = .int .i64 k ∧ nv = .int .i64 nz ∧ 0 ≤ nz ∧ nz ≤ k * 4398046511104 ∧ Hid (Below w.heap.size w wr) ∧ Hid (∀ j l, j < k → ls[j]? = some l → Po.Ok l)) (fun _ i _ => ls.length - (intOf i).toNat)
  case atStart => exact ⟨0, 0, by omega, rfl, rfl, by omega, by omega, HB1, Lib.hid fun j l h => by omega⟩
  case round =>
    obtain ⟨k, nz, hk, rfl, rfl, g0, g1, HB, HK⟩ := hrel
    clear HB1
    by_cases k1 : k < ls.length
    · obtain ⟨A', c', hc, hs⟩ := SeqS.at HS.out HB.out k1
      have hlk := HBB.out ls[k] (by simp)
      have hnew : Po.Ok ls[k] → ∀ j l, j < k + 1 → ls[j]? = some l → Po.Ok l := fun h j l hj hl => by
        rcases Nat.lt_succ_iff_lt_or_eq.1 hj with h1 | rfl
        · exact HK.out j l h1 hl
        · simp [k1] at hl; exact hl ▸ h
      have HN := Lib.hid hnew; clear hnew
      generalize ls[k] = l at hc hs hlk HN
      have i0 : (0 : Int) ≤ (k : Int) := by omega
      have i1 : (k : Int) < (ls.length : Int) := by omega
      have HSP := Lib.hid hs; clear hs
      go_wp2_with fail
      refine (Few_c _ l wr HSP.out).mono ?_
      rintro e w2 ⟨f1, rfl, hw2, _⟩
      obtain rfl := hw2.symm
      cases f1 with
      | false =>
        go_wp2_with fail
        go_ret
        exact ⟨rfl, HB.out⟩
      | true =>
        go_wp2_with fail
        have hr := Right_c _ l wr HSP.out hlk
        cases hrx : Po.rightB l with
        | false =>
          rw [hrx] at hr
          refine hr.mono ?_
          rintro e w2 ⟨rfl, b2⟩
          go_wp2_with fail
          go_ret
          exact ⟨rfl, chain HB.out b2⟩
        | true =>
          rw [hrx] at hr
          refine hr.mono ?_
          rintro e w2 ⟨rfl, b2⟩
          have HB2 := Lib.hid (chain HB.out b2)
          have hc2 := cell_keep b2.block hc
          have HN2 := Lib.hid (HN.out ((Po.right_iff l).1 hrx))
          clear hr hc b2 hrx HN
          go_wp2_with fail
          go_roundw
          case rel => exact ⟨k + 1, nz + l.length, by omega, by go_num, by go_num, by omega, by omega, HB2, HN2⟩
          case measure => simp [intOf] <;> omega
    · obtain rfl : k = ls.length := by omega
      have hok : ∀ l ∈ ls, Po.Ok l := fun l hl => by
        obtain ⟨j, hj⟩ := List.getElem?_of_mem hl
        exact HK.out j l (List.getElem?_eq_some_iff.1 hj).1 hj
      have HOK := Lib.hid hok; clear hok HK
      by_cases h100 : 100 < nz
      · go_wp2_with fail
        go_ret
        exact ⟨rfl, HB.out⟩
      have h100' : nz ≤ 100 := by omega
      clear h100
      obtain ⟨A', c', hc, hs⟩ := SeqS.at HS.out HB.out hln
      obtain ⟨a, r, hls⟩ : ∃ a r, ls = a :: r := by cases ls with
        | nil => simp at hln
        | cons a r => exact ⟨a, r, rfl⟩
      have ha0 : ls[0] = a := by simp [hls]
      rw [ha0] at hc hs
      have HLS := Lib.hid hls
      have HSP := Lib.hid hs
      clear hs ha0
      have hc' : wr.cell? ⟨b1, o1, none⟩ = some (.slice A' a.length c') := hc
      clear hc
      have hrl : ls.length = r.length + 1 := by rw [hls]; simp
      clear hls
      have HRL := Lib.hid hrl; clear hrl
      go_wp2_with fail
      go_loopw [10, 11] (fun v i wq => ∃ (j : Nat), j ≤ r.length ∧ i = .int .i64 ((j + 1 : Nat) : Int) ∧ Hid (Below w.heap.size w wq) ∧ Hid (SeqP wq v ((r.take j).foldl (Po.nextL 1) a))) (fun _ i _ => ls.length - (intOf i).toNat)
      case atStart => exact ⟨0, by omega, rfl, HB, Lib.hid (by simpa using HSP.out)⟩
      case round =>
        obtain ⟨j, hj, rfl, HB2, HV⟩ := hrel
        clear HB HSP hc'
        have hokr : ∀ l ∈ r, Po.Ok l := fun l hl => HOK.out l (by rw [HLS.out]; simp [hl])
        have hoka : Po.Ok a := HOK.out a (by rw [HLS.out]; simp)
        have HOKR := Lib.hid hokr
        have HOKA := Lib.hid hoka
        by_cases j1 : j < r.length
        · have j2 : j + 1 < ls.length := by have := HRL.out; omega
          obtain ⟨A3, c3, hc3, hs3⟩ := SeqS.at HS.out HB2.out j2
          have hlr : ls[j + 1] = r[j] := by simp [HLS.out]
          rw [hlr] at hc3 hs3
          have hol := hokr r[j] (by simp)
          have hof := Po.fold_ok (r.take j) a hoka fun l hl => hokr l (List.mem_of_mem_take hl)
          have hon := Po.next_ok hof hol 1
          have hst : (r.take (j + 1)).foldl (Po.nextL 1) a = Po.nextL 1 ((r.take j).foldl (Po.nextL 1) a) r[j] := by rw [List.take_succ_eq_append_getElem j1, List.foldl_append]; rfl
          have HST := Lib.hid hst; clear hst hokr hoka hlr
          generalize r[j] = l at hc3 hs3 hol hon HST
          generalize (r.take j).foldl (Po.nextL 1) a = F at HV hof hon HST
          have HS3 := Lib.hid hs3; clear hs3
          have i0 : (0 : Int) ≤ ((j + 1 : Nat) : Int) := by omega
          have i1 : ((j + 1 : Nat) : Int) < (ls.length : Int) := by omega
          have HOL := Lib.hid hol
          have HOF := Lib.hid hof
          have HON := Lib.hid hon
          clear hol hof hon
          go_wp2_with fail
          refine (Next_c _ _ F l 1 wr HV.out HS3.out HOF.out HOL.out (by decide) (by decide)).mono ?_
          rintro e w3 ⟨v3, rfl, hv3, b3⟩
          have HV3 := Lib.hid hv3; clear hv3
          go_wp2_with fail
          refine (right_t v3 _ w3 HV3.out HON.out).mono ?_
          rintro e w4 ⟨rfl, b4⟩
          have HB4 := Lib.hid (chain (chain HB2.out b3) b4)
          have HV4 := Lib.hid (HV3.out.keep b4.block)
          clear b3 b4 HV3 HV HB2 hc3
          go_wp2_with fail
          go_roundw
          case rel =>
            exact ⟨j + 1, by omega, by (refine congrArg _ ?_; omega), HB4, Lib.hid (by rw [HST.out]; exact HV4.out)⟩
          case measure => simp [intOf] <;> omega
        · obtain rfl : j = r.length := by omega
          rw [List.take_length] at HV
          have hph := Po.phrase d HLS.out HOK.out place
          have HPH := Lib.hid hph
          clear hph hokr hoka
          generalize r.foldl (Po.nextL 1) a = F at HV HPH
          have i1 : ¬ ((r.length + 1 : Nat) : Int) < (ls.length : Int) := by have := HRL.out; omega
          go_wp2_with fail
          clear i1
          go_loopw [12, 13] (fun b i wq => ∃ (k : Nat), k ≤ ls.length ∧ i = .int .i64 k ∧ b = .bool (Po.allB d (ls.take k) (place - ((ls.length : Int) - 1))) ∧ wq = wr) (fun _ i _ => ls.length - (intOf i).toNat)
          case atStart => exact ⟨0, by omega, rfl, rfl, rfl⟩
          case round =>
            obtain ⟨k, hk, rfl, rfl, hwq⟩ := hrel
            obtain rfl := hwq.symm
            by_cases k1 : k < ls.length
            · obtain ⟨A3, c3, hc3, hs3⟩ := SeqS.at HS.out HB2.out k1
              have hst : Po.allB d (ls.take (k + 1)) (place - ((ls.length : Int) - 1)) = (Po.allB d (ls.take k) (place - ((ls.length : Int) - 1)) && Po.occ d ls[k] (place - ((ls.length : Int) - 1) + k)) := by
                rw [List.take_succ_eq_append_getElem k1, Po.allB_snoc, List.length_take, Nat.min_eq_left hk]
              have HST := Lib.hid hst; clear hst
              have i0 : (0 : Int) ≤ (k : Int) := by omega
              have i1 : (k : Int) < (ls.length : Int) := by omega
              have hsum : place - ((ls.length : Int) - 1 - (k : Int)) = place - ((ls.length : Int) - 1) + k := by omega
              have HSUM := Lib.hid hsum; clear hsum
              generalize ls[k] = l at hc3 hs3 HST
              have HS3 := Lib.hid hs3; clear hs3
              generalize hW : Po.allB d (ls.take k) (place - ((ls.length : Int) - 1)) = W at HST
              clear hW
              cases W with
              | false =>
                rw [Bool.false_and] at HST
                go_wp2_with fail
                go_roundw
                case rel => exact ⟨k + 1, by omega, by go_num, by rw [HST.out], trivial⟩
                case measure => simp [intOf] <;> omega
              | true =>
                rw [Bool.true_and] at HST
                go_wp2_with fail
                refine (Of_c _ l d _ HS3.out).mono ?_
                rintro e w3 ⟨v3, rfl, hv3, hw3⟩
                obtain rfl := hw3.symm
                have hh := Has_c v3 _ (place - ((ls.length : Int) - 1 - (k : Int))) _ hv3
                rw [show (Po.ofL l d).contains (place - ((ls.length : Int) - 1 - (k : Int))) = Po.occ d l (place - ((ls.length : Int) - 1) + k) from by rw [HSUM.out]; rfl] at hh
                have HH := Lib.hid hh; clear hh
                go_wp2_with fail
                refine HH.out.mono ?_
                rintro e w3 ⟨rfl, hw3⟩
                obtain rfl := hw3.symm
                go_wp2_with fail
                go_roundw
                case rel => exact ⟨k + 1, by omega, by go_num, by rw [HST.out], trivial⟩
                case measure => simp [intOf] <;> omega
            · have hd : ls.take k = ls := List.take_of_length_le (by omega)
              rw [hd]
              clear hd
              rw [← HPH.out]
              go_wp2_with fail
              refine (Of_c _ F d _ HV.out).mono ?_
              rintro e w3 ⟨v3, rfl, hv3, hw3⟩
              obtain rfl := hw3.symm
              have hh := Has_c v3 _ place _ hv3
              rw [show (Po.ofL F d).contains place = Po.occ d F place from rfl] at hh
              have HH := Lib.hid hh; clear hh
              go_wp2_with fail
              refine HH.out.mono ?_
              rintro e w3 ⟨rfl, hw3⟩
              obtain rfl := hw3.symm
              cases Po.occ d F place with
              | true =>
                go_wp2_with fail
                go_ret
                exact ⟨rfl, HB2.out⟩
              | false =>
                go_wp2_with fail
                go_ret
                exact ⟨rfl, HB2.out⟩
theorem postPhrase_w {v : Value} {ls : List (List Po.P)} {w : World} (c : SeqS w v ls ∧ ∀ y ∈ ls, y.length ≤ 4398046511104 ∧ ∀ p ∈ y, POk p) (d : Int) (_ : -9223372036854775808 ≤ d ∧ d ≤ 9223372036854775807) (place : Int) (hp : -9223372036854775808 ≤ place ∧ place ≤ 9223372036854775807) (_ : World) :
    Calls Try.prog 4 #[v, .int .i64 d, .int .i64 place] w fun e w' => e = .returned (.bool true) ∧ Below w.heap.size w w' := postPhrase_k v ls d place w c.1 (fun y hy => (c.2 y hy).1) hp.1 hp.2
end Go.Proofs.Ytijbkflbklbemaa
