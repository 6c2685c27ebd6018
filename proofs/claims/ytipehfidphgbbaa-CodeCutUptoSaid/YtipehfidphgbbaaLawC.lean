/- valid of the statements of chapter 02. -/
import Derived.Test.YtipehfidphgbbaaLawB
namespace Go.Proofs.Ytipehfidphgbbaa
open Go.RowKit

def okV (x : V) : Bool := decide (0 ≤ x.n) && fewB x.texts && decide (x.text.length ≤ 10000) && decide (x.nums.length ≤ 100) && x.nums.all (fun y => decide (0 ≤ y))
def validB (xs : List V) : Bool := xs.all okV && decide (xs.length ≤ 20)
theorem validB_no {xs : List V} {k : Nat} (h : k < xs.length) (ho : okV xs[k] = false) : validB xs = false := by
  unfold validB
  rw [Bool.and_eq_false_iff]
  left
  rw [List.all_eq_false]
  exact ⟨xs[k], List.getElem_mem h, by simp [ho]⟩
theorem all_take_succ {α : Type} {xs : List α} {p : α → Bool} {k : Nat} (h : k < xs.length) (ha : (xs.take k).all p = true) (hp : p xs[k] = true) : (xs.take (k + 1)).all p = true := by
  rw [List.take_succ_eq_append_getElem h, List.all_append, ha]
  simp [hp]

set_option maxHeartbeats 4000000 in
set_option maxRecDepth 100000 in
theorem valid_c (va : Value) (xs : List V) (w : World) (ha : SeqV w va xs) (hx : ∀ x ∈ xs, VOk x) :
    Calls Try.prog 37 #[va] w fun e w' => e = .returned (.bool (validB xs)) ∧ w = w' := by
  obtain ⟨A, ca, rfl, hca, hma, ha⟩ := ha
  unfold maxLen at hma
  have HX := Lib.hid hx; clear hx
  have HA := Lib.hid ha; clear ha
  go_enter Try.func37, Try.ntmps37
  go_wp2
  go_loop [3] (fun i => ∃ (k : Nat), k ≤ xs.length ∧ i = .int .i64 k ∧ Hid ((xs.take k).all okV = true)) (fun i => xs.length - (intOf i).toNat)
  case atStart => exact ⟨0, by omega, rfl, by show _ = _; simp⟩
  case round =>
    obtain ⟨k, hk, rfl, hall⟩ := hrel
    by_cases k1 : k < xs.length
    · obtain ⟨b1, o1, rfl, hc⟩ := HA.out.resolve_left (by intro e; rw [e] at k1; simp at k1)
      have hat := hc k xs[k] (by simp [k1])
      have hok := HX.out xs[k] (List.getElem_mem k1)
      have HN : Hid (okV xs[k] = false → validB xs = false) := validB_no k1
      have HA2 : Hid (okV xs[k] = true → (xs.take (k + 1)).all okV = true) := all_take_succ k1 hall.out
      clear hc
      generalize xs[k] = x at *
      obtain ⟨hok1, hok2, hok3, hok4, hok5⟩ := hok
      unfold I64 at hok2
      obtain ⟨c0, c1, c2, ⟨v3, c3, s3⟩, ⟨v4, c4, s4⟩⟩ := hat
      have HF := Lib.hid (few_c v3 x.texts w s3 hok4)
      obtain ⟨A4, p4, rfl, hp4, hm4, s4⟩ := s4
      rw [List.length_map] at hp4
      simp only [List.length_map] at c4
      unfold maxLen at hm4
      have HOK5 := Lib.hid hok5; clear hok5
      have HS4 := Lib.hid s4; clear s4
      clear hok4 s3
      have HO : Hid (okV x = (decide (0 ≤ x.n) && fewB x.texts && decide (x.text.length ≤ 10000) && decide (x.nums.length ≤ 100) && x.nums.all (fun y => decide (0 ≤ y)))) := rfl
      have hts : (bs x.text).size ≤ 140737488355328 := hok3
      have HTS : Hid ((bs x.text).size = x.text.length) := rfl
      clear hok3
      generalize bs x.text = T at c2 hts HTS
      have i0 : (0 : Int) ≤ (k : Int) := by omega
      have i1 : (k : Int) < (xs.length : Int) := by omega
      cases hfew : fewB x.texts with
      | false =>
        rw [hfew] at HF
        have HW := Lib.hid hfew; clear hfew
        by_cases q0 : x.n < 0
        all_goals
          go_wp2_with (go_at_call 10; refine HF.out.mono ?_; rintro e w1 ⟨rfl, rfl⟩)
          go_ret
          rw [HN.out (by rw [HO.out, HW.out]; simp)]
          exact ⟨rfl, rfl⟩
      | true =>
        rw [hfew] at HF
        have HW := Lib.hid hfew; clear hfew
        by_cases q0 : x.n < 0
        · go_wp2_with (go_at_call 10; refine HF.out.mono ?_; rintro e w1 ⟨rfl, rfl⟩)
          go_ret
          rw [HN.out (by rw [HO.out]; simp; omega)]
          exact ⟨rfl, rfl⟩
        · by_cases q1 : (10000 : Int) < (T.size : Int)
          · go_wp2_with (go_at_call 10; refine HF.out.mono ?_; rintro e w1 ⟨rfl, rfl⟩)
            go_ret
            rw [HN.out (by rw [HO.out, ← HTS.out]; simp; omega)]
            exact ⟨rfl, rfl⟩
          · by_cases q2 : (100 : Int) < (x.nums.length : Int)
            · go_wp2_with (go_at_call 10; refine HF.out.mono ?_; rintro e w1 ⟨rfl, rfl⟩)
              go_ret
              rw [HN.out (by rw [HO.out]; simp; omega)]
              exact ⟨rfl, rfl⟩
            · have e0 : decide (x.n < 0) = false := by simp; omega
              have e1 : decide ((10000 : Int) < (T.size : Int)) = false := by simp; omega
              have e2 : decide ((100 : Int) < (x.nums.length : Int)) = false := by simp; omega
              go_wp2_with (go_at_call 10; refine HF.out.mono ?_; rintro e w1 ⟨rfl, rfl⟩)
              go_loop [5] (fun i => ∃ (j : Nat), j ≤ x.nums.length ∧ i = .int .i64 j ∧ Hid ((x.nums.take j).all (fun y => decide (0 ≤ y)) = true)) (fun i => x.nums.length - (intOf i).toNat)
              case atStart => exact ⟨0, by omega, rfl, by show _ = _; simp⟩
              case round =>
                obtain ⟨j, hj, rfl, hallj⟩ := hrel
                by_cases j1 : j < x.nums.length
                · obtain ⟨b2, o2, rfl, hc2⟩ := HS4.out.resolve_left (by intro e; have := congrArg List.length e; simp at this; rw [this] at j1; simp at j1)
                  have hcell : w.cell? ⟨b2, o2 + j, none⟩ = some (.int .i64 x.nums[j]) := hc2 j _ (by simp [j1, iv])
                  have HJ : Hid (0 ≤ x.nums[j] → (x.nums.take (j + 1)).all (fun y => decide (0 ≤ y)) = true) := fun h => all_take_succ j1 hallj.out (by simpa using h)
                  have HJ2 : Hid (x.nums[j] < 0 → x.nums.all (fun y => decide (0 ≤ y)) = false) := fun h => by
                    rw [List.all_eq_false]
                    exact ⟨x.nums[j], List.getElem_mem j1, by simp; omega⟩
                  clear hc2
                  generalize x.nums[j] = y at *
                  have j0 : (0 : Int) ≤ (j : Int) := by omega
                  have j2 : (j : Int) < (x.nums.length : Int) := by omega
                  by_cases q3 : y < 0
                  · go_wp2
                    go_ret
                    rw [HN.out (by rw [HO.out, HJ2.out q3]; simp)]
                    exact ⟨rfl, rfl⟩
                  · go_wp2
                    go_round
                    case rel => exact ⟨j + 1, by omega, by go_num, HJ.out (by omega)⟩
                    case measure => simp [intOf] <;> omega
                · have hO : okV x = true := by
                    have h1 := hallj.out
                    rw [List.take_of_length_le (by omega)] at h1
                    rw [HO.out, HW.out, h1, ← HTS.out]
                    simp; omega
                  have HOO := Lib.hid hO; clear hO
                  go_wp2
                  go_round
                  case rel => exact ⟨k + 1, by omega, by go_num, HA2.out HOO.out⟩
                  case measure => simp [intOf] <;> omega
    · have hfin : validB xs = decide (xs.length ≤ 20) := by
        have h1 := hall.out
        rw [List.take_of_length_le (by omega)] at h1
        unfold validB
        rw [h1]; simp
      have HF := Lib.hid hfin; clear hfin
      by_cases q : (xs.length : Int) ≤ 20
      all_goals
        go_wp2
        go_ret
        rw [HF.out]
        exact ⟨by simp; omega, rfl⟩
end Go.Proofs.Ytipehfidphgbbaa
