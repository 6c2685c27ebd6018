/- few and kind of the statements of chapter 02. -/
import Derived.Test.YtipehfidphgbbaaList
namespace Go.Proofs.Ytipehfidphgbbaa
open Go.RowKit

def lens (l : List (List UInt8)) : Nat := (l.map List.length).sum
theorem lens_succ (xs : List (List UInt8)) (k : Nat) (h : k < xs.length) : lens (xs.take (k + 1)) = lens (xs.take k) + xs[k].length := by
  unfold lens
  rw [List.take_succ_eq_append_getElem h, List.map_append, List.sum_append]
  simp
theorem lens_le (xs : List (List UInt8)) (k : Nat) (h : ∀ x ∈ xs, x.length ≤ 140737488355328) : lens (xs.take k) ≤ k * 140737488355328 := by
  induction k with
  | zero => simp [lens]
  | succ k ih =>
    by_cases hk : k < xs.length
    · rw [lens_succ xs k hk]
      have := h xs[k] (List.getElem_mem hk)
      omega
    · rw [List.take_of_length_le (by omega)] at ih
      rw [List.take_of_length_le (by omega)]
      exact Nat.le_trans ih (Nat.mul_le_mul_right _ (by omega))
def fewB (xs : List (List UInt8)) : Bool := decide (xs.length ≤ 100) && decide (lens (xs.take 200) ≤ 10000)

set_option maxHeartbeats 1000000 in
set_option maxRecDepth 100000 in
theorem few_c (va : Value) (xs : List (List UInt8)) (w : World) (ha : Seq w va (xs.map sv)) (hx : ∀ x ∈ xs, x.length ≤ 140737488355328) :
    Calls Try.prog 10 #[va] w fun e w' => e = .returned (.bool (fewB xs)) ∧ w = w' := by
  obtain ⟨A, ca, rfl, hca, hma, ha⟩ := ha
  rw [List.length_map] at hca
  unfold maxLen at hma
  simp only [List.length_map]
  have HX := Lib.hid hx; clear hx
  have HA := Lib.hid ha; clear ha
  go_enter Try.func10, Try.ntmps10
  go_wp2
  go_loop [3, 4] (fun n i => ∃ k : Nat, k ≤ xs.length ∧ k ≤ 200 ∧ i = .int .i64 k ∧ n = .int .i64 (lens (xs.take k) : Nat)) (fun _ i => xs.length - (intOf i).toNat)
  case atStart => exact ⟨0, by omega, by omega, rfl, rfl⟩
  case round =>
    obtain ⟨k, hk, hk2, rfl, rfl⟩ := hrel
    have hle := lens_le xs k HX.out
    by_cases k1 : k < xs.length ∧ k < 200
    · obtain ⟨k1, k2⟩ := k1
      obtain ⟨b1, o1, rfl, hc⟩ := HA.out.resolve_left (by intro e; have := congrArg List.length e; simp at this; rw [this] at k1; simp at k1)
      have hcell : w.cell? ⟨b1, o1 + k, none⟩ = some (.string (bs xs[k])) := hc k _ (by simp [k1, sv])
      have hsz : (bs xs[k]).size ≤ 140737488355328 := HX.out _ (List.getElem_mem k1)
      have HS := Lib.hid (lens_succ xs k k1)
      have HE : Hid ((bs xs[k]).size = xs[k].length) := rfl
      generalize bs xs[k] = X at hcell hsz HE
      clear hc
      have i0 : (0 : Int) ≤ (k : Int) := by omega
      have i1 : (k : Int) < (xs.length : Int) := by omega
      have i2 : (k : Int) < 200 := by omega
      go_wp2
      go_round
      case rel => exact ⟨k + 1, by omega, by omega, by go_num, by rw [HS.out, ← HE.out]; go_num⟩
      case measure => simp [intOf] <;> omega
    · have he : lens (xs.take k) = lens (xs.take 200) := by
        rcases Nat.lt_or_ge k 200 with h | h
        · rw [List.take_of_length_le (by omega), List.take_of_length_le (by omega)]
        · rw [show k = 200 from by omega]
      rw [he]
      rw [he] at hle
      clear he
      have hfin : fewB xs = (decide (xs.length ≤ 100) && decide (lens (xs.take 200) ≤ 10000)) := rfl
      have HF := Lib.hid hfin; clear hfin
      generalize lens (xs.take 200) = L at *
      by_cases q1 : (xs.length : Int) ≤ 100
      · by_cases q2 : (L : Int) ≤ 10000
        all_goals
          rcases Nat.lt_or_ge k xs.length with j1 | j1
          · have j2 : ¬ (k : Int) < 200 := by omega
            go_wp2
            go_ret
            rw [HF.out]
            exact ⟨by simp; omega, rfl⟩
          · have j2 : ¬ k < xs.length := by omega
            go_wp2
            go_ret
            rw [HF.out]
            exact ⟨by simp; omega, rfl⟩
      · rcases Nat.lt_or_ge k xs.length with j1 | j1
        · have j2 : ¬ (k : Int) < 200 := by omega
          go_wp2
          go_ret
          rw [HF.out]
          exact ⟨by simp; omega, rfl⟩
        · have j2 : ¬ k < xs.length := by omega
          go_wp2
          go_ret
          rw [HF.out]
          exact ⟨by simp; omega, rfl⟩

theorem and3 (k : Int) : bits BinOp.and IntKind.i64 k 3 = k % 4 := by
  show IntKind.i64.wrap ((BitVec.ofInt 64 k &&& BitVec.ofInt 64 3).toNat : Int) = _
  have h3 : (BitVec.ofInt 64 3).toNat = 2 ^ 2 - 1 := by decide
  rw [BitVec.toNat_and, h3, Nat.and_two_pow_sub_one_eq_mod, BitVec.toNat_ofInt, IntKind.wrap_i64]
  omega

theorem kind_c (k n : Int) (x v1 v2 : Value) (w : World) :
    Calls Try.prog 39 #[.agg #[.int .i64 k, .int .i64 n, x, v1, v2]] w fun e w' => e = .returned (.int .i64 (k % 4)) ∧ Below w.heap.size w w' := by
  go_enter Try.func39, Try.ntmps39
  go_wp2
  go_ret
  refine ⟨?_, (Below.refl _ _).alloc (Nat.le_refl _) _⟩
  rw [← and3 k]
  rfl
end Go.Proofs.Ytipehfidphgbbaa
