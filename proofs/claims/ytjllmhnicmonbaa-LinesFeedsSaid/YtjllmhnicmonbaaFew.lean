/- Walks: few chunks. -/
import Derived.Test.YtjllmhnicmonbaaEndsW
import Derived.Test.YtjllmhnicmonbaaLSplitW
import Derived.Test.YtjllmhnicmonbaaFl
namespace Go.Proofs.Ytjllmhnicmonbaa
open Go Go.RowKit

def fewB (xs : List (List UInt8)) : Bool := decide (xs.length ≤ 30) && decide ((xs.take 40).flatten.length ≤ 3000)
theorem flat_bd (xs : List (List UInt8)) (M : Nat) (h : ∀ y ∈ xs, y.length ≤ M) : xs.flatten.length ≤ xs.length * M := by
  induction xs with
  | nil => simp
  | cons y r ih =>
    have h1 := ih (fun x hx => h x (by simp [hx]))
    have h2 := h y (by simp)
    simp only [List.flatten_cons, List.length_append, List.length_cons]
    rw [Nat.succ_mul]
    omega
set_option maxHeartbeats 4000000 in
set_option maxRecDepth 100000 in
theorem few_c (A : Option Addr) (c : Nat) (xs : List (List UInt8)) (w : World) (hs : Seq w (.slice A xs.length c) (xs.map sv)) (hb : ∀ y ∈ xs, y.length ≤ 140737488355328) (hl : xs.length ≤ 8796093022208) :
    Calls Try.prog 21 #[.slice A xs.length c] w fun e w' => e = .returned (.bool (fewB xs)) ∧ w' = w := by
  have HS := Lib.hid hs
  have HBD := Lib.hid hb
  clear hs hb
  go_enter Try.func21, Try.ntmps21
  go_wp2_with fail
  go_loopw [3, 4] (fun nv iv wr => ∃ i : Nat, i ≤ xs.length ∧ i ≤ 40 ∧ iv = .int .i64 i ∧ nv = .int .i64 (((xs.take i).flatten.length : Nat) : Int) ∧ wr = w) (fun _ iv _ => 40 - (intOf iv).toNat)
  case atStart => exact ⟨0, by omega, by omega, rfl, rfl, rfl⟩
  case round =>
    obtain ⟨i, hik, hi40, rfl, rfl, hw⟩ := hrel
    obtain rfl := hw.symm
    by_cases k1 : i < xs.length ∧ i < 40
    · obtain ⟨k1, k2⟩ := k1
      obtain ⟨b3, o3, rfl, hc3⟩ := seq_at (k := i) HS.out (by simpa using k1)
      have hc3' : w.cell? ⟨b3, o3 + i, none⟩ = some (.string (bs xs[i])) := by rw [hc3, List.getElem_map]; rfl
      have hx := HBD.out xs[i] (List.getElem_mem k1)
      have hsucc := congrArg List.length (Ln.flat_succ xs k1)
      rw [List.length_append] at hsucc
      have htk := flat_bd (xs.take i) 140737488355328 (fun y hy => HBD.out y (List.mem_of_mem_take hy))
      rw [List.length_take] at htk
      have htl : (xs.take i).flatten.length ≤ 40 * 140737488355328 := Nat.le_trans htk (Nat.mul_le_mul_right _ (by omega))
      clear hc3 htk
      generalize xs[i] = x at hc3' hx hsucc
      have HSU := Lib.hid hsucc
      clear hsucc
      generalize (xs.take i).flatten.length = n1 at HSU htl ⊢
      rw [← bs_size x] at hx HSU
      generalize bs x = X at hc3' hx HSU
      have w1 : IntKind.i64.wrap ((n1 : Int) + (X.size : Int)) = (n1 : Int) + (X.size : Int) := by rw [IntKind.wrap_i64]; omega
      have i0 : (0 : Int) ≤ (i : Int) := by omega
      have i1 : (i : Int) < (xs.length : Int) := by omega
      have i2 : (i : Int) < 40 := by omega
      go_wp2_with fail
      go_roundw
      case rel => exact ⟨i + 1, by omega, by omega, by go_num, by rw [HSU.out]; go_num, by trivial⟩
      case measure => simp [intOf] <;> omega
    · have htk : (xs.take i).flatten.length = (xs.take 40).flatten.length := by
        by_cases h : i < xs.length
        · rw [show i = 40 by omega]
        · rw [List.take_of_length_le (by omega : xs.length ≤ i), List.take_of_length_le (by omega : xs.length ≤ 40)]
      have hfw : fewB xs = (decide ((xs.length : Int) ≤ 30) && decide (((xs.take 40).flatten.length : Int) ≤ 3000)) := by
        unfold fewB
        congr 1
        · exact decide_eq_decide.2 (by omega)
        · exact decide_eq_decide.2 (by omega)
      rw [htk]
      have HFW := Lib.hid hfw
      clear htk hfw
      generalize (xs.take 40).flatten.length = n1 at HFW ⊢
      have i1 : ¬ (i : Int) < (xs.length : Int) ∨ ((i : Int) < (xs.length : Int) ∧ ¬ (i : Int) < 40) := by omega
      rcases i1 with i1 | ⟨i1, i2⟩
      all_goals
        by_cases c1 : (xs.length : Int) ≤ 30
        · go_wp2_with fail
          go_ret
          rw [HFW.out, decide_eq_true c1]
          exact ⟨rfl, rfl⟩
        · go_wp2_with fail
          go_ret
          rw [HFW.out, decide_eq_false (by omega)]
          exact ⟨rfl, rfl⟩
end Go.Proofs.Ytjllmhnicmonbaa
