/- Walks: the reference's feed of lines. -/
import Derived.Test.YtjllmhnicmonbaaFs
import Derived.Test.YtjllmhnicmonbaaRefS
namespace Go.Proofs.Ytjllmhnicmonbaa
open Go Go.RowKit

theorem infoRow : (Try.prog.info? 24).map (fun i => (i.zero, i.size, i.bytes)) = some (some (.slice none 0 0), 1, 24) := by kernel_rfl
namespace Ln
/-- what chunk j completes -/
def stp (n : Nat) (xs : List (List UInt8)) (j : Nat) : List (List UInt8) := (fin (lns (rem (lns (xs.take j).flatten) ++ xs.getD j []))).map (List.take n)
theorem rem_cat (a c : List UInt8) : rem (lns (a ++ c)) = rem (lns (rem (lns a) ++ c)) := by
  rw [lns_cat a c, rem_append _ _ (parts _ (wf_all a)).1]
theorem fin_succ (L : List (List UInt8)) {k : Nat} (h : k < L.length) : fin (L.take (k + 1)) = fin (L.take k) ++ if ends L[k] then [L[k]] else [] := by
  unfold fin
  rw [List.take_succ_eq_append_getElem h, List.filter_append, List.filter_cons, List.filter_nil]
theorem rem_succ (L : List (List UInt8)) {k : Nat} (h : k < L.length) : rem (L.take (k + 1)) = if ends L[k] then rem (L.take k) else L[k] := by
  unfold rem
  rw [List.take_succ_eq_append_getElem h, List.foldl_append]
  rfl
theorem rem_len (s : List UInt8) : (rem (lns s)).length ≤ s.length := by
  have h := congrArg List.length (parts _ (wf_all s)).2.2
  rw [flat, List.length_append] at h
  omega
end Ln
set_option maxHeartbeats 1000000 in
theorem told_c (x : List UInt8) (n : Nat) (w : World) :
    Calls Try.prog 35 #[.string (bs x), .int .i64 (n : Int)] w fun e w' => e = .returned (.string (bs (x.take n))) ∧ w' = w := by
  have hex := extract_at (bs x) 0 n
  rw [bs_data, List.drop_zero, Nat.sub_zero] at hex
  have hXs : (bs x).size = x.length := rfl
  by_cases h : n < x.length
  · have HEX := Lib.hid hex
    have h1 : (n : Int) < ((bs x).size : Int) := by rw [bs_size]; omega
    have h2 : (n : Int) ≤ ((bs x).size : Int) := by omega
    have h3 : (0 : Int) ≤ (n : Int) := by omega
    clear hex h hXs
    generalize bs (x.take n) = y at HEX ⊢
    generalize bs x = X at HEX h1 h2 ⊢
    go_enter Try.func35, Try.ntmps35
    go_wp2_with fail
    go_ret
    rw [← HEX.out]
    exact ⟨rfl, rfl⟩
  · rw [List.take_of_length_le (by omega)]
    have h1 : ¬ (n : Int) < ((bs x).size : Int) := by rw [bs_size]; omega
    clear hex h hXs
    generalize bs x = X at h1 ⊢
    go_enter Try.func35, Try.ntmps35
    go_wp2_with fail
    go_ret
    exact ⟨rfl, rfl⟩
/-- rows of what the chunks complete -/
def WR (B n : Nat) (xs : List (List UInt8)) (vo : Value) (RV : List Value) (u : World) : Prop :=
  u.ownsRow B 24 1 vo RV.length RV ∧ (∀ v ∈ RV, v.oneCell' = true) ∧ ∀ j v, RV[j]? = some v → u.ownsRow B 9 1 v (Ln.stp n xs j).length ((Ln.stp n xs j).map sv)
theorem WR.below {B n : Nat} {xs : List (List UInt8)} {vo : Value} {RV : List Value} {u u' : World} (h : WR B n xs vo RV u) (hb : Below u.heap.size u u') : WR B n xs vo RV u' :=
  ⟨own_keep h.1 fun b hb' => hb.block b (by obtain ⟨_, _, hc⟩ := row_block h.1 hb'; exact blk_lt hc), h.2.1, fun j v hv => own_keep (h.2.2 j v hv) fun b hb' => hb.block b (by obtain ⟨_, _, hc⟩ := row_block (h.2.2 j v hv) hb'; exact blk_lt hc)⟩
theorem WR.snoc {B n : Nat} {xs : List (List UInt8)} {vo vo' v : Value} {RV : List Value} {u u' : World} (h : WR B n xs vo RV u) (hv : u.ownsRow B 9 1 v (Ln.stp n xs RV.length).length ((Ln.stp n xs RV.length).map sv)) (h1 : v.oneCell' = true)
    (hg : u.grownBy u' vo.ownBlock) (ho : u'.ownsRow B 24 1 vo' (RV ++ [v]).length (RV ++ [v])) : WR B n xs vo' (RV ++ [v]) u' := by
  have hk : ∀ (y : Value) (m : Nat) (ys : List Value), u.ownsRow B 9 1 y m ys → u'.ownsRow B 9 1 y m ys := fun y m ys hy => row_kept hy hg fun b hb e => by
    obtain ⟨_, cur, hc⟩ := row_block h.1 hb
    obtain ⟨_, cur', hc'⟩ := row_block hy e
    rw [hc] at hc'
    simp at hc'
  refine ⟨ho, fun y hy => ?_, fun j y hy => ?_⟩
  · rcases List.mem_append.1 hy with hy | hy
    · exact h.2.1 y hy
    · obtain rfl := List.mem_singleton.1 hy
      exact h1
  · by_cases hj : j < RV.length
    · rw [List.getElem?_append_left hj] at hy
      exact hk _ _ _ (h.2.2 j y hy)
    · rw [List.getElem?_append_right (by omega)] at hy
      have hj0 : j - RV.length = 0 := by
        have := (List.getElem?_eq_some_iff.1 hy).1
        simp at this
        omega
      rw [hj0] at hy
      obtain rfl : v = y := by simpa using hy
      obtain rfl : j = RV.length := by omega
      exact hk _ _ _ hv
end Go.Proofs.Ytjllmhnicmonbaa
