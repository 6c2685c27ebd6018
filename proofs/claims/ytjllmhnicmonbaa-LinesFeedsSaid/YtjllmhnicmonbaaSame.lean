/- SameTexts of the reference: two slices read element by element. -/
import Derived.Test.YtjllmhnicmonbaaPush
import Derived.Deep.QuietTactic
import Derived.BigQuiet
namespace Go.Proofs.Ytjllmhnicmonbaa
open Go.RowKit

/-- the slice value v reads as xs, one cell an element -/
def Seq (w : World) (v : Value) (xs : List Value) : Prop :=
  ∃ A cap, v = .slice A xs.length cap ∧ xs.length ≤ cap ∧ cap ≤ maxLen ∧ (xs = [] ∨ ∃ b off, A = some ⟨b, off, none⟩ ∧ ∀ i u, xs[i]? = some u → w.cell? ⟨b, off + i, none⟩ = some u)
theorem Seq.keep {w w' : World} {v : Value} {xs : List Value} (h : Seq w v xs) (hk : ∀ b, b < w.heap.size → w'.heap[b]? = w.heap[b]?) : Seq w' v xs := by
  obtain ⟨A, cap, hv, hc, hm, h⟩ := h
  refine ⟨A, cap, hv, hc, hm, ?_⟩
  rcases h with h | ⟨b, off, hA, h⟩
  · exact .inl h
  · refine .inr ⟨b, off, hA, fun i u hu => ?_⟩
    have := h i u hu
    exact (World.cell?_of_block (w := w) (hk b (World.block_lt_of_cell? w _ this))).trans this
theorem Seq.below {w w' : World} {v : Value} {xs : List Value} (h : Seq w v xs) (hb : Below w.heap.size w w') : Seq w' v xs := h.keep fun b hlt => hb.block b hlt
theorem Seq.of_own {w : World} {base : Nat} {e : TypeId} {v : Value} {xs : List Value} (h : w.ownsRow base e 1 v xs.length xs) : Seq w v xs := by
  rcases h.2 with ⟨rfl, h0⟩ | ⟨g, cap, cur, rfl, hb, hg, hn, hm, hs, ht⟩
  · exact ⟨none, 0, by rw [h0], by omega, by decide, .inl (List.eq_nil_of_length_eq_zero h0)⟩
  · refine ⟨_, cap, rfl, hn, hm, .inr ⟨g, 0, rfl, fun i u hu => ?_⟩⟩
    have := h.cells (g := g) rfl i u hu
    simpa [Addr.add_lit] using this
theorem toList_inj {a b : ByteArray} (h : a.toList = b.toList) : a = b := by
  rw [Lib.toList_data, Lib.toList_data] at h
  exact (bs_of h).trans (bs_of rfl).symm
theorem drewN_heap (w : World) (n : Nat) : (w.drewN n).heap = w.heap := rfl

set_option maxHeartbeats 2000000 in
theorem SameTexts_c (va vb : Value) (xs ys : List (List UInt8)) (w : World) (ha : Seq w va (xs.map sv)) (hb : Seq w vb (ys.map sv)) :
    Calls Try.prog 10 #[va, vb] w fun e w' => e = .returned (.bool (decide (xs = ys))) ∧ ∃ n, w' = w.drewN n := by
  obtain ⟨A, ca, rfl, hca, hma, ha⟩ := ha
  obtain ⟨B, cb, rfl, hcb, hmb, hb⟩ := hb
  rw [List.length_map] at hca hcb
  unfold maxLen at hma hmb
  simp only [List.length_map]
  by_cases k0 : xs.length = ys.length
  · by_cases x0 : xs = []
    · subst x0
      have : ys = [] := List.eq_nil_of_length_eq_zero k0.symm
      subst this
      have hp : decide (([] : List (List UInt8)) = []) = true := by simp
      rw [hp]
      clear ha hb k0 hp
      go_enter Try.func10, Try.ntmps10
      go_wp2
      go_loopw [5] (fun i wr => i = .int .i64 0 ∧ wr = w) (fun _ _ => 0)
      case atStart => exact ⟨rfl, rfl⟩
      case round =>
        obtain ⟨rfl, rfl⟩ := hrel
        go_wp2
        go_ret
        exact ⟨rfl, 0, rfl⟩
    · obtain ⟨b1, o1, rfl, h1⟩ := ha.resolve_left (by simpa using x0)
      have y0 : ys ≠ [] := fun e => x0 (List.eq_nil_of_length_eq_zero (by rw [k0, e]; rfl))
      obtain ⟨b2, o2, rfl, h2⟩ := hb.resolve_left (by simpa using y0)
      clear ha hb x0 y0
      have H1 := Lib.hid h1; clear h1
      have H2 := Lib.hid h2; clear h2
      have K0 := Lib.hid k0
      rw [← k0]
      clear k0
      go_enter Try.func10, Try.ntmps10
      go_wp2
      go_loopw [5] (fun i wr => ∃ k n : Nat, k ≤ xs.length ∧ i = .int .i64 k ∧ Hid (xs.take k = ys.take k) ∧ wr = w.drewN n) (fun i _ => xs.length - (intOf i).toNat)
      case atStart => exact ⟨0, 0, by omega, rfl, rfl, rfl⟩
      case round =>
        obtain ⟨k, n, hk, rfl, heq, rfl⟩ := hrel
        by_cases k1 : k < xs.length
        · have k2 : k < ys.length := by rw [← K0.out]; exact k1
          have hc1 : w.cell? ⟨b1, o1 + k, none⟩ = some (sv xs[k]) := H1.out k _ (by simp [k1])
          have hc2 : w.cell? ⟨b2, o2 + k, none⟩ = some (sv ys[k]) := H2.out k _ (by simp [k2])
          unfold sv at hc1 hc2
          have i0 : (0 : Int) ≤ (k : Int) := by omega
          have i1 : (k : Int) < (xs.length : Int) := by omega
          by_cases k3 : xs[k] = ys[k]
          · have hnew : xs.take (k + 1) = ys.take (k + 1) := by rw [List.take_succ_eq_append_getElem k1, List.take_succ_eq_append_getElem k2, heq.out, k3]
            have HN := Lib.hid hnew; clear hnew
            rw [← k3] at hc2
            clear k3
            generalize bs xs[k] = X at hc1 hc2
            go_wp2
            go_quiet (fail)
            go_wp2
            go_roundw
            case rel => exact ⟨k + 1, _, by omega, by go_num, HN.out, rfl⟩
            case measure => simp [intOf] <;> omega
          · have hp : decide (xs = ys) = false := by simp; intro e; exact k3 (by simp [e])
            have HP := Lib.hid hp; clear hp
            have hne : bs xs[k] ≠ bs ys[k] := fun e => k3 (bs_inj e)
            clear k3
            generalize bs xs[k] = X at hc1 hne
            generalize bs ys[k] = Y at hc2 hne
            have hb1 : (X.toList == Y.toList) = false := by rw [beq_eq_false_iff_ne]; exact fun e => hne (toList_inj e)
            clear hne
            go_wp2
            go_quiet (fail)
            go_wp2
            go_ret
            rw [HP.out]
            exact ⟨rfl, _, World.drewN_drewN _ _ _⟩
        · have hp : decide (xs = ys) = true := by
            have h1 := heq.out
            rw [List.take_of_length_le (by omega), List.take_of_length_le (by rw [← K0.out]; omega)] at h1
            simp [h1]
          have HP := Lib.hid hp; clear hp
          go_wp2
          go_ret
          rw [HP.out]
          exact ⟨rfl, _, rfl⟩
  · have hp : decide (xs = ys) = false := by simp; intro e; exact k0 (by rw [e])
    rw [hp]
    clear hp ha hb
    go_enter Try.func10, Try.ntmps10
    go_wp2
    go_ret
    exact ⟨rfl, 0, rfl⟩

end Go.Proofs.Ytjllmhnicmonbaa
