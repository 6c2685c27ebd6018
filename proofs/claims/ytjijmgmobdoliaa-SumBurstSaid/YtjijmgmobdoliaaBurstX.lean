/- SumBurst at every input. -/
import Derived.Test.YtjijmgmobdoliaaBurstW
namespace Go.Proofs.Ytjijmgmobdoliaa
open Go.RowKit

theorem five_of {l : List Nat} (h : l.length = 5) (hl : ∀ x ∈ l, x < 256) : ∃ a0 a1 a2 a3 a4 : UInt8, l = [a0.toNat, a1.toNat, a2.toNat, a3.toNat, a4.toNat] := by
  match l, h with
  | [x0, x1, x2, x3, x4], _ =>
    obtain ⟨a0, h0⟩ := byte_of x0 (hl _ (by simp))
    obtain ⟨a1, h1⟩ := byte_of x1 (hl _ (by simp))
    obtain ⟨a2, h2⟩ := byte_of x2 (hl _ (by simp))
    obtain ⟨a3, h3⟩ := byte_of x3 (hl _ (by simp))
    obtain ⟨a4, h4⟩ := byte_of x4 (hl _ (by simp))
    exact ⟨a0, a1, a2, a3, a4, by rw [h0, h1, h2, h3, h4]⟩
set_option maxHeartbeats 4000000 in
theorem sumBurst_w (a : ByteArray) (ha : a.data.toList.length ≤ 140737488355328) (b : ByteArray) (hb : b.data.toList.length ≤ 140737488355328) {f : Value} (hf : ∃ l : List Nat, l.length = 5 ∧ (∀ x ∈ l, x < 256) ∧ f = .agg (l.map yv).toArray)
    {y : Value} (hy : ∃ n : Nat, n < 4294967296 ∧ y = .int .u32 n) (s : Int) (hs : -9223372036854775808 ≤ s ∧ s ≤ 9223372036854775807) (w : World) :
    Calls Try.prog 4 #[.string a, .string b, f, y, .int .i64 s] w fun e w' => e = .returned (.bool true) ∧ Below w.heap.size w w' := by
  obtain ⟨l, hl5, hl, rfl⟩ := hf
  obtain ⟨v, hv, rfl⟩ := hy
  obtain ⟨a0, a1, a2, a3, a4, rfl⟩ := five_of hl5 hl
  rw [bs_of (t := a) rfl, bs_of (t := b) rfl]
  generalize a.data.toList = P at *
  generalize b.data.toList = Q at *
  by_cases h : P.length ≤ 1000 ∧ Q.length ≤ 1000 ∧ 0 < v ∧ 0 ≤ s ∧ s ≤ 7
  · obtain ⟨h1, h2, h3, h4, h5⟩ := h
    obtain ⟨n, rfl⟩ : ∃ n : Nat, s = (n : Int) := ⟨s.toNat, by omega⟩
    exact sumBurst_yes P Q h1 h2 a0 a1 a2 a3 a4 v n hv h3 (by omega) w
  · have sp := bs_size P
    have sq := bs_size Q
    have hor : (1000 : Int) < (P.length : Int) ∨ (P.length : Int) ≤ 1000 ∧ (1000 : Int) < (Q.length : Int) ∨ (P.length : Int) ≤ 1000 ∧ (Q.length : Int) ≤ 1000 ∧ v = 0 ∨ (P.length : Int) ≤ 1000 ∧ (Q.length : Int) ≤ 1000 ∧ ((v : Int) == 0) = false ∧ s < 0 ∨ (P.length : Int) ≤ 1000 ∧ (Q.length : Int) ≤ 1000 ∧ ((v : Int) == 0) = false ∧ 0 ≤ s ∧ 7 < s := by
      rw [beq_eq_false_iff_ne]
      omega
    clear h hl hl5 hs
    rcases hor with h | ⟨h, h'⟩ | ⟨h, h', rfl⟩ | ⟨h, h', h2, h3⟩ | ⟨h, h', h2, h3, h4⟩
    all_goals
      go_enter Try.func4, Try.ntmps4
      go_wp2_with (go_at_call 7; refine (small_c _).mono ?_; rintro e w1 ⟨rfl, b1⟩)
      go_ret
      exact ⟨rfl, ((Below.refl _ w).alloc (Nat.le_refl _) _).trans (b1.mono (by simp))⟩
end Go.Proofs.Ytjijmgmobdoliaa
