/- The digest, in plain numbers: padding, blocks, and that the whole message's blocks are the message's and then the tail's. -/
import Derived.Test.YtjijmgmobdoliaaMix
namespace Go.Proofs.Ytjijmgmobdoliaa

namespace Sm
def fill (L : List Nat) : List Nat := L ++ List.replicate ((120 - L.length % 64) % 64) 0
theorem fill_step {L : List Nat} (h : L.length % 64 ≠ 56) : fill (L ++ [0]) = fill L := by
  unfold fill
  rw [List.append_assoc, List.length_append, List.length_singleton]
  congr 1
  rw [show (120 - L.length % 64) % 64 = (120 - (L.length + 1) % 64) % 64 + 1 from by omega, List.replicate_succ]
  rfl
theorem fill_end {L : List Nat} (h : L.length % 64 = 56) : fill L = L := by
  unfold fill
  rw [h]
  simp
theorem fill_len (L : List Nat) : (fill L).length % 64 = 56 ∧ (fill L).length ≤ L.length + 63 := by
  unfold fill
  rw [List.length_append, List.length_replicate]
  omega
def bits8 (n : Nat) : List Nat := (List.range 8).map fun j => n / 2 ^ (56 - 8 * j) % 256
theorem bits8_len (n : Nat) : (bits8 n).length = 8 := by simp [bits8]
def tail (l : List Nat) : List Nat := fill (l.drop (l.length - l.length % 64) ++ [128]) ++ bits8 (8 * l.length)
def blocks : Nat → List Nat → List Nat → List Nat
  | 0, h, _ => h
  | n + 1, h, l => blocks n (mix h (l.take 64)) (l.drop 64)
def bl (h l : List Nat) : List Nat := blocks (l.length / 64) h l
theorem bl_step {h l : List Nat} (hl : 64 ≤ l.length) : bl (mix h (l.take 64)) (l.drop 64) = bl h l := by
  unfold bl
  rw [List.length_drop, show l.length / 64 = (l.length - 64) / 64 + 1 from by omega]
  rfl
theorem bl_end {h l : List Nat} (hl : l.length < 64) : bl h l = h := by
  unfold bl
  rw [Nat.div_eq_of_lt hl]
  rfl
theorem bl_append : ∀ (n : Nat) (h a b : List Nat), a.length = 64 * n → bl h (a ++ b) = bl (bl h a) b
  | 0, h, a, b, ha => by
    obtain rfl := List.eq_nil_of_length_eq_zero (l := a) (by omega)
    rfl
  | n + 1, h, a, b, ha => by
    rw [← bl_step (h := h) (l := a ++ b) (by rw [List.length_append]; omega), ← bl_step (h := h) (l := a) (by omega), List.take_append_of_le_length (by omega), List.drop_append_of_le_length (by omega),
      bl_append n _ _ _ (by rw [List.length_drop]; omega)]
def dig (h : List Nat) : List Nat := (List.range 32).map fun k => h.getD (k / 4) 0 / 2 ^ (24 - 8 * (k % 4)) % 256
def sha (l : List Nat) : List Nat := dig (bl (bl H l) (tail l))
theorem dig_len (h : List Nat) : (dig h).length = 32 := by simp [dig]
theorem sha_len (l : List Nat) : (sha l).length = 32 := dig_len _
theorem bits8_lt (n : Nat) : ∀ x ∈ bits8 n, x < 256 := by
  intro x hx
  obtain ⟨j, _, rfl⟩ := List.mem_map.1 hx
  exact Nat.mod_lt _ (by decide)
theorem dig_lt (h : List Nat) : ∀ x ∈ dig h, x < 256 := by
  intro x hx
  obtain ⟨j, _, rfl⟩ := List.mem_map.1 hx
  exact Nat.mod_lt _ (by decide)
theorem fill_lt {L : List Nat} (h : ∀ x ∈ L, x < 256) : ∀ x ∈ fill L, x < 256 := by
  intro x hx
  rcases List.mem_append.1 hx with hx | hx
  · exact h x hx
  · obtain ⟨_, rfl⟩ := List.mem_replicate.1 hx; decide
theorem tail_lt {l : List Nat} (h : ∀ x ∈ l, x < 256) : ∀ x ∈ tail l, x < 256 := by
  intro x hx
  rcases List.mem_append.1 hx with hx | hx
  · refine fill_lt (fun y hy => ?_) x hx
    rcases List.mem_append.1 hy with hy | hy
    · exact h y (List.mem_of_mem_drop hy)
    · obtain rfl := List.mem_singleton.1 hy; decide
  · exact bits8_lt _ x hx
theorem tail_len (l : List Nat) : (tail l).length % 64 = 0 ∧ (tail l).length ≤ 136 := by
  unfold tail
  have := fill_len (l.drop (l.length - l.length % 64) ++ [128])
  rw [List.length_append, List.length_drop, List.length_singleton] at this
  rw [List.length_append, bits8_len]
  omega
/-- the whole message with its padding -/
def padded (l : List Nat) : List Nat := fill (l ++ [128]) ++ bits8 (8 * l.length)
theorem padded_eq (l : List Nat) : padded l = l.take (l.length - l.length % 64) ++ tail l := by
  have hl : l.take (l.length - l.length % 64) ++ l.drop (l.length - l.length % 64) = l := List.take_append_drop _ _
  unfold padded tail fill
  rw [← List.append_assoc, ← List.append_assoc, ← List.append_assoc, hl]
  congr 3
  rw [List.length_append, List.length_append, List.length_drop, List.length_singleton]
  omega
theorem sha_padded (l : List Nat) : bl H (padded l) = bl (bl H l) (tail l) := by
  have hl : l.take (l.length - l.length % 64) ++ l.drop (l.length - l.length % 64) = l := List.take_append_drop _ _
  have ht : (l.take (l.length - l.length % 64)).length = 64 * (l.length / 64) := by rw [List.length_take]; omega
  rw [padded_eq, bl_append _ _ _ _ ht]
  have h1 : bl H l = bl H (l.take (l.length - l.length % 64)) := by
    have h2 := bl_append _ H _ (l.drop (l.length - l.length % 64)) ht
    rw [hl, bl_end (l := l.drop (l.length - l.length % 64)) (by rw [List.length_drop]; omega)] at h2
    exact h2
  rw [h1]
theorem zipWith_len8 {A B : List Nat} {f : Nat → Nat → Nat} (ha : A.length = 8) (hb : B.length = 8) : (List.zipWith f A B).length = 8 := by rw [List.length_zipWith, ha, hb]; rfl
theorem rnd_len {v : List Nat} (k w : Nat) (h : v.length = 8) : (rnd v k w).length = 8 := by
  match v, h with
  | [_, _, _, _, _, _, _, _], _ => rfl
theorem rounds_len : ∀ (l : List (Nat × Nat)) {v : List Nat}, v.length = 8 → (rounds l v).length = 8
  | [], _, h => h
  | p :: l, v, h => rounds_len l (v := rnd v p.1 p.2) (rnd_len _ _ h)
theorem mix_len {h : List Nat} (b : List Nat) (hh : h.length = 8) : (mix h b).length = 8 := zipWith_len8 (rounds_len _ hh) hh
theorem mix_lt (h b : List Nat) : ∀ x ∈ mix h b, x < 4294967296 := by
  intro x hx
  unfold mix at hx
  obtain ⟨i, hi, rfl⟩ := List.mem_iff_getElem.1 hx
  rw [List.getElem_zipWith]
  exact Nat.mod_lt _ (by decide)
theorem H_lt : ∀ x ∈ H, x < 4294967296 := by decide
end Sm
end Go.Proofs.Ytjijmgmobdoliaa
