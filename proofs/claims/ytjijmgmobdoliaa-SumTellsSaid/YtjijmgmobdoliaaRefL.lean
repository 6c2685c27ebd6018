/- The reference's digests and digits, in plain lists. -/
import Derived.Test.YtjijmgmobdoliaaOrderL
namespace Go.Proofs.Ytjijmgmobdoliaa

namespace Hx
theorem lt_at : ∀ (k : Nat) (x y : List Nat) (a b : Nat), x.take k = y.take k → x[k]? = some a → y[k]? = some b → a ≠ b → Hx.lt x y = decide (a < b)
  | _, [], _, _, _, _, h, _, _ => by simp at h
  | _, _ :: _, [], _, _, _, _, h, _ => by simp at h
  | 0, x :: xs, y :: ys, a, b, _, hx, hy, hne => by
    obtain rfl : x = a := by simpa using hx
    obtain rfl : y = b := by simpa using hy
    simp [Hx.lt, hne]
  | k + 1, x :: xs, y :: ys, a, b, ht, hx, hy, hne => by
    simp only [List.take_succ_cons, List.cons.injEq] at ht
    rw [List.getElem?_cons_succ] at hx hy
    rw [Hx.lt, lt_at k xs ys a b ht.2 hx hy hne, ht.1]
    simp
/-- the value of a small digit, or 16 -/
def dr (c : Nat) : Nat := if 48 ≤ c ∧ c ≤ 57 then c - 48 else if 97 ≤ c ∧ c ≤ 102 then c - 87 else 16
theorem dr_le (c : Nat) : dr c ≤ 16 := by unfold dr; split <;> (try split) <;> omega
theorem dr_dg {n : Nat} (h : n < 16) : dr (UInt8.ofNat (dg n)).toNat = n := by
  rw [Vi.ofNat_toNat (dg_lt h)]
  unfold dr dg
  split <;> split <;> (try split) <;> omega
theorem dg_dr {c : UInt8} (h : dr c.toNat ≠ 16) : UInt8.ofNat (dg (dr c.toNat)) = c := by
  have hlt : dr c.toNat < 16 := by have := dr_le c.toNat; omega
  apply UInt8.toNat.inj
  rw [Vi.ofNat_toNat (dg_lt hlt)]
  have hc := c.toNat_lt
  revert h
  generalize c.toNat = n at hc hlt
  intro h
  by_cases h1 : 48 ≤ n ∧ n ≤ 57
  · have e : dr n = n - 48 := by unfold dr; rw [if_pos h1]
    rw [e]
    unfold dg
    rw [if_pos (by omega)]
    omega
  · by_cases h2 : 97 ≤ n ∧ n ≤ 102
    · have e : dr n = n - 87 := by unfold dr; rw [if_neg h1, if_pos h2]
      rw [e]
      unfold dg
      rw [if_neg (by omega)]
      omega
    · exact absurd (by unfold dr; rw [if_neg h1, if_neg h2]) h
def dAt (l : List UInt8) (i : Nat) : Nat := dr (l.getD i 0).toNat
/-- what the reference has read behind i digits -/
def part (l : List UInt8) (i : Nat) : List Nat := (List.range 32).map fun k => if 2 * k + 1 < i then 16 * dAt l (2 * k) + dAt l (2 * k + 1) else if 2 * k < i then dAt l (2 * k) else 0
theorem part_len (l : List UInt8) (i : Nat) : (part l i).length = 32 := by simp [part]
theorem part_zero (l : List UInt8) : part l 0 = List.replicate 32 0 := by
  unfold part
  apply List.ext_getElem (by simp)
  intro k h1 h2
  rw [List.getElem_replicate, List.getElem_map, if_neg (by omega), if_neg (by omega)]
theorem part_at (l : List UInt8) {i : Nat} (h : i < 64) : (part l i)[i / 2]? = some (if i % 2 = 0 then 0 else dAt l (i - 1)) := by
  unfold part
  rw [List.getElem?_map, List.getElem?_range (by omega)]
  simp only [Option.map_some]
  rcases Nat.mod_two_eq_zero_or_one i with h0 | h0
  · rw [if_neg (by omega), if_neg (by omega), if_pos h0]
  · rw [if_neg (by omega), if_pos (by omega), if_neg (by omega), show 2 * (i / 2) = i - 1 from by omega]
theorem part_step (l : List UInt8) {i o : Nat} (h : i < 64) (ho : (part l i)[i / 2]? = some o) : (part l i).set (i / 2) (16 * o + dAt l i) = part l (i + 1) := by
  rw [part_at l h] at ho
  apply List.ext_getElem (by simp [part])
  intro k h1 h2
  rw [List.getElem_set]
  have hk : k < 32 := by simpa [part] using h2
  simp only [part, List.getElem_map, List.getElem_range]
  by_cases e : i / 2 = k
  · rw [if_pos e]
    rcases Nat.mod_two_eq_zero_or_one i with h0 | h0
    · rw [if_pos h0] at ho
      obtain rfl : 0 = o := by simpa using ho
      rw [if_neg (by omega), if_pos (by omega), show 2 * k = i from by omega]
      omega
    · rw [if_neg (by omega)] at ho
      obtain rfl : dAt l (i - 1) = o := by simpa using ho
      rw [if_pos (by omega), show 2 * k = i - 1 from by omega, show i - 1 + 1 = i from by omega]
  · rw [if_neg e]
    by_cases h3 : 2 * k + 1 < i
    · rw [if_pos h3, if_pos (by omega)]
    · rw [if_neg h3, if_neg (by omega), if_neg (by omega), if_neg (by omega)]
theorem part_full (l : List UInt8) (hl : l.length = 64) (h : ∀ j, j < 64 → dAt l j ≠ 16) : rd l = (part l 64, true) := by
  have hlt : ∀ j, j < 64 → dAt l j < 16 := fun j hj => by have := dr_le (l.getD j 0).toNat; have := h j hj; unfold dAt at *; omega
  have hb : ∀ x ∈ part l 64, x < 256 := by
    intro x hx
    obtain ⟨k, hk, rfl⟩ := List.mem_map.1 hx
    have hk : k < 32 := by simpa using hk
    have h1 := hlt (2 * k) (by omega)
    have h2 := hlt (2 * k + 1) (by omega)
    rw [if_pos (by omega)]
    omega
  have e : hex (part l 64) = l := by
    apply List.ext_getElem (by rw [hex_len, part_len, hl])
    intro i h1 h2
    have hi : i < 64 := by omega
    have hk := hex_at (part l 64) (i / 2) (by rw [part_len]; omega)
    have hg : (part l 64).getD (i / 2) 0 = 16 * dAt l (2 * (i / 2)) + dAt l (2 * (i / 2) + 1) := by
      rw [List.getD_eq_getElem?_getD]
      unfold part
      rw [List.getElem?_map, List.getElem?_range (by omega)]
      simp only [Option.map_some, Option.getD_some]
      rw [if_pos (by omega)]
    rw [hg] at hk
    have q1 := hlt (2 * (i / 2)) (by omega)
    have q2 := hlt (2 * (i / 2) + 1) (by omega)
    have hgi : (hex (part l 64)).getD i 0 = (hex (part l 64))[i] := by rw [List.getD_eq_getElem?_getD, List.getElem?_eq_getElem h1]; rfl
    have hli : l.getD i 0 = l[i] := by rw [List.getD_eq_getElem?_getD, List.getElem?_eq_getElem h2]; rfl
    have hd := dg_dr (c := l.getD i 0) (h i hi)
    refine hgi.symm.trans (Eq.trans ?_ hli)
    rcases Nat.mod_two_eq_zero_or_one i with h0 | h0
    · have h3 := hk.1
      rw [show 2 * (i / 2) = i from by omega] at h3 q1
      rw [h3, show (16 * dAt l i + dAt l (i + 1)) / 16 = dAt l i from by rw [show 2 * (i / 2) + 1 = i + 1 from by omega] at q2; omega]
      exact hd
    · have h3 := hk.2
      rw [show 2 * (i / 2) + 1 = i from by omega] at h3 q2
      rw [h3, show (16 * dAt l (2 * (i / 2)) + dAt l i) % 16 = dAt l i from by omega]
      exact hd
  have := rd_hex hb (part_len l 64)
  rw [e] at this
  exact this
theorem rd_none (l : List UInt8) (h : l.length ≠ 64 ∨ ∃ j, j < 64 ∧ dAt l j = 16) : rd l = (List.replicate 32 0, false) := by
  cases hr : (rd l).2 with
  | true =>
    exfalso
    obtain ⟨h1, h2, h3⟩ := rd_true hr
    have hl : l.length = 64 := by rw [← h1, hex_len, h2]
    rcases h with h | ⟨j, hj, hd⟩
    · exact h hl
    · have hk := hex_at (rd l).1 (j / 2) (by rw [h2]; omega)
      rw [h1] at hk
      have hb := getD_lt' h3 (j / 2)
      unfold dAt at hd
      rcases Nat.mod_two_eq_zero_or_one j with h0 | h0
      · have h4 := hk.1
        rw [show 2 * (j / 2) = j from by omega] at h4
        rw [h4, dr_dg (by omega)] at hd
        omega
      · have h4 := hk.2
        rw [show 2 * (j / 2) + 1 = j from by omega] at h4
        rw [h4, dr_dg (by omega)] at hd
        omega
  | false =>
    have h1 := rd_false hr
    exact Prod.ext h1 hr
end Hx
end Go.Proofs.Ytjijmgmobdoliaa
