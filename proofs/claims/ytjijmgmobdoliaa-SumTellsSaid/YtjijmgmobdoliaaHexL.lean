/- Hexadecimal digits, in plain lists. -/
import Derived.Test.YtjijmgmobdoliaaShaL
import Derived.Test.YtjijmgmobdoliaaShelf
namespace Go.Proofs.Ytjijmgmobdoliaa

namespace Hx
def dg (n : Nat) : Nat := if n < 10 then 48 + n else 87 + n
def two (x : Nat) : List UInt8 := [UInt8.ofNat (dg (x / 16)), UInt8.ofNat (dg (x % 16))]
def hex (l : List Nat) : List UInt8 := l.flatMap two
def val (c : Nat) : Int := if 48 ≤ c ∧ c ≤ 57 then (c : Int) - 48 else if 97 ≤ c ∧ c ≤ 102 then (c : Int) - 87 else if 65 ≤ c ∧ c ≤ 70 then (c : Int) - 55 else -1
def ok (l : List UInt8) : Prop := ∀ j, j < l.length → 0 ≤ val (l.getD j 0).toNat
def pair (l : List UInt8) (k : Nat) : Nat := (val (l.getD (2 * k) 0).toNat).toNat * 16 + (val (l.getD (2 * k + 1) 0).toNat).toNat
def raw (l : List UInt8) : List Nat := (List.range (l.length / 2)).map (pair l)
open Classical in
noncomputable def unhex (l : List UInt8) : List Nat × Bool := if l.length % 2 = 0 ∧ ok l then (raw l, true) else ([], false)
noncomputable def rd (l : List UInt8) : List Nat × Bool := if (unhex l).2 = true ∧ (unhex l).1.length = 32 ∧ hex (unhex l).1 = l then ((unhex l).1, true) else (List.replicate 32 0, false)

theorem val_lt (c : Nat) : val c < 16 := by unfold val; split <;> (try split) <;> (try split) <;> omega
theorem pair_lt (l : List UInt8) (k : Nat) : pair l k < 256 := by
  have h1 := val_lt (l.getD (2 * k) 0).toNat
  have h2 := val_lt (l.getD (2 * k + 1) 0).toNat
  unfold pair
  omega
theorem raw_lt (l : List UInt8) : ∀ x ∈ raw l, x < 256 := by
  intro x hx
  obtain ⟨k, _, rfl⟩ := List.mem_map.1 hx
  exact pair_lt l k
theorem raw_len (l : List UInt8) : (raw l).length = l.length / 2 := by simp [raw]
theorem dg_lt {n : Nat} (h : n < 16) : dg n < 256 := by unfold dg; split <;> omega
theorem val_dg {n : Nat} (h : n < 16) : val (UInt8.ofNat (dg n)).toNat = (n : Int) := by
  rw [Vi.ofNat_toNat (dg_lt h)]
  unfold dg
  split
  · rw [val, if_pos (by omega)]; omega
  · rw [val, if_neg (by omega), if_pos (by omega)]; omega
theorem hex_len : ∀ l : List Nat, (hex l).length = 2 * l.length
  | [] => rfl
  | x :: l => by
    have := hex_len l
    show (two x ++ hex l).length = _
    rw [List.length_append, this, List.length_cons]
    show 2 + _ = _
    omega
theorem hex_at : ∀ (l : List Nat) (k : Nat), k < l.length → (hex l).getD (2 * k) 0 = UInt8.ofNat (dg (l.getD k 0 / 16)) ∧ (hex l).getD (2 * k + 1) 0 = UInt8.ofNat (dg (l.getD k 0 % 16))
  | [], k, h => by simp at h
  | x :: l, 0, _ => ⟨rfl, rfl⟩
  | x :: l, k + 1, h => by
    have := hex_at l k (by simpa using h)
    rw [show 2 * (k + 1) = 2 * k + 1 + 1 from by omega]
    show (UInt8.ofNat (dg (x / 16)) :: UInt8.ofNat (dg (x % 16)) :: hex l).getD (2 * k + 1 + 1) 0 = _ ∧ (UInt8.ofNat (dg (x / 16)) :: UInt8.ofNat (dg (x % 16)) :: hex l).getD (2 * k + 1 + 1 + 1) 0 = _
    rw [List.getD_cons_succ, List.getD_cons_succ, List.getD_cons_succ, List.getD_cons_succ, List.getD_cons_succ]
    exact this
theorem getD_lt' {l : List Nat} (h : ∀ x ∈ l, x < 256) (k : Nat) : l.getD k 0 < 256 := Sm.getD_lt (by decide) h k
theorem hex_ok {l : List Nat} (h : ∀ x ∈ l, x < 256) : ok (hex l) := by
  intro j hj
  rw [hex_len] at hj
  have hb := getD_lt' h (j / 2)
  have ha := hex_at l (j / 2) (by omega)
  rcases Nat.mod_two_eq_zero_or_one j with h0 | h0
  · rw [show j = 2 * (j / 2) from by omega, ha.1, val_dg (by omega)]
    omega
  · rw [show j = 2 * (j / 2) + 1 from by omega, ha.2, val_dg (by omega)]
    omega
theorem raw_hex {l : List Nat} (h : ∀ x ∈ l, x < 256) : raw (hex l) = l := by
  refine List.ext_getElem (by rw [raw_len, hex_len]; omega) fun k h1 h2 => ?_
  have hb := getD_lt' h k
  have ha := hex_at l k h2
  have e : (raw (hex l))[k] = pair (hex l) k := by simp [raw]
  rw [e]
  unfold pair
  rw [ha.1, ha.2, val_dg (by omega), val_dg (by omega), List.getD_eq_getElem?_getD, List.getElem?_eq_getElem h2]
  simp only [Option.getD_some]
  omega
theorem unhex_hex {l : List Nat} (h : ∀ x ∈ l, x < 256) : unhex (hex l) = (l, true) := by
  unfold unhex
  rw [if_pos ⟨by rw [hex_len]; omega, hex_ok h⟩, raw_hex h]
theorem rd_hex {l : List Nat} (h : ∀ x ∈ l, x < 256) (hl : l.length = 32) : rd (hex l) = (l, true) := by
  unfold rd
  rw [unhex_hex h]
  rw [if_pos ⟨rfl, hl, rfl⟩]
theorem rd_true {l : List UInt8} (h : (rd l).2 = true) : hex (rd l).1 = l ∧ (rd l).1.length = 32 ∧ ∀ x ∈ (rd l).1, x < 256 := by
  unfold rd at h ⊢
  split
  · rename_i hc
    refine ⟨hc.2.2, hc.2.1, ?_⟩
    unfold unhex
    split
    · exact raw_lt l
    · simp
  · rename_i hc
    rw [if_neg hc] at h
    cases h
theorem rd_false {l : List UInt8} (h : (rd l).2 = false) : (rd l).1 = List.replicate 32 0 := by
  unfold rd at h ⊢
  split
  · rename_i hc
    rw [if_pos hc] at h
    cases h
  · rfl
theorem rd_len (l : List UInt8) : (rd l).1.length = 32 := by
  unfold rd
  split
  · rename_i hc; exact hc.2.1
  · simp
theorem index_val : ∀ c : Fin 256, Lib.indexByte [48, 49, 50, 51, 52, 53, 54, 55, 56, 57, 97, 98, 99, 100, 101, 102] (UInt8.ofNat (if 65 ≤ c.val ∧ c.val ≤ 70 then c.val + 32 else c.val)) = val c.val := by decide +kernel
theorem byte_or {a b : Nat} (hb : b < 16) : a * 16 ||| b = a * 16 + b := by
  have := Nat.two_pow_add_eq_or_of_lt (i := 4) (b := b) hb a
  rw [Nat.mul_comm a 16]
  exact this.symm
end Hx
end Go.Proofs.Ytjijmgmobdoliaa
