/- The order of digests, in plain lists. -/
import Derived.Test.YtjijmgmobdoliaaDig
namespace Go.Proofs.Ytjijmgmobdoliaa

namespace Hx
theorem lt_cons (a b : Nat) (x y : List Nat) : Hx.lt (a :: x) (b :: y) = true ↔ a < b ∨ a = b ∧ Hx.lt x y = true := by
  simp [Hx.lt]
theorem lt_irrefl : ∀ a : List Nat, Hx.lt a a = false
  | [] => rfl
  | a :: x => by simp [Hx.lt, lt_irrefl x]
theorem lt_trans : ∀ a b c : List Nat, Hx.lt a b = true → Hx.lt b c = true → Hx.lt a c = true
  | [], _, _, h, _ => by simp [Hx.lt] at h
  | _ :: _, [], _, h, _ => by simp [Hx.lt] at h
  | _ :: _, _ :: _, [], _, h => by simp [Hx.lt] at h
  | a :: x, b :: y, c :: z, h, h' => by
    rw [lt_cons] at h h' ⊢
    rcases h with h | ⟨rfl, h⟩ <;> rcases h' with h' | ⟨rfl, h'⟩
    · left; omega
    · left; omega
    · left; omega
    · exact Or.inr ⟨rfl, lt_trans x y z h h'⟩
theorem lt_asymm (a b : List Nat) (h : Hx.lt a b = true) : Hx.lt b a = false := by
  cases h' : Hx.lt b a
  · rfl
  · have := lt_trans a b a h h'
    rw [lt_irrefl] at this
    cases this
theorem lt_total : ∀ a b : List Nat, a.length = b.length → Hx.lt a b = false → Hx.lt b a = false → a = b
  | [], [], _, _, _ => rfl
  | [], _ :: _, h, _, _ => by simp at h
  | _ :: _, [], h, _, _ => by simp at h
  | a :: x, b :: y, h, h1, h2 => by
    simp only [Hx.lt, Bool.or_eq_false_iff, decide_eq_false_iff_not, Bool.and_eq_false_imp, decide_eq_true_eq] at h1 h2
    have e : a = b := by omega
    subst e
    rw [lt_total x y (by simpa using h) (h1.2 rfl) (h2.2 rfl)]
theorem less_append {p q : List UInt8} (x y : UInt8) : Op.bytesLess (x :: p) (y :: q) = (decide (x < y) || (decide (x = y) && Op.bytesLess p q)) := by
  by_cases h : x = y
  · subst h
    simp [Op.bytesLess, UInt8.lt_irrefl]
  · by_cases h2 : x < y <;> simp [Op.bytesLess, h, h2]
theorem dg_mono {a b : Nat} (ha : a < 16) (hb : b < 16) : UInt8.ofNat (dg a) < UInt8.ofNat (dg b) ↔ a < b := by
  rw [UInt8.lt_iff_toNat_lt, Vi.ofNat_toNat (dg_lt ha), Vi.ofNat_toNat (dg_lt hb)]
  unfold dg
  split <;> split <;> omega
theorem dg_inj {a b : Nat} (ha : a < 16) (hb : b < 16) : UInt8.ofNat (dg a) = UInt8.ofNat (dg b) ↔ a = b := by
  constructor
  · intro h
    have := congrArg UInt8.toNat h
    rw [Vi.ofNat_toNat (dg_lt ha), Vi.ofNat_toNat (dg_lt hb)] at this
    unfold dg at this
    split at this <;> split at this <;> omega
  · rintro rfl; rfl
theorem lt_hex : ∀ a b : List Nat, a.length = b.length → (∀ x ∈ a, x < 256) → (∀ x ∈ b, x < 256) → Op.bytesLess (hex a) (hex b) = Hx.lt a b
  | [], [], _, _, _ => rfl
  | [], _ :: _, h, _, _ => by simp at h
  | _ :: _, [], h, _, _ => by simp at h
  | a :: x, b :: y, h, ha, hb => by
    have ih := lt_hex x y (by simpa using h) (fun z hz => ha z (by simp [hz])) (fun z hz => hb z (by simp [hz]))
    have h1 := ha a (by simp)
    have h2 := hb b (by simp)
    show Op.bytesLess (UInt8.ofNat (dg (a / 16)) :: UInt8.ofNat (dg (a % 16)) :: hex x) (UInt8.ofNat (dg (b / 16)) :: UInt8.ofNat (dg (b % 16)) :: hex y) = _
    rw [less_append, less_append, ih, Hx.lt, Bool.eq_iff_iff]
    simp only [Bool.or_eq_true, Bool.and_eq_true, decide_eq_true_eq, dg_mono (show a / 16 < 16 by omega) (show b / 16 < 16 by omega), dg_inj (show a / 16 < 16 by omega) (show b / 16 < 16 by omega), dg_mono (show a % 16 < 16 by omega) (show b % 16 < 16 by omega), dg_inj (show a % 16 < 16 by omega) (show b % 16 < 16 by omega)]
    by_cases e : a = b
    · subst e
      simp
    · constructor
      · rintro (h | ⟨h, h' | ⟨h', _⟩⟩)
        · left; omega
        · left; omega
        · omega
      · rintro (h | ⟨h, _⟩)
        · by_cases h4 : a / 16 < b / 16
          · exact Or.inl h4
          · exact Or.inr ⟨by omega, Or.inl (by omega)⟩
        · exact absurd h e
end Hx
end Go.Proofs.Ytjijmgmobdoliaa
