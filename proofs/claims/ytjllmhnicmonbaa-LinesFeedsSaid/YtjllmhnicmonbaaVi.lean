/- Varints, and the reader as a plain function on the unread bytes and the error flag: plain lists of bytes, no program. -/
namespace Go.Proofs.Ytjllmhnicmonbaa
namespace Vi

/-- the varint of n, at most f + 1 digits -/
def viF : Nat → Nat → List UInt8
  | 0, n => [UInt8.ofNat n]
  | f + 1, n => if n < 128 then [UInt8.ofNat n] else UInt8.ofNat (n % 128 + 128) :: viF f (n / 128)
def vi (n : Nat) : List UInt8 := viF 8 n

/-- the number of bytes from 128 on at the head -/
def pos : List UInt8 → Nat
  | [] => 0
  | b :: r => if 128 ≤ b.toNat then pos r + 1 else 0
def val : List UInt8 → Nat
  | [] => 0
  | b :: r => b.toNat % 128 + 128 * val r

theorem pos_le : ∀ l : List UInt8, pos l ≤ l.length
  | [] => Nat.le_refl _
  | b :: r => by
    have := pos_le r
    simp only [pos, List.length_cons]
    split <;> omega

/-- is there a varint at the head of l? -/
def good (l : List UInt8) : Bool := decide (pos l < l.length) && decide (pos l ≤ 8) && (decide (pos l = 0) || !(l.getD (pos l) 0).toNat == 0)
def dec (l : List UInt8) : Option (Nat × List UInt8) :=
  if pos l < l.length ∧ pos l ≤ 8 ∧ (pos l = 0 ∨ (l.getD (pos l) 0).toNat ≠ 0) then some (val (l.take (pos l + 1)), l.drop (pos l + 1)) else none

theorem pos_lt_128 : ∀ (l : List UInt8) (k : Nat), k < pos l → 128 ≤ (l.getD k 0).toNat
  | [], k, h => by simp [pos] at h
  | b :: r, k, h => by
    simp only [pos] at h
    split at h
    · rename_i hb
      cases k with
      | zero => simpa using hb
      | succ k => simpa using pos_lt_128 r k (by omega)
    · omega
theorem pos_at : ∀ (l : List UInt8), pos l < l.length → (l.getD (pos l) 0).toNat < 128
  | [], h => by simp [pos] at h
  | b :: r, h => by
    by_cases hb : 128 ≤ b.toNat
    · simp only [pos, if_pos hb, List.length_cons] at h ⊢
      simpa using pos_at r (by omega)
    · simp only [pos, if_neg hb]
      simp; omega
/-- the head is as long as said, if the bytes ahead of k are from 128 on and byte k is below, or there is none -/
theorem pos_eq : ∀ (l : List UInt8) (k : Nat), k ≤ l.length → (∀ j, j < k → 128 ≤ (l.getD j 0).toNat) → (k < l.length → (l.getD k 0).toNat < 128) → pos l = k
  | [], k, h, _, _ => by simp at h; simp [pos, h]
  | b :: r, 0, _, _, h2 => by
    have := h2 (by simp)
    simp at this
    simp only [pos]; rw [if_neg (by omega)]
  | b :: r, k + 1, h, h1, h2 => by
    have := h1 0 (by omega)
    simp at this
    simp only [pos]; rw [if_pos (by omega)]
    rw [pos_eq r k (by simpa using h) (fun j hj => by simpa using h1 (j + 1) (by omega)) (fun hk => by simpa using h2 (by simp; omega))]
theorem pos_ge : ∀ (l : List UInt8) (k : Nat), k ≤ l.length → (∀ j, j < k → 128 ≤ (l.getD j 0).toNat) → k ≤ pos l
  | _, 0, _, _ => Nat.zero_le _
  | [], k + 1, h, _ => by simp at h
  | b :: r, k + 1, h, h1 => by
    have := h1 0 (by omega)
    simp at this
    simp only [pos]; rw [if_pos (by omega)]
    have := pos_ge r k (by simpa using h) (fun j hj => by simpa using h1 (j + 1) (by omega))
    omega

theorem val_snoc : ∀ (l : List UInt8) (b : UInt8), val (l ++ [b]) = val l + b.toNat % 128 * 128 ^ l.length
  | [], b => by simp [val]
  | c :: r, b => by
    simp only [List.cons_append, val, val_snoc r b, List.length_cons, Nat.pow_succ, Nat.mul_add]
    rw [Nat.add_assoc, Nat.mul_left_comm, Nat.mul_comm (128 ^ r.length) 128, ← Nat.mul_left_comm, Nat.mul_left_comm]
theorem val_lt : ∀ l : List UInt8, val l < 128 ^ l.length
  | [] => by simp [val]
  | b :: r => by
    have := val_lt r
    simp only [val, List.length_cons, Nat.pow_succ]
    have h : b.toNat % 128 < 128 := Nat.mod_lt _ (by decide)
    omega

/-! the encoding -/
theorem viF_length_pos (f n : Nat) : 1 ≤ (viF f n).length := by
  cases f with
  | zero => simp [viF]
  | succ f => simp only [viF]; split <;> simp
theorem viF_length_le : ∀ (f n : Nat), (viF f n).length ≤ f + 1
  | 0, n => by simp [viF]
  | f + 1, n => by
    have := viF_length_le f (n / 128)
    simp only [viF]; split <;> simp; omega
theorem ofNat_toNat {n : Nat} (h : n < 256) : (UInt8.ofNat n).toNat = n := by
  simp [UInt8.ofNat, UInt8.toNat]; omega
/-- a varint at the head is decoded, whatever follows -/
theorem viF_pos : ∀ (f n : Nat) (r : List UInt8), n < 128 ^ (f + 1) → pos (viF f n ++ r) + 1 = (viF f n).length ∧ val (viF f n) = n ∧ (pos (viF f n ++ r) = 0 ∨ ((viF f n ++ r).getD (pos (viF f n ++ r)) 0).toNat ≠ 0)
  | 0, n, r, h => by
    have h' : n < 128 := by simpa using h
    have hn : (UInt8.ofNat n).toNat = n := ofNat_toNat (by omega)
    simp [viF, pos, val, hn]; omega
  | f + 1, n, r, h => by
    simp only [viF]
    by_cases hc : n < 128
    · have hn : (UInt8.ofNat n).toNat = n := ofNat_toNat (by omega)
      simp only [if_pos hc]
      simp [pos, val, hn]; omega
    · simp only [if_neg hc]
      have hq : n / 128 < 128 ^ (f + 1) := by
        rw [Nat.div_lt_iff_lt_mul (by decide)]; rw [Nat.pow_succ] at h; exact h
      obtain ⟨h1, h2, h3⟩ := viF_pos f (n / 128) r hq
      have hn : (UInt8.ofNat (n % 128 + 128)).toNat = n % 128 + 128 := ofNat_toNat (by omega)
      have hp : pos (UInt8.ofNat (n % 128 + 128) :: viF f (n / 128) ++ r) = pos (viF f (n / 128) ++ r) + 1 := by
        simp only [List.cons_append, pos, hn]; rw [if_pos (by omega)]
      refine ⟨by rw [hp]; simp [h1], by simp only [val, h2, hn]; omega, .inr ?_⟩
      rw [hp]
      simp only [List.cons_append, List.getD_cons_succ]
      rcases h3 with h3 | h3
      · rw [h3]
        have hl : (viF f (n / 128)).length = 1 := by omega
        -- one digit: it is n / 128, not 0
        cases f with
        | zero => simp [viF] at *; omega
        | succ f =>
          simp only [viF] at hl ⊢ h2
          by_cases hd : n / 128 < 128
          · rw [if_pos hd] at h2 ⊢
            have : (UInt8.ofNat (n / 128)).toNat = n / 128 := ofNat_toNat (by omega)
            simp [this]; omega
          · rw [if_neg hd] at hl
            have := viF_length_pos f (n / 128 / 128)
            simp at hl
            rw [hl] at this; simp at this
      · exact h3
theorem dec_vi (n : Nat) (h : n < 9223372036854775808) (r : List UInt8) : dec (vi n ++ r) = some (n, r) := by
  obtain ⟨h1, h2, h3⟩ := viF_pos 8 n r (by simpa using h)
  have hl := viF_length_le 8 n
  unfold dec vi
  have hp := viF_length_pos 8 n
  rw [if_pos ⟨by rw [List.length_append]; omega, by omega, h3⟩, h1]
  simp [h2]
/-- what is decoded encodes to what was read -/
theorem viF_val : ∀ (f : Nat) (l : List UInt8), pos l < l.length → pos l ≤ f → (pos l = 0 ∨ (l.getD (pos l) 0).toNat ≠ 0) → viF f (val (l.take (pos l + 1))) = l.take (pos l + 1) ∧ (l.take (pos l + 1) ≠ [0] → 0 < val (l.take (pos l + 1)))
  | f, [], h, _, _ => by simp [pos] at h
  | f, b :: r, h, hf, h0 => by
    by_cases hb : 128 ≤ b.toNat
    · have hp : pos (b :: r) = pos r + 1 := by simp only [pos]; rw [if_pos hb]
      rw [hp] at h h0 hf ⊢
      simp only [List.length_cons] at h
      have hnz : (r.getD (pos r) 0).toNat ≠ 0 := by
        rcases h0 with h0 | h0
        · omega
        · simpa using h0
      obtain ⟨f, rfl⟩ : ∃ g, f = g + 1 := ⟨f - 1, by omega⟩
      obtain ⟨h1, h2⟩ := viF_val f r (by omega) (by omega) (.inr hnz)
      have hv : 0 < val (r.take (pos r + 1)) := by
        apply h2
        intro he
        have hpr : pos r = 0 := by
          have := congrArg List.length he
          simp [List.length_take] at this; omega
        have h3 := congrArg (fun l => (List.getD l 0 0).toNat) he
        rw [hpr] at hnz
        simp only [hpr] at h3
        rw [List.getD_eq_getElem?_getD, List.getElem?_take] at h3
        simp at h3
        rw [List.getD_eq_getElem?_getD] at hnz
        exact hnz (by simpa using h3)
      have hlt : b.toNat < 256 := by have := b.toNat_lt; omega
      simp only [List.take_succ_cons, val, viF]
      have hn : b.toNat % 128 + 128 * val (r.take (pos r + 1)) ≥ 128 := by omega
      rw [if_neg (by omega)]
      have e1 : (b.toNat % 128 + 128 * val (r.take (pos r + 1))) % 128 + 128 = b.toNat := by omega
      have e2 : (b.toNat % 128 + 128 * val (r.take (pos r + 1))) / 128 = val (r.take (pos r + 1)) := by omega
      rw [e1, e2, h1]
      exact ⟨by simp, fun _ => by omega⟩
    · have hp : pos (b :: r) = 0 := by simp only [pos]; rw [if_neg hb]
      rw [hp]
      simp only [Nat.zero_add, List.take_succ_cons, List.take_zero, val]
      have hm : b.toNat % 128 = b.toNat := Nat.mod_eq_of_lt (by omega)
      refine ⟨?_, fun hne => ?_⟩
      · rw [hm]
        cases f with
        | zero => simp [viF]
        | succ f => simp only [viF]; rw [if_pos (by omega)]; simp
      · rw [hm]
        have : b ≠ 0 := fun e => hne (by rw [e])
        have : b.toNat ≠ 0 := fun e => this (by apply UInt8.toNat_inj.1; simpa using e)
        omega
theorem vi_dec {l r : List UInt8} {n : Nat} (h : dec l = some (n, r)) : vi n ++ r = l ∧ n < 9223372036854775808 := by
  unfold dec at h
  split at h
  · rename_i hc
    injection h with h; injection h with h1 h2
    subst h1; subst h2
    refine ⟨by unfold vi; rw [(viF_val 8 l hc.1 hc.2.1 hc.2.2).1]; exact List.take_append_drop _ _, ?_⟩
    have := val_lt (l.take (pos l + 1))
    have hl : (l.take (pos l + 1)).length ≤ 9 := by simp [List.length_take]; omega
    have hp : (128 : Nat) ^ (l.take (pos l + 1)).length ≤ 128 ^ 9 := Nat.pow_le_pow_right (by decide) hl
    have : (128 : Nat) ^ 9 = 9223372036854775808 := by decide
    omega
  · cases h
theorem dec_length {l r : List UInt8} {n : Nat} (h : dec l = some (n, r)) : r.length < l.length := by
  have h1 := (vi_dec h).1
  have := viF_length_pos 8 n
  have h2 := congrArg List.length h1
  simp [vi] at h2
  omega
theorem dec_nil : dec [] = none := by simp [dec, pos]
end Vi
namespace Vi

abbrev St := List UInt8 × Bool
def rNum (st : St) : Nat × St := match dec st.1 with
  | some (n, r) => (n, (r, st.2))
  | none => (0, ([], true))
def rTake (n : Int) (st : St) : List UInt8 × St :=
  if n < 0 ∨ (st.1.length : Int) < n ∨ st.2 = true then ([], ([], true)) else (st.1.take n.toNat, (st.1.drop n.toNat, st.2))
def rText (st : St) : List UInt8 × St := rTake (rNum st).1 (rNum st).2
def many {α : Type} (f : St → α × St) : Nat → St → List α × St
  | 0, st => ([], st)
  | n + 1, st => if st.2 = true then ([], st) else ((f st).1 :: (many f n (f st).2).1, (many f n (f st).2).2)
def shut {α : Type} (q : List α × St) : List α × St := if q.2.2 = true then ([], ([], true)) else q
def rMany {α : Type} (f : St → α × St) (st : St) : List α × St :=
  if (rNum st).2.1.length < (rNum st).1 then ([], ([], true)) else shut (many f (rNum st).1 (rNum st).2)

/-- once bad, nothing is unread -/
def Fit (st : St) : Prop := st.2 = true → st.1 = []
theorem rNum_fit {st : St} (h : Fit st) : Fit (rNum st).2 := by
  unfold rNum
  split
  · rename_i n r he
    intro hb
    have := dec_length he
    have := h hb
    rw [this] at he
    rw [dec_nil] at he
    cases he
  · exact fun _ => rfl
theorem rNum_bad {st : St} (h : Fit st) (hb : st.2 = true) : rNum st = (0, ([], true)) := by
  unfold rNum
  rw [h hb, dec_nil]
theorem rNum_le (st : St) : (rNum st).2.1.length ≤ st.1.length := by
  unfold rNum
  split
  · rename_i n r he
    have := dec_length he
    simp; omega
  · simp
theorem rNum_lt (st : St) : (rNum st).1 < 9223372036854775808 := by
  unfold rNum
  split
  · rename_i n r he
    exact (vi_dec he).2
  · simp
theorem rTake_fit {n : Int} {st : St} : Fit (rTake n st).2 := by
  unfold rTake
  split
  · exact fun _ => rfl
  · rename_i hc
    intro hb
    exact absurd hb (by simp at hc ⊢; exact hc.2.2)
theorem rTake_le (n : Int) (st : St) : (rTake n st).2.1.length ≤ st.1.length ∧ (rTake n st).1.length ≤ st.1.length := by
  unfold rTake
  split <;> simp; omega
theorem rText_fit {st : St} : Fit (rText st).2 := rTake_fit
theorem rText_le (st : St) : (rText st).2.1.length ≤ st.1.length ∧ (rText st).1.length ≤ st.1.length := by
  have h1 := rTake_le (rNum st).1 (rNum st).2
  have h2 := rNum_le st
  unfold rText
  omega
theorem many_fit {α : Type} {f : St → α × St} (hf : ∀ st, Fit st → Fit (f st).2) : ∀ (n : Nat) (st : St), Fit st → Fit (many f n st).2
  | 0, _, h => h
  | n + 1, st, h => by
    simp only [many]
    split
    · exact h
    · exact many_fit hf n _ (hf st h)
theorem many_len {α : Type} {f : St → α × St} : ∀ (n : Nat) (st : St), (many f n st).1.length ≤ n
  | 0, _ => by simp [many]
  | n + 1, st => by
    simp only [many]
    split
    · simp
    · have := many_len (f := f) n (f st).2
      simp; omega
theorem many_le {α : Type} {f : St → α × St} (hf : ∀ st, (f st).2.1.length ≤ st.1.length) : ∀ (n : Nat) (st : St), (many f n st).2.1.length ≤ st.1.length
  | 0, _ => Nat.le_refl _
  | n + 1, st => by
    simp only [many]
    split
    · exact Nat.le_refl _
    · exact Nat.le_trans (many_le hf n _) (hf st)
theorem many_all {α : Type} {f : St → α × St} {P : α → Prop} (hf : ∀ st, P (f st).1) : ∀ (n : Nat) (st : St), ∀ x ∈ (many f n st).1, P x
  | 0, _ => by simp [many]
  | n + 1, st => by
    simp only [many]
    split
    · simp
    · intro x hx
      rcases List.mem_cons.1 hx with rfl | hx
      · exact hf st
      · exact many_all hf n _ x hx
theorem many_bad {α : Type} {f : St → α × St} (n : Nat) (st : St) (h : st.2 = true) : many f n st = ([], st) := by
  cases n with
  | zero => rfl
  | succ n => simp only [many]; rw [if_pos h]
theorem shut_fit {α : Type} {q : List α × St} : Fit (shut q).2 := by
  unfold shut
  split
  · exact fun _ => rfl
  · rename_i h
    exact fun hb => absurd hb h
theorem rMany_fit {α : Type} {f : St → α × St} (st : St) : Fit (rMany f st).2 := by
  unfold rMany
  split
  · exact fun _ => rfl
  · exact shut_fit
theorem rMany_le {α : Type} {f : St → α × St} (hf : ∀ st, (f st).2.1.length ≤ st.1.length) (st : St) : (rMany f st).2.1.length ≤ st.1.length := by
  unfold rMany shut
  split
  · simp
  · split
    · simp
    · exact Nat.le_trans (many_le hf _ _) (rNum_le st)
theorem rMany_len {α : Type} {f : St → α × St} (st : St) : (rMany f st).1.length ≤ st.1.length := by
  have := rNum_le st
  unfold rMany shut
  split
  · simp
  · split
    · simp
    · have := many_len (f := f) (rNum st).1 (rNum st).2
      omega

/-! the encodings -/
def eNum (n : Int) : List UInt8 := if n < 0 then [] else vi n.toNat
def eText (s : List UInt8) : List UInt8 := vi s.length ++ s
def eMany {α : Type} (g : α → List UInt8) (l : List α) : List UInt8 := vi l.length ++ l.flatMap g
theorem vi_len (n : Nat) : 1 ≤ (vi n).length ∧ (vi n).length ≤ 9 := ⟨viF_length_pos 8 n, viF_length_le 8 n⟩
theorem eNum_le (n : Int) : (eNum n).length ≤ 9 := by
  unfold eNum
  split
  · simp
  · exact (vi_len _).2

/-! decoding what was encoded -/
theorem rNum_vi (n : Nat) (h : n < 9223372036854775808) (r : List UInt8) (b : Bool) : rNum (vi n ++ r, b) = (n, (r, b)) := by
  unfold rNum
  rw [dec_vi n h r]
theorem rNum_eNum (n : Int) (h0 : 0 ≤ n) (h : n < 9223372036854775808) (r : List UInt8) (b : Bool) : rNum (eNum n ++ r, b) = (n.toNat, (r, b)) := by
  unfold eNum
  rw [if_neg (by omega)]
  exact rNum_vi _ (by omega) _ _
theorem rText_eText (s r : List UInt8) (h : s.length < 9223372036854775808) : rText (eText s ++ r, false) = (s, (r, false)) := by
  unfold rText eText
  rw [List.append_assoc, rNum_vi _ h]
  unfold rTake
  rw [if_neg (by simp; omega)]
  simp
theorem many_enc {α : Type} {f : St → α × St} {g : α → List UInt8} (r : List UInt8) : ∀ (l : List α), (∀ x ∈ l, ∀ t, f (g x ++ t, false) = (x, (t, false))) → many f l.length (l.flatMap g ++ r, false) = (l, (r, false))
  | [], _ => rfl
  | x :: l, h => by
    simp only [List.length_cons, many, List.flatMap_cons, List.append_assoc]
    rw [h x (by simp)]
    simp only [many_enc r l (fun y hy => h y (by simp [hy]))]
    simp
theorem flatMap_len {α : Type} {g : α → List UInt8} : ∀ (l : List α), (∀ x ∈ l, 1 ≤ (g x).length) → l.length ≤ (l.flatMap g).length
  | [], _ => Nat.le_refl _
  | x :: l, h => by
    have := h x (by simp)
    have := flatMap_len l (fun y hy => h y (by simp [hy]))
    simp only [List.flatMap_cons, List.length_append, List.length_cons]
    omega
theorem rMany_enc {α : Type} {f : St → α × St} {g : α → List UInt8} (r : List UInt8) (l : List α) (h : ∀ x ∈ l, ∀ t, f (g x ++ t, false) = (x, (t, false))) (h1 : ∀ x ∈ l, 1 ≤ (g x).length) (hl : l.length < 9223372036854775808) :
    rMany f (eMany g l ++ r, false) = (l, (r, false)) := by
  unfold rMany eMany
  rw [List.append_assoc, rNum_vi _ hl]
  have := flatMap_len l h1
  simp only [List.length_append]
  rw [if_neg (by omega), many_enc r l h]
  rfl

/-! encoding what was decoded -/
theorem rNum_back {st : St} (h : (rNum st).2.2 = false) : eNum (rNum st).1 ++ (rNum st).2.1 = st.1 ∧ st.2 = false := by
  unfold rNum at h ⊢
  split
  · rename_i n r he
    rw [he] at h
    have := (vi_dec he).1
    unfold eNum
    rw [if_neg (by omega)]
    exact ⟨by simpa using this, h⟩
  · rename_i he
    rw [he] at h
    cases h
theorem rTake_back {n : Int} {st : St} (h : (rTake n st).2.2 = false) : (rTake n st).1 ++ (rTake n st).2.1 = st.1 ∧ st.2 = false ∧ ((rTake n st).1.length : Int) = n := by
  unfold rTake at h ⊢
  split
  · rename_i hc
    rw [if_pos hc] at h
    cases h
  · rename_i hc
    have h2 : st.2 = false := by simp at hc; exact hc.2.2
    exact ⟨by simp, h2, by simp [List.length_take]; omega⟩
theorem rText_back {st : St} (h : (rText st).2.2 = false) : eText (rText st).1 ++ (rText st).2.1 = st.1 ∧ st.2 = false := by
  unfold rText at h ⊢
  obtain ⟨h1, h2, h3⟩ := rTake_back h
  obtain ⟨h4, h5⟩ := rNum_back h2
  refine ⟨?_, h5⟩
  unfold eText
  rw [List.append_assoc, h1]
  rw [← h4]
  unfold eNum
  rw [if_neg (by omega)]
  congr 1
  congr 1
  simp; omega
theorem many_back {α : Type} {f : St → α × St} {g : α → List UInt8} (hf : ∀ st, (f st).2.2 = false → g (f st).1 ++ (f st).2.1 = st.1 ∧ st.2 = false) :
    ∀ (n : Nat) (st : St), (many f n st).2.2 = false → (many f n st).1.flatMap g ++ (many f n st).2.1 = st.1 ∧ st.2 = false ∧ (many f n st).1.length = n
  | 0, st, h => ⟨by simp [many], h, rfl⟩
  | n + 1, st, h => by
    simp only [many] at h ⊢
    split
    · rename_i hb
      rw [if_pos hb] at h
      rw [hb] at h
      cases h
    · rename_i hb
      rw [if_neg hb] at h
      obtain ⟨h1, h2, h3⟩ := many_back hf n _ h
      obtain ⟨h4, h5⟩ := hf st h2
      refine ⟨?_, h5, by simp [h3]⟩
      simp only [List.flatMap_cons, List.append_assoc]
      rw [h1, h4]
theorem rMany_back {α : Type} {f : St → α × St} {g : α → List UInt8} (hf : ∀ st, (f st).2.2 = false → g (f st).1 ++ (f st).2.1 = st.1 ∧ st.2 = false) {st : St} (h : (rMany f st).2.2 = false) :
    eMany g (rMany f st).1 ++ (rMany f st).2.1 = st.1 ∧ st.2 = false := by
  unfold rMany at h ⊢
  split
  · rename_i hc
    rw [if_pos hc] at h
    cases h
  · rename_i hc
    rw [if_neg hc] at h
    unfold shut at h ⊢
    split
    · rename_i hb
      rw [if_pos hb] at h
      cases h
    · rename_i hb
      rw [if_neg hb] at h
      obtain ⟨h1, h2, h3⟩ := many_back hf _ _ h
      obtain ⟨h4, h5⟩ := rNum_back h2
      refine ⟨?_, h5⟩
      unfold eMany
      rw [List.append_assoc, h1, ← h4, h3]
      unfold eNum
      rw [if_neg (by omega)]
      simp

/-! what is decoded is decoded whatever follows -/
def Ext {α : Type} (f : St → α × St) : Prop := ∀ (l t : List UInt8), (f (l, false)).2.2 = false → f (l ++ t, false) = ((f (l, false)).1, ((f (l, false)).2.1 ++ t, false))
theorem rNum_ext : Ext rNum := by
  intro l t h
  unfold rNum at h ⊢
  simp only at h ⊢
  cases he : dec l with
  | none => rw [he] at h; cases h
  | some p =>
    obtain ⟨n, r⟩ := p
    obtain ⟨h1, h2⟩ := vi_dec he
    rw [← h1, List.append_assoc, dec_vi n h2, ]
theorem rTake_ext (n : Int) : Ext (rTake n) := by
  intro l t h
  unfold rTake at h ⊢
  simp only at h ⊢
  by_cases hc : n < 0 ∨ (l.length : Int) < n ∨ false = true
  · rw [if_pos hc] at h; cases h
  · rw [if_neg hc, if_neg (by simp at hc ⊢; omega)]
    simp at hc
    rw [List.take_append_of_le_length (by omega), List.drop_append_of_le_length (by omega)]
theorem rText_ext : Ext rText := by
  intro l t h
  have h0 := (rText_back h).2
  unfold rText at h ⊢
  obtain ⟨_, h2, _⟩ := rTake_back h
  have e1 := rNum_ext l t h2
  have e2 : (rNum (l, false)).2 = ((rNum (l, false)).2.1, false) := Prod.ext rfl h2
  rw [e1]
  simp only
  rw [e2] at h ⊢
  exact rTake_ext _ _ _ h
theorem many_ext {α : Type} {f : St → α × St} (hf : Ext f) (hb : ∀ st, (f st).2.2 = false → st.2 = false) : ∀ (n : Nat), Ext (many f n)
  | 0 => fun l t _ => rfl
  | n + 1 => by
    intro l t h
    simp only [many] at h ⊢
    rw [if_neg (by simp)] at h ⊢
    rw [if_neg (by simp)]
    have h1 : (f (l, false)).2.2 = false := by
      cases hc : (f (l, false)).2.2 with
      | false => rfl
      | true => rw [many_bad _ _ hc] at h; simp only at h; rw [hc] at h; cases h
    have e1 := hf l t h1
    have e2 : (f (l, false)).2 = ((f (l, false)).2.1, false) := Prod.ext rfl h1
    rw [e1]
    simp only
    rw [e2] at h ⊢
    rw [many_ext hf hb n _ t h]
theorem rMany_ext {α : Type} {f : St → α × St} (hf : Ext f) (hb : ∀ st, (f st).2.2 = false → st.2 = false) : Ext (rMany f) := by
  intro l t h
  unfold rMany at h ⊢
  by_cases hc : (rNum (l, false)).2.1.length < (rNum (l, false)).1
  · rw [if_pos hc] at h; cases h
  · rw [if_neg hc] at h ⊢
    unfold shut at h ⊢
    by_cases hd : (many f (rNum (l, false)).1 (rNum (l, false)).2).2.2 = true
    · rw [if_pos hd] at h; cases h
    · rw [if_neg hd] at h ⊢
      have h1 : (rNum (l, false)).2.2 = false := by
        cases hc : (rNum (l, false)).2.2 with
        | false => rfl
        | true => rw [many_bad _ _ hc] at h; simp only at h; rw [hc] at h; cases h
      have e1 := rNum_ext l t h1
      have e2 : (rNum (l, false)).2 = ((rNum (l, false)).2.1, false) := Prod.ext rfl h1
      rw [e1]
      simp only [List.length_append]
      rw [if_neg (by omega)]
      rw [e2] at h ⊢
      rw [many_ext hf hb _ _ t h]
      simp

/-! order -/
theorem viF_mono : ∀ (f a b : Nat), a ≤ b → (viF f a).length ≤ (viF f b).length
  | 0, a, b, h => by simp [viF]
  | f + 1, a, b, h => by
    simp only [viF]
    by_cases ha : a < 128
    · rw [if_pos ha]
      split <;> simp
    · rw [if_neg ha, if_neg (by omega)]
      have := viF_mono f (a / 128) (b / 128) (Nat.div_le_div_right h)
      simp; exact this
theorem vi_prefix {a b : Nat} (ha : a < 9223372036854775808) (hb : b < 9223372036854775808) (r : List UInt8) (h : vi b = vi a ++ r) : a = b := by
  have h1 := dec_vi b hb []
  have h2 := dec_vi a ha r
  rw [List.append_nil, h, h2] at h1
  injection h1 with h1; injection h1
end Vi
end Go.Proofs.Ytjllmhnicmonbaa
