/- Walks: what is done to one line. -/
import Derived.Test.YtjllmhnicmonbaaCut
namespace Go.Proofs.Ytjllmhnicmonbaa
open Go.RowKit

namespace Ln
theorem suffix_one (l : List UInt8) (c : UInt8) : Lib.hasSuffix l [c] = (l.getLast? == some c) := by
  unfold Lib.hasSuffix
  rw [Bool.eq_iff_iff, List.isSuffixOf_iff_suffix, beq_iff_eq]
  constructor
  · rintro ⟨b, rfl⟩
    simp
  · intro h
    obtain ⟨b, rfl⟩ := List.getLast?_eq_some_iff.1 h
    exact ⟨b, rfl⟩
theorem trim_one (l : List UInt8) (c : UInt8) : Lib.trimSuffix l [c] = if l.getLast? = some c then l.dropLast else l := by
  unfold Lib.trimSuffix
  rw [suffix_one, List.dropLast_eq_take]
  by_cases h : l.getLast? = some c
  · rw [if_pos h, h, if_pos (by simp)]
    rfl
  · rw [if_neg h, if_neg (by simpa using h)]
theorem trim_pre (l : List UInt8) : Lib.trimPrefix l [46] = unst1 l := by
  unfold Lib.trimPrefix Lib.hasPrefix unst1
  cases l with
  | nil => rfl
  | cons c t =>
    by_cases h : c = 46
    · subst h
      simp
    · have h2 : ¬ (46 : UInt8) = c := fun e => h e.symm
      simp [h, h2]
end Ln
theorem bs_self (s : ByteArray) : bs s.data.toList = s := (bs_of rfl).symm
theorem extract_last (s : ByteArray) : s.extract 0 (s.size - 1) = bs s.data.toList.dropLast := by
  refine bs_of ?_
  rw [Lib.extract_data, List.dropLast_eq_take]
  simp
set_option maxHeartbeats 1000000 in
theorem Bare_c (s : ByteArray) (w : World) (hs : s.size ≤ 9223372036854775807) :
    Calls Try.prog 13 #[.string s] w fun e w' => e = .returned (.string (bs (Ln.bare s.data.toList))) ∧ w' = w := by
  have h1 := Try.strings_HasSuffix s (bs [10]) w hs
  rw [bs_data, Ln.suffix_one] at h1
  change Calls _ _ _ _ (fun e w' => e = .returned (.bool (Ln.ends s.data.toList)) ∧ w' = w) at h1
  cases he : Ln.ends s.data.toList with
  | false =>
    rw [he] at h1
    have hb : bs (Ln.bare s.data.toList) = s := by unfold Ln.bare; rw [he]; exact bs_self s
    rw [hb]
    have H1 := Lib.hid h1
    clear h1 he hb
    go_enter Try.func13, Try.ntmps13
    go_wp2_with (go_at_call 28; refine H1.out.mono ?_; rintro e w1 ⟨rfl, rfl⟩)
    go_ret
    exact ⟨rfl, rfl⟩
  | true =>
    rw [he] at h1
    have hb : Ln.bare s.data.toList = if s.data.toList.dropLast.getLast? = some 13 then s.data.toList.dropLast.dropLast else s.data.toList.dropLast := by unfold Ln.bare; rw [he]; rfl
    have hz : 0 < s.size := by
      have h2 : s.data.toList.length = s.size := rfl
      rcases Nat.eq_zero_or_pos s.size with h | h
      · rw [h] at h2
        rw [List.eq_nil_of_length_eq_zero h2] at he
        cases he
      · exact h
    have h2 := Try.strings_TrimSuffix (bs s.data.toList.dropLast) (bs [13]) w (by
      rw [bs_size, List.length_dropLast]
      show s.size - 1 ≤ _
      omega)
    rw [bs_data, bs_data, Ln.trim_one, ← hb, ← extract_last] at h2
    change Calls _ _ _ _ (fun e w' => e = .returned (.string (bs (Ln.bare s.data.toList))) ∧ w' = w) at h2
    have H1 := Lib.hid h1
    have H2 := Lib.hid h2
    have i1 : (0 : Int) ≤ (s.size : Int) - 1 := by omega
    have i2 : ((s.size : Int) - 1).toNat = s.size - 1 := by omega
    have i3 : (s.size : Int) - 1 ≤ (s.size : Int) := by omega
    clear h1 h2 he hb
    go_enter Try.func13, Try.ntmps13
    go_wp2_with (first
      | (go_at_call 28; refine H1.out.mono ?_; rintro e w1 ⟨rfl, rfl⟩)
      | (go_at_call 29; refine H2.out.mono ?_; rintro e w1 ⟨rfl, rfl⟩))
    go_ret
    exact ⟨rfl, rfl⟩
set_option maxHeartbeats 1000000 in
theorem Crlf1_c (s : ByteArray) (w : World) (hs : s.size ≤ 1000000) :
    Calls Try.prog 31 #[.string s] w fun e w' => e = .returned (.string (bs (Ln.crlf1 s.data.toList))) ∧ w' = w := by
  have h1 := Try.strings_HasSuffix s (bs [10]) w (by omega)
  rw [bs_data, Ln.suffix_one] at h1
  change Calls _ _ _ _ (fun e w' => e = .returned (.bool (Ln.ends s.data.toList)) ∧ w' = w) at h1
  have h2 := Bare_c s w (by omega)
  have hbl : (bs (Ln.bare s.data.toList)).size ≤ s.size := by
    rw [bs_size]
    show (Ln.bare s.data.toList).length ≤ s.data.toList.length
    unfold Ln.bare
    split
    · split
      · rw [List.length_dropLast, List.length_dropLast]; omega
      · rw [List.length_dropLast]; omega
    · exact Nat.le_refl _
  cases he : Ln.ends s.data.toList with
  | false =>
    rw [he] at h1
    have hb : bs (Ln.crlf1 s.data.toList) = s := by unfold Ln.crlf1; rw [he]; exact bs_self s
    rw [hb]
    have H1 := Lib.hid h1
    clear h1 he hb h2
    go_enter Try.func31, Try.ntmps31
    go_wp2_with (go_at_call 28; refine H1.out.mono ?_; rintro e w1 ⟨rfl, rfl⟩)
    go_ret
    exact ⟨rfl, rfl⟩
  | true =>
    rw [he] at h1
    have hb : bs (Ln.crlf1 s.data.toList) = bs (Ln.bare s.data.toList) ++ bs [13, 10] := by
      unfold Ln.crlf1
      rw [he]
      exact (bs_of (by simp [bs])).symm
    have HB := Lib.hid hb
    have H1 := Lib.hid h1
    have H2 := Lib.hid h2
    clear h1 he hb h2
    generalize bs (Ln.bare s.data.toList) = B at HB H2 hbl
    have hsz : ¬ 9223372036854775807 < B.size + 2 := by omega
    go_enter Try.func31, Try.ntmps31
    go_wp2_with (first
      | (go_at_call 28; refine H1.out.mono ?_; rintro e w1 ⟨rfl, rfl⟩)
      | (go_at_call 13; refine H2.out.mono ?_; rintro e w1 ⟨rfl, rfl⟩))
    go_ret
    rw [HB.out]
    exact ⟨rfl, rfl⟩
theorem first_byte {s : ByteArray} {c : UInt8} {t : List UInt8} (h : s.data.toList = c :: t) : ∃ h0 : 0 < s.size, s[0] = c := by
  obtain ⟨⟨x⟩⟩ := s
  subst h
  exact ⟨by simp [ByteArray.size], rfl⟩
set_option maxHeartbeats 1000000 in
theorem Stuff1_c (s : ByteArray) (w : World) (hs : s.size ≤ 1000000) (h0 : s.data.toList ≠ []) :
    Calls Try.prog 32 #[.string s] w fun e w' => e = .returned (.string (bs (Ln.stuff1 s.data.toList))) ∧ w' = w := by
  obtain ⟨c, t, hct⟩ := List.exists_cons_of_ne_nil h0
  obtain ⟨hz, hc⟩ := first_byte hct
  by_cases h46 : c = 46
  · have hb : bs (Ln.stuff1 s.data.toList) = bs [46] ++ s := by
      unfold Ln.stuff1
      rw [hct, if_pos (by simp [h46]), ← hct]
      exact (bs_of (by simp [bs])).symm
    have HB := Lib.hid hb
    have hq : (s[0].toNat : Int) = 46 := by rw [hc, h46]; rfl
    have hsz : ¬ 9223372036854775807 < 1 + s.size := by omega
    clear hb hct h0 hc h46
    go_enter Try.func32, Try.ntmps32
    go_wp2_with fail
    go_ret
    rw [HB.out]
    exact ⟨rfl, rfl⟩
  · have hb : bs (Ln.stuff1 s.data.toList) = s := by
      unfold Ln.stuff1
      rw [hct, if_neg (by simpa using h46), ← hct]
      exact bs_self s
    have HB := Lib.hid hb
    have hq : ((s[0].toNat : Int) == 46) = false := by
      rw [beq_eq_false_iff_ne, hc]
      intro e
      exact h46 (UInt8.toNat.inj (by show c.toNat = 46; omega))
    clear hb hct h0 hc h46
    go_enter Try.func32, Try.ntmps32
    go_wp2_with fail
    go_ret
    rw [HB.out]
    exact ⟨rfl, rfl⟩
set_option maxHeartbeats 1000000 in
theorem Unst1_c (s : ByteArray) (w : World) :
    Calls Try.prog 33 #[.string s] w fun e w' => e = .returned (.string (bs (Ln.unst1 s.data.toList))) ∧ w' = w := by
  have h1 := Try.strings_TrimPrefix s (bs [46]) w
  rw [bs_data, Ln.trim_pre] at h1
  change Calls _ _ _ _ (fun e w' => e = .returned (.string (bs (Ln.unst1 s.data.toList))) ∧ w' = w) at h1
  have H1 := Lib.hid h1
  clear h1
  go_enter Try.func33, Try.ntmps33
  go_wp2_with (go_at_call 34; refine H1.out.mono ?_; rintro e w1 ⟨rfl, rfl⟩)
  go_ret
  exact ⟨rfl, rfl⟩
end Go.Proofs.Ytjllmhnicmonbaa
