/- Decoding inverts encoding: the plain law of PostBack. -/
import Derived.Test.YtijbkflbklbemaaDec
namespace Go.Proofs.Ytijbkflbklbemaa
open Go.RowKit

theorem eNum_ne {n : Int} (h : 0 ≤ n) : Vi.eNum n ≠ [] := by
  unfold Vi.eNum
  rw [if_neg (by omega)]
  intro e
  have := (Vi.vi_len n.toNat).1
  rw [e] at this
  simp at this
theorem stp_back {a n : Int} (h0 : 0 ≤ a) (h1 : a ≤ n) (h2 : n ≤ Po.most) : stp a (((n - a).toNat : Nat) : Int) = n := by
  unfold Po.most at h2
  unfold stp
  rw [if_neg (by omega)]
  omega
theorem decI_enc : ∀ (l : List Int) (a : Int) (r : List UInt8), 0 ≤ a → Po.Srt id l → (∀ n ∈ l, a ≤ n ∧ n ≤ Po.most) → decI l.length a (encI a l ++ r, false) = (l, (r, false))
  | [], a, r, _, _, _ => rfl
  | n :: l, a, r, ha, hs, hr => by
    obtain ⟨h1, h2⟩ := List.pairwise_cons.1 hs
    obtain ⟨n0, n1⟩ := hr n (by simp)
    have hne : ((encI a (n :: l) ++ r, false) : Vi.St).1 ≠ [] := by
      simp only [encI]
      intro e
      have := List.append_eq_nil_iff.1 (List.append_eq_nil_iff.1 e).1
      exact eNum_ne (by omega) this.1
    have hn : Vi.rNum (encI a (n :: l) ++ r, false) = ((n - a).toNat, (encI n l ++ r, false)) := by
      simp only [encI, List.append_assoc]
      exact Vi.rNum_eNum (n - a) (by omega) (by unfold Po.most at n1; omega) _ _
    rw [List.length_cons, decI, if_neg hne, hn]
    simp only
    rw [stp_back ha n0 n1, decI_enc l n r (by omega) h2 (fun z hz => ⟨by have := h1 z hz; simp only [id] at this; omega, (hr z (by simp [hz])).2⟩)]
theorem decB_enc : ∀ (l : List Po.P) (d : Int) (r : List UInt8), 0 ≤ d → Po.Srt Po.P.doc l → (∀ p ∈ l, d ≤ p.doc ∧ p.doc ≤ Po.most) → (∀ p ∈ l, Po.OkPl p.places) → decB l.length d (encB d l ++ r, false) = (l, (r, false))
  | [], d, r, _, _, _, _ => rfl
  | p :: l, d, r, hd, hs, hr, hp => by
    obtain ⟨h1, h2⟩ := List.pairwise_cons.1 hs
    obtain ⟨n0, n1⟩ := hr p (by simp)
    have hpl := hp p (by simp)
    have hlen := plen hpl
    have hne : ((encB d (p :: l) ++ r, false) : Vi.St).1 ≠ [] := by
      simp only [encB]
      intro e
      have h := (List.append_eq_nil_iff.1 e).1
      simp only [List.append_assoc] at h
      exact eNum_ne (by omega) (List.append_eq_nil_iff.1 h).1
    have e1 : Vi.rNum (encB d (p :: l) ++ r, false) = ((p.doc - d).toNat, (Vi.vi p.places.length ++ (encI 0 p.places ++ (encB p.doc l ++ r)), false)) := by
      simp only [encB, List.append_assoc]
      exact Vi.rNum_eNum (p.doc - d) (by omega) (by unfold Po.most at n1; omega) _ _
    have e2 : Vi.rNum (Vi.vi p.places.length ++ (encI 0 p.places ++ (encB p.doc l ++ r)), false) = (p.places.length, (encI 0 p.places ++ (encB p.doc l ++ r), false)) := Vi.rNum_vi _ (by omega) _ _
    have e3 := decI_enc p.places 0 (encB p.doc l ++ r) (by omega) hpl.srt hpl.rng
    rw [List.length_cons, decB, if_neg hne]
    simp only [e1, e2, e3]
    rw [stp_back hd n0 n1, decB_enc l p.doc r (by omega) h2 (fun z hz => ⟨by have := h1 z hz; omega, (hr z (by simp [hz])).2⟩) (fun z hz => hp z (by simp [hz]))]
theorem decP_enc {l : List Po.P} (h : Po.Ok l) (hl : l.length < 9223372036854775808) : decP (encL l) = (l, ([], false)) := by
  have hr := (Po.right_iff l).2 h
  have he : encL l = Vi.vi l.length ++ encB 0 l := by unfold encL; rw [if_pos hr]
  have e1 : Vi.rNum (encL l, false) = (l.length, (encB 0 l, false)) := by rw [he]; exact Vi.rNum_vi _ hl _ _
  have e2 := decB_enc l 0 [] (by omega) h.srt (fun p hp => ⟨by have := h.rng p hp; omega, (h.rng p hp).2⟩) h.pl
  unfold decP
  rw [e1]
  simpa using e2
theorem dec_enc {l : List Po.P} (h : Po.Ok l) (hl : l.length < 9223372036854775808) : decOk (encL l) = true ∧ decL (encL l) = l := by
  have hd := decP_enc h hl
  have h1 : decOk (encL l) = true := by unfold decOk; rw [hd]; simp [isDone]
  refine ⟨h1, ?_⟩
  unfold decL
  rw [if_pos h1, hd]
theorem dec_right {s : List UInt8} (h : decOk s = true) : Po.rightB (decL s) = true ∧ encL (decL s) = s := by
  have hl : decL s = (decP s).1 := by unfold decL; rw [if_pos h]
  rw [hl]
  unfold decOk at h
  rw [Bool.and_eq_true, decide_eq_true_eq] at h
  refine ⟨?_, h.2⟩
  cases hr : Po.rightB (decP s).1 with
  | true => rfl
  | false =>
    exfalso
    have he : encL (decP s).1 = [] := by unfold encL; rw [hr]; rfl
    have hs : s = [] := h.2.symm.trans he
    rw [hs] at h
    have : isDone (decP []).2 = false := by decide +kernel
    rw [this] at h
    cases h.1
theorem dec_none {s : List UInt8} (h : decOk s = false) : decL s = [] := by unfold decL; rw [h]; rfl
theorem enc_none {l : List Po.P} (h : Po.rightB l = false) : encL l = [] := by unfold encL; rw [h]; rfl
end Go.Proofs.Ytijbkflbklbemaa
