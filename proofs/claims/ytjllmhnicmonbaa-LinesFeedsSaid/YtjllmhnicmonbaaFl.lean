/- A feed tells what the whole tells: in plain lists. -/
import Derived.Test.YtjllmhnicmonbaaFd
namespace Go.Proofs.Ytjllmhnicmonbaa
open Go Go.RowKit

namespace Ln
/-- the line that is not ended -/
def rem (L : List (List UInt8)) : List UInt8 := L.foldl (fun s l => if ends l then s else l) []
def fin (L : List (List UInt8)) : List (List UInt8) := L.filter ends
theorem rem_from : ∀ (L : List (List UInt8)) (s : List UInt8), (∀ l ∈ L, T l) → L.foldl (fun s l => if ends l then s else l) s = s
  | [], _, _ => rfl
  | l :: r, s, h => by
    rw [List.foldl_cons, ends_T (h l (by simp))]
    exact rem_from r s (fun x hx => h x (by simp [hx]))
theorem rem_cons_T {l : List UInt8} (h : T l) (r : List (List UInt8)) : rem (l :: r) = rem r := by
  unfold rem
  rw [List.foldl_cons, ends_T h]
  rfl
theorem rem_one_U {l : List UInt8} (h : U l) : rem [l] = l := by
  unfold rem
  rw [List.foldl_cons, ends_U h.2]
  rfl
theorem rem_append (F M : List (List UInt8)) (h : ∀ l ∈ F, T l) : rem (F ++ M) = rem M := by
  unfold rem
  rw [List.foldl_append, rem_from F [] h]
theorem fin_T {l : List UInt8} (h : T l) (r : List (List UInt8)) : fin (l :: r) = l :: fin r := by
  unfold fin
  rw [List.filter_cons, ends_T h]
  rfl
theorem fin_U {l : List UInt8} (h : U l) : fin [l] = [] := by
  unfold fin
  rw [List.filter_cons, ends_U h.2]
  rfl
theorem parts : ∀ (L : List (List UInt8)), wf L → (∀ l ∈ fin L, T l) ∧ 10 ∉ rem L ∧ L.flatten = (fin L).flatten ++ rem L
  | [], _ => ⟨by simp [fin], by simp [rem], rfl⟩
  | l :: r, h => by
    rcases h with ⟨ht, hr⟩ | ⟨hu, rfl⟩
    · obtain ⟨h1, h2, h3⟩ := parts r hr
      rw [fin_T ht, rem_cons_T ht]
      refine ⟨fun x hx => ?_, h2, by rw [List.flatten_cons, h3, List.flatten_cons, List.append_assoc]⟩
      rcases List.mem_cons.1 hx with rfl | hx
      · exact ht
      · exact h1 x hx
    · rw [fin_U hu, rem_one_U hu]
      exact ⟨by simp, hu.2, by simp⟩
theorem lns_cat (a c : List UInt8) : lns (a ++ c) = fin (lns a) ++ lns (rem (lns a) ++ c) := by
  obtain ⟨h1, h2, h3⟩ := parts _ (wf_all a)
  have h := wf_lns _ (wf_append _ _ h1 (wf_all (rem (lns a) ++ c)))
  rw [List.flatten_append, flat, ← List.append_assoc, ← h3, flat] at h
  exact h
theorem take_cat (n : Nat) (p l : List UInt8) : p.take n ++ l.take (n - (p.take n).length) = (p ++ l).take n := by
  rw [List.take_append, List.length_take]
  congr 2
  omega
theorem foldl_told (n : Nat) : ∀ (r : List (List UInt8)) (o : List (List UInt8)), wf r → r.foldl (pl n) (o, []) = (o ++ (fin r).map (List.take n), (rem r).take n)
  | [], o, _ => by simp [fin, rem]
  | l :: r, o, h => by
    rcases h with ⟨ht, hr⟩ | ⟨hu, rfl⟩
    · rw [fin_T ht, rem_cons_T ht, List.foldl_cons]
      have e : pl n (o, []) l = (o ++ [l.take n], []) := by
        unfold pl
        rw [if_pos (ends_T ht)]
        simp
      rw [e, foldl_told n r _ hr]
      simp
    · rw [fin_U hu, rem_one_U hu, List.foldl_cons]
      have e : pl n (o, []) l = (o, l.take n) := by
        unfold pl
        rw [if_neg (by rw [ends_U hu.2]; simp)]
        simp
      rw [e]
      simp
theorem T_pre {p l : List UInt8} (hp : 10 ∉ p) (h : T l) : T (p ++ l) := by
  obtain ⟨b, rfl, hb⟩ := h
  refine ⟨p ++ b, by rw [List.append_assoc], fun e => ?_⟩
  rcases List.mem_append.1 e with e | e
  · exact hp e
  · exact hb e
theorem U_pre {p l : List UInt8} (hp : 10 ∉ p) (h : U l) : U (p ++ l) := by
  refine ⟨by simp [h.1], fun e => ?_⟩
  rcases List.mem_append.1 e with e | e
  · exact hp e
  · exact h.2 e
theorem lns_pre {p l : List UInt8} {r : List (List UInt8)} {c : List UInt8} (hp : 10 ∉ p) (h : lns c = l :: r) : lns (p ++ c) = (p ++ l) :: r := by
  have hw := wf_all c
  have hf := flat c
  rw [h] at hw hf
  have hw2 : wf ((p ++ l) :: r) := by
    rcases hw with ⟨ht, hr⟩ | ⟨hu, rfl⟩
    · exact .inl ⟨T_pre hp ht, hr⟩
    · exact .inr ⟨U_pre hp hu, rfl⟩
  have h2 := wf_lns _ hw2
  rw [List.flatten_cons] at h2 hf
  rw [List.append_assoc, hf] at h2
  exact h2
theorem push_told (n : Nat) (p c : List UInt8) (hp : 10 ∉ p) : pushF n (p.take n) (lns c) = ((fin (lns (p ++ c))).map (List.take n), (rem (lns (p ++ c))).take n) := by
  cases hc : lns c with
  | nil =>
    have hf := flat c
    rw [hc] at hf
    obtain rfl : c = [] := hf.symm
    rw [List.append_nil]
    by_cases h0 : p = []
    · subst h0
      simp [pushF, lns, fin, rem]
    · rw [lns_last p ⟨h0, hp⟩, fin_U ⟨h0, hp⟩, rem_one_U ⟨h0, hp⟩]
      rfl
  | cons l r =>
    have hw := wf_all c
    rw [hc] at hw
    rw [lns_pre hp hc]
    unfold pushF
    rw [List.foldl_cons]
    rcases hw with ⟨ht, hr⟩ | ⟨hu, rfl⟩
    · have e : pl n ([], p.take n) l = ([(p ++ l).take n], []) := by
        unfold pl
        rw [if_pos (ends_T ht), take_cat]
        rfl
      rw [e, foldl_told n r _ hr, fin_T (T_pre hp ht), rem_cons_T (T_pre hp ht)]
      simp
    · have e : pl n ([], p.take n) l = ([], (p ++ l).take n) := by
        unfold pl
        rw [if_neg (by rw [ends_U hu.2]; simp), take_cat]
      rw [e, fin_U (U_pre hp hu), rem_one_U (U_pre hp hu)]
      rfl
/-- what a feed of limit n has told, and holds, behind the bytes s -/
def tells (n : Nat) (s : List UInt8) : List (List UInt8) × List UInt8 := ((fin (lns s)).map (List.take n), (rem (lns s)).take n)
theorem tells_nil (n : Nat) : tells n [] = ([], []) := by simp [tells, lns, fin, rem]
theorem rem_no (s : List UInt8) : 10 ∉ rem (lns s) := (parts _ (wf_all s)).2.1
theorem tells_push (n : Nat) (s c : List UInt8) : ((tells n s).1 ++ (pushF n (tells n s).2 (lns c)).1, (pushF n (tells n s).2 (lns c)).2) = tells n (s ++ c) := by
  have h := push_told n (rem (lns s)) c (rem_no s)
  show ((fin (lns s)).map (List.take n) ++ (pushF n ((rem (lns s)).take n) (lns c)).1, (pushF n ((rem (lns s)).take n) (lns c)).2) = tells n (s ++ c)
  rw [h]
  unfold tells
  rw [lns_cat s c, rem_append _ _ (parts _ (wf_all s)).1]
  unfold fin
  rw [List.filter_append, List.filter_filter]
  simp
theorem tells_once (n : Nat) (s : List UInt8) : pushF n [] (lns s) = tells n s := by
  have h := push_told n [] s (by simp)
  rw [List.take_nil, List.nil_append] at h
  exact h
theorem tells_all (n : Nat) (s : List UInt8) (h : ∀ l ∈ lns s, l.length ≤ n) : (tells n s).1.flatten ++ (tells n s).2 = s := by
  have h1 : (fin (lns s)).map (List.take n) = fin (lns s) := by
    have h2 : ∀ l ∈ fin (lns s), l.take n = id l := fun l hl => List.take_of_length_le (h l (List.mem_filter.1 hl).1)
    rw [List.map_congr_left h2, List.map_id]
  have h3 : ∀ (L : List (List UInt8)), (∀ l ∈ L, l.length ≤ n) → wf L → (rem L).length ≤ n := fun L hL hw => by
    induction L with
    | nil => simp [rem]
    | cons l r ih =>
      rcases hw with ⟨ht, hr⟩ | ⟨hu, rfl⟩
      · rw [rem_cons_T ht]
        exact ih (fun x hx => hL x (by simp [hx])) hr
      · rw [rem_one_U hu]
        exact hL l (by simp)
  unfold tells
  rw [h1, List.take_of_length_le (h3 _ h (wf_all s)), ← (parts _ (wf_all s)).2.2, flat]
theorem tells_len (n : Nat) (s : List UInt8) : (tells n s).1.length ≤ s.length ∧ (tells n s).2.length ≤ n := by
  have h1 := lns_len s
  have h2 : (fin (lns s)).length ≤ (lns s).length := List.length_filter_le _ _
  unfold tells
  simp only [List.length_map, List.length_take]
  omega
theorem tells_size (n : Nat) (s : List UInt8) : (tells n s).1.flatten.length + (tells n s).2.length ≤ s.length := by
  obtain ⟨_, _, h3⟩ := parts _ (wf_all s)
  rw [flat] at h3
  have h4 := congrArg List.length h3
  rw [List.length_append] at h4
  have h5 : ∀ L : List (List UInt8), (L.map (List.take n)).flatten.length ≤ L.flatten.length := fun L => by
    induction L with
    | nil => simp
    | cons l r ih =>
      simp only [List.map_cons, List.flatten_cons, List.length_append, List.length_take]
      omega
  have h6 := h5 (fin (lns s))
  unfold tells
  simp only [List.length_take]
  omega
end Ln
end Go.Proofs.Ytjllmhnicmonbaa
