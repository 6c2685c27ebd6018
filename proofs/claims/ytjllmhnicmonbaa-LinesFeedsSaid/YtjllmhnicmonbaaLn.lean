/- Lines, in plain lists of bytes. -/
import Derived.Test.YtjllmhnicmonbaaVi
namespace Go.Proofs.Ytjllmhnicmonbaa

namespace Ln
def lns : List UInt8 → List (List UInt8)
  | [] => []
  | c :: t => if c = 10 then [c] :: lns t else match lns t with
    | [] => [[c]]
    | x :: r => (c :: x) :: r
/-- a line that is ended; a line that is not -/
def T (l : List UInt8) : Prop := ∃ b, l = b ++ [10] ∧ 10 ∉ b
def U (l : List UInt8) : Prop := l ≠ [] ∧ 10 ∉ l
def wf : List (List UInt8) → Prop
  | [] => True
  | l :: r => (T l ∧ wf r) ∨ (U l ∧ r = [])
def ends (l : List UInt8) : Bool := l.getLast? == some 10

theorem ends_snoc (b : List UInt8) (c : UInt8) : ends (b ++ [c]) = (c == 10) := by
  unfold ends
  rw [List.getLast?_append]
  simp
theorem ends_T {l : List UInt8} (h : T l) : ends l = true := by
  obtain ⟨b, rfl, _⟩ := h
  rw [ends_snoc]
  rfl
theorem ends_U {l : List UInt8} (h : 10 ∉ l) : ends l = false := by
  unfold ends
  rw [beq_eq_false_iff_ne]
  intro e
  exact h (List.mem_of_getLast? e)
theorem lns_found : ∀ (b a : List UInt8), 10 ∉ b → lns (b ++ 10 :: a) = (b ++ [10]) :: lns a
  | [], a, _ => by simp [lns]
  | c :: b, a, h => by
    have hc : c ≠ 10 := fun e => h (by simp [e])
    have hb : 10 ∉ b := fun e => h (List.mem_cons_of_mem _ e)
    rw [List.cons_append, lns, if_neg hc, lns_found b a hb]
    rfl
theorem lns_last : ∀ (s : List UInt8), U s → lns s = [s]
  | [], h => absurd rfl h.1
  | [c], h => by
    have hc : c ≠ 10 := fun e => h.2 (by simp [e])
    rw [lns, if_neg hc]
    rfl
  | c :: d :: t, h => by
    have hc : c ≠ 10 := fun e => h.2 (by simp [e])
    have ih := lns_last (d :: t) ⟨by simp, fun e => h.2 (List.mem_cons_of_mem _ e)⟩
    rw [lns, if_neg hc, ih]
/-- a string is empty, or its first line is ended, or it has one line only -/
theorem cases3 (s : List UInt8) : s = [] ∨ (∃ b a, s = b ++ 10 :: a ∧ 10 ∉ b) ∨ U s := by
  by_cases h : 10 ∈ s
  · right; left
    obtain ⟨b, a, h1, h2⟩ := List.append_of_mem h |> fun ⟨b, a, e⟩ => List.eq_append_cons_of_mem h
    exact ⟨b, a, h1, h2⟩
  · by_cases e : s = []
    · exact .inl e
    · exact .inr (.inr ⟨e, h⟩)
theorem lns_wf : ∀ (n : Nat) (s : List UInt8), s.length ≤ n → wf (lns s)
  | 0, s, h => by
    obtain rfl := List.eq_nil_of_length_eq_zero (Nat.le_zero.1 h)
    trivial
  | n + 1, s, h => by
    rcases cases3 s with rfl | ⟨b, a, rfl, hb⟩ | hu
    · trivial
    · rw [lns_found b a hb]
      exact .inl ⟨⟨b, rfl, hb⟩, lns_wf n a (by simp at h; omega)⟩
    · rw [lns_last s hu]
      exact .inr ⟨hu, rfl⟩
theorem wf_all (s : List UInt8) : wf (lns s) := lns_wf _ s (Nat.le_refl _)
theorem wf_lns : ∀ (L : List (List UInt8)), wf L → lns L.flatten = L
  | [], _ => rfl
  | l :: r, h => by
    rcases h with ⟨⟨b, rfl, hb⟩, hr⟩ | ⟨hu, rfl⟩
    · have e : ((b ++ [10]) :: r).flatten = b ++ 10 :: r.flatten := by simp
      rw [e, lns_found _ _ hb, wf_lns r hr]
    · have e : [l].flatten = l := by simp
      rw [e, lns_last l hu]
theorem lns_flat : ∀ (n : Nat) (s : List UInt8), s.length ≤ n → (lns s).flatten = s
  | 0, s, h => by
    obtain rfl := List.eq_nil_of_length_eq_zero (Nat.le_zero.1 h)
    rfl
  | n + 1, s, h => by
    rcases cases3 s with rfl | ⟨b, a, rfl, hb⟩ | hu
    · rfl
    · rw [lns_found b a hb, List.flatten_cons, lns_flat n a (by simp at h; omega)]
      simp
    · rw [lns_last s hu]
      simp
theorem flat (s : List UInt8) : (lns s).flatten = s := lns_flat _ s (Nat.le_refl _)
theorem wf_map {f : List UInt8 → List UInt8} (hT : ∀ l, T l → T (f l)) (hU : ∀ l, U l → U (f l)) : ∀ (L : List (List UInt8)), wf L → wf (L.map f)
  | [], _ => trivial
  | l :: r, h => by
    rcases h with ⟨ht, hr⟩ | ⟨hu, rfl⟩
    · exact .inl ⟨hT l ht, wf_map hT hU r hr⟩
    · exact .inr ⟨hU l hu, rfl⟩
theorem wf_mem : ∀ (L : List (List UInt8)), wf L → ∀ l ∈ L, T l ∨ U l
  | [], _, l, hl => by cases hl
  | x :: r, h, l, hl => by
    rcases h with ⟨ht, hr⟩ | ⟨hu, rfl⟩
    · rcases List.mem_cons.1 hl with rfl | hl
      · exact .inl ht
      · exact wf_mem r hr l hl
    · obtain rfl := List.mem_singleton.1 hl
      exact .inr hu
theorem lns_mem {s l : List UInt8} (h : l ∈ lns s) : T l ∨ U l := wf_mem _ (wf_all s) l h
theorem ne_nil {l : List UInt8} (h : T l ∨ U l) : l ≠ [] := by
  rcases h with ⟨b, rfl, _⟩ | h
  · simp
  · exact h.1
theorem wf_append : ∀ (L M : List (List UInt8)), (∀ l ∈ L, T l) → wf M → wf (L ++ M)
  | [], _, _, h => h
  | l :: r, M, hL, h => .inl ⟨hL l (by simp), wf_append r M (fun x hx => hL x (by simp [hx])) h⟩
theorem wf_ended : ∀ (L : List (List UInt8)), wf L → (L.flatten = [] ∨ L.flatten.getLast? = some 10) → ∀ l ∈ L, T l
  | [], _, _, l, hl => by cases hl
  | x :: r, h, he, l, hl => by
    rcases h with ⟨ht, hr⟩ | ⟨hu, rfl⟩
    · rcases List.mem_cons.1 hl with rfl | hl
      · exact ht
      · refine wf_ended r hr ?_ l hl
        by_cases e : r.flatten = []
        · exact .inl e
        · right
          rcases he with he | he
          · rw [List.flatten_cons, List.append_eq_nil_iff] at he
            exact absurd he.2 e
          · have h2 : r.flatten.getLast? = some (r.flatten.getLast e) := List.getLast?_eq_some_getLast e
            rw [List.flatten_cons, List.getLast?_append, h2] at he
            rw [h2]
            simpa using he
    · have e : [x].flatten = x := by simp
      rw [e] at he
      rcases he with he | he
      · exact absurd he hu.1
      · exact absurd (List.mem_of_getLast? he) hu.2
/-- what is behind a line's end begins a line -/
theorem lns_append (a b : List UInt8) (h : a = [] ∨ a.getLast? = some 10) : lns (a ++ b) = lns a ++ lns b := by
  have h1 := wf_ended (lns a) (wf_all a) (by rw [flat]; exact h)
  have h2 := wf_lns _ (wf_append _ _ h1 (wf_all b))
  rw [List.flatten_append, flat, flat] at h2
  exact h2

/-- a line's end taken off -/
def bare (l : List UInt8) : List UInt8 := if ends l then (if l.dropLast.getLast? = some 13 then l.dropLast.dropLast else l.dropLast) else l
theorem bare_snoc (b : List UInt8) : bare (b ++ [10]) = if b.getLast? = some 13 then b.dropLast else b := by
  unfold bare
  rw [ends_snoc, List.dropLast_concat]
  rfl
theorem bare_U {l : List UInt8} (h : 10 ∉ l) : bare l = l := by
  unfold bare
  rw [ends_U h]
  rfl
theorem bare_lt {b : List UInt8} : (bare (b ++ [10])).length < (b ++ [10]).length := by
  rw [bare_snoc, List.length_append]
  split
  · rw [List.length_dropLast]; simp; omega
  · simp
theorem bare_no {b : List UInt8} (h : 10 ∉ b) : 10 ∉ bare (b ++ [10]) := by
  rw [bare_snoc]
  split
  · exact fun e => h ((List.dropLast_sublist b).subset e)
  · exact h
def crlf1 (l : List UInt8) : List UInt8 := if ends l then bare l ++ [13, 10] else l
def stuff1 (l : List UInt8) : List UInt8 := if l.head? = some 46 then 46 :: l else l
def unst1 (l : List UInt8) : List UInt8 := if l.head? = some 46 then l.tail else l
def crlf (s : List UInt8) : List UInt8 := (lns s).flatMap crlf1
def stuff (s : List UInt8) : List UInt8 := (lns s).flatMap stuff1
def unst (s : List UInt8) : List UInt8 := (lns s).flatMap unst1
theorem crlf1_T {l : List UInt8} (h : T l) : T (crlf1 l) := by
  obtain ⟨b, rfl, hb⟩ := h
  unfold crlf1
  rw [ends_T ⟨b, rfl, hb⟩, if_pos rfl]
  refine ⟨bare (b ++ [10]) ++ [13], by simp, ?_⟩
  intro e
  rcases List.mem_append.1 e with e | e
  · exact bare_no hb e
  · exact absurd (List.mem_singleton.1 e) (by decide)
theorem crlf1_U {l : List UInt8} (h : U l) : crlf1 l = l := by
  unfold crlf1
  rw [ends_U h.2]
  rfl
theorem stuff1_T {l : List UInt8} (h : T l) : T (stuff1 l) := by
  obtain ⟨b, rfl, hb⟩ := h
  unfold stuff1
  split
  · refine ⟨46 :: b, rfl, ?_⟩
    intro e
    rcases List.mem_cons.1 e with e | e
    · exact absurd e (by decide)
    · exact hb e
  · exact ⟨b, rfl, hb⟩
theorem stuff1_U {l : List UInt8} (h : U l) : U (stuff1 l) := by
  unfold stuff1
  split
  · refine ⟨by simp, ?_⟩
    intro e
    rcases List.mem_cons.1 e with e | e
    · exact absurd e (by decide)
    · exact h.2 e
  · exact h
theorem lns_crlf (s : List UInt8) : lns (crlf s) = (lns s).map crlf1 := by
  have := wf_lns _ (wf_map (f := crlf1) (fun l h => crlf1_T h) (fun l h => by rw [crlf1_U h]; exact h) _ (wf_all s))
  rwa [← List.flatMap_def] at this
theorem lns_stuff (s : List UInt8) : lns (stuff s) = (lns s).map stuff1 := by
  have := wf_lns _ (wf_map (f := stuff1) (fun l h => stuff1_T h) (fun l h => stuff1_U h) _ (wf_all s))
  rwa [← List.flatMap_def] at this
theorem flat_id {L : List (List UInt8)} {f : List UInt8 → List UInt8} (h : ∀ l ∈ L, f l = l) : L.flatMap f = L.flatten := by
  rw [List.flatMap_def]
  congr 1
  exact (List.map_congr_left h).trans (List.map_id _)
theorem unst1_stuff1 (l : List UInt8) : unst1 (stuff1 l) = l := by
  unfold stuff1
  split
  · rfl
  · rename_i h
    unfold unst1
    rw [if_neg h]
theorem unst_stuff (s : List UInt8) : unst (stuff s) = s := by
  unfold unst
  rw [lns_stuff, List.flatMap_map, flat_id (fun l _ => unst1_stuff1 l), flat]
theorem bare_crlf1 {l : List UInt8} (h : T l ∨ U l) : bare (crlf1 l) = bare l := by
  rcases h with ⟨b, rfl, hb⟩ | h
  · unfold crlf1
    rw [ends_T ⟨b, rfl, hb⟩, if_pos rfl, show bare (b ++ [10]) ++ [13, 10] = (bare (b ++ [10]) ++ [13]) ++ [10] from by simp, bare_snoc (bare (b ++ [10]) ++ [13]), List.getLast?_append]
    simp
  · rw [crlf1_U h]
theorem crlf1_crlf1 {l : List UInt8} (h : T l ∨ U l) : crlf1 (crlf1 l) = crlf1 l := by
  have hb := bare_crlf1 h
  rcases h with h | h
  · rw [crlf1, ends_T (crlf1_T h), if_pos rfl, hb]
    unfold crlf1
    rw [ends_T h, if_pos rfl]
  · rw [crlf1_U h, crlf1_U h]
theorem crlf_crlf (s : List UInt8) : crlf (crlf s) = crlf s := by
  show (lns (crlf s)).flatMap crlf1 = _
  rw [lns_crlf, List.flatMap_map]
  unfold crlf
  rw [List.flatMap_def, List.flatMap_def]
  congr 1
  exact List.map_congr_left fun l hl => crlf1_crlf1 (lns_mem hl)
theorem head_bare {b : List UInt8} : (bare (b ++ [10]) ++ [13, 10]).head? = some 46 ↔ (b ++ [10]).head? = some 46 := by
  rw [bare_snoc]
  match b with
  | [] => simp
  | [c] =>
    by_cases hc : c = 13
    · subst hc; simp
    · have : ¬ (some c = some 13) := fun e => hc (by simpa using e)
      rw [List.getLast?_singleton, if_neg this]
      simp
  | c :: d :: t =>
    split
    · simp
    · simp
theorem bare_cons {c : UInt8} {l : List UInt8} (hc : c ≠ 13 ∧ c ≠ 10) (h : T l ∨ U l) : bare (c :: l) = c :: bare l := by
  rcases h with ⟨b, rfl, hb⟩ | h
  · rw [show c :: (b ++ [10]) = (c :: b) ++ [10] from rfl, bare_snoc, bare_snoc]
    cases b with
    | nil =>
      have : ¬ (some c = some 13) := fun e => hc.1 (by simpa using e)
      rw [List.getLast?_singleton, if_neg this, List.getLast?_nil, if_neg (by simp)]
    | cons d t =>
      rw [List.getLast?_cons_cons]
      split
      · rfl
      · rfl
  · rw [bare_U h.2, bare_U (fun e => by
      rcases List.mem_cons.1 e with e | e
      · exact hc.2 e.symm
      · exact h.2 e)]
theorem crlf1_stuff1 {l : List UInt8} (h : T l ∨ U l) : crlf1 (stuff1 l) = stuff1 (crlf1 l) := by
  by_cases h46 : l.head? = some 46
  · have hs : stuff1 l = 46 :: l := by unfold stuff1; rw [if_pos h46]
    rcases h with h | h
    · have hts := stuff1_T h
      rw [crlf1, ends_T hts, if_pos rfl, hs, bare_cons (by decide) (.inl h)]
      obtain ⟨b, rfl, hb⟩ := h
      have hc : crlf1 (b ++ [10]) = bare (b ++ [10]) ++ [13, 10] := by unfold crlf1; rw [ends_T ⟨b, rfl, hb⟩, if_pos rfl]
      rw [hc, stuff1, if_pos (head_bare.2 h46)]
      rfl
    · have hus := stuff1_U h
      rw [crlf1_U hus, crlf1_U h]
  · have hs : stuff1 l = l := by unfold stuff1; rw [if_neg h46]
    rw [hs]
    rcases h with h | h
    · obtain ⟨b, rfl, hb⟩ := h
      have hc : crlf1 (b ++ [10]) = bare (b ++ [10]) ++ [13, 10] := by unfold crlf1; rw [ends_T ⟨b, rfl, hb⟩, if_pos rfl]
      rw [hc, stuff1, if_neg (fun e => h46 (head_bare.1 e))]
    · rw [crlf1_U h, hs]
theorem crlf_stuff (s : List UInt8) : crlf (stuff s) = stuff (crlf s) := by
  show (lns (stuff s)).flatMap crlf1 = (lns (crlf s)).flatMap stuff1
  rw [lns_stuff, lns_crlf, List.flatMap_map, List.flatMap_map, List.flatMap_def, List.flatMap_def]
  congr 1
  exact List.map_congr_left fun l hl => crlf1_stuff1 (lns_mem hl)
theorem bare_stuff1_len {l : List UInt8} (h : T l ∨ U l) : (stuff1 l).length - (bare (stuff1 l)).length = l.length - (bare l).length ∧ (bare l).length ≤ l.length ∧ (bare (stuff1 l)).length ≤ (stuff1 l).length := by
  have hle : ∀ x : List UInt8, (bare x).length ≤ x.length := by
    intro x
    unfold bare
    split
    · split
      · rw [List.length_dropLast, List.length_dropLast]; omega
      · rw [List.length_dropLast]; omega
    · exact Nat.le_refl _
  refine ⟨?_, hle _, hle _⟩
  by_cases h46 : l.head? = some 46
  · have hs : stuff1 l = 46 :: l := by unfold stuff1; rw [if_pos h46]
    rw [hs, bare_cons (by decide) h, List.length_cons, List.length_cons]
    omega
  · have hs : stuff1 l = l := by unfold stuff1; rw [if_neg h46]
    rw [hs]
theorem bare_stuff1_ne {l : List UInt8} (h : T l ∨ U l) : bare (stuff1 l) ≠ [46] := by
  by_cases h46 : l.head? = some 46
  · have hs : stuff1 l = 46 :: l := by unfold stuff1; rw [if_pos h46]
    rw [hs, bare_cons (by decide) h]
    intro e
    have e2 : bare l = [] := by simpa using e
    rcases h with ⟨b, rfl, hb⟩ | h
    · rw [bare_snoc] at e2
      match b with
      | [] => simp at h46
      | [c] =>
        have : c = 46 := by simpa using h46
        subst this
        simp at e2
      | c :: d :: t =>
        split at e2
        · simp at e2
        · simp at e2
    · rw [bare_U h.2] at e2
      exact h.1 e2
  · have hs : stuff1 l = l := by unfold stuff1; rw [if_neg h46]
    rw [hs]
    intro e
    apply h46
    rcases h with ⟨b, rfl, hb⟩ | h
    · rw [bare_snoc] at e
      split at e
      · match b, e with
        | [c, d], e =>
          have : c = 46 := by simpa using e
          subst this
          rfl
      · subst e
        rfl
    · rw [bare_U h.2] at e
      subst e
      rfl
end Ln
end Go.Proofs.Ytjllmhnicmonbaa
