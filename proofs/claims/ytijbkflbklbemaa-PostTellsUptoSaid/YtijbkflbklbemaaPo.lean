/- Plain lists: merging two ascending lists. -/
namespace Go.Proofs.Ytijbkflbklbemaa.Po

section
variable {α : Type} (key : α → Int)
/-- what 'both' shows: pairs of equal elements, and lone ones -/
def mrg : List α → List α → List (Option α × Option α)
  | [], [] => []
  | x :: a, [] => (some x, none) :: mrg a []
  | [], y :: b => (none, some y) :: mrg [] b
  | x :: a, y :: b => if key x < key y then (some x, none) :: mrg a (y :: b) else if key y < key x then (none, some y) :: mrg (x :: a) b else (some x, some y) :: mrg a b
termination_by a b => a.length + b.length
def Srt (l : List α) : Prop := l.Pairwise (fun x y => key x < key y)
def find (l : List α) (d : Int) : Option α := l.find? (fun x => key x == d)
variable {key}
theorem find_nil (d : Int) : find key ([] : List α) d = none := rfl
theorem find_cons (x : α) (l : List α) (d : Int) : find key (x :: l) d = if key x = d then some x else find key l d := by
  unfold find
  rw [List.find?_cons]
  by_cases h : key x = d
  · rw [if_pos h, show (key x == d) = true from by simpa using h]
  · rw [if_neg h, show (key x == d) = false from by simpa using h]
theorem find_none {l : List α} {d : Int} (h : ∀ x ∈ l, key x ≠ d) : find key l d = none := by
  unfold find
  rw [List.find?_eq_none]
  intro x hx
  simpa using h x hx
theorem find_some {l : List α} {d : Int} {x : α} (h : find key l d = some x) : x ∈ l ∧ key x = d := by
  unfold find at h
  exact ⟨List.mem_of_find?_eq_some h, by simpa using List.find?_some h⟩
theorem find_mem {l : List α} (hs : Srt key l) {x : α} (h : x ∈ l) : find key l (key x) = some x := by
  induction l with
  | nil => cases h
  | cons y l ih =>
    rw [find_cons]
    obtain ⟨h1, h2⟩ := List.pairwise_cons.1 hs
    rcases List.mem_cons.1 h with rfl | h
    · rw [if_pos rfl]
    · rw [if_neg (by have := h1 x h; omega)]
      exact ih h2 h
theorem ext {a b : List α} (ha : Srt key a) (hb : Srt key b) (h : ∀ d, find key a d = find key b d) : a = b := by
  induction a generalizing b with
  | nil =>
    cases b with
    | nil => rfl
    | cons y b =>
      have := h (key y)
      rw [find_nil, find_cons, if_pos rfl] at this
      cases this
  | cons x a ih =>
    obtain ⟨h1, h2⟩ := List.pairwise_cons.1 ha
    cases b with
    | nil =>
      have := h (key x)
      rw [find_nil, find_cons, if_pos rfl] at this
      cases this
    | cons y b =>
      obtain ⟨h3, h4⟩ := List.pairwise_cons.1 hb
      have hx := h (key x)
      have hy := h (key y)
      rw [find_cons, if_pos rfl, find_cons] at hx
      rw [find_cons, find_cons, if_pos rfl] at hy
      by_cases e : key y = key x
      · rw [if_pos e] at hx
        injection hx with hx
        subst hx
        congr 1
        refine ih h2 h4 fun d => ?_
        have hd := h d
        rw [find_cons, find_cons] at hd
        by_cases e2 : key x = d
        · rw [find_none (fun z hz => by have := h1 z hz; omega), find_none (fun z hz => by have := h3 z hz; omega)]
        · rw [if_neg e2, if_neg e2] at hd
          exact hd
      · rw [if_neg e] at hx
        rw [if_neg (fun e2 => e e2.symm)] at hy
        have k1 := find_some hx.symm
        have k2 := find_some hy
        have := h3 x k1.1
        have := h1 y k2.1
        omega

/-- what is seen, told on -/
def out {β : Type} (f : Option α → Option α → Option β) (a b : List α) : List β := (mrg key a b).filterMap (fun q => f q.1 q.2)
structure Good {β : Type} (key : α → Int) (key' : β → Int) (f : Option α → Option α → Option β) : Prop where
  nn : f none none = none
  l : ∀ x r, f (some x) none = some r → key' r = key x
  r : ∀ y r, f none (some y) = some r → key' r = key y
  b : ∀ x y r, key x = key y → f (some x) (some y) = some r → key' r = key x
theorem out_keys {β : Type} {key' : β → Int} {f : Option α → Option α → Option β} (g : Good key key' f) : ∀ (a b : List α), ∀ r ∈ out (key := key) f a b, (∃ x ∈ a, key' r = key x) ∨ (∃ y ∈ b, key' r = key y)
  | [], [] => by intro r hr; simp [out, mrg] at hr
  | x :: a, [] => by
    intro r hr
    simp only [out, mrg, List.filterMap_cons] at hr
    have ih := out_keys g a []
    have step : r ∈ out (key := key) f a [] → (∃ z ∈ x :: a, key' r = key z) ∨ (∃ y ∈ [], key' r = key y) := fun h => by
      rcases ih r h with ⟨z, hz, e⟩ | ⟨z, hz, e⟩
      · exact .inl ⟨z, by simp [hz], e⟩
      · exact .inr ⟨z, hz, e⟩
    cases hf : f (some x) none with
    | none => rw [hf] at hr; exact step hr
    | some q =>
      rw [hf] at hr
      rcases List.mem_cons.1 hr with rfl | hr
      · exact .inl ⟨x, by simp, g.l x _ hf⟩
      · exact step hr
  | [], y :: b => by
    intro r hr
    simp only [out, mrg, List.filterMap_cons] at hr
    have ih := out_keys g [] b
    have step : r ∈ out (key := key) f [] b → (∃ z ∈ [], key' r = key z) ∨ (∃ z ∈ y :: b, key' r = key z) := fun h => by
      rcases ih r h with ⟨z, hz, e⟩ | ⟨z, hz, e⟩
      · exact .inl ⟨z, hz, e⟩
      · exact .inr ⟨z, by simp [hz], e⟩
    cases hf : f none (some y) with
    | none => rw [hf] at hr; exact step hr
    | some q =>
      rw [hf] at hr
      rcases List.mem_cons.1 hr with rfl | hr
      · exact .inr ⟨y, by simp, g.r y _ hf⟩
      · exact step hr
  | x :: a, y :: b => by
    intro r hr
    unfold out at hr
    rw [mrg] at hr
    split at hr
    · rw [List.filterMap_cons] at hr
      have ih := out_keys g a (y :: b)
      have step : r ∈ out (key := key) f a (y :: b) → (∃ z ∈ x :: a, key' r = key z) ∨ (∃ z ∈ y :: b, key' r = key z) := fun h => by
        rcases ih r h with ⟨z, hz, e⟩ | ⟨z, hz, e⟩
        · exact .inl ⟨z, by simp [hz], e⟩
        · exact .inr ⟨z, hz, e⟩
      cases hf : f (some x) none with
      | none => simp only [hf] at hr; exact step hr
      | some q =>
        simp only [hf] at hr
        rcases List.mem_cons.1 hr with rfl | hr
        · exact .inl ⟨x, by simp, g.l x _ hf⟩
        · exact step hr
    · split at hr
      · rw [List.filterMap_cons] at hr
        have ih := out_keys g (x :: a) b
        have step : r ∈ out (key := key) f (x :: a) b → (∃ z ∈ x :: a, key' r = key z) ∨ (∃ z ∈ y :: b, key' r = key z) := fun h => by
          rcases ih r h with ⟨z, hz, e⟩ | ⟨z, hz, e⟩
          · exact .inl ⟨z, hz, e⟩
          · exact .inr ⟨z, by simp [hz], e⟩
        cases hf : f none (some y) with
        | none => simp only [hf] at hr; exact step hr
        | some q =>
          simp only [hf] at hr
          rcases List.mem_cons.1 hr with rfl | hr
          · exact .inr ⟨y, by simp, g.r y _ hf⟩
          · exact step hr
      · rename_i e1 e2
        rw [List.filterMap_cons] at hr
        have ih := out_keys g a b
        have step : r ∈ out (key := key) f a b → (∃ z ∈ x :: a, key' r = key z) ∨ (∃ z ∈ y :: b, key' r = key z) := fun h => by
          rcases ih r h with ⟨z, hz, e⟩ | ⟨z, hz, e⟩
          · exact .inl ⟨z, by simp [hz], e⟩
          · exact .inr ⟨z, by simp [hz], e⟩
        cases hf : f (some x) (some y) with
        | none => simp only [hf] at hr; exact step hr
        | some q =>
          simp only [hf] at hr
          rcases List.mem_cons.1 hr with rfl | hr
          · exact .inl ⟨x, by simp, g.b x y _ (by omega) hf⟩
          · exact step hr
termination_by a b => a.length + b.length
/-- the head's own answer ahead of the rest -/
theorem head_find {β : Type} {key' : β → Int} {o : Option β} {rest : List β} {k d : Int} (hk : ∀ r, o = some r → key' r = k) (hd : k = d → find key' rest d = none) :
    find key' (o.toList ++ rest) d = if k = d then o else find key' rest d := by
  cases o with
  | none =>
    by_cases e : k = d
    · rw [if_pos e]; exact hd e
    · rw [if_neg e]; rfl
  | some r =>
    have := hk r rfl
    show find key' (r :: rest) d = _
    rw [find_cons, this]
theorem head_srt {β : Type} {key' : β → Int} {o : Option β} {rest : List β} {k : Int} (hk : ∀ r, o = some r → key' r = k) (h : Srt key' rest) (hr : ∀ r ∈ rest, k < key' r) : Srt key' (o.toList ++ rest) := by
  cases o with
  | none => exact h
  | some r => exact List.pairwise_cons.2 ⟨fun z hz => by have := hr z hz; have := hk r rfl; omega, h⟩
theorem fm_cons {γ β : Type} (g : γ → Option β) (q : γ) (l : List γ) : (q :: l).filterMap g = (g q).toList ++ l.filterMap g := by
  rw [List.filterMap_cons]
  cases g q <;> rfl
theorem out_find {β : Type} {key' : β → Int} {f : Option α → Option α → Option β} (g : Good key key' f) : ∀ (a b : List α), Srt key a → Srt key b →
    Srt key' (out (key := key) f a b) ∧ ∀ d, find key' (out (key := key) f a b) d = f (find key a d) (find key b d)
  | [], [] => by
    intro _ _
    refine ⟨by simp [out, mrg, Srt], fun d => ?_⟩
    rw [find_nil, g.nn]
    simp [out, mrg, find]
  | x :: a, [] => by
    intro ha hb
    obtain ⟨h1, h2⟩ := List.pairwise_cons.1 ha
    obtain ⟨i1, i2⟩ := out_find g a [] h2 hb
    have e : out (key := key) f (x :: a) [] = (f (some x) none).toList ++ out (key := key) f a [] := by unfold out; rw [mrg, fm_cons]
    rw [e]
    refine ⟨head_srt (k := key x) (fun r hr => g.l x r hr) i1 (fun r hr => ?_), fun d => ?_⟩
    · rcases out_keys g a [] r hr with ⟨z, hz, e⟩ | ⟨z, hz, _⟩
      · have := h1 z hz; omega
      · cases hz
    · rw [head_find (k := key x) (fun r hr => g.l x r hr) (fun e => ?_), find_cons, find_nil, i2 d, find_nil]
      · split <;> rfl
      · rw [i2 d, find_none (fun z hz => by have := h1 z hz; omega), find_nil, g.nn]
  | [], y :: b => by
    intro ha hb
    obtain ⟨h1, h2⟩ := List.pairwise_cons.1 hb
    obtain ⟨i1, i2⟩ := out_find g [] b ha h2
    have e : out (key := key) f [] (y :: b) = (f none (some y)).toList ++ out (key := key) f [] b := by unfold out; rw [mrg, fm_cons]
    rw [e]
    refine ⟨head_srt (k := key y) (fun r hr => g.r y r hr) i1 (fun r hr => ?_), fun d => ?_⟩
    · rcases out_keys g [] b r hr with ⟨z, hz, _⟩ | ⟨z, hz, e⟩
      · cases hz
      · have := h1 z hz; omega
    · rw [head_find (k := key y) (fun r hr => g.r y r hr) (fun e => ?_), find_cons, find_nil, i2 d, find_nil]
      · split <;> rfl
      · rw [i2 d, find_none (l := b) (fun z hz => by have := h1 z hz; omega), find_nil, g.nn]
  | x :: a, y :: b => by
    intro ha hb
    obtain ⟨h1, h2⟩ := List.pairwise_cons.1 ha
    obtain ⟨h3, h4⟩ := List.pairwise_cons.1 hb
    by_cases c1 : key x < key y
    · obtain ⟨i1, i2⟩ := out_find g a (y :: b) h2 hb
      have e : out (key := key) f (x :: a) (y :: b) = (f (some x) none).toList ++ out (key := key) f a (y :: b) := by unfold out; rw [mrg, if_pos c1, fm_cons]
      have hlow : ∀ z ∈ y :: b, key x < key z := fun z hz => by
        rcases List.mem_cons.1 hz with rfl | hz
        · exact c1
        · have := h3 z hz; omega
      rw [e]
      refine ⟨head_srt (k := key x) (fun r hr => g.l x r hr) i1 (fun r hr => ?_), fun d => ?_⟩
      · rcases out_keys g a (y :: b) r hr with ⟨z, hz, e⟩ | ⟨z, hz, e⟩
        · have := h1 z hz; omega
        · have := hlow z hz; omega
      · rw [head_find (k := key x) (fun r hr => g.l x r hr) (fun e => ?_), find_cons x a, i2 d]
        · by_cases e2 : key x = d
          · rw [if_pos e2, if_pos e2, find_none (l := y :: b) (fun z hz => by have := hlow z hz; omega)]
          · rw [if_neg e2, if_neg e2]
        · rw [i2 d, find_none (fun z hz => by have := h1 z hz; omega), find_none (l := y :: b) (fun z hz => by have := hlow z hz; omega), g.nn]
    · by_cases c2 : key y < key x
      · obtain ⟨i1, i2⟩ := out_find g (x :: a) b ha h4
        have e : out (key := key) f (x :: a) (y :: b) = (f none (some y)).toList ++ out (key := key) f (x :: a) b := by unfold out; rw [mrg, if_neg c1, if_pos c2, fm_cons]
        have hlow : ∀ z ∈ x :: a, key y < key z := fun z hz => by
          rcases List.mem_cons.1 hz with rfl | hz
          · exact c2
          · have := h1 z hz; omega
        rw [e]
        refine ⟨head_srt (k := key y) (fun r hr => g.r y r hr) i1 (fun r hr => ?_), fun d => ?_⟩
        · rcases out_keys g (x :: a) b r hr with ⟨z, hz, e⟩ | ⟨z, hz, e⟩
          · have := hlow z hz; omega
          · have := h3 z hz; omega
        · rw [head_find (k := key y) (fun r hr => g.r y r hr) (fun e => ?_), find_cons y b, i2 d]
          · by_cases e2 : key y = d
            · rw [if_pos e2, if_pos e2, find_none (l := x :: a) (fun z hz => by have := hlow z hz; omega)]
            · rw [if_neg e2, if_neg e2]
          · rw [i2 d, find_none (l := x :: a) (fun z hz => by have := hlow z hz; omega), find_none (fun z hz => by have := h3 z hz; omega), g.nn]
      · have hxy : key x = key y := by omega
        obtain ⟨i1, i2⟩ := out_find g a b h2 h4
        have e : out (key := key) f (x :: a) (y :: b) = (f (some x) (some y)).toList ++ out (key := key) f a b := by unfold out; rw [mrg, if_neg c1, if_neg c2, fm_cons]
        rw [e]
        refine ⟨head_srt (k := key x) (fun r hr => g.b x y r hxy hr) i1 (fun r hr => ?_), fun d => ?_⟩
        · rcases out_keys g a b r hr with ⟨z, hz, e⟩ | ⟨z, hz, e⟩
          · have := h1 z hz; omega
          · have := h3 z hz; omega
        · rw [head_find (k := key x) (fun r hr => g.b x y r hxy hr) (fun e => ?_), find_cons x a, find_cons y b, i2 d]
          · by_cases e2 : key x = d
            · rw [if_pos e2, if_pos e2, if_pos (by omega)]
            · rw [if_neg e2, if_neg e2, if_neg (by omega)]
          · rw [i2 d, find_none (fun z hz => by have := h1 z hz; omega), find_none (fun z hz => by have := h3 z hz; omega), g.nn]
termination_by a b => a.length + b.length
end
end Go.Proofs.Ytijbkflbklbemaa.Po
