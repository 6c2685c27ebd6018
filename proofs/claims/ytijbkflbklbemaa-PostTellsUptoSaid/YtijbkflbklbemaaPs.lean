/- Plain postings lists: what And, Or, Less, Next answer, and the identities of sets. -/
import Derived.Test.YtijbkflbklbemaaPo
namespace Go.Proofs.Ytijbkflbklbemaa.Po

structure P where
  doc : Int
  places : List Int
def most : Int := 1099511627776
/-- rises, as the program goes: from low on -/
def risesB : Int → List Int → Bool
  | _, [] => true
  | low, n :: r => decide (low ≤ n) && decide (n ≤ most) && risesB (n + 1) r
def rightB (l : List P) : Bool := l.all (fun p => !p.places.isEmpty && risesB 0 p.places) && risesB 1 (l.map P.doc)

theorem rises_iff : ∀ (low : Int) (l : List Int), risesB low l = true ↔ Srt id l ∧ ∀ n ∈ l, low ≤ n ∧ n ≤ most
  | low, [] => by simp [risesB, Srt]
  | low, n :: r => by
    simp only [risesB, Bool.and_eq_true, decide_eq_true_eq, rises_iff (n + 1) r]
    constructor
    · rintro ⟨⟨h1, h2⟩, h3, h4⟩
      refine ⟨List.pairwise_cons.2 ⟨fun z hz => by have := h4 z hz; simp only [id]; omega, h3⟩, fun z hz => ?_⟩
      rcases List.mem_cons.1 hz with rfl | hz
      · exact ⟨h1, h2⟩
      · have := h4 z hz; omega
    · rintro ⟨h1, h2⟩
      obtain ⟨h3, h4⟩ := List.pairwise_cons.1 h1
      refine ⟨h2 n (by simp), h4, fun z hz => ?_⟩
      have := h3 z hz
      have := h2 z (by simp [hz])
      simp only [id] at *
      omega
/-- a valid list of places -/
structure OkPl (l : List Int) : Prop where
  ne : l ≠ []
  srt : Srt id l
  rng : ∀ n ∈ l, 0 ≤ n ∧ n ≤ most
structure Ok (l : List P) : Prop where
  srt : Srt P.doc l
  rng : ∀ p ∈ l, 1 ≤ p.doc ∧ p.doc ≤ most
  pl : ∀ p ∈ l, OkPl p.places
theorem right_iff (l : List P) : rightB l = true ↔ Ok l := by
  unfold rightB
  rw [Bool.and_eq_true, List.all_eq_true, rises_iff]
  constructor
  · rintro ⟨h1, h2, h3⟩
    refine ⟨by have := List.pairwise_map.1 h2; exact this, fun p hp => h3 _ (List.mem_map.2 ⟨p, hp, rfl⟩), fun p hp => ?_⟩
    have h := h1 p hp
    rw [Bool.and_eq_true, rises_iff] at h
    exact ⟨by simpa using h.1, h.2.1, h.2.2⟩
  · rintro ⟨h1, h2, h3⟩
    refine ⟨fun p hp => ?_, List.pairwise_map.2 h1, fun n hn => ?_⟩
    · rw [Bool.and_eq_true, rises_iff]
      have h := h3 p hp
      exact ⟨by simpa using h.ne, h.srt, h.rng⟩
    · obtain ⟨p, hp, rfl⟩ := List.mem_map.1 hn
      exact h2 p hp

/-- the union of two ascending lists -/
def uf (x y : Option Int) : Option Int := if x.isNone then y else x
def un (x y : List Int) : List Int := out (key := id) uf x y
theorem uf_good : Good (id : Int → Int) (id : Int → Int) uf := by
  refine ⟨rfl, ?_, ?_, ?_⟩
  · intro x r h; simp [uf] at h; simp [h]
  · intro x r h; simp [uf] at h; simp [h]
  · intro x y r _ h; simp [uf] at h; simp [h]
theorem find_id {l : List Int} (d : Int) : (find id l d).isSome = true ↔ d ∈ l := by
  unfold find
  rw [List.find?_isSome]
  simp
theorem find_id_eq {l : List Int} {d e : Int} (h : find id l d = some e) : e = d := (find_some h).2
theorem find_id_iff {a b : List Int} (d : Int) (h : d ∈ a ↔ d ∈ b) : find id a d = find id b d := by
  have ha := find_id (l := a) d
  have hb := find_id (l := b) d
  cases h1 : find id a d with
  | none =>
    cases h2 : find id b d with
    | none => rfl
    | some y => rw [h1] at ha; rw [h2] at hb; simp at ha hb; exact absurd (h.2 hb) ha
  | some x =>
    cases h2 : find id b d with
    | none => rw [h1] at ha; rw [h2] at hb; simp at ha hb; exact absurd (h.1 ha) hb
    | some y => rw [find_id_eq h1, find_id_eq h2]
theorem un_srt {x y : List Int} (hx : Srt id x) (hy : Srt id y) : Srt id (un x y) := (out_find uf_good x y hx hy).1
theorem mem_un {x y : List Int} (hx : Srt id x) (hy : Srt id y) (d : Int) : d ∈ un x y ↔ d ∈ x ∨ d ∈ y := by
  have h := (out_find uf_good x y hx hy).2 d
  have h1 : (find id (un x y) d).isSome = (uf (find id x d) (find id y d)).isSome := by unfold un; rw [h]
  rw [← find_id, h1, ← find_id (l := x), ← find_id (l := y)]
  cases find id x d <;> cases find id y d <;> simp [uf]
theorem mem_ext {a b : List Int} (ha : Srt id a) (hb : Srt id b) (h : ∀ d, d ∈ a ↔ d ∈ b) : a = b := ext ha hb fun d => find_id_iff d (h d)
theorem un_ok {x y : List Int} (hx : OkPl x) (hy : OkPl y) : OkPl (un x y) := by
  refine ⟨?_, un_srt hx.srt hy.srt, fun n hn => ?_⟩
  · intro e
    cases x with
    | nil => exact hx.ne rfl
    | cons z x =>
      have := (mem_un hx.srt hy.srt z).2 (.inl (by simp))
      rw [e] at this
      cases this
  · rcases (mem_un hx.srt hy.srt n).1 hn with h | h
    · exact hx.rng n h
    · exact hy.rng n h
theorem un_comm {x y : List Int} (hx : Srt id x) (hy : Srt id y) : un x y = un y x :=
  mem_ext (un_srt hx hy) (un_srt hy hx) fun d => by rw [mem_un hx hy, mem_un hy hx, Or.comm]
theorem un_self {x : List Int} (hx : Srt id x) : un x x = x := mem_ext (un_srt hx hx) hx fun d => by rw [mem_un hx hx]; simp
theorem un_un {x y : List Int} (hx : Srt id x) (hy : Srt id y) : un x (un x y) = un x y :=
  mem_ext (un_srt hx (un_srt hx hy)) (un_srt hx hy) fun d => by rw [mem_un hx (un_srt hx hy), mem_un hx hy]; simp

def andF (x y : Option P) : Option P := match x, y with
  | some x, some y => some ⟨x.doc, un x.places y.places⟩
  | _, _ => none
def orF (x y : Option P) : Option P := match x, y with
  | some x, some y => some ⟨x.doc, un x.places y.places⟩
  | some x, none => some x
  | none, some y => some y
  | none, none => none
def lessF (x y : Option P) : Option P := match x, y with
  | some x, none => some x
  | _, _ => none
def nextF (gap : Int) (x y : Option P) : Option P := match x, y with
  | some x, some y => if (y.places.filter (fun n => x.places.contains (n - gap))).isEmpty then none else some ⟨y.doc, y.places.filter (fun n => x.places.contains (n - gap))⟩
  | _, _ => none
theorem and_good : Good P.doc P.doc andF := by
  refine ⟨rfl, ?_, ?_, ?_⟩
  · intro x r h; simp [andF] at h
  · intro x r h; simp [andF] at h
  · intro x y r e h; simp [andF] at h; subst h; rfl
theorem or_good : Good P.doc P.doc orF := by
  refine ⟨rfl, ?_, ?_, ?_⟩
  · intro x r h; simp [orF] at h; subst h; rfl
  · intro x r h; simp [orF] at h; subst h; rfl
  · intro x y r e h; simp [orF] at h; subst h; rfl
theorem less_good : Good P.doc P.doc lessF := by
  refine ⟨rfl, ?_, ?_, ?_⟩
  · intro x r h; simp [lessF] at h; subst h; rfl
  · intro x r h; simp [lessF] at h
  · intro x y r e h; simp [lessF] at h
theorem next_good (gap : Int) : Good P.doc P.doc (nextF gap) := by
  refine ⟨rfl, ?_, ?_, ?_⟩
  · intro x r h; simp [nextF] at h
  · intro x r h; simp [nextF] at h
  · intro x y r e h
    simp only [nextF] at h
    split at h
    · cases h
    · injection h with h; subst h; exact e.symm
def andL (a b : List P) : List P := out (key := P.doc) andF a b
def orL (a b : List P) : List P := out (key := P.doc) orF a b
def lessL (a b : List P) : List P := out (key := P.doc) lessF a b
def nextL (gap : Int) (a b : List P) : List P := out (key := P.doc) (nextF gap) a b

theorem ok_find {l : List P} (h : Ok l) {d : Int} {p : P} (e : find P.doc l d = some p) : p.doc = d ∧ OkPl p.places ∧ 1 ≤ d ∧ d ≤ most := by
  obtain ⟨h1, h2⟩ := find_some e
  exact ⟨h2, h.pl p h1, h2 ▸ h.rng p h1⟩
/-- a list of answers is valid as soon as each answer is -/
theorem out_ok {a b : List P} {f : Option P → Option P → Option P} (g : Good P.doc P.doc f) (ha : Ok a) (hb : Ok b)
    (hf : ∀ d x y r, find P.doc a d = x → find P.doc b d = y → f x y = some r → OkPl r.places) : Ok (out (key := P.doc) f a b) := by
  obtain ⟨h1, h2⟩ := out_find g a b ha.srt hb.srt
  have key : ∀ p ∈ out (key := P.doc) f a b, f (find P.doc a p.doc) (find P.doc b p.doc) = some p := fun p hp => by rw [← h2, find_mem h1 hp]
  refine ⟨h1, fun p hp => ?_, fun p hp => hf p.doc _ _ p rfl rfl (key p hp)⟩
  rcases out_keys g a b p hp with ⟨z, hz, e⟩ | ⟨z, hz, e⟩
  · rw [e]; exact ha.rng z hz
  · rw [e]; exact hb.rng z hz
theorem and_ok {a b : List P} (ha : Ok a) (hb : Ok b) : Ok (andL a b) := out_ok and_good ha hb fun d x y r hx hy h => by
  cases x with
  | none => simp [andF] at h
  | some x =>
    cases y with
    | none => simp [andF] at h
    | some y =>
      simp [andF] at h; subst h
      exact un_ok (ok_find ha hx).2.1 (ok_find hb hy).2.1
theorem or_ok {a b : List P} (ha : Ok a) (hb : Ok b) : Ok (orL a b) := out_ok or_good ha hb fun d x y r hx hy h => by
  cases x with
  | none =>
    cases y with
    | none => simp [orF] at h
    | some y => simp [orF] at h; subst h; exact (ok_find hb hy).2.1
  | some x =>
    cases y with
    | none => simp [orF] at h; subst h; exact (ok_find ha hx).2.1
    | some y =>
      simp [orF] at h; subst h
      exact un_ok (ok_find ha hx).2.1 (ok_find hb hy).2.1
theorem less_ok {a b : List P} (ha : Ok a) (hb : Ok b) : Ok (lessL a b) := out_ok less_good ha hb fun d x y r hx hy h => by
  cases x with
  | none => simp [lessF] at h
  | some x =>
    cases y with
    | none => simp [lessF] at h; subst h; exact (ok_find ha hx).2.1
    | some y => simp [lessF] at h
theorem and_find {a b : List P} (ha : Ok a) (hb : Ok b) (d : Int) : find P.doc (andL a b) d = andF (find P.doc a d) (find P.doc b d) := (out_find and_good a b ha.srt hb.srt).2 d
theorem or_find {a b : List P} (ha : Ok a) (hb : Ok b) (d : Int) : find P.doc (orL a b) d = orF (find P.doc a d) (find P.doc b d) := (out_find or_good a b ha.srt hb.srt).2 d
theorem less_find {a b : List P} (ha : Ok a) (hb : Ok b) (d : Int) : find P.doc (lessL a b) d = lessF (find P.doc a d) (find P.doc b d) := (out_find less_good a b ha.srt hb.srt).2 d

theorem and_comm {a b : List P} (ha : Ok a) (hb : Ok b) : andL a b = andL b a := ext (and_ok ha hb).srt (and_ok hb ha).srt fun d => by
  rw [and_find ha hb, and_find hb ha]
  cases hx : find P.doc a d with
  | none => cases find P.doc b d <;> rfl
  | some x =>
    cases hy : find P.doc b d with
    | none => rfl
    | some y =>
      obtain ⟨x1, x2, _⟩ := ok_find ha hx
      obtain ⟨y1, y2, _⟩ := ok_find hb hy
      simp only [andF]
      rw [un_comm x2.srt y2.srt, x1, y1]
theorem or_comm {a b : List P} (ha : Ok a) (hb : Ok b) : orL a b = orL b a := ext (or_ok ha hb).srt (or_ok hb ha).srt fun d => by
  rw [or_find ha hb, or_find hb ha]
  cases hx : find P.doc a d with
  | none => cases find P.doc b d <;> rfl
  | some x =>
    cases hy : find P.doc b d with
    | none => rfl
    | some y =>
      obtain ⟨x1, x2, _⟩ := ok_find ha hx
      obtain ⟨y1, y2, _⟩ := ok_find hb hy
      simp only [orF]
      rw [un_comm x2.srt y2.srt, x1, y1]
theorem or_self {a : List P} (ha : Ok a) : orL a a = a := ext (or_ok ha ha).srt ha.srt fun d => by
  rw [or_find ha ha]
  cases hx : find P.doc a d with
  | none => rfl
  | some x =>
    obtain ⟨x1, x2, _⟩ := ok_find ha hx
    simp only [orF]
    rw [un_self x2.srt]
theorem less_or {a b : List P} (ha : Ok a) (hb : Ok b) : lessL a (orL a b) = [] := ext (less_ok ha (or_ok ha hb)).srt (by simp [Srt]) fun d => by
  rw [less_find ha (or_ok ha hb), or_find ha hb, find_nil]
  cases hx : find P.doc a d with
  | none => rfl
  | some x => cases hy : find P.doc b d <;> rfl
theorem split3 {a b : List P} (ha : Ok a) (hb : Ok b) : orL (lessL b a) (orL (andL a b) (lessL a b)) = orL a b :=
  ext (or_ok (less_ok hb ha) (or_ok (and_ok ha hb) (less_ok ha hb))).srt (or_ok ha hb).srt fun d => by
    rw [or_find (less_ok hb ha) (or_ok (and_ok ha hb) (less_ok ha hb)), or_find (and_ok ha hb) (less_ok ha hb), less_find hb ha, less_find ha hb, and_find ha hb, or_find ha hb]
    cases hx : find P.doc a d with
    | none => cases hy : find P.doc b d <;> rfl
    | some x => cases hy : find P.doc b d <;> rfl
theorem and_or {a b : List P} (ha : Ok a) (hb : Ok b) : andL a (orL a b) = orL a (andL a b) :=
  ext (and_ok ha (or_ok ha hb)).srt (or_ok ha (and_ok ha hb)).srt fun d => by
    rw [and_find ha (or_ok ha hb), or_find ha hb, or_find ha (and_ok ha hb), and_find ha hb]
    cases hx : find P.doc a d with
    | none => cases hy : find P.doc b d <;> rfl
    | some x =>
      obtain ⟨x1, x2, _⟩ := ok_find ha hx
      cases hy : find P.doc b d with
      | none => simp only [andF, orF]; rw [un_self x2.srt]
      | some y => rfl
/-- a document is in a list -/
def hasDoc (l : List P) (d : Int) : Bool := (l.map P.doc).contains d
theorem hasDoc_find (l : List P) (d : Int) : hasDoc l d = (find P.doc l d).isSome := by
  unfold hasDoc
  rw [Bool.eq_iff_iff]
  unfold find
  rw [List.find?_isSome]
  simp
theorem and_has {a b : List P} (ha : Ok a) (hb : Ok b) (d : Int) : hasDoc (andL a b) d = (hasDoc a d && hasDoc b d) := by
  rw [hasDoc_find, hasDoc_find, hasDoc_find, and_find ha hb]
  cases find P.doc a d <;> cases find P.doc b d <;> rfl
theorem or_has {a b : List P} (ha : Ok a) (hb : Ok b) (d : Int) : hasDoc (orL a b) d = (hasDoc a d || hasDoc b d) := by
  rw [hasDoc_find, hasDoc_find, hasDoc_find, or_find ha hb]
  cases find P.doc a d <;> cases find P.doc b d <;> rfl
theorem less_has {a b : List P} (ha : Ok a) (hb : Ok b) (d : Int) : hasDoc (lessL a b) d = (hasDoc a d && !hasDoc b d) := by
  rw [hasDoc_find, hasDoc_find, hasDoc_find, less_find ha hb]
  cases find P.doc a d <;> cases find P.doc b d <;> rfl
end Go.Proofs.Ytijbkflbklbemaa.Po
