/- Phrases: the plain law, rows of lists in memory, Of. -/
import Derived.Test.YtijbkflbklbemaaSmall
import Derived.Test.YtijbkflbklbemaaOpenP
namespace Go.Proofs.Ytijbkflbklbemaa
open Go.RowKit Go.WideShapes

namespace Po
def ofL (l : List P) (d : Int) : List Int := match find P.doc l d with
  | some p => p.places
  | none => []
def occ (d : Int) (l : List P) (n : Int) : Bool := (ofL l d).contains n
theorem next_find {a b : List P} (ha : Ok a) (hb : Ok b) (g d : Int) : find P.doc (nextL g a b) d = nextF g (find P.doc a d) (find P.doc b d) := (out_find (next_good g) a b ha.srt hb.srt).2 d
theorem next_ok {a b : List P} (ha : Ok a) (hb : Ok b) (g : Int) : Ok (nextL g a b) := out_ok (next_good g) ha hb fun d x y r hx hy h => by
  cases x with
  | none => simp [nextF] at h
  | some x =>
    cases y with
    | none => simp [nextF] at h
    | some y =>
      simp only [nextF] at h
      split at h
      · cases h
      · rename_i hne
        injection h with h
        subst h
        have oy := (ok_find hb hy).2.1
        exact ⟨by simpa using hne, List.Pairwise.sublist List.filter_sublist oy.srt, fun n hn => oy.rng n (List.mem_filter.1 hn).1⟩
theorem next_occ {a b : List P} (ha : Ok a) (hb : Ok b) (d n : Int) : occ d (nextL 1 a b) n = (occ d a (n - 1) && occ d b n) := by
  unfold occ ofL
  rw [next_find ha hb]
  cases find P.doc a d with
  | none => simp [nextF]
  | some x =>
    cases find P.doc b d with
    | none => simp [nextF]
    | some y =>
      have key : ((y.places.filter (fun n => x.places.contains (n - 1))).contains n) = (x.places.contains (n - 1) && y.places.contains n) := by
        rw [Bool.eq_iff_iff]
        simp only [List.contains_iff_mem, List.mem_filter, Bool.and_eq_true]
        exact And.comm
      rw [← key]
      simp only [nextF]
      cases hz : (y.places.filter (fun n => x.places.contains (n - 1))).isEmpty with
      | true =>
        rw [List.isEmpty_iff.1 hz]
        rfl
      | false => rfl
def allB (d : Int) : List (List P) → Int → Bool
  | [], _ => true
  | l :: r, n => occ d l n && allB d r (n + 1)
theorem allB_snoc (d : Int) : ∀ (ls : List (List P)) (l : List P) (n : Int), allB d (ls ++ [l]) n = (allB d ls n && occ d l (n + ls.length))
  | [], l, n => by simp [allB]
  | a :: r, l, n => by
    rw [List.cons_append, allB, allB_snoc d r l (n + 1), allB, Bool.and_assoc, show n + 1 + (r.length : Int) = n + ((a :: r).length : Int) from by simp; omega]
theorem fold_ok : ∀ (r : List (List P)) (a : List P), Ok a → (∀ l ∈ r, Ok l) → Ok (r.foldl (nextL 1) a)
  | [], a, ha, _ => ha
  | b :: r, a, ha, hr => fold_ok r _ (next_ok ha (hr b (by simp)) 1) fun l hl => hr l (by simp [hl])
theorem fold_occ (d : Int) : ∀ (r : List (List P)) (a : List P) (n : Int), Ok a → (∀ l ∈ r, Ok l) → occ d (r.foldl (nextL 1) a) n = (occ d a (n - r.length) && allB d r (n - r.length + 1))
  | [], a, n, _, _ => by simp [allB]
  | b :: r, a, n, ha, hr => by
    have hb := hr b (by simp)
    rw [List.foldl_cons, fold_occ d r _ n (next_ok ha hb 1) (fun l hl => hr l (by simp [hl])), next_occ ha hb, allB, Bool.and_assoc]
    rw [show n - ((b :: r).length : Int) = n - (r.length : Int) - 1 from by simp; omega, show n - (r.length : Int) - 1 + 1 = n - (r.length : Int) from by omega]
/-- the law of phrases -/
theorem phrase (d : Int) {ls : List (List P)} {a : List P} {r : List (List P)} (h : ls = a :: r) (hk : ∀ l ∈ ls, Ok l) (n : Int) : occ d (r.foldl (nextL 1) a) n = allB d ls (n - ((ls.length : Int) - 1)) := by
  subst h
  rw [fold_occ d r a n (hk a (by simp)) (fun l hl => hk l (by simp [hl])), allB, show n - (((a :: r).length : Int) - 1) = n - (r.length : Int) from by simp]
end Po

/-- v reads as a row of lists of postings -/
def SeqS (w : World) (v : Value) (ls : List (List Po.P)) : Prop :=
  ∃ A cap, v = .slice A ls.length cap ∧ ls.length ≤ cap ∧ cap ≤ maxLen ∧ (ls = [] ∨ ∃ b off, A = some ⟨b, off, none⟩ ∧ ∀ i l, ls[i]? = some l → ∃ A' k c, w.cell? ⟨b, off + i, none⟩ = some (.slice A' k c) ∧ SeqP w (.slice A' k c) l)
section
variable {H : Type} {enc : TypeId × Value → H} {w : World} {base : Nat} {spare : Nat → Bool} {held : Bool}
theorem rd_Pss {n : Nat} {cs : List Value} {x : DataW H × List MemPlace} (h : DataW.trod enc Try.prog w base spare held n 31 cs = some x) (hs : Small Try.prog 31 x.1) :
    ∃ (v : Value) (xs : List (List Po.P)), cs = [v] ∧ SeqS w v xs ∧ ∀ y ∈ xs, y.length ≤ 4398046511104 ∧ ∀ p ∈ y, POk p := by
  have k1 : Try.prog.cellsOf 22 = 1 := by kernel_rfl
  obtain ⟨A, cap, xs, rfl, hc, hm, hr, hcell⟩ := rd_slice (α := List Po.P) Try.underlying31 (by rw [k1]; decide) h hs (fun cs l => (l.length ≤ 4398046511104 ∧ ∀ p ∈ l, POk p) ∧ ∃ A k c, cs = [.slice A k c] ∧ SeqP w (.slice A k c) l)
    (fun n cs' y hy hsm => by
      obtain ⟨v, xs, rfl, q, hl, hp⟩ := rd_Ps hy hsm
      obtain ⟨A', c', rfl, _⟩ := id q
      exact ⟨xs, ⟨hl, hp⟩, A', _, c', rfl, q⟩)
  rw [k1] at hcell
  refine ⟨_, xs, rfl, ⟨A, cap, rfl, hc, hm, ?_⟩, fun y hy => ?_⟩
  · rcases hcell with h0 | ⟨b, off, hA, hcell⟩
    · exact .inl h0
    · refine .inr ⟨b, off, hA, fun i y hy => ?_⟩
      obtain ⟨cs', ⟨_, A', k, c, rfl, q3⟩, _, hat⟩ := hcell i y hy
      exact ⟨A', k, c, by simpa using hat 0 (by omega), q3⟩
  · rcases hcell with rfl | ⟨b, off, _, hcell⟩
    · cases hy
    · obtain ⟨i, hi⟩ := List.getElem?_of_mem hy
      obtain ⟨cs', ⟨hok, _⟩, _⟩ := hcell i y hi
      exact hok
end
theorem of_drop {l : List Po.P} {k : Nat} {d : Int} (hk : k < l.length) : Po.find Po.P.doc (l.drop k) d = if l[k].doc = d then some l[k] else Po.find Po.P.doc (l.drop (k + 1)) d := by
  rw [List.drop_eq_getElem_cons hk, Po.find_cons]
set_option maxHeartbeats 2000000 in
theorem Of_c (va : Value) (l : List Po.P) (d : Int) (w : World) (ha : SeqP w va l) :
    Calls Try.prog 17 #[va, .int .i64 d] w fun e w' => ∃ v, e = .returned v ∧ Seq w v ((Po.ofL l d).map iv) ∧ w' = w := by
  obtain ⟨A, ca, rfl, hca, hma, ha⟩ := ha
  unfold maxLen at hma
  by_cases x0 : l = []
  · subst x0
    clear ha
    go_enter Try.func17, Try.ntmps17
    go_wp2
    go_loopw [5] (fun i wr => i = .int .i64 0 ∧ wr = w) (fun _ _ => 0)
    case atStart => exact ⟨rfl, rfl⟩
    case round =>
      obtain ⟨rfl, rfl⟩ := hrel
      go_wp2
      go_ret
      exact ⟨_, rfl, ⟨none, 0, rfl, Nat.le_refl _, by decide, .inl rfl⟩, rfl⟩
  · obtain ⟨b1, o1, rfl, h1⟩ := ha.resolve_left x0
    clear ha x0
    have H1 := Lib.hid h1; clear h1
    go_enter Try.func17, Try.ntmps17
    go_wp2
    go_loopw [5] (fun i wr => ∃ (k : Nat), k ≤ l.length ∧ i = .int .i64 k ∧ Hid (Po.find Po.P.doc (l.drop k) d = Po.find Po.P.doc l d) ∧ wr = w) (fun i _ => l.length - (intOf i).toNat)
    case atStart => exact ⟨0, by omega, rfl, Lib.hid rfl, rfl⟩
    case round =>
      obtain ⟨k, hk, rfl, heq, rfl⟩ := hrel
      by_cases k1 : k < l.length
      · obtain ⟨c0, P1, n1, m1, c1, hs⟩ := H1.out k l[k] (by simp [k1])
        have i0 : (0 : Int) ≤ (k : Int) := by omega
        have i1 : (k : Int) < (l.length : Int) := by omega
        have hd := heq.out
        rw [of_drop k1] at hd
        generalize l[k] = p at c0 c1 hs hd
        by_cases k2 : p.doc = d
        · rw [if_pos k2] at hd
          have ho : Po.ofL l d = p.places := by unfold Po.ofL; rw [← hd]
          have HO := Lib.hid ho
          have HS := Lib.hid hs
          clear ho hs hd
          subst k2
          go_wp2
          go_ret
          rw [HO.out]
          exact ⟨_, rfl, HS.out, rfl⟩
        · rw [if_neg k2] at hd
          have HD := Lib.hid hd
          have k2' : (p.doc == d) = false := by simpa using k2
          clear hd k2 hs
          go_wp2
          go_roundw
          case rel => exact ⟨k + 1, by omega, by go_num, HD, trivial⟩
          case measure => simp [intOf] <;> omega
      · have ho : Po.ofL l d = [] := by unfold Po.ofL; rw [← heq.out, List.drop_of_length_le (by omega)]; rfl
        have HO := Lib.hid ho; clear ho
        go_wp2
        go_ret
        rw [HO.out]
        exact ⟨_, rfl, ⟨none, 0, rfl, Nat.le_refl _, by decide, .inl rfl⟩, rfl⟩
end Go.Proofs.Ytijbkflbklbemaa
