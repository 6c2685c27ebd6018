/- A feed of lines: in plain lists, and in memory. -/
import Derived.Test.YtjllmhnicmonbaaKeep
namespace Go.Proofs.Ytjllmhnicmonbaa
open Go Go.RowKit

namespace Ln
/-- one line comes to a feed that has told outs and holds r -/
def pl (n : Nat) (s : List (List UInt8) × List UInt8) (l : List UInt8) : List (List UInt8) × List UInt8 :=
  if ends l then (s.1 ++ [s.2 ++ l.take (n - s.2.length)], []) else (s.1, s.2 ++ l.take (n - s.2.length))
def pushF (n : Nat) (r : List UInt8) (L : List (List UInt8)) : List (List UInt8) × List UInt8 := L.foldl (pl n) ([], r)
theorem pushF_snoc (n : Nat) (r : List UInt8) (L : List (List UInt8)) (l : List UInt8) : pushF n r (L ++ [l]) = pl n (pushF n r L) l := by
  unfold pushF
  rw [List.foldl_append]
  rfl
theorem pl_le {n : Nat} {s : List (List UInt8) × List UInt8} (h : s.2.length ≤ n) (l : List UInt8) : (pl n s l).2.length ≤ n := by
  unfold pl
  split
  · exact Nat.zero_le _
  · simp only [List.length_append, List.length_take]
    omega
theorem foldl_le {n : Nat} : ∀ (L : List (List UInt8)) (s : List (List UInt8) × List UInt8), s.2.length ≤ n → (L.foldl (pl n) s).2.length ≤ n
  | [], _, h => h
  | l :: L, s, h => foldl_le L (pl n s l) (pl_le h l)
theorem pushF_le {n : Nat} {r : List UInt8} (h : r.length ≤ n) (L : List (List UInt8)) : (pushF n r L).2.length ≤ n := foldl_le L ([], r) h
theorem pl_len (n : Nat) (s : List (List UInt8) × List UInt8) (l : List UInt8) : (pl n s l).1.length ≤ s.1.length + 1 := by
  unfold pl
  split
  · simp
  · simp
theorem foldl_len {n : Nat} : ∀ (L : List (List UInt8)) (s : List (List UInt8) × List UInt8), (L.foldl (pl n) s).1.length ≤ s.1.length + L.length
  | [], _ => Nat.le_refl _
  | l :: L, s => by
    have h1 := foldl_len (n := n) L (pl n s l)
    have h2 := pl_len n s l
    simp only [List.foldl_cons, List.length_cons]
    omega
theorem pushF_len (n : Nat) (r : List UInt8) (L : List (List UInt8)) : (pushF n r L).1.length ≤ L.length := by
  have := foldl_len (n := n) L ([], r)
  simpa [pushF] using this
end Ln

/-- block f holds a feed of limit n that holds r; its bytes lie at or beyond block B -/
def Fd (w : World) (B f n : Nat) (r : List UInt8) : Prop :=
  ∃ v, w.heap[f]? = some (.cells #[.int .i64 (n : Int), v] 45 (0, 0)) ∧ w.ownsRow B 5 1 v r.length (Lib.byteCells r)
/-- what a call that writes feed f leaves: below B all but f; beyond it, whatever is no row of bytes -/
def Pw (B f : Nat) (w u : World) : Prop :=
  (u.os = w.os ∧ u.tape = w.tape ∧ u.output = w.output ∧ w.heap.size ≤ u.heap.size) ∧ (∀ k, k < B → k < w.heap.size → k ≠ f → u.heap[k]? = w.heap[k]?) ∧ Lib.OthersKept 5 (some f) w u
theorem Pw.refl (B f : Nat) (w : World) : Pw B f w w := ⟨⟨rfl, rfl, rfl, Nat.le_refl _⟩, fun _ _ _ _ => rfl, Lib.OthersKept.refl _ _ _⟩
theorem Pw.trans {B f : Nat} {w u t : World} (h : Pw B f w u) (k : Pw B f u t) : Pw B f w t :=
  ⟨⟨k.1.1.trans h.1.1, k.1.2.1.trans h.1.2.1, k.1.2.2.1.trans h.1.2.2.1, Nat.le_trans h.1.2.2.2 k.1.2.2.2⟩, fun i hi hw hf => (k.2.1 i hi (Nat.lt_of_lt_of_le hw h.1.2.2.2) hf).trans (h.2.1 i hi hw hf), h.2.2.trans k.2.2⟩
theorem Pw.below {B f : Nat} {w u : World} (h : Pw B f w u) (hf : B ≤ f) (hB : B ≤ w.heap.size) : Below B w u :=
  ⟨h.1.1, h.1.2.1, h.1.2.2.1, h.1.2.2.2, fun k hk => h.2.1 k hk (Nat.lt_of_lt_of_le hk hB) (by omega)⟩
/-- a step that turns one block -/
theorem Pw.grown {B f : Nat} {w u u' : World} {row : Option Nat} (h : Pw B f w u) (hg : u.grownBy u' row) (hr : ∀ b, row = some b → b = f ∨ w.heap.size ≤ b ∨ (B ≤ b ∧ ∃ c fz, u.heap[b]? = some (.cells c 5 fz))) : Pw B f w u' := by
  refine ⟨⟨hg.os.trans h.1.1, hg.tape.trans h.1.2.1, hg.output.trans h.1.2.2.1, Nat.le_trans h.1.2.2.2 hg.size⟩, fun k hk hw hf => ?_, fun k o hk hf hx => ?_⟩
  · refine (hg.block k (Nat.lt_of_lt_of_le hw h.1.2.2.2) (fun e => ?_)).trans (h.2.1 k hk hw hf)
    rcases hr k e.symm with h1 | h1 | ⟨h1, _⟩ <;> omega
  · have h1 := h.2.2 k o hk hf hx
    refine (hg.block k (blk_lt h1) (fun e => ?_)).trans h1
    rcases hr k e.symm with h2 | h2 | ⟨_, c, fz, h2⟩
    · exact hf (by rw [h2])
    · have := blk_lt hk; omega
    · rw [h1] at h2
      exact hx c fz (Option.some.inj h2)

/-- between two lines of a Push that began in world w -/
def PS (w : World) (B f n : Nat) (r : List UInt8) (outs : List (List UInt8)) (v vo : Value) (u : World) : Prop :=
  (u.heap[f]? = some (.cells #[.int .i64 (n : Int), v] 45 (0, 0)) ∧ u.ownsRow B 5 1 v r.length (Lib.byteCells r)) ∧
  (Boxed u w.heap.size 29 (.pointer (some ⟨f, 0, none⟩)) ∧ Boxed u (w.heap.size + 1) 24 vo ∧ u.ownsRow (w.heap.size + 3) 9 1 vo outs.length (outs.map sv) ∧ ∃ t, Boxed u (w.heap.size + 2) 9 t) ∧ Pw B f w u
theorem row_block {w : World} {B n s : Nat} {e : TypeId} {v : Value} {xs : List Value} (h : w.ownsRow B e s v n xs) {b : Nat} (hb : v.ownBlock = some b) : B ≤ b ∧ ∃ cur, w.heap[b]? = some (.cells cur e (0, 0)) := by
  rcases h.2 with ⟨rfl, _⟩ | ⟨g, cap, cur, rfl, hB, hg, _⟩
  · cases hb
  · obtain rfl : g = b := by simpa [Value.ownBlock] using hb
    exact ⟨hB, cur, hg⟩
theorem row_kept {w w' : World} {B n s : Nat} {e : TypeId} {v : Value} {xs : List Value} {row : Option Nat} (h : w.ownsRow B e s v n xs) (hg : w.grownBy w' row) (hne : ∀ b, row = some b → v.ownBlock ≠ some b) : w'.ownsRow B e s v n xs := by
  refine h.kept hg ?_
  cases hv : v.ownBlock with
  | none => exact .inl rfl
  | some b => exact .inr (fun e => hne b e.symm hv)
section
variable {w u u' u1 : World} {B f n : Nat} {r r' : List UInt8} {outs : List (List UInt8)} {v vo v' vo' : Value}
theorem PS.keep {row : Option Nat} (h : PS w B f n r outs v vo u) (hf : f < w.heap.size) (hg : u.grownBy u' row) (hr : ∀ b, row = some b → w.heap.size + 2 < b ∧ v.ownBlock ≠ some b ∧ vo.ownBlock ≠ some b) : PS w B f n r outs v vo u' := by
  obtain ⟨⟨h1, h2⟩, ⟨h3, h4, h5, t, h6⟩, h7⟩ := h
  refine ⟨⟨(hg.block f (blk_lt h1) (fun e => by have := (hr f e.symm).1; omega)).trans h1, row_kept h2 hg (fun b e => (hr b e).2.1)⟩, ⟨h3.kept hg (fun e => by have := (hr _ e.symm).1; omega), h4.kept hg (fun e => by have := (hr _ e.symm).1; omega), row_kept h5 hg (fun b e => (hr b e).2.2), t, h6.kept hg (fun e => by have := (hr _ e.symm).1; omega)⟩, h7.grown hg (fun b e => .inr (.inl (by have := (hr b e).1; omega)))⟩
theorem PS.drew (h : PS w B f n r outs v vo u) : PS w B f n r outs v vo u.drew := h
theorem PS.setBn (h : PS w B f n r outs v vo u) (hf : f < w.heap.size) (x : Value) : PS w B f n r outs v vo (u.setCell ⟨w.heap.size + 2, 0, none⟩ x) := by
  obtain ⟨⟨h1, h2⟩, ⟨h3, h4, h5, t, h6⟩, h7⟩ := h
  have hg := grownBy_setCell' u (w.heap.size + 2) x
  refine ⟨⟨(hg.block f (blk_lt h1) (fun e => by injection e with e; omega)).trans h1, row_kept h2 hg (fun b e hb => ?_)⟩, ⟨h3.other (by omega) x, h4.other (by omega) x, row_kept h5 hg (fun b e hb => ?_), x, h6.set x⟩, h7.grown hg (fun b e => .inr (.inl (by injection e with e; omega)))⟩
  · injection e with e
    subst e
    obtain ⟨_, cur, hc⟩ := row_block h2 hb
    rw [show u.heap[w.heap.size + 2]? = _ from h6] at hc
    simp at hc
  · injection e with e
    have := (row_block h5 hb).1
    omega
theorem blk_set1 {W : World} {b : Nat} {t : TypeId} {x y : Value} (h : W.heap[b]? = some (.cells #[x, y] t (0, 0))) (z : Value) : (W.setCell ⟨b, 1, none⟩ z).heap[b]? = some (.cells #[x, z] t (0, 0)) := by
  have := blk_set h 1 z
  simpa using this
theorem set1_grown (W : World) (b : Nat) (z : Value) : W.grownBy (W.setCell ⟨b, 1, none⟩ z) (some b) := grown_set (grown_refl W (some b)) 1 z
theorem PS.feed_ne (h : PS w B f n r outs v vo u) : v.ownBlock ≠ some f := fun e => by
  obtain ⟨_, cur, hc⟩ := row_block h.1.2 e
  rw [h.1.1] at hc
  simp at hc
/-- behind the append to the feed's bytes, ahead of the store -/
theorem PS.mid (h : PS w B f n r outs v vo u) (hg : u.grownBy u1 v.ownBlock) : u1.heap[f]? = some (.cells #[.int .i64 (n : Int), v] 45 (0, 0)) ∧
    (Boxed u1 w.heap.size 29 (.pointer (some ⟨f, 0, none⟩)) ∧ Boxed u1 (w.heap.size + 1) 24 vo ∧ u1.ownsRow (w.heap.size + 3) 9 1 vo outs.length (outs.map sv) ∧ ∃ t, Boxed u1 (w.heap.size + 2) 9 t) ∧ Pw B f w u1 := by
  have hne := h.feed_ne
  obtain ⟨⟨h1, h2⟩, ⟨h3, h4, h5, t, h6⟩, h7⟩ := h
  have hcell : ∀ (b : Nat) (c : Array Value) (t : TypeId), u.heap[b]? = some (.cells c t (0, 0)) → t ≠ 5 → some b ≠ v.ownBlock := fun b c t hb ht e => by
    obtain ⟨_, cur, hc⟩ := row_block h2 e.symm
    rw [hb] at hc
    simp at hc
    exact ht hc.2
  refine ⟨(hg.block f (blk_lt h1) (fun e => hne e.symm)).trans h1, ⟨h3.kept hg (hcell _ _ _ h3 (by decide)), h4.kept hg (hcell _ _ _ h4 (by decide)), row_kept h5 hg (fun b e hb => ?_), t, h6.kept hg (hcell _ _ _ h6 (by decide))⟩, h7.grown hg (fun b e => .inr (.inr ?_))⟩
  · obtain ⟨_, cur, hc⟩ := row_block h5 hb
    exact hcell b _ _ hc (by decide) e.symm
  · obtain ⟨hB, cur, hc⟩ := row_block h2 e
    exact ⟨hB, cur, _, hc⟩
theorem PS.stored (h1 : u1.heap[f]? = some (.cells #[.int .i64 (n : Int), v] 45 (0, 0)))
    (h2 : Boxed u1 w.heap.size 29 (.pointer (some ⟨f, 0, none⟩)) ∧ Boxed u1 (w.heap.size + 1) 24 vo ∧ u1.ownsRow (w.heap.size + 3) 9 1 vo outs.length (outs.map sv) ∧ ∃ t, Boxed u1 (w.heap.size + 2) 9 t) (h3 : Pw B f w u1) (hf : f < w.heap.size)
    (ho : u1.ownsRow B 5 1 v' r'.length (Lib.byteCells r')) : PS w B f n r' outs v' vo (u1.setCell ⟨f, 1, none⟩ v') := by
  obtain ⟨h3', h4, h5, t, h6⟩ := h2
  have hg := set1_grown u1 f v'
  refine ⟨⟨blk_set1 h1 v', row_kept ho hg (fun b e hb => ?_)⟩, ⟨h3'.kept hg (fun e => by injection e with e; omega), h4.kept hg (fun e => by injection e with e; omega), row_kept h5 hg (fun b e hb => ?_), t, h6.kept hg (fun e => by injection e with e; omega)⟩, h3.grown hg (fun b e => .inl (by injection e with e; exact e.symm))⟩
  · injection e with e
    subst e
    obtain ⟨_, cur, hc⟩ := row_block ho hb
    rw [h1] at hc
    simp at hc
  · injection e with e
    have := (row_block h5 hb).1
    omega
theorem PS.app (h : PS w B f n r outs v vo u) (hf : f < w.heap.size) (hg : u.grownBy u1 v.ownBlock) (ho : u1.ownsRow B 5 1 v' r'.length (Lib.byteCells r')) : PS w B f n r' outs v' vo (u1.setCell ⟨f, 1, none⟩ v') :=
  PS.stored (h.mid hg).1 (h.mid hg).2.1 (h.mid hg).2.2 hf ho
/-- the feed's bytes are cut to none -/
theorem PS.cut {A : Option Addr} {m c : Nat} (h : PS w B f n r outs (.slice A m c) vo u) (hf : f < w.heap.size) : PS w B f n [] outs (.slice A 0 c) vo (u.setCell ⟨f, 1, none⟩ (.slice A 0 c)) := by
  refine PS.stored h.1.1 h.2.1 h.2.2 hf ?_
  rcases h.1.2.2 with ⟨hv, _⟩ | ⟨g, cap, cur, hv, hB, hg, _, hm, hs, _⟩
  · injection hv with h1 h2 h3
    subst h1; subst h3
    exact World.ownsRow_nil _ _ _ _
  · injection hv with h1 h2 h3
    subst h1; subst h3
    exact ⟨rfl, .inr ⟨g, c, cur, rfl, hB, hg, Nat.zero_le _, hm, hs, by simp [Lib.byteCells]⟩⟩
/-- a line is told -/
theorem PS.told {x : List UInt8} {o : Obj} (h : PS w B f n r outs v vo u) (hf : f < w.heap.size) (hg : (u.alloc o).grownBy u1 vo.ownBlock) (ho : u1.ownsRow (w.heap.size + 3) 9 1 vo' (outs ++ [x]).length ((outs ++ [x]).map sv)) :
    (Boxed u1 (w.heap.size + 1) 24 vo ∧ Boxed u1 w.heap.size 29 (.pointer (some ⟨f, 0, none⟩)) ∧ u1.heap[f]? = some (.cells #[.int .i64 (n : Int), v] 45 (0, 0)) ∧ u1.ownsRow B 5 1 v r.length (Lib.byteCells r)) ∧
    PS w B f n r (outs ++ [x]) v vo' (u1.setCell ⟨w.heap.size + 1, 0, none⟩ vo') := by
  obtain ⟨⟨h1, h2⟩, ⟨h3, h4, h5, t, h6⟩, h7⟩ := h
  have ha := World.grownBy_alloc u o none
  have hb5 := fun b (e : vo.ownBlock = some b) => row_block h5 e
  have hcell : ∀ (b : Nat), b < w.heap.size + 3 → some b ≠ vo.ownBlock := fun b hb e => by have := (hb5 b e.symm).1; omega
  have g1 := (hg.block f (by have := blk_lt h1; simp; omega) (hcell f (by omega))).trans ((Below.heap_alloc u o f (blk_lt h1)).trans h1)
  have g2 := row_kept (row_kept h2 ha (fun b e => by cases e)) hg (fun b e hb => by
    obtain ⟨_, cur, hc⟩ := row_block h2 hb
    obtain ⟨_, cur2, hc2⟩ := hb5 b e
    rw [hc] at hc2
    simp at hc2)
  have g3 := (h3.alloc o).kept hg (hcell _ (by omega))
  have g4 := (h4.alloc o).kept hg (hcell _ (by omega))
  have g6 := (h6.alloc o).kept hg (hcell _ (by omega))
  have g7 := (h7.grown ha (fun b e => by cases e)).grown hg (fun b e => .inr (.inl (by have := (hb5 b e).1; omega)))
  have hs := grownBy_setCell' u1 (w.heap.size + 1) vo'
  refine ⟨⟨g4, g3, g1, g2⟩, ⟨(hs.block f (blk_lt g1) (fun e => by injection e with e; omega)).trans g1, row_kept g2 hs (fun b e hb => ?_)⟩, ⟨g3.other (by omega) vo', g4.set vo', row_kept ho hs (fun b e hb => ?_), t, g6.other (by omega) vo'⟩, g7.grown hs (fun b e => .inr (.inl (by injection e with e; omega)))⟩
  · injection e with e
    subst e
    obtain ⟨_, cur, hc⟩ := row_block g2 hb
    rw [show u1.heap[w.heap.size + 1]? = _ from g4] at hc
    simp at hc
  · injection e with e
    have := (row_block ho hb).1
    omega
end
end Go.Proofs.Ytjllmhnicmonbaa
