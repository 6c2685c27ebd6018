/- Walks: union, copied. -/
import Derived.Test.YtijbkflbklbemaaUnion
import Derived.Test.YtijbkflbklbemaaShelf
namespace Go.Proofs.Ytijbkflbklbemaa
open Go.RowKit

theorem mrg_len {α : Type} {key : α → Int} : ∀ (a b : List α), (Po.mrg key a b).length ≤ a.length + b.length
  | [], [] => by simp [Po.mrg]
  | x :: a, [] => by have := mrg_len (key := key) a []; rw [Po.mrg]; simp at this ⊢; omega
  | [], y :: b => by have := mrg_len (key := key) [] b; rw [Po.mrg]; simp at this ⊢; omega
  | x :: a, y :: b => by
    rw [Po.mrg]
    split
    · have := mrg_len (key := key) a (y :: b); simp at this ⊢; omega
    · split
      · have := mrg_len (key := key) (x :: a) b; simp at this ⊢; omega
      · have := mrg_len (key := key) a b; simp at this ⊢; omega
termination_by a b => a.length + b.length
theorem mrg_some {α : Type} {key : α → Int} : ∀ (a b : List α), ∀ q ∈ Po.mrg key a b, q.1 ≠ none ∨ q.2 ≠ none
  | [], [] => by intro q hq; simp [Po.mrg] at hq
  | x :: a, [] => by
    intro q hq
    rw [Po.mrg] at hq
    rcases List.mem_cons.1 hq with rfl | hq
    · exact .inl (by simp)
    · exact mrg_some a [] q hq
  | [], y :: b => by
    intro q hq
    rw [Po.mrg] at hq
    rcases List.mem_cons.1 hq with rfl | hq
    · exact .inr (by simp)
    · exact mrg_some [] b q hq
  | x :: a, y :: b => by
    intro q hq
    rw [Po.mrg] at hq
    split at hq
    · rcases List.mem_cons.1 hq with rfl | hq
      · exact .inl (by simp)
      · exact mrg_some a (y :: b) q hq
    · split at hq
      · rcases List.mem_cons.1 hq with rfl | hq
        · exact .inr (by simp)
        · exact mrg_some (x :: a) b q hq
      · rcases List.mem_cons.1 hq with rfl | hq
        · exact .inl (by simp)
        · exact mrg_some a b q hq
termination_by a b => a.length + b.length

def w3 (w : World) (o1 o2 o3 : Obj) : World := ((w.alloc o1).alloc o2).alloc o3
theorem w3_size (w : World) (o1 o2 o3 : Obj) : (w3 w o1 o2 o3).heap.size = w.heap.size + 1 + 1 + 1 := by simp [w3]
theorem w3_below (w : World) (o1 o2 o3 : Obj) : Below w.heap.size w (w3 w o1 o2 o3) :=
  (((Below.refl _ w).alloc (Nat.le_refl _) o1).alloc (by simp) o2).alloc (by simp; omega) o3
theorem w3_res (w : World) (o1 o2 o3 : Obj) : (w3 w o1 o2 o3).heap[w.heap.size + 1 + 1]? = some o3 := by
  have := heap_alloc_new ((w.alloc o1).alloc o2) o3
  simpa [w3] using this
theorem unI_start (w : World) (o1 o2 o3 : Obj) (d : Int) : UnI (w3 w o1 o2 o3) (w.heap.size + 1 + 1 + 1) d [] ((w3 w o1 o2 o3).alloc (.cells #[.int .i64 d, .slice none 0 0] 40)) := by
  have hs := w3_size w o1 o2 o3
  refine ⟨⟨none, 0, 0, ?_, World.ownsRow_nil _ _ _ _⟩, (Below.refl _ _).alloc (Nat.le_refl _) _, by omega⟩
  rw [← hs]
  exact heap_alloc_new _ _
theorem filter_pre {α β : Type} {l m : List α} {q : α} (g : α → Option β) (h : (l ++ [q]) <+: m) : (l.filterMap g).length + 1 ≤ m.length ∧ q ∈ m := by
  have h1 := h.length_le
  have h2 := List.length_filterMap_le g l
  simp at h1
  exact ⟨by omega, h.subset (by simp)⟩
def see (q : Option Int × Option Int) : Option Int := Po.uf q.1 q.2
theorem see_snoc (l : List (Option Int × Option Int)) (x y : Option Int) (z : Int) (h : Po.uf x y = some z) : (l ++ [(x, y)]).filterMap see = l.filterMap see ++ [z] := by
  rw [List.filterMap_append]
  simp [see, h]

set_option maxHeartbeats 4000000 in
theorem union_c (d1 d2 : Int) (va vb : Value) (xs ys : List Int) (w : World) (ha : Seq w va (xs.map iv)) (hb : Seq w vb (ys.map iv)) (hx : xs.length ≤ 2199023255552) (hy : ys.length ≤ 2199023255552) :
    Calls Try.prog 26 #[.agg #[.int .i64 d1, va], .agg #[.int .i64 d2, vb]] w fun e w' =>
      ∃ A k c, e = .returned (.agg #[.int .i64 d1, .slice A k c]) ∧ w'.ownsRow w.heap.size 3 1 (.slice A k c) (Po.un xs ys).length ((Po.un xs ys).map iv) ∧ Below w.heap.size w w' := by
  have QA := Lib.hid ha
  have QB := Lib.hid hb
  obtain ⟨A1, c1, rfl, _⟩ := id ha
  obtain ⟨A2, c2, rfl, _⟩ := id hb
  clear ha hb
  have hlm := mrg_len (key := id) xs ys
  go_enter Try.func26, Try.ntmps26
  go_wp2_with fail
  have hw : (((w.alloc (.cells #[.int .i64 d1, .slice A1 xs.length c1] 40)).alloc (.cells #[.int .i64 d2, .slice A2 ys.length c2] 40)).alloc (.cells #[.int .i64 0, .slice none 0 0] 40)) = w3 w (.cells #[.int .i64 d1, .slice A1 xs.length c1] 40) (.cells #[.int .i64 d2, .slice A2 ys.length c2] 40) (.cells #[.int .i64 0, .slice none 0 0] 40) := rfl
  rw [hw]
  have hst := unI_start w (.cells #[.int .i64 d1, .slice A1 xs.length c1] 40) (.cells #[.int .i64 d2, .slice A2 ys.length c2] 40) (.cells #[.int .i64 0, .slice none 0 0] 40) d1
  have hbel := w3_below w (.cells #[.int .i64 d1, .slice A1 xs.length c1] 40) (.cells #[.int .i64 d2, .slice A2 ys.length c2] 40) (.cells #[.int .i64 0, .slice none 0 0] 40)
  have hres := w3_res w (.cells #[.int .i64 d1, .slice A1 xs.length c1] 40) (.cells #[.int .i64 d2, .slice A2 ys.length c2] 40) (.cells #[.int .i64 0, .slice none 0 0] 40)
  have hsz := w3_size w (.cells #[.int .i64 d1, .slice A1 xs.length c1] 40) (.cells #[.int .i64 d2, .slice A2 ys.length c2] 40) (.cells #[.int .i64 0, .slice none 0 0] 40)
  generalize w3 w _ _ _ = W at *
  have hA := QA.out.keep (w' := W) fun b hb => hbel.block b hb
  have hB := QB.out.keep (w' := W) fun b hb => hbel.block b hb
  rw [List.length_map] at hA hB
  refine (bothI_c _ _ xs ys _ W _ hA hB
    (fun l u => UnI W (w.heap.size + 1 + 1 + 1) d1 (l.filterMap see) u) hst (fun l u h => h.below) (fun l u n h => ⟨h.blk, h.below.trans ⟨rfl, rfl, rfl, Nat.le_refl _, fun _ _ => rfl⟩, h.lo⟩) ?_).mono ?_
  · intro l x y px py u h hx' hy' hp
    obtain ⟨hn, hq⟩ := filter_pre see hp
    have hs := mrg_some xs ys _ hq
    obtain ⟨z, hz⟩ : ∃ z, Po.uf x y = some z := by
      cases x with
      | some x => exact ⟨x, rfl⟩
      | none =>
        cases y with
        | some y => exact ⟨y, rfl⟩
        | none => simp at hs
    rw [see_snoc l x y z hz]
    exact union1_c _ _ d1 _ x y px py z u h hx' hy' hz (by omega)
  · rintro e u ⟨rfl, ⟨A, k, c, hb, ho⟩, hbe, hlo⟩
    have hr := (hbe.block _ (show w.heap.size + 1 + 1 < W.heap.size by omega)).trans hres
    have e0 : u.cell? ⟨w.heap.size + 1 + 1 + 1, 0, none⟩ = some (.int .i64 d1) := by rw [Lib.cell_of_heap hb]; rfl
    have e1 : u.cell? ⟨w.heap.size + 1 + 1 + 1, 1, none⟩ = some (.slice A k c) := by rw [Lib.cell_of_heap hb]; rfl
    have g0 : u.cell? ⟨w.heap.size + 1 + 1, 0, none⟩ = some (.int .i64 0) := by rw [Lib.cell_of_heap hr]; rfl
    have g1 : u.cell? ⟨w.heap.size + 1 + 1, 1, none⟩ = some (.slice none 0 0) := by rw [Lib.cell_of_heap hr]; rfl
    have f0 : u.frozen? ⟨w.heap.size + 1 + 1, 0, none⟩ = false := Lib.frozen_of_heap hr 0
    have f1 : u.frozen? ⟨w.heap.size + 1 + 1, 1, none⟩ = false := Lib.frozen_of_heap hr 1
    go_wp2_with fail
    have hz := heap_setCell_same _ _ 1 _ _ (.slice A k c) (heap_setCell_same _ _ 0 _ _ (.int .i64 d1) hr)
    refine ⟨rfl, _, results_cell_row rfl _ _ _ _ _ _ _ rfl hz Try.underlying40 rfl (by kernel_rfl), A, k, c, rfl, ?_, ?_⟩
    · have h1 := ho.kept (grown_set (grown_refl u (some (w.heap.size + 1 + 1))) 0 (.int .i64 d1)) (own_ne ho (by omega))
      have h2 := h1.kept (grown_set (grown_refl _ (some (w.heap.size + 1 + 1))) 1 (.slice A k c)) (own_ne h1 (by omega))
      have h3 := own_base h2 (b' := w.heap.size) (by omega)
      exact h3
    · exact ((hbel.trans (hbe.mono hbel.size)).setCell (by simp; omega) _).setCell (by simp; omega) _
end Go.Proofs.Ytijbkflbklbemaa
