/- Walk: copied. -/
import Derived.Test.YtijbkflbklbemaaUnion2
namespace Go.Proofs.Ytijbkflbklbemaa
open Go.RowKit

def w2 (w : World) (o1 o2 : Obj) : World := (w.alloc o1).alloc o2
theorem w2_size (w : World) (o1 o2 : Obj) : (w2 w o1 o2).heap.size = w.heap.size + 1 + 1 := by simp [w2]
theorem w2_below (w : World) (o1 o2 : Obj) : Below w.heap.size w (w2 w o1 o2) := ((Below.refl _ w).alloc (Nat.le_refl _) o1).alloc (by simp) o2
theorem w2_fst (w : World) (o1 o2 : Obj) : (w2 w o1 o2).heap[w.heap.size]? = some o1 := by
  unfold w2
  rw [Below.heap_alloc _ _ _ (by simp)]
  exact heap_alloc_new w o1
theorem w2_res (w : World) (o1 o2 : Obj) : (w2 w o1 o2).heap[w.heap.size + 1]? = some o2 := by
  have := heap_alloc_new (w.alloc o1) o2
  simpa [w2] using this
theorem clone_c (va : Value) (xs : List Int) (w : World) (ha : Seq w va (xs.map iv)) (hx : xs ≠ []) (hl : xs.length ≤ 2199023255552) :
    Calls Try.prog 52 #[va] w fun e w' => ∃ A k c, e = .returned (.slice A k c) ∧ w'.ownsRow w.heap.size 3 1 (.slice A k c) xs.length (xs.map iv) ∧ Below w.heap.size w w' := by
  obtain ⟨A, ca, rfl, hca, hma, ha⟩ := ha
  obtain ⟨b, o, rfl, hc⟩ := ha.resolve_left (by simpa using hx)
  rw [List.length_map]
  refine (Try.slices_Clone_int b o xs.length ca xs w (Nat.le_refl _) (by omega) (fun j hj => hc j _ (by rw [List.getElem?_map, List.getElem?_eq_getElem hj]; simp [iv, List.getD, hj]))).mono ?_
  rintro e w' ⟨v', rfl, ho, _, hb⟩
  obtain ⟨A2, k, c, rfl⟩ := own_slice ho
  refine ⟨A2, k, c, rfl, ?_, hb⟩
  rw [List.take_length] at ho
  exact ho

set_option maxHeartbeats 4000000 in
theorem copied_c (d : Int) (va : Value) (xs : List Int) (w : World) (ha : Seq w va (xs.map iv)) (hx : xs ≠ []) (hl : xs.length ≤ 2199023255552) :
    Calls Try.prog 28 #[.agg #[.int .i64 d, va]] w fun e w' =>
      ∃ A k c, e = .returned (.agg #[.int .i64 d, .slice A k c]) ∧ w'.ownsRow w.heap.size 3 1 (.slice A k c) xs.length (xs.map iv) ∧ Below w.heap.size w w' := by
  have QA := Lib.hid ha
  obtain ⟨A1, c1, rfl, _⟩ := id ha
  rw [List.length_map] at ha ⊢
  clear ha
  have HX := Lib.hid hx; clear hx
  go_enter Try.func28, Try.ntmps28
  go_wp2_with fail
  have hw : (w.alloc (.cells #[.int .i64 d, .slice A1 xs.length c1] 40)).alloc (.cells #[.int .i64 0, .slice none 0 0] 40) = w2 w (.cells #[.int .i64 d, .slice A1 xs.length c1] 40) (.cells #[.int .i64 0, .slice none 0 0] 40) := rfl
  rw [hw]
  have hbel := w2_below w (.cells #[.int .i64 d, .slice A1 xs.length c1] 40) (.cells #[.int .i64 0, .slice none 0 0] 40)
  have hfst := w2_fst w (.cells #[.int .i64 d, .slice A1 xs.length c1] 40) (.cells #[.int .i64 0, .slice none 0 0] 40)
  have hres := w2_res w (.cells #[.int .i64 d, .slice A1 xs.length c1] 40) (.cells #[.int .i64 0, .slice none 0 0] 40)
  have hsz := w2_size w (.cells #[.int .i64 d, .slice A1 xs.length c1] 40) (.cells #[.int .i64 0, .slice none 0 0] 40)
  clear hw
  generalize w2 w _ _ = W at *
  have hA := QA.out.keep (w' := W) fun b hb => hbel.block b hb
  rw [List.length_map] at hA
  refine (clone_c _ xs W hA HX.out hl).mono ?_
  rintro e u ⟨A, k, c, rfl, ho, hbe⟩
  have hf := (hbe.block _ (show w.heap.size < W.heap.size by omega)).trans hfst
  have hr := (hbe.block _ (show w.heap.size + 1 < W.heap.size by omega)).trans hres
  have e0 : u.cell? ⟨w.heap.size, 0, none⟩ = some (.int .i64 d) := by rw [Lib.cell_of_heap hf]; rfl
  have e1 : u.cell? ⟨w.heap.size, 1, none⟩ = some (.slice A1 xs.length c1) := by rw [Lib.cell_of_heap hf]; rfl
  have f1 : u.frozen? ⟨w.heap.size, 1, none⟩ = false := Lib.frozen_of_heap hf 1
  have g0 : u.cell? ⟨w.heap.size + 1, 0, none⟩ = some (.int .i64 0) := by rw [Lib.cell_of_heap hr]; rfl
  have g1 : u.cell? ⟨w.heap.size + 1, 1, none⟩ = some (.slice none 0 0) := by rw [Lib.cell_of_heap hr]; rfl
  have p0 : u.frozen? ⟨w.heap.size + 1, 0, none⟩ = false := Lib.frozen_of_heap hr 0
  have p1 : u.frozen? ⟨w.heap.size + 1, 1, none⟩ = false := Lib.frozen_of_heap hr 1
  go_wp2_with fail
  have hr' := (Below.heap_setCell u ⟨w.heap.size, 1, none⟩ (.slice A k c) (w.heap.size + 1) (by simp)).trans hr
  have hz := heap_setCell_same _ _ 1 _ _ (.slice A k c) (heap_setCell_same _ _ 0 _ _ (.int .i64 d) hr')
  refine ⟨rfl, _, results_cell_row rfl _ _ _ _ _ _ _ rfl hz Try.underlying40 rfl (by kernel_rfl), A, k, c, rfl, ?_, ?_⟩
  · have h0 := ho.kept (grown_set (grown_refl u (some w.heap.size)) 1 (.slice A k c)) (own_ne ho (by omega))
    have h1 := h0.kept (grown_set (grown_refl _ (some (w.heap.size + 1))) 0 (.int .i64 d)) (own_ne h0 (by omega))
    have h2 := h1.kept (grown_set (grown_refl _ (some (w.heap.size + 1))) 1 (.slice A k c)) (own_ne h1 (by omega))
    exact own_base h2 (b' := w.heap.size) (by omega)
  · exact (((hbel.trans (hbe.mono hbel.size)).setCell (by simp) _).setCell (by simp) _).setCell (by simp) _
end Go.Proofs.Ytijbkflbklbemaa
