/- Walks: the round constants and the initial state. -/
import Derived.Test.YtjijmgmobdoliaaSched
namespace Go.Proofs.Ytjijmgmobdoliaa
open Go.RowKit

namespace Sm
def K : List Nat := [1116352408, 1899447441, 3049323471, 3921009573, 961987163, 1508970993, 2453635748, 2870763221,
  3624381080, 310598401, 607225278, 1426881987, 1925078388, 2162078206, 2614888103, 3248222580,
  3835390401, 4022224774, 264347078, 604807628, 770255983, 1249150122, 1555081692, 1996064986,
  2554220882, 2821834349, 2952996808, 3210313671, 3336571891, 3584528711, 113926993, 338241895,
  666307205, 773529912, 1294757372, 1396182291, 1695183700, 1986661051, 2177026350, 2456956037,
  2730485921, 2820302411, 3259730800, 3345764771, 3516065817, 3600352804, 4094571909, 275423344,
  430227734, 506948616, 659060556, 883997877, 958139571, 1322822218, 1537002063, 1747873779,
  1955562222, 2024104815, 2227730452, 2361852424, 2428436474, 2756734187, 3204031479, 3329325298]
def H : List Nat := [1779033703, 3144134277, 1013904242, 2773480762, 1359893119, 2600822924, 528734635, 1541459225]
end Sm
abbrev KV : Array Value := #[.int .u32 1116352408, .int .u32 1899447441, .int .u32 3049323471, .int .u32 3921009573,
  .int .u32 961987163, .int .u32 1508970993, .int .u32 2453635748, .int .u32 2870763221,
  .int .u32 3624381080, .int .u32 310598401, .int .u32 607225278, .int .u32 1426881987,
  .int .u32 1925078388, .int .u32 2162078206, .int .u32 2614888103, .int .u32 3248222580,
  .int .u32 3835390401, .int .u32 4022224774, .int .u32 264347078, .int .u32 604807628,
  .int .u32 770255983, .int .u32 1249150122, .int .u32 1555081692, .int .u32 1996064986,
  .int .u32 2554220882, .int .u32 2821834349, .int .u32 2952996808, .int .u32 3210313671,
  .int .u32 3336571891, .int .u32 3584528711, .int .u32 113926993, .int .u32 338241895,
  .int .u32 666307205, .int .u32 773529912, .int .u32 1294757372, .int .u32 1396182291,
  .int .u32 1695183700, .int .u32 1986661051, .int .u32 2177026350, .int .u32 2456956037,
  .int .u32 2730485921, .int .u32 2820302411, .int .u32 3259730800, .int .u32 3345764771,
  .int .u32 3516065817, .int .u32 3600352804, .int .u32 4094571909, .int .u32 275423344,
  .int .u32 430227734, .int .u32 506948616, .int .u32 659060556, .int .u32 883997877,
  .int .u32 958139571, .int .u32 1322822218, .int .u32 1537002063, .int .u32 1747873779,
  .int .u32 1955562222, .int .u32 2024104815, .int .u32 2227730452, .int .u32 2361852424,
  .int .u32 2428436474, .int .u32 2756734187, .int .u32 3204031479, .int .u32 3329325298]
theorem KV_eq : KV = (Sm.K.map uv).toArray := by kernel_rfl
theorem KV_one : KV.all (·.oneCell') = true := by rw [KV_eq]; exact all_one Sm.K
theorem heap_setCells_at {b : Nat} {t : TypeId} : ∀ (vs old pre : List Value) {w : World}, w.heap[b]? = some (.cells (pre ++ old).toArray t (0, 0)) → old.length = vs.length → (w.setCells b pre.length vs).heap[b]? = some (.cells (pre ++ vs).toArray t (0, 0))
  | [], [], _, _, h, _ => h
  | v :: vs, o :: old, pre, w, h, hl => by
    have h1 := heap_setCell_same w b pre.length _ t v h
    rw [List.setIfInBounds_toArray, List.set_append_right _ _ (Nat.le_refl _), Nat.sub_self, List.set_cons_zero, show pre ++ v :: old = (pre ++ [v]) ++ old from by simp] at h1
    have h2 := heap_setCells_at vs old (pre ++ [v]) h1 (by simpa using hl)
    rw [show (pre ++ [v]).length = pre.length + 1 from by simp, show (pre ++ [v]) ++ vs = pre ++ v :: vs from by simp] at h2
    exact h2
theorem heap_setCells_full {b : Nat} {t : TypeId} (vs old : List Value) {w : World} (h : w.heap[b]? = some (.cells old.toArray t (0, 0))) (hl : old.length = vs.length) : (w.setCells b 0 vs).heap[b]? = some (.cells vs.toArray t (0, 0)) := heap_setCells_at vs old [] h hl
set_option maxHeartbeats 4000000 in
set_option maxRecDepth 100000 in
theorem table_c (w : World) : Calls Try.prog 32 #[] w fun e w' => e = .returned (.agg (Sm.K.map uv).toArray) ∧ Below w.heap.size w w' := by
  have hst : (w.alloc (.cells ((List.replicate 64 0).map uv).toArray 61)).heap[w.heap.size]? = some (.cells ((List.replicate 64 0).map uv).toArray 61 (0, 0)) := heap_alloc_new _ _
  have hth := there_of hst
  rw [show ((List.replicate 64 0).map uv).toArray.size = KV.size from by kernel_rfl] at hth
  have HTH := Lib.hid hth; clear hth
  have HST := Lib.hid hst; clear hst
  go_enter Try.func32, Try.ntmps32
  go_wp2_with (first
    | refine wpList_store_mid rfl 61 (.tmp 0) (.tmp 1) rfl w.heap.size 0 KV rfl rfl HTH.out (by kernel_rfl) KV_one ?_)
  have hh := heap_setCells_full KV.toList ((List.replicate 64 0).map uv) HST.out (by kernel_rfl)
  refine ⟨rfl, _, results_cell_row rfl _ _ _ _ _ _ _ rfl hh Try.underlying61 rfl (by kernel_rfl), ?_, ?_⟩
  · rw [← KV_eq]
  · exact below_setCells _ 0 ((Below.refl _ _).alloc (Nat.le_refl _) _) (Nat.le_refl _)
theorem first_c (w : World) : Calls Try.prog 21 #[] w fun e w' => e = .returned (.agg (Sm.H.map uv).toArray) ∧ Below w.heap.size w w' := by
  go_enter Try.func21, Try.ntmps21
  go_wp2_with fail
  refine ⟨rfl, _, results_cell_row rfl _ _ _ _ _ _ _ rfl (heap_alloc_new _ _) Try.underlying45 rfl (by kernel_rfl), ?_, ?_⟩
  · rfl
  · exact (Below.refl _ _).alloc (Nat.le_refl _) _
end Go.Proofs.Ytjijmgmobdoliaa
