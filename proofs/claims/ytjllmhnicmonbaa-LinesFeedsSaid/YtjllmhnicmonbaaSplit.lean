/- Walk: the lines of a string, collected. -/
import Derived.Test.YtjllmhnicmonbaaAll
import Derived.Maps.AppendAt
namespace Go.Proofs.Ytjllmhnicmonbaa
open Go Go.RowKit Go.Shelf
attribute [local go_sem] Oper.semAt_some

namespace Ln
theorem len_le : ∀ (L : List (List UInt8)), (∀ l ∈ L, l ≠ []) → L.length ≤ L.flatten.length
  | [], _ => Nat.le_refl _
  | l :: r, h => by
    have h1 := List.length_pos_iff.2 (h l (by simp))
    have h2 := len_le r (fun x hx => h x (by simp [hx]))
    rw [List.flatten_cons, List.length_append, List.length_cons]
    omega
theorem lns_len (s : List UInt8) : (lns s).length ≤ s.length := by
  have h := len_le (lns s) (fun l hl => ne_nil (lns_mem hl))
  rwa [flat] at h
end Ln
theorem own_base {w : World} {B B' n s : Nat} {e : TypeId} {v : Value} {xs : List Value} (h : w.ownsRow B e s v n xs) (hb : B' ≤ B) : w.ownsRow B' e s v n xs := by
  refine ⟨h.1, ?_⟩
  rcases h.2 with h2 | ⟨g, cap, cur, hv, hg, r⟩
  · exact .inl h2
  · exact .inr ⟨g, cap, cur, hv, Nat.le_trans hb hg, r⟩
theorem infoStr : (Try.prog.info? 9).map (fun i => (i.zero, i.size, i.bytes)) = some (some (.string ⟨#[]⟩), 1, 16) := by kernel_rfl
/-- a string of bytes as a value -/
def sv (l : List UInt8) : Value := .string (bs l)
/-- a row of strings that the call has made -/
def RowS (B : Nat) (L : List (List UInt8)) (w : World) (e : Ending) (w' : World) : Prop :=
  ∃ v, e = .returned v ∧ w'.ownsRow B 9 1 v L.length (L.map sv) ∧ Below B w w'
set_option maxHeartbeats 4000000 in
set_option maxRecDepth 100000 in
theorem AppendSeq_c (B Bn : Nat) (s : ByteArray) (hs : s.size ≤ 1000000) (w : World) (hb : Boxed w Bn 9 (.string s)) (hB : B ≤ Bn) :
    Calls Try.prog 36 #[.slice none 0 0, .func (.func 37) #[] #[.pointer (some ⟨Bn, 0, none⟩)]] w (RowS B (Ln.lns s.data.toList) w) := by
  obtain ⟨i0, hi, hz0, hz1, hz2⟩ := info_parts infoStr
  have hBn := hb.lt
  have hln : (Ln.lns s.data.toList).length ≤ 1000000 := Nat.le_trans (Ln.lns_len _) hs
  refine (callsIn_wide (n := 5)).1 ?_
  refine callsIn_of_wp_marks Try.func36 rfl trivial ?_ rfl
  simp only [Try.ntmps36, List.size_toArray, List.length_cons, List.length_nil, Nat.reduceAdd, Nat.reduceSub, Array.replicate_succ, Array.replicate_zero, List.push_toArray, List.append_toArray, List.nil_append, List.cons_append]
  gi_wp2
  have bO := Boxed.new w 24 (.slice none 0 0)
  have hB0 : Below w.heap.size w (w.alloc (.cells #[.slice none 0 0] 24)) := (Below.refl _ w).alloc (Nat.le_refl _) _
  refine wpIn_rangeFunc_cell (F := Fence.wide) (n := 5) rfl (by decide) (gf := 37) (lb := #[.pointer (some ⟨Bn, 0, none⟩)]) rfl trivial (enters_of Try.func37 (by kernel_rfl) rfl)
    (all1_gives (5 - 1) (by decide) Bn s hs) (by simp; omega) (fun W hW => hW.trans (hb.alloc _)) (fun _ => rfl)
    (fun pre W => (∃ v, Boxed W w.heap.size 24 v ∧ W.ownsRow w.heap.size 9 1 v pre.length (pre.map sv)) ∧ Below B w W)
    (OwnFrom.and ?own (ownFrom_below (Nat.le_trans hB (Nat.le_of_lt hBn)) (by simp; omega))) ?cell ⟨⟨_, bO, World.ownsRow_nil _ _ _ _⟩, hB0.mono (by omega)⟩
    (fun x => { tmps := #[.slice none 0 0, .func (.func 37) #[] #[.pointer (some ⟨Bn, 0, none⟩)], .pointer (some ⟨w.heap.size, 0, none⟩), undef, .slice none 0 0, .string (bs x), .func (.func 37) #[] #[.pointer (some ⟨Bn, 0, none⟩)], .string (bs x), undef, undef, undef, undef, undef], defers := [] }) ?assign ?body ?done
  case own =>
    rintro pre X Y row ⟨v, hv, hr⟩ hg hrow
    refine ⟨v, hv.kept hg (fun e' => ?_), hr.kept hg ?_⟩
    · obtain ⟨_, o, ho, hc⟩ := hrow w.heap.size e'.symm
      rw [show X.heap[w.heap.size]? = _ from hv] at ho; cases ho; cases hc
    · rcases hr.2 with ⟨rfl, _⟩ | ⟨g, cap, cur, rfl, _, hgb, _⟩
      · exact .inl rfl
      · refine .inr fun e' => ?_
        obtain ⟨_, o, ho, hc⟩ := hrow g (by simpa [Value.ownBlock] using e'.symm)
        rw [hgb] at ho; cases ho; cases hc
  case cell =>
    rintro pre W u ⟨⟨v, hv, hr⟩, hb2⟩
    refine ⟨⟨v, hv.other (by omega) u, hr.kept (grownBy_setCell' W Bn u) ?_⟩, hb2.setCell (p := ⟨Bn, 0, none⟩) hB u⟩
    rcases hr.2 with ⟨rfl, _⟩ | ⟨g, cap, cur, rfl, hbg, hgb, _⟩
    · exact .inl rfl
    · refine .inr fun e' => ?_
      simp [Value.ownBlock] at e'
      omega
  case assign =>
    intro l x W K hK
    gi_wp2
    exact hK
  case body =>
    rintro l pre x post W hx ⟨⟨v, hv, hrow⟩, hBB⟩
    have hc := hv.cell
    have hpl : pre.length + 1 ≤ 1000000 := by
      have := congrArg List.length hx
      simp only [List.length_append, List.length_cons] at this
      omega
    have hlt := hv.lt
    clear hx
    gi_wp2_with (gi_at_builtin; refine wpListIn_append_own _ rfl _ _ 24 rfl w.heap.size 9 i0 (.string ⟨#[]⟩) 1 16 Try.underlying24 hi hz0 hz1 hz2 rfl (by decide) _ _ _ rfl (hrow.alloc _) ⟨W.heap.size, 0, none⟩ 1 1 [.string (bs x)] rfl rfl (cell_one_new _ _ _) (by simp [Value.oneCell']) (by unfold maxLen; omega) (by omega) (by simp; omega) ?_; intro v' w1 hown' hgrow _; obtain ⟨g', cap', rfl⟩ := ownsRow_succ hown'; obtain ⟨hv1, hv2, hr2, hk2, hb2⟩ := hv.appended (by decide) hrow (Nat.le_of_lt hlt) (Nat.le_refl _) hown' hgrow; have hc1 := hv1.cell; have hf1 := hv1.frozen)
    exact ⟨(hk2.from _).same, hb2.block Bn hBn, ⟨_, hv2, by rw [List.length_append, List.map_append]; exact hr2⟩, hBB.trans (hb2.mono (by omega))⟩
  case done =>
    rintro D W hD ⟨⟨v, hv, hrow⟩, hBB⟩ hK
    have hc := hv.cell
    gi_wp2
    refine ⟨by simp, .inl ⟨_, _, rfl, run_takeDeferred hK, ?_⟩⟩
    exact ⟨_, results_tmp rfl _ _ _, v, rfl, ownsRow_putObj (own_base hrow (by omega)) _ hK rfl, hBB.trans (belowK_b (n₀ := B) (w := w) (by omega) W D _ _ (by simp at hD; omega) hK rfl rfl)⟩
theorem all_c (s : ByteArray) (w : World) :
    Calls Try.prog 27 #[.string s] w fun e w' => e = .returned (.func (.func 37) #[] #[.pointer (some ⟨w.heap.size, 0, none⟩)]) ∧ w' = w.alloc (.cells #[.string s] 9) := by
  go_enter Try.func27, Try.ntmps27
  go_wp2_with fail
  go_ret
  exact ⟨rfl, rfl⟩
theorem Collect_c (B Bn : Nat) (s : ByteArray) (hs : s.size ≤ 1000000) (w : World) (hb : Boxed w Bn 9 (.string s)) (hB : B ≤ Bn) :
    Calls Try.prog 26 #[.func (.func 37) #[] #[.pointer (some ⟨Bn, 0, none⟩)]] w (RowS B (Ln.lns s.data.toList) w) := by
  have H := Lib.hid (AppendSeq_c B Bn s hs w hb hB)
  clear hb
  go_enter Try.func26, Try.ntmps26
  go_wp2_with fail
  refine H.out.mono ?_
  rintro e w1 ⟨v, rfl, h⟩
  go_wp2_with fail
  go_ret
  exact ⟨v, rfl, h⟩
theorem Split_c (s : ByteArray) (hs : s.size ≤ 1000000) (w : World) :
    Calls Try.prog 11 #[.string s] w (RowS w.heap.size (Ln.lns s.data.toList) w) := by
  have H := Lib.hid (Collect_c w.heap.size w.heap.size s hs _ (Boxed.new w 9 (.string s)) (Nat.le_refl _))
  go_enter Try.func11, Try.ntmps11
  go_wp2_with fail
  refine (all_c s w).mono ?_
  rintro e w1 ⟨rfl, rfl⟩
  go_wp2_with fail
  refine H.out.mono ?_
  rintro e w1 ⟨v, rfl, h1, h2⟩
  go_wp2_with fail
  go_ret
  exact ⟨v, rfl, h1, ((Below.refl _ w).alloc (Nat.le_refl _) _).trans h2⟩
end Go.Proofs.Ytjllmhnicmonbaa
