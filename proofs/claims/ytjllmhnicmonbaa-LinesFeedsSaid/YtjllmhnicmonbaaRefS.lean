/- Walks: the reference's lines. -/
import Derived.Test.YtjllmhnicmonbaaApp
namespace Go.Proofs.Ytjllmhnicmonbaa
open Go Go.RowKit

namespace Ln
theorem drop_found {s : List UInt8} {f i : Nat} (h : 10 ∉ (s.drop f).take (i - f)) (hf : f ≤ i) (hi : i < s.length) (hc : s.getD i 0 = 10) : lns (s.drop f) = ((s.drop f).take (i + 1 - f)) :: lns (s.drop (i + 1)) := by
  have e1 : s.drop f = (s.drop f).take (i - f) ++ 10 :: s.drop (i + 1) := by
    have h1 := List.take_append_drop (i - f) (s.drop f)
    rw [List.drop_drop, show f + (i - f) = i from by omega, List.drop_eq_getElem_cons hi] at h1
    rw [List.getD_eq_getElem?_getD, List.getElem?_eq_getElem hi] at hc
    simp only [Option.getD_some] at hc
    rw [hc] at h1
    exact h1.symm
  have e2 : (s.drop f).take (i + 1 - f) = (s.drop f).take (i - f) ++ [10] := by
    rw [show i + 1 - f = (i - f) + 1 from by omega, List.take_succ_eq_append_getElem (by rw [List.length_drop]; omega), List.getElem_drop]
    congr 2
    rw [List.getD_eq_getElem?_getD, List.getElem?_eq_getElem hi] at hc
    simp only [Option.getD_some] at hc
    rw [← hc]
    congr 1
    omega
  rw [e2]
  conv => lhs; rw [e1]
  exact lns_found _ _ h
theorem take_more {s : List UInt8} {f i : Nat} (h : 10 ∉ (s.drop f).take (i - f)) (hf : f ≤ i) (hi : i < s.length) (hc : s.getD i 0 ≠ 10) : 10 ∉ (s.drop f).take (i + 1 - f) := by
  rw [show i + 1 - f = (i - f) + 1 from by omega, List.take_succ_eq_append_getElem (by rw [List.length_drop]; omega), List.getElem_drop]
  intro e
  rcases List.mem_append.1 e with e | e
  · exact h e
  · apply hc
    rw [List.getD_eq_getElem?_getD, List.getElem?_eq_getElem hi]
    have := List.mem_singleton.1 e
    simp only [Option.getD_some]
    rw [this]
    congr 1
    omega
end Ln
theorem extract_at (s : ByteArray) (f i : Nat) : s.extract f i = bs ((s.data.toList.drop f).take (i - f)) := by
  refine bs_of ?_
  rw [Lib.extract_data]
theorem cell_one_new (w : World) (v : Value) (t : TypeId) : ∀ j u, [v][j]? = some u → (w.alloc (.cells #[v] t)).cell? ((⟨w.heap.size, 0, none⟩ : Addr).add j) = some u := by
  intro j u hj
  match j, hj with
  | 0, hj => simp at hj; subst hj; simp [Addr.add]
theorem cell_two_new (w : World) (x y : Value) (t : TypeId) : ∀ j u, [x, y][j]? = some u → (w.alloc (.cells #[x, y] t)).cell? ((⟨w.heap.size, 0, none⟩ : Addr).add j) = some u := by
  intro j u hj
  have hh := heap_alloc_new w (.cells #[x, y] t)
  match j, hj with
  | 0, hj => simp at hj; subst hj; simp [Addr.add, Lib.cell_of_heap hh]
  | 1, hj => simp at hj; subst hj; simp [Addr.add, Lib.cell_of_heap hh]
theorem row_snoc {w : World} {B : Nat} {v : Value} {L : List (List UInt8)} {x : List UInt8} (h : w.ownsRow B 9 1 v (L.length + 1) (L.map sv ++ [.string (bs x)])) : w.ownsRow B 9 1 v (L ++ [x]).length ((L ++ [x]).map sv) := by
  rw [List.length_append, List.map_append]
  exact h
set_option maxHeartbeats 8000000 in
set_option maxRecDepth 100000 in
theorem RSplit_c (s : ByteArray) (hs : s.size ≤ 1000000) (w : World) :
    Calls Try.prog 12 #[.string s] w (RowS w.heap.size (Ln.lns s.data.toList) w) := by
  obtain ⟨i0, hi, hz0, hz1, hz2⟩ := info_parts infoStr
  have hsl : s.data.toList.length = s.size := rfl
  have hll := Ln.lns_len s.data.toList
  have hby : ∀ k (h : k < s.size), s[k] = s.data.toList.getD k 0 := fun k h => by
    rw [List.getD_eq_getElem?_getD, List.getElem?_eq_getElem (by rw [hsl]; exact h)]
    rfl
  have hex := extract_at s
  have HBY := Lib.hid hby
  have HEX := Lib.hid hex
  have HSL := Lib.hid hsl
  have hlim : (Ln.lns s.data.toList).length ≤ 1000000 := by omega
  clear hby hex hll hsl
  go_enter Try.func12, Try.ntmps12
  go_wp2_with fail
  go_loopw [3, 4, 5] (fun v fv iv wr => ∃ (f i : Nat) (O : List (List UInt8)), f ≤ i ∧ i ≤ s.size ∧ fv = .int .i64 f ∧ iv = .int .i64 i ∧ O.length ≤ f ∧ Hid (wr.ownsRow w.heap.size 9 1 v O.length (O.map sv)) ∧ Hid (O ++ Ln.lns (s.data.toList.drop f) = Ln.lns s.data.toList) ∧ Hid (10 ∉ (s.data.toList.drop f).take (i - f)) ∧ Hid (Below w.heap.size w wr)) (fun _ _ iv _ => s.size - (intOf iv).toNat)
  case atStart => exact ⟨0, 0, [], by omega, by omega, rfl, rfl, by simp, Lib.hid (World.ownsRow_nil _ _ _ _), Lib.hid rfl, Lib.hid (by simp), Lib.hid (Below.refl _ _)⟩
  case round =>
    obtain ⟨f, i, O, hfi, his, rfl, rfl, hOf, HO, HE, HN, HB⟩ := hrel
    have hwz := HB.out.size
    obtain ⟨A0, c0, rfl⟩ := own_len HO.out
    have f0 : (0 : Int) ≤ (f : Int) := by omega
    have i0' : (0 : Int) ≤ (i : Int) := by omega
    by_cases k1 : i < s.size
    · have hb := HBY.out i k1
      have i1 : (i : Int) < (s.size : Int) := by omega
      by_cases h10 : s.data.toList.getD i 0 = 10
      · have e1 : ((s[i].toNat : Int) == 10) = true := by rw [hb, h10]; rfl
        have hil : i < s.data.toList.length := by rw [HSL.out]; exact k1
        have hf := Ln.drop_found HN.out hfi hil h10
        have hx := HEX.out f (i + 1)
        have hnew : (O ++ [(s.data.toList.drop f).take (i + 1 - f)]) ++ Ln.lns (s.data.toList.drop (i + 1)) = Ln.lns s.data.toList := by
          rw [List.append_assoc, List.singleton_append, ← hf]
          exact HE.out
        have j1 : (f : Int) ≤ (i : Int) + 1 := by omega
        have j2 : (i : Int) + 1 ≤ (s.size : Int) := by omega
        have j3 : ((i : Int) + 1).toNat = i + 1 := by omega
        generalize (s.data.toList.drop f).take (i + 1 - f) = x at hx hnew
        have HNW := Lib.hid hnew
        have HO2 := Lib.hid (HO.out.alloc (.cells #[.string (bs x)] 9))
        have hOl : O.length ≤ 1000000 := by omega
        clear hb h10 hf hnew hil
        go_wp2_with (first
          | (at_builtin
             go_must (refine wpList_append_own _ rfl (.tmp 16) (.tmp 22) 24 rfl w.heap.size 9 i0 _ 1 16 Try.underlying24 hi hz0 hz1 hz2 rfl (by decide) _ O.length (O.map sv) rfl HO2.out ⟨wr.heap.size, 0, none⟩ 1 1 [.string (bs x)] rfl rfl (cell_one_new _ _ _) (by simp [Value.oneCell']) (by unfold maxLen; omega) (by omega) (by simp; omega) ?_)))
        intro v' w' r' hg' _
        have b2 : Below w.heap.size w w' := own_grown HO2.out hg' (HB.out.alloc hwz _) (Nat.le_refl _)
        have R2 := Lib.hid (row_snoc r')
        have B2 := Lib.hid b2
        clear r' hg' b2
        go_wp2_with fail
        go_roundw
        case rel => exact ⟨i + 1, i + 1, O ++ [x], by omega, by omega, by go_num, by go_num, by simp; omega, R2, HNW, Lib.hid (by simp), B2⟩
        case measure => simp [intOf]; omega
      · have e1 : ((s[i].toNat : Int) == 10) = false := byte_ten (by rw [hb, beq_eq_false_iff_ne]; exact h10)
        have hil : i < s.data.toList.length := by rw [HSL.out]; exact k1
        have hN2 := Lib.hid (Ln.take_more HN.out hfi hil h10)
        clear hb h10 hil
        go_wp2_with fail
        go_roundw
        case rel => exact ⟨f, i + 1, O, by omega, by omega, rfl, by go_num, by omega, HO, HE, hN2, HB⟩
        case measure => simp [intOf]; omega
    · obtain rfl : i = s.size := by omega
      by_cases kf : f < s.size
      · have hx := HEX.out f s.size
        have hU : Ln.U (s.data.toList.drop f) := by
          have h1 := HN.out
          rw [List.take_of_length_le (by rw [List.length_drop, HSL.out]; exact Nat.le_refl _)] at h1
          refine ⟨fun e => ?_, h1⟩
          have := congrArg List.length e
          rw [List.length_drop, HSL.out] at this
          simp at this
          omega
        have hnew : O ++ [s.data.toList.drop f] = Ln.lns s.data.toList := by
          rw [← HE.out, Ln.lns_last _ hU]
        rw [List.take_of_length_le (by rw [List.length_drop, HSL.out]; exact Nat.le_refl _)] at hx
        generalize s.data.toList.drop f = x at hx hnew
        have HNW := Lib.hid hnew
        have HO2 := Lib.hid (HO.out.alloc (.cells #[.string (bs x)] 9))
        have hOl : O.length ≤ 1000000 := by omega
        have f1 : (f : Int) ≤ (s.size : Int) := by omega
        clear hnew hU
        go_wp2_with (first
          | (at_builtin
             go_must (refine wpList_append_own _ rfl (.tmp 30) (.tmp 34) 24 rfl w.heap.size 9 i0 _ 1 16 Try.underlying24 hi hz0 hz1 hz2 rfl (by decide) _ O.length (O.map sv) rfl HO2.out ⟨wr.heap.size, 0, none⟩ 1 1 [.string (bs x)] rfl rfl (cell_one_new _ _ _) (by simp [Value.oneCell']) (by unfold maxLen; omega) (by omega) (by simp; omega) ?_)))
        intro v' w' r' hg' _
        have b2 : Below w.heap.size w w' := own_grown HO2.out hg' (HB.out.alloc hwz _) (Nat.le_refl _)
        have hr2 := row_snoc r'
        rw [HNW.out] at hr2
        have R2 := Lib.hid hr2
        have B2 := Lib.hid b2
        clear r' hg' b2 hr2
        go_wp2_with fail
        go_ret
        exact ⟨_, rfl, R2.out, B2.out⟩
      · obtain rfl : f = s.size := by omega
        have hnew : O = Ln.lns s.data.toList := by
          rw [← HE.out, List.drop_of_length_le (by rw [HSL.out]; exact Nat.le_refl _)]
          simp [Ln.lns]
        have HNW := Lib.hid hnew
        clear hnew
        go_wp2_with fail
        go_ret
        rw [← HNW.out]
        exact ⟨_, rfl, HO.out, HB.out⟩
end Go.Proofs.Ytjllmhnicmonbaa
