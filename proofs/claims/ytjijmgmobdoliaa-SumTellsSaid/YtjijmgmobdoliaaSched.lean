/- Walk: the schedule of a block. -/
import Derived.Test.YtjijmgmobdoliaaWord
import Derived.Deep.RegionHeld3
import Derived.Deep.MidRow
namespace Go.Proofs.Ytjijmgmobdoliaa
open Go.RowKit

namespace Sm
def s0 (x : Nat) : Nat := (rot 7 x ^^^ rot 18 x) ^^^ (x / 8)
def s1 (x : Nat) : Nat := (rot 17 x ^^^ rot 19 x) ^^^ (x / 1024)
def word (b : List Nat) (k : Nat) : Nat := be (b.getD (4 * k) 0) (b.getD (4 * k + 1) 0) (b.getD (4 * k + 2) 0) (b.getD (4 * k + 3) 0)
def nxt (b L : List Nat) : Nat := if L.length < 16 then word b L.length else
  (L.getD (L.length - 16) 0 + s0 (L.getD (L.length - 15) 0) + L.getD (L.length - 7) 0 + s1 (L.getD (L.length - 2) 0)) % 4294967296
def ext (b : List Nat) : Nat → List Nat → List Nat
  | 0, L => L
  | n + 1, L => ext b n (L ++ [nxt b L])
def sched (b : List Nat) : List Nat := ext b 64 []
end Sm
def uv (n : Nat) : Value := .int .u32 (n : Int)
def yv (n : Nat) : Value := .int .u8 (n : Int)

theorem set_pad (L : List Nat) (m v : Nat) : ((L ++ List.replicate (m + 1) 0).map uv).toArray.setIfInBounds L.length (uv v) = (((L ++ [v]) ++ List.replicate m 0).map uv).toArray := by
  rw [List.setIfInBounds_toArray]
  congr 1
  rw [List.map_append, List.set_append_right _ _ (by simp)]
  simp [List.replicate_succ]
theorem pad_at (L : List Nat) (m j : Nat) (h : j < L.length) : (((L ++ List.replicate m 0).map uv).toArray)[j]? = some (uv (L.getD j 0)) := by
  rw [List.getElem?_toArray, List.getElem?_map, List.getElem?_append_left h, List.getD_eq_getElem?_getD, List.getElem?_eq_getElem h]
  rfl
theorem pad_new (L : List Nat) (m : Nat) (h : 0 < m) : (((L ++ List.replicate m 0).map uv).toArray)[L.length]? = some (uv 0) := by
  rw [List.getElem?_toArray, List.getElem?_map, List.getElem?_append_right (Nat.le_refl _), Nat.sub_self, List.getElem?_replicate, if_pos h]
  rfl
theorem cell_keep {w w' : World} (hk : ∀ b, b < w.heap.size → w'.heap[b]? = w.heap[b]?) {a : Addr} {v : Value} (h : w.cell? a = some v) : w'.cell? a = some v :=
  (World.cell?_of_block (w := w) (hk a.block (World.block_lt_of_cell? w _ h))).trans h
namespace Sm
theorem s0_lt {x : Nat} (h : x < 4294967296) : s0 x < 4294967296 := xor_lt (xor_lt (rot_lt h) (rot_lt h)) (by omega)
theorem s1_lt {x : Nat} (h : x < 4294967296) : s1 x < 4294967296 := xor_lt (xor_lt (rot_lt h) (rot_lt h)) (by omega)
theorem getD_lt {L : List Nat} {M : Nat} (hM : 0 < M) (h : ∀ x ∈ L, x < M) (j : Nat) : L.getD j 0 < M := by
  by_cases hj : j < L.length
  · rw [List.getD_eq_getElem?_getD, List.getElem?_eq_getElem hj]
    exact h _ (List.getElem_mem hj)
  · rw [List.getD_eq_getElem?_getD, List.getElem?_eq_none (by omega)]
    exact hM
theorem ext_step {b L : List Nat} {k : Nat} (hk : k < 64) {R : List Nat} (h : ext b (64 - k) L = R) : ext b (64 - (k + 1)) (L ++ [nxt b L]) = R := by
  obtain ⟨m, hm⟩ : ∃ m, 64 - k = m + 1 := ⟨64 - k - 1, by omega⟩
  rw [hm, ext] at h
  rw [show 64 - (k + 1) = m from by omega]
  exact h
end Sm

theorem range_of {w : World} {b : Nat} {t : TypeId} {cs : List Value} (h : w.heap[b]? = some (.cells cs.toArray t (0, 0))) : w.rangeAt b 0 cs := fun j v hv => by
  rw [Lib.cell_of_heap h, Nat.zero_add]
  simpa using hv
theorem there_of {w : World} {b : Nat} {t : TypeId} {cs : List Value} (h : w.heap[b]? = some (.cells cs.toArray t (0, 0))) : w.there b 0 cs.toArray.size := fun j hj => by
  refine ⟨?_, Lib.frozen_of_heap h _⟩
  rw [Lib.cell_of_heap h, Nat.zero_add, Array.getElem?_eq_getElem hj]
  rfl
theorem heap_setCells_same {b : Nat} {C : Array Value} {t : TypeId} : ∀ (vs : List Value) (o : Nat) {w : World}, w.heap[b]? = some (.cells C t (0, 0)) → (∀ j v, vs[j]? = some v → C[o + j]? = some v) → (w.setCells b o vs).heap[b]? = some (.cells C t (0, 0))
  | [], _, _, h, _ => h
  | v :: vs, o, w, h, hv => by
    have h0 := hv 0 v rfl
    have hs : C.setIfInBounds o v = C := by
      apply Array.ext_getElem?
      intro i
      rw [Array.getElem?_setIfInBounds]
      split
      · rename_i e
        subst e
        rw [Nat.add_zero] at h0
        split
        · exact h0.symm
        · rename_i hge; rw [Array.getElem?_eq_none (by omega)]
      · rfl
    have h1 := heap_setCell_same w b o C t v h
    rw [hs] at h1
    exact heap_setCells_same vs (o + 1) h1 fun j u hu => by
      have := hv (j + 1) u (by simpa using hu)
      rwa [show o + 1 + j = o + (j + 1) from by omega]
theorem below_setCells {b B : Nat} : ∀ (vs : List Value) (o : Nat) {a w : World}, Below B a w → B ≤ b → Below B a (w.setCells b o vs)
  | [], _, _, _, h, _ => h
  | v :: vs, o, _, _, h, hb => below_setCells vs (o + 1) (h.setCell (p := ⟨b, o, none⟩) hb v) hb
theorem all_one (L : List Nat) : (L.map uv).toArray.all (·.oneCell') = true := all_oneCell_toArray (by
  intro v hv
  obtain ⟨x, _, rfl⟩ := List.mem_map.1 hv
  rfl)

set_option maxHeartbeats 4000000 in
theorem schedule_c (B o n c : Nat) (bt : List Nat) (w : World) (hn : 64 ≤ n) (hnc : n ≤ c) (hc : c ≤ maxLen) (hl : bt.length = 64) (hb : ∀ x ∈ bt, x < 256) (hcell : ∀ i x, bt[i]? = some x → w.cell? ⟨B, o + i, none⟩ = some (yv x)) :
    Calls Try.prog 31 #[.slice (some ⟨B, o, none⟩) n c] w fun e w' => e = .returned (.agg ((Sm.sched bt).map uv).toArray) ∧ Below w.heap.size w w' := by
  unfold maxLen at hc
  have HC := Lib.hid hcell; clear hcell
  have hst : (w.alloc (.cells (((([] : List Nat) ++ List.replicate 64 0).map uv).toArray) 61)).heap[w.heap.size]? = some (.cells (((([] : List Nat) ++ List.replicate 64 0).map uv).toArray) 61 (0, 0)) := heap_alloc_new _ _
  have HST := Lib.hid hst; clear hst
  go_enter Try.func31, Try.ntmps31
  go_wp2_with fail
  go_loopw [8] (fun i wr => ∃ (k : Nat) (L : List Nat), k ≤ 64 ∧ i = .int .i64 k ∧ L.length = k ∧ Hid (∀ x ∈ L, x < 4294967296) ∧ Hid (wr.heap[w.heap.size]? = some (.cells (((L ++ List.replicate (64 - k) 0).map uv).toArray) 61 (0, 0))) ∧ Hid (Below w.heap.size w wr) ∧ Hid (Sm.ext bt (64 - k) L = Sm.sched bt)) (fun i _ => 64 - (intOf i).toNat)
  case atStart => exact ⟨0, [], by omega, rfl, rfl, Lib.hid (by simp), HST, Lib.hid ((Below.refl _ _).alloc (Nat.le_refl _) _), Lib.hid rfl⟩
  case round =>
    obtain ⟨k, L, hk, rfl, hL, HL, HT, HB, HE⟩ := hrel
    clear HST
    have f0 : ∀ j, wr.frozen? ⟨w.heap.size, j, none⟩ = false := fun j => Lib.frozen_of_heap HT.out j
    by_cases k64 : k < 64
    · have hnx := Sm.ext_step k64 HE.out
      have HN := Lib.hid hnx; clear hnx
      have i0 : (0 : Int) ≤ (k : Int) := by omega
      have i1 : (k : Int) < 64 := by omega
      by_cases k16 : k < 16
      · have hw : Sm.nxt bt L = Sm.word bt k := by unfold Sm.nxt; rw [hL, if_pos k16]
        rw [hw] at HN
        clear hw
        have hgd : ∀ j, j < 64 → wr.cell? ⟨B, o + j, none⟩ = some (yv (bt.getD j 0)) := fun j hj => cell_keep HB.out.block (by
          have := HC.out j (bt.getD j 0) (by rw [List.getD_eq_getElem?_getD, List.getElem?_eq_getElem (by omega)]; rfl)
          exact this)
        have i2 : (k : Int) < 16 := by omega
        have g0 := hgd (4 * k) (by omega)
        have g1 := hgd (4 * k + 1) (by omega)
        have g2 := hgd (4 * k + 2) (by omega)
        have g3 := hgd (4 * k + 3) (by omega)
        rw [← Nat.add_assoc] at g1 g2 g3
        have l0 := Sm.getD_lt (by decide) hb (4 * k)
        have l1 := Sm.getD_lt (by decide) hb (4 * k + 1)
        have l2 := Sm.getD_lt (by decide) hb (4 * k + 2)
        have l3 := Sm.getD_lt (by decide) hb (4 * k + 3)
        have j1 : (4 * (k : Int)) ≤ (n : Int) := by omega
        have j2 : (0 : Int) ≤ 4 * (k : Int) := by omega
        have j3 : (n : Int) ≤ (c : Int) := by omega
        have ck : wr.cell? ⟨w.heap.size, k, none⟩ = some (uv 0) := by
          rw [Lib.cell_of_heap HT.out, ← hL]
          exact pad_new L _ (by omega)
        unfold uv at ck
        have hwd := Sm.be_lt l0 l1 l2 l3
        have hcl := binary_c B (o + 4 * k) (n - 4 * k) (c - 4 * k) _ _ _ _ wr (by omega) l0 l1 l2 l3 g0 g1 g2 g3
        change Calls _ _ _ _ (fun e w' => e = .returned (.int .u32 (Sm.word bt k : Nat)) ∧ ∃ q, w' = wr.drewN q) at hcl
        have hwd' : Sm.word bt k < 4294967296 := hwd
        have HCL := Lib.hid hcl
        clear hcl hwd g0 g1 g2 g3 l0 l1 l2 l3 hgd
        generalize Sm.word bt k = V at HCL HN hwd'
        go_wp2_with fail
        refine HCL.out.mono ?_
        rintro e w5 ⟨rfl, q5, rfl⟩
        go_wp2_with fail
        go_roundw
        case rel =>
          refine ⟨k + 1, L ++ [V], by omega, by go_num, by simp [hL], Lib.hid ?_, Lib.hid ?_, Lib.hid ?_, HN⟩
          · intro x hx
            rcases List.mem_append.1 hx with hx | hx
            · exact HL.out x hx
            · obtain rfl := List.mem_singleton.1 hx; exact hwd'
          · have ht := heap_setCell_same (wr.drewN q5) w.heap.size k _ _ (uv V) HT.out
            have hs := set_pad L (64 - (k + 1)) V
            rw [show 64 - (k + 1) + 1 = 64 - k from by omega, hL] at hs
            rw [hs] at ht
            exact ht
          · exact (HB.out.trans ⟨rfl, rfl, rfl, Nat.le_refl _, fun _ _ => rfl⟩ : Below w.heap.size w (wr.drewN q5)).setCell (Nat.le_refl _) _
        case measure => simp [intOf] <;> omega
      · obtain ⟨j, rfl⟩ : ∃ j, k = j + 16 := ⟨k - 16, by omega⟩
        have hlt := Sm.getD_lt (M := 4294967296) (by decide) HL.out
        have hw : Sm.nxt bt L = (L.getD j 0 + Sm.s0 (L.getD (j + 1) 0) + L.getD (j + 9) 0 + Sm.s1 (L.getD (j + 14) 0)) % 4294967296 := by
          unfold Sm.nxt
          rw [hL, if_neg k16, show j + 16 - 16 = j from by omega, show j + 16 - 15 = j + 1 from by omega, show j + 16 - 7 = j + 9 from by omega, show j + 16 - 2 = j + 14 from by omega]
        rw [hw] at HN
        clear hw
        have hce : ∀ m, m < j + 16 → wr.cell? ⟨w.heap.size, m, none⟩ = some (.int .u32 (L.getD m 0 : Nat)) := fun m hm => by
          rw [Lib.cell_of_heap HT.out]
          exact pad_at L _ m (by omega)
        have cX := hce (j + 1) (by omega)
        have cY := hce (j + 14) (by omega)
        have cA := hce j (by omega)
        have cC := hce (j + 9) (by omega)
        have ck : wr.cell? ⟨w.heap.size, j + 16, none⟩ = some (uv 0) := by
          rw [Lib.cell_of_heap HT.out, ← hL]
          exact pad_new L _ (by omega)
        unfold uv at ck
        have hX := hlt (j + 1)
        have hY := hlt (j + 14)
        have hA := hlt j
        have hCC := hlt (j + 9)
        generalize L.getD (j + 1) 0 = X at cX hX HN
        generalize L.getD (j + 14) 0 = Y at cY hY HN
        generalize L.getD j 0 = A at cA hA HN
        generalize L.getD (j + 9) 0 = C at cC hCC HN
        have i2 : (16 : Int) ≤ ((j + 16 : Nat) : Int) := by omega
        have hS := Sm.s0_lt hX
        have hD := Sm.s1_lt hY
        have e0 : bits .xor .u32 (bits .xor .u32 (Sm.rot 7 X : Nat) (Sm.rot 18 X : Nat)) ((X : Int) / 8) = (Sm.s0 X : Nat) := by
          rw [bits_xor_u32 _ _ (Sm.rot_lt hX) (Sm.rot_lt hX)]
          exact bits_xor_u32 _ (X / 8) (Sm.xor_lt (Sm.rot_lt hX) (Sm.rot_lt hX)) (by omega)
        have e1 : bits .xor .u32 (bits .xor .u32 (Sm.rot 17 Y : Nat) (Sm.rot 19 Y : Nat)) ((Y : Int) / 1024) = (Sm.s1 Y : Nat) := by
          rw [bits_xor_u32 _ _ (Sm.rot_lt hY) (Sm.rot_lt hY)]
          exact bits_xor_u32 _ (Y / 1024) (Sm.xor_lt (Sm.rot_lt hY) (Sm.rot_lt hY)) (by omega)
        have E0 := Lib.hid e0
        have E1 := Lib.hid e1
        clear e0 e1 hce hlt
        have j0 : (j : Int) < 48 := by omega
        have w15 : IntKind.i64.wrap ((j : Int) + 16 - 15) = (j : Int) + 1 := by rw [IntKind.wrap_i64]; omega
        have w2 : IntKind.i64.wrap ((j : Int) + 16 - 2) = (j : Int) + 14 := by rw [IntKind.wrap_i64]; omega
        have w16 : IntKind.i64.wrap ((j : Int) + 16 - 16) = (j : Int) := by rw [IntKind.wrap_i64]; omega
        have w16' : IntKind.i64.wrap (j : Int) = (j : Int) := by rw [IntKind.wrap_i64]; omega
        have w7' : IntKind.i64.wrap ((j : Int) + 9) = (j : Int) + 9 := by rw [IntKind.wrap_i64]; omega
        have tn9 : ((j : Int) + 9).toNat = j + 9 := by omega
        have tn16 : ((j : Int) + 16).toNat = j + 16 := by omega
        have z0 : (0 : Int) ≤ (j : Int) := by omega
        have z1 : (j : Int) < 64 := by omega
        have z2 : (j : Int) + 9 < 64 := by omega
        have z3 : (0 : Int) ≤ (j : Int) + 9 := by omega
        have z4 : (j : Int) + 16 < 64 := by omega
        have z5 : (0 : Int) ≤ (j : Int) + 16 := by omega
        have ne1 : ∀ (u : World) (v : Value), (u.setCell ⟨w.heap.size, j + 16, none⟩ v).cell? ⟨w.heap.size, j, none⟩ = u.cell? ⟨w.heap.size, j, none⟩ := fun u v => by rw [World.cell?_setCell_other]; intro e; injection e; omega
        have ne2 : ∀ (u : World) (v : Value), (u.setCell ⟨w.heap.size, j + 16, none⟩ v).cell? ⟨w.heap.size, j + 9, none⟩ = u.cell? ⟨w.heap.size, j + 9, none⟩ := fun u v => by rw [World.cell?_setCell_other]; intro e; injection e; omega
        have w7 : IntKind.i64.wrap ((j : Int) + 16 - 7) = (j : Int) + 9 := by rw [IntKind.wrap_i64]; omega
        go_wp2_with fail
        go_quiet (fail)
        go_wp2_with fail
        refine (rot7_c X _ hX).mono ?_
        rintro e w5 ⟨rfl, hw5⟩
        obtain rfl := hw5.symm
        go_wp2_with fail
        refine (rot18_c X _ hX).mono ?_
        rintro e w5 ⟨rfl, hw5⟩
        obtain rfl := hw5.symm
        go_wp2_with fail
        rw [E0.out]
        refine (rot17_c Y _ hY).mono ?_
        rintro e w5 ⟨rfl, hw5⟩
        obtain rfl := hw5.symm
        go_wp2_with fail
        refine (rot19_c Y _ hY).mono ?_
        rintro e w5 ⟨rfl, hw5⟩
        obtain rfl := hw5.symm
        go_wp2_with fail
        rw [E1.out]
        generalize Sm.s0 X = S0 at hS HN
        generalize Sm.s1 Y = S1 at hD HN
        have hww : ((((A : Int) + (S0 : Int)) % 4294967296 + (C : Int)) % 4294967296 + (S1 : Int)) % 4294967296 = (((A + S0 + C + S1) % 4294967296 : Nat) : Int) := by omega
        have HWW := Lib.hid hww; clear hww
        go_region_held3 (fun u => u.cell? ⟨w.heap.size, j, none⟩ = some (.int .u32 (A : Int)) ∧ u.cell? ⟨w.heap.size, j + 9, none⟩ = some (.int .u32 (C : Int))) (first | exact ⟨cA, cC⟩ | go_keep) ((first | fail))
        all_goals go_wp2_with fail
        all_goals rw [HWW.out]
        go_roundw
        case rel =>
          refine ⟨j + 16 + 1, L ++ [(A + S0 + C + S1) % 4294967296], by omega, by go_num, by simp [hL], Lib.hid ?_, Lib.hid ?_, Lib.hid ?_, HN⟩
          · intro x hx
            rcases List.mem_append.1 hx with hx | hx
            · exact HL.out x hx
            · obtain rfl := List.mem_singleton.1 hx; exact Nat.mod_lt _ (by decide)
          · have hs := set_pad L (64 - (j + 16 + 1)) ((A + S0 + C + S1) % 4294967296)
            rw [show 64 - (j + 16 + 1) + 1 = 64 - (j + 16) from by omega, hL] at hs
            rw [← hs]
            exact heap_setCell_same _ w.heap.size (j + 16) _ _ (uv _) HT.out
          · have hbq : Below w.heap.size w (wr.drewN (nq + 1)) := HB.out.trans ⟨rfl, rfl, rfl, Nat.le_refl _, fun _ _ => rfl⟩
            exact hbq.setCell (Nat.le_refl _) _
        case measure => simp [intOf] <;> omega
    · have k64' : k = 64 := by omega
      subst k64'
      have hz : Sm.sched bt = L := HE.out.symm
      have HZ := Lib.hid hz; clear hz
      have ht := HT.out
      rw [show 64 - 64 = 0 from rfl, List.replicate_zero, List.append_nil] at ht
      have HT2 := Lib.hid ht; clear ht HT
      have hi64 : (Try.prog.info? 61).map (·.size) = some (L.map uv).length := by rw [List.length_map, hL]; kernel_rfl
      have HRG := Lib.hid (range_of HT2.out)
      have HTH := Lib.hid (there_of HT2.out)
      have HI := Lib.hid hi64
      clear hi64 f0
      go_wp2_with (first
        | refine wpList_load_mid rfl 61 (.tmp 2) rfl w.heap.size 0 rfl (L.map uv) _ HRG.out Try.underlying61 rfl HI.out ?_
        | refine wpList_store_mid rfl 61 (.tmp 2) (.tmp 60) rfl w.heap.size 0 (L.map uv).toArray rfl rfl HTH.out (by simpa using HI.out) (all_one L) ?_)
      have hh := heap_setCells_same (w := wr) (b := w.heap.size) (C := (L.map uv).toArray) (t := 61) (L.map uv) 0 HT2.out (fun j v hv => by rw [Nat.zero_add]; simpa using hv)
      refine ⟨rfl, _, results_cell_row rfl _ _ _ _ _ _ _ rfl hh Try.underlying61 rfl (by simpa using HI.out), ?_, ?_⟩
      · rw [HZ.out]
      · exact below_setCells _ 0 HB.out (Nat.le_refl _)
end Go.Proofs.Ytjijmgmobdoliaa
