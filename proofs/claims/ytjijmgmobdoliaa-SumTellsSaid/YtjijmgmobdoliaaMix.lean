/- Walk: the rounds of a block. -/
import Derived.Test.YtjijmgmobdoliaaTab
import Derived.Deep.RegionLaw
namespace Go.Proofs.Ytjijmgmobdoliaa
open Go.RowKit

namespace Sm
def rnd (v : List Nat) (k w : Nat) : List Nat := match v with
  | [a, b, c, d, e, f, g, h] =>
    let t := (h + ((rot 6 e ^^^ rot 11 e) ^^^ rot 25 e) + (g ^^^ (e &&& (f ^^^ g))) + k + w) % 4294967296
    [(t + ((rot 2 a ^^^ rot 13 a) ^^^ rot 22 a) + ((a &&& b) ||| (c &&& (a ||| b)))) % 4294967296, a, b, c, (d + t) % 4294967296, e, f, g]
  | _ => v
def rounds (l : List (Nat × Nat)) (v : List Nat) : List Nat := l.foldl (fun v p => rnd v p.1 p.2) v
def mix (hv bt : List Nat) : List Nat := List.zipWith (fun x y => (x + y) % 4294967296) (rounds (List.zip K (sched bt)) hv) hv
theorem ext_len {b : List Nat} : ∀ (n : Nat) (L : List Nat), (ext b n L).length = L.length + n
  | 0, L => rfl
  | n + 1, L => by rw [ext, ext_len n]; simp; omega
theorem sched_len (b : List Nat) : (sched b).length = 64 := by unfold sched; rw [ext_len]; rfl
theorem nxt_lt {b L : List Nat} (hb : ∀ x ∈ b, x < 256) : nxt b L < 4294967296 := by
  unfold nxt
  split
  · exact be_lt (getD_lt (by decide) hb _) (getD_lt (by decide) hb _) (getD_lt (by decide) hb _) (getD_lt (by decide) hb _)
  · exact Nat.mod_lt _ (by decide)
theorem ext_lt {b : List Nat} (hb : ∀ x ∈ b, x < 256) : ∀ (n : Nat) (L : List Nat), (∀ x ∈ L, x < 4294967296) → ∀ x ∈ ext b n L, x < 4294967296
  | 0, L, h => h
  | n + 1, L, h => ext_lt hb n _ fun x hx => by
    rcases List.mem_append.1 hx with hx | hx
    · exact h x hx
    · obtain rfl := List.mem_singleton.1 hx; exact nxt_lt hb
theorem sched_lt {b : List Nat} (hb : ∀ x ∈ b, x < 256) : ∀ x ∈ sched b, x < 4294967296 := ext_lt hb 64 [] (by simp)
theorem K_lt : ∀ x ∈ K, x < 4294967296 := by decide +kernel
theorem rounds_drop {L : List (Nat × Nat)} {k : Nat} {v R : List Nat} (hk : k < L.length) (h : rounds (L.drop k) v = R) : rounds (L.drop (k + 1)) (rnd v L[k].1 L[k].2) = R := by
  rw [List.drop_eq_getElem_cons hk] at h
  exact h
theorem and_lt {a b : Nat} (ha : a < 4294967296) : a &&& b < 4294967296 := Nat.lt_of_le_of_lt Nat.and_le_left ha
end Sm
theorem heap_setCells_other {b b' : Nat} (hb : b' ≠ b) : ∀ (vs : List Value) (o : Nat) {w : World}, (w.setCells b o vs).heap[b']? = w.heap[b']?
  | [], _, _ => rfl
  | v :: vs, o, w => (heap_setCells_other hb vs (o + 1)).trans (Below.heap_setCell w ⟨b, o, none⟩ v b' hb)
theorem size_setCells {b : Nat} : ∀ (vs : List Value) (o : Nat) {w : World}, (w.setCells b o vs).heap.size = w.heap.size
  | [], _, _ => rfl
  | v :: vs, o, w => (size_setCells vs (o + 1)).trans (by simp [World.setCell])
theorem two_rows (w5 : World) (t : TypeId) (z A C : List Value) (hA : z.length = A.length) (hC : z.length = C.length) (V : World) (hV : (((w5.alloc (.cells z.toArray t)).alloc (.cells z.toArray t)).setCells w5.heap.size 0 A).setCells (w5.heap.size + 1) 0 C = V) :
    V.heap[w5.heap.size]? = some (.cells A.toArray t (0, 0)) ∧ V.heap[w5.heap.size + 1]? = some (.cells C.toArray t (0, 0)) ∧ Below w5.heap.size w5 V ∧ V.heap.size = w5.heap.size + 1 + 1 := by
  subst hV
  have h1 : ((w5.alloc (.cells z.toArray t)).alloc (.cells z.toArray t)).heap[w5.heap.size]? = some (.cells z.toArray t (0, 0)) := (Below.heap_alloc _ _ _ (by simp)).trans (heap_alloc_new _ _)
  have h2 : ((w5.alloc (.cells z.toArray t)).alloc (.cells z.toArray t)).heap[w5.heap.size + 1]? = some (.cells z.toArray t (0, 0)) := by
    have := heap_alloc_new (w5.alloc (.cells z.toArray t)) (.cells z.toArray t)
    simpa using this
  refine ⟨(heap_setCells_other (by omega) C 0).trans (heap_setCells_full A z h1 hA), heap_setCells_full C z ((heap_setCells_other (by omega) A 0).trans h2) hC, ?_, ?_⟩
  · exact below_setCells _ 0 (below_setCells _ 0 (((Below.refl _ _).alloc (Nat.le_refl _) _).alloc (by simp) _) (Nat.le_refl _)) (by omega)
  · rw [size_setCells, size_setCells]; simp

theorem eight (w : World) (b : Nat) (v0 v1 v2 v3 v4 v5 v6 v7 : Value) : ((((((((w.setCell ⟨b, 0, none⟩ v0).setCell ⟨b, 1, none⟩ v1).setCell ⟨b, 2, none⟩ v2).setCell ⟨b, 3, none⟩ v3).setCell ⟨b, 4, none⟩ v4).setCell ⟨b, 5, none⟩ v5).setCell ⟨b, 6, none⟩ v6).setCell ⟨b, 7, none⟩ v7) = w.setCells b 0 [v0, v1, v2, v3, v4, v5, v6, v7] := by simp only [World.setCells, Nat.zero_add, Nat.reduceAdd]
abbrev ZL : List Value := [.int .u32 0, .int .u32 0, .int .u32 0, .int .u32 0, .int .u32 0, .int .u32 0, .int .u32 0, .int .u32 0, .int .u32 0, .int .u32 0, .int .u32 0, .int .u32 0, .int .u32 0, .int .u32 0, .int .u32 0, .int .u32 0, .int .u32 0, .int .u32 0, .int .u32 0, .int .u32 0, .int .u32 0, .int .u32 0, .int .u32 0, .int .u32 0, .int .u32 0, .int .u32 0, .int .u32 0, .int .u32 0, .int .u32 0, .int .u32 0, .int .u32 0, .int .u32 0, .int .u32 0, .int .u32 0, .int .u32 0, .int .u32 0, .int .u32 0, .int .u32 0, .int .u32 0, .int .u32 0, .int .u32 0, .int .u32 0, .int .u32 0, .int .u32 0, .int .u32 0, .int .u32 0, .int .u32 0, .int .u32 0, .int .u32 0, .int .u32 0, .int .u32 0, .int .u32 0, .int .u32 0, .int .u32 0, .int .u32 0, .int .u32 0, .int .u32 0, .int .u32 0, .int .u32 0, .int .u32 0, .int .u32 0, .int .u32 0, .int .u32 0, .int .u32 0]
def w2 (w : World) (o1 o2 : Obj) : World := (w.alloc o1).alloc o2
theorem w2_size (w : World) (o1 o2 : Obj) : (w2 w o1 o2).heap.size = w.heap.size + 1 + 1 := by simp [w2]
theorem w2_below (w : World) (o1 o2 : Obj) : Below w.heap.size w (w2 w o1 o2) := ((Below.refl _ w).alloc (Nat.le_refl _) o1).alloc (by simp) o2
theorem w2_fst (w : World) (o1 o2 : Obj) : (w2 w o1 o2).heap[w.heap.size]? = some o1 := by
  unfold w2
  rw [Below.heap_alloc _ _ _ (by simp)]
  exact heap_alloc_new w o1
theorem w2_res (w : World) (o1 o2 : Obj) : (w2 w o1 o2).heap[w.heap.size + 1]? = some o2 := by
  have := heap_alloc_new (w.alloc o1) o2
  simpa [w2] using this
theorem there_two (w5 : World) (t : TypeId) (z A : List Value) (n : Nat) (hz : z.length = n) :
    ((w5.alloc (.cells z.toArray t)).alloc (.cells z.toArray t)).there w5.heap.size 0 n ∧ (((w5.alloc (.cells z.toArray t)).alloc (.cells z.toArray t)).setCells w5.heap.size 0 A).there (w5.heap.size + 1) 0 n := by
  subst hz
  have h1 : ((w5.alloc (.cells z.toArray t)).alloc (.cells z.toArray t)).heap[w5.heap.size]? = some (.cells z.toArray t (0, 0)) := (Below.heap_alloc _ _ _ (by simp)).trans (heap_alloc_new _ _)
  have h2 : ((w5.alloc (.cells z.toArray t)).alloc (.cells z.toArray t)).heap[w5.heap.size + 1]? = some (.cells z.toArray t (0, 0)) := by
    have := heap_alloc_new (w5.alloc (.cells z.toArray t)) (.cells z.toArray t)
    simpa using this
  exact ⟨there_of h1, World.there_setCells (there_of h2) _ _ _⟩

set_option maxHeartbeats 4000000 in
set_option maxRecDepth 100000 in
theorem mix_c (a b c d e f g h : Nat) (B o n cp : Nat) (bt : List Nat) (w : World) (hn : 64 ≤ n) (hnc : n ≤ cp) (hc : cp ≤ maxLen) (hl : bt.length = 64) (hb : ∀ x ∈ bt, x < 256) (hcell : ∀ i x, bt[i]? = some x → w.cell? ⟨B, o + i, none⟩ = some (yv x))
    (hv : ∀ x ∈ [a, b, c, d, e, f, g, h], x < 4294967296) :
    Calls Try.prog 22 #[.agg #[.int .u32 a, .int .u32 b, .int .u32 c, .int .u32 d, .int .u32 e, .int .u32 f, .int .u32 g, .int .u32 h], .slice (some ⟨B, o, none⟩) n cp] w fun e' w' => e' = .returned (.agg ((Sm.mix [a, b, c, d, e, f, g, h] bt).map uv).toArray) ∧ Below w.heap.size w w' := by
  have HC := Lib.hid hcell; clear hcell
  go_enter Try.func22, Try.ntmps22
  go_wp2_with fail
  have hbel := w2_below w (.cells #[.int .u32 a, .int .u32 b, .int .u32 c, .int .u32 d, .int .u32 e, .int .u32 f, .int .u32 g, .int .u32 h] 45) (.cells #[.int .u32 0, .int .u32 0, .int .u32 0, .int .u32 0, .int .u32 0, .int .u32 0, .int .u32 0, .int .u32 0] 45)
  have hfst := w2_fst w (.cells #[.int .u32 a, .int .u32 b, .int .u32 c, .int .u32 d, .int .u32 e, .int .u32 f, .int .u32 g, .int .u32 h] 45) (.cells #[.int .u32 0, .int .u32 0, .int .u32 0, .int .u32 0, .int .u32 0, .int .u32 0, .int .u32 0, .int .u32 0] 45)
  have hres := w2_res w (.cells #[.int .u32 a, .int .u32 b, .int .u32 c, .int .u32 d, .int .u32 e, .int .u32 f, .int .u32 g, .int .u32 h] 45) (.cells #[.int .u32 0, .int .u32 0, .int .u32 0, .int .u32 0, .int .u32 0, .int .u32 0, .int .u32 0, .int .u32 0] 45)
  have hsz := w2_size w (.cells #[.int .u32 a, .int .u32 b, .int .u32 c, .int .u32 d, .int .u32 e, .int .u32 f, .int .u32 g, .int .u32 h] 45) (.cells #[.int .u32 0, .int .u32 0, .int .u32 0, .int .u32 0, .int .u32 0, .int .u32 0, .int .u32 0, .int .u32 0] 45)
  change Calls _ _ _ (w2 w (.cells #[.int .u32 a, .int .u32 b, .int .u32 c, .int .u32 d, .int .u32 e, .int .u32 f, .int .u32 g, .int .u32 h] 45) (.cells #[.int .u32 0, .int .u32 0, .int .u32 0, .int .u32 0, .int .u32 0, .int .u32 0, .int .u32 0, .int .u32 0] 45)) _
  generalize w2 w _ _ = W at *
  refine (schedule_c B o n cp bt W hn hnc hc hl hb (fun i x hx => cell_keep hbel.block (HC.out i x hx))).mono ?_
  rintro e' w3 ⟨rfl, b3⟩
  have hWl := Sm.sched_len bt
  have hWlt := Sm.sched_lt hb
  have hmix : Sm.mix [a, b, c, d, e, f, g, h] bt = List.zipWith (fun x y => (x + y) % 4294967296) (Sm.rounds (List.zip Sm.K (Sm.sched bt)) [a, b, c, d, e, f, g, h]) [a, b, c, d, e, f, g, h] := rfl
  have HM := Lib.hid hmix; clear hmix
  generalize Sm.sched bt = S at hWl hWlt HM ⊢
  go_wp2_with fail
  refine (table_c w3).mono ?_
  rintro e' w5 ⟨rfl, b5⟩
  have hb5 := chain b3 b5
  have hfst5 := (hb5.block _ (show w.heap.size < W.heap.size by omega)).trans hfst
  have hres5 := (hb5.block _ (show w.heap.size + 1 < W.heap.size by omega)).trans hres
  have hbel5 := hbel.trans (hb5.mono hbel.size)
  have hsz5 := hb5.size
  have hth := there_two w5 61 ZL (S.map uv) 64 rfl
  have HTH := Lib.hid hth; clear hth
  have hsS : (S.map uv).toArray.size = 64 := by simp [hWl]
  have hsK : (Sm.K.map uv).toArray.size = 64 := by kernel_rfl
  have HSS := Lib.hid hsS; clear hsS
  have HSK := Lib.hid hsK; clear hsK
  have H5 := Lib.hid (And.intro hfst5 (And.intro hres5 hbel5))
  clear hfst5 hres5 hbel5 hfst hres hbel b3 b5 hb5
  have hl1 : ZL.length = (S.map uv).length := by rw [List.length_map, hWl]; rfl
  have hl2 : ZL.length = (Sm.K.map uv).length := by kernel_rfl
  have HL1 := Lib.hid hl1
  have HL2 := Lib.hid hl2
  clear hl1 hl2
  go_wp2_with (first
    | (refine wpList_store_mid rfl 61 (.tmp 5) (.tmp 15) rfl w5.heap.size 0 (S.map uv).toArray rfl rfl (by rw [HSS.out]; exact HTH.out.1) (by rw [HSS.out]; kernel_rfl) (all_one S) ?_)
    | (refine wpList_store_mid rfl 61 (.tmp 6) (.tmp 16) rfl (w5.heap.size + 1) 0 (Sm.K.map uv).toArray rfl rfl (by rw [HSK.out]; exact HTH.out.2) (by rw [HSK.out]; kernel_rfl) (all_one Sm.K) ?_
       generalize hV : World.setCells (World.setCells _ _ _ _) _ _ _ = V
       obtain ⟨v5, v6, vb, vs⟩ := two_rows w5 61 ZL (S.map uv) (Sm.K.map uv) HL1.out HL2.out V hV
       have V5 := Lib.hid v5
       have V6 := Lib.hid v6
       have VB := Lib.hid vb
       have VS := Lib.hid vs
       have v2 := (vb.block w.heap.size (by omega)).trans H5.out.1
       have V2 := Lib.hid v2
       have q0 : V.cell? ⟨w.heap.size, 0, none⟩ = some (.int .u32 (a : Int)) := (by rw [Lib.cell_of_heap v2]; rfl)
       have q1 : V.cell? ⟨w.heap.size, 1, none⟩ = some (.int .u32 (b : Int)) := (by rw [Lib.cell_of_heap v2]; rfl)
       have q2 : V.cell? ⟨w.heap.size, 2, none⟩ = some (.int .u32 (c : Int)) := (by rw [Lib.cell_of_heap v2]; rfl)
       have q3 : V.cell? ⟨w.heap.size, 3, none⟩ = some (.int .u32 (d : Int)) := (by rw [Lib.cell_of_heap v2]; rfl)
       have q4 : V.cell? ⟨w.heap.size, 4, none⟩ = some (.int .u32 (e : Int)) := (by rw [Lib.cell_of_heap v2]; rfl)
       have q5 : V.cell? ⟨w.heap.size, 5, none⟩ = some (.int .u32 (f : Int)) := (by rw [Lib.cell_of_heap v2]; rfl)
       have q6 : V.cell? ⟨w.heap.size, 6, none⟩ = some (.int .u32 (g : Int)) := (by rw [Lib.cell_of_heap v2]; rfl)
       have q7 : V.cell? ⟨w.heap.size, 7, none⟩ = some (.int .u32 (h : Int)) := (by rw [Lib.cell_of_heap v2]; rfl)
       clear hV v5 v6 vb vs v2))
  have hzl : (List.zip Sm.K S).length = 64 := by rw [List.length_zip, hWl]; rfl
  have ha := hv a (by simp)
  have hb' := hv b (by simp)
  have hc' := hv c (by simp)
  have hd := hv d (by simp)
  have he := hv e (by simp)
  have hf := hv f (by simp)
  have hg := hv g (by simp)
  have hh := hv h (by simp)
  have hst : (V.alloc (.cells #[.int .u32 (a : Int), .int .u32 (b : Int), .int .u32 (c : Int), .int .u32 (d : Int), .int .u32 (e : Int), .int .u32 (f : Int), .int .u32 (g : Int), .int .u32 (h : Int)] 45)).heap[V.heap.size]? = some (.cells #[.int .u32 (a : Int), .int .u32 (b : Int), .int .u32 (c : Int), .int .u32 (d : Int), .int .u32 (e : Int), .int .u32 (f : Int), .int .u32 (g : Int), .int .u32 (h : Int)] 45 (0, 0)) := heap_alloc_new _ _
  have HST := Lib.hid hst; clear hst
  have HZL := Lib.hid hzl; clear hzl
  clear q0 q1 q2 q3 q4 q5 q6 q7
  go_loopw [18] (fun i wr => ∃ (k x0 x1 x2 x3 x4 x5 x6 x7 : Nat), k ≤ 64 ∧ i = .int .i64 k ∧ Hid (∀ x ∈ [x0, x1, x2, x3, x4, x5, x6, x7], x < 4294967296) ∧ Hid (wr.heap[V.heap.size]? = some (.cells #[.int .u32 (x0 : Int), .int .u32 (x1 : Int), .int .u32 (x2 : Int), .int .u32 (x3 : Int), .int .u32 (x4 : Int), .int .u32 (x5 : Int), .int .u32 (x6 : Int), .int .u32 (x7 : Int)] 45 (0, 0))) ∧ Hid (Below V.heap.size V wr) ∧ Hid (Sm.rounds ((List.zip Sm.K S).drop k) [x0, x1, x2, x3, x4, x5, x6, x7] = Sm.rounds (List.zip Sm.K S) [a, b, c, d, e, f, g, h])) (fun i _ => 64 - (intOf i).toNat)
  case atStart => exact ⟨0, a, b, c, d, e, f, g, h, by omega, rfl, Lib.hid hv, HST, Lib.hid ((Below.refl _ _).alloc (Nat.le_refl _) _), Lib.hid rfl⟩
  case round =>
    obtain ⟨k, x0, x1, x2, x3, x4, x5, x6, x7, hk, rfl, HX, HT, HB, HE⟩ := hrel
    clear HST
    have hx0 := HX.out x0 (by simp)
    have hx1 := HX.out x1 (by simp)
    have hx2 := HX.out x2 (by simp)
    have hx3 := HX.out x3 (by simp)
    have hx4 := HX.out x4 (by simp)
    have hx5 := HX.out x5 (by simp)
    have hx6 := HX.out x6 (by simp)
    have hx7 := HX.out x7 (by simp)
    have p0 : wr.cell? ⟨V.heap.size, 0, none⟩ = some (.int .u32 (x0 : Int)) := by rw [Lib.cell_of_heap HT.out]; rfl
    have f0 : wr.frozen? ⟨V.heap.size, 0, none⟩ = false := Lib.frozen_of_heap HT.out 0
    have p1 : wr.cell? ⟨V.heap.size, 1, none⟩ = some (.int .u32 (x1 : Int)) := by rw [Lib.cell_of_heap HT.out]; rfl
    have f1 : wr.frozen? ⟨V.heap.size, 1, none⟩ = false := Lib.frozen_of_heap HT.out 1
    have p2 : wr.cell? ⟨V.heap.size, 2, none⟩ = some (.int .u32 (x2 : Int)) := by rw [Lib.cell_of_heap HT.out]; rfl
    have f2 : wr.frozen? ⟨V.heap.size, 2, none⟩ = false := Lib.frozen_of_heap HT.out 2
    have p3 : wr.cell? ⟨V.heap.size, 3, none⟩ = some (.int .u32 (x3 : Int)) := by rw [Lib.cell_of_heap HT.out]; rfl
    have f3 : wr.frozen? ⟨V.heap.size, 3, none⟩ = false := Lib.frozen_of_heap HT.out 3
    have p4 : wr.cell? ⟨V.heap.size, 4, none⟩ = some (.int .u32 (x4 : Int)) := by rw [Lib.cell_of_heap HT.out]; rfl
    have f4 : wr.frozen? ⟨V.heap.size, 4, none⟩ = false := Lib.frozen_of_heap HT.out 4
    have p5 : wr.cell? ⟨V.heap.size, 5, none⟩ = some (.int .u32 (x5 : Int)) := by rw [Lib.cell_of_heap HT.out]; rfl
    have f5 : wr.frozen? ⟨V.heap.size, 5, none⟩ = false := Lib.frozen_of_heap HT.out 5
    have p6 : wr.cell? ⟨V.heap.size, 6, none⟩ = some (.int .u32 (x6 : Int)) := by rw [Lib.cell_of_heap HT.out]; rfl
    have f6 : wr.frozen? ⟨V.heap.size, 6, none⟩ = false := Lib.frozen_of_heap HT.out 6
    have p7 : wr.cell? ⟨V.heap.size, 7, none⟩ = some (.int .u32 (x7 : Int)) := by rw [Lib.cell_of_heap HT.out]; rfl
    have f7 : wr.frozen? ⟨V.heap.size, 7, none⟩ = false := Lib.frozen_of_heap HT.out 7
    by_cases k64 : k < 64
    · have hnx := Sm.rounds_drop (by rw [HZL.out]; exact k64) HE.out
      rw [List.getElem_zip] at hnx
      have hk1 : k < Sm.K.length := k64
      have hk2 : k < S.length := by rw [hWl]; exact k64
      have cK : wr.cell? ⟨w5.heap.size + 1, k, none⟩ = some (.int .u32 (Sm.K[k] : Nat)) := cell_keep HB.out.block (by
        rw [Lib.cell_of_heap V6.out, List.getElem?_toArray, List.getElem?_map, List.getElem?_eq_getElem hk1]; rfl)
      have cW : wr.cell? ⟨w5.heap.size, k, none⟩ = some (.int .u32 (S[k] : Nat)) := cell_keep HB.out.block (by
        rw [Lib.cell_of_heap V5.out, List.getElem?_toArray, List.getElem?_map, List.getElem?_eq_getElem hk2]; rfl)
      have hKl := Sm.K_lt _ (List.getElem_mem hk1)
      have hSl := hWlt _ (List.getElem_mem hk2)
      have HN := Lib.hid hnx; clear hnx
      generalize Sm.K[k] = kk at cK hKl HN
      generalize S[k] = ww at cW hSl HN
      have i0 : (0 : Int) ≤ (k : Int) := by omega
      have i1 : (k : Int) < 64 := by omega
      have r6 := fun u => rot6_c x4 u hx4
      have r11 := fun u => rot11_c x4 u hx4
      have r25 := fun u => rot25_c x4 u hx4
      have R6 := Lib.hid r6
      have R11 := Lib.hid r11
      have R25 := Lib.hid r25
      clear r6 r11 r25
      go_wp2_with fail
      go_quiet ((first
        | (go_at_call 33; (with_reducible show Calls _ _ #[_, .int .i64 (-6)] _ _); refine Calls.quiet_of_same (R6.out _))
        | (go_at_call 33; (with_reducible show Calls _ _ #[_, .int .i64 (-11)] _ _); refine Calls.quiet_of_same (R11.out _))
        | (go_at_call 33; (with_reducible show Calls _ _ #[_, .int .i64 (-25)] _ _); refine Calls.quiet_of_same (R25.out _))))
      have e1 : bits .xor .u32 (bits .xor .u32 (Sm.rot 6 x4 : Nat) (Sm.rot 11 x4 : Nat)) (Sm.rot 25 x4 : Nat) = (((Sm.rot 6 x4 ^^^ Sm.rot 11 x4) ^^^ Sm.rot 25 x4 : Nat) : Int) := by
        rw [bits_xor_u32 _ _ (Sm.rot_lt hx4) (Sm.rot_lt hx4)]
        exact bits_xor_u32 _ _ (Sm.xor_lt (Sm.rot_lt hx4) (Sm.rot_lt hx4)) (Sm.rot_lt hx4)
      have hSE := Sm.xor_lt (Sm.xor_lt (Sm.rot_lt (r := 6) hx4) (Sm.rot_lt (r := 11) hx4)) (Sm.rot_lt (r := 25) hx4)
      rw [e1]
      clear e1
      have HRN : Hid (Sm.rnd [x0, x1, x2, x3, x4, x5, x6, x7] kk ww = [((x7 + ((Sm.rot 6 x4 ^^^ Sm.rot 11 x4) ^^^ Sm.rot 25 x4) + (x6 ^^^ (x4 &&& (x5 ^^^ x6))) + kk + ww) % 4294967296 + ((Sm.rot 2 x0 ^^^ Sm.rot 13 x0) ^^^ Sm.rot 22 x0) + ((x0 &&& x1) ||| (x2 &&& (x0 ||| x1)))) % 4294967296, x0, x1, x2, (x3 + (x7 + ((Sm.rot 6 x4 ^^^ Sm.rot 11 x4) ^^^ Sm.rot 25 x4) + (x6 ^^^ (x4 &&& (x5 ^^^ x6))) + kk + ww) % 4294967296) % 4294967296, x4, x5, x6]) := Lib.hid rfl
      generalize (Sm.rot 6 x4 ^^^ Sm.rot 11 x4) ^^^ Sm.rot 25 x4 = SE at hSE HRN ⊢
      clear R6 R11 R25
      have e2 : bits .xor .u32 (x6 : Int) (bits .and .u32 (x4 : Int) (bits .xor .u32 (x5 : Int) (x6 : Int))) = ((x6 ^^^ (x4 &&& (x5 ^^^ x6)) : Nat) : Int) := by
        rw [bits_xor_u32 _ _ hx5 hx6, bits_and_u32 _ _ hx4 (Sm.xor_lt hx5 hx6)]
        exact bits_xor_u32 _ _ hx6 (Sm.and_lt hx4)
      have hCH := Sm.xor_lt hx6 (Sm.and_lt (b := x5 ^^^ x6) hx4)
      have E2 := Lib.hid e2; clear e2
      generalize x6 ^^^ (x4 &&& (x5 ^^^ x6)) = CH at hCH HRN E2
      go_wp2_with fail
      go_quiet (fail)
      rw [E2.out]
      have hT : (((x7 : Int) + SE + CH + kk) % 4294967296 + ww) % 4294967296 = (((x7 + SE + CH + kk + ww) % 4294967296 : Nat) : Int) := by omega
      have hTl : (x7 + SE + CH + kk + ww) % 4294967296 < 4294967296 := Nat.mod_lt _ (by decide)
      rw [hT]
      clear hT
      generalize (x7 + SE + CH + kk + ww) % 4294967296 = TT at hTl HRN ⊢
      clear E2
      generalize hW1 : (wr.drewN _).drewN _ = W1
      have ht1 : W1.heap[V.heap.size]? = some (.cells #[.int .u32 (x0 : Int), .int .u32 (x1 : Int), .int .u32 (x2 : Int), .int .u32 (x3 : Int), .int .u32 (x4 : Int), .int .u32 (x5 : Int), .int .u32 (x6 : Int), .int .u32 (x7 : Int)] 45 (0, 0)) := by rw [← hW1]; exact HT.out
      have hb1 : Below V.heap.size V W1 := by rw [← hW1]; exact HB.out.trans ⟨rfl, rfl, rfl, Nat.le_refl _, fun _ _ => rfl⟩
      clear hW1
      have HT1 := Lib.hid ht1
      have HB1 := Lib.hid hb1
      clear ht1 hb1 p0 p1 p2 p3 p4 p5 p6 p7 f0 f1 f2 f3 f4 f5 f6 f7 cK cW
      have p0 : W1.cell? ⟨V.heap.size, 0, none⟩ = some (.int .u32 (x0 : Int)) := by rw [Lib.cell_of_heap HT1.out]; rfl
      have f0 : W1.frozen? ⟨V.heap.size, 0, none⟩ = false := Lib.frozen_of_heap HT1.out 0
      have p1 : W1.cell? ⟨V.heap.size, 1, none⟩ = some (.int .u32 (x1 : Int)) := by rw [Lib.cell_of_heap HT1.out]; rfl
      have f1 : W1.frozen? ⟨V.heap.size, 1, none⟩ = false := Lib.frozen_of_heap HT1.out 1
      have p2 : W1.cell? ⟨V.heap.size, 2, none⟩ = some (.int .u32 (x2 : Int)) := by rw [Lib.cell_of_heap HT1.out]; rfl
      have f2 : W1.frozen? ⟨V.heap.size, 2, none⟩ = false := Lib.frozen_of_heap HT1.out 2
      have p3 : W1.cell? ⟨V.heap.size, 3, none⟩ = some (.int .u32 (x3 : Int)) := by rw [Lib.cell_of_heap HT1.out]; rfl
      have f3 : W1.frozen? ⟨V.heap.size, 3, none⟩ = false := Lib.frozen_of_heap HT1.out 3
      have p4 : W1.cell? ⟨V.heap.size, 4, none⟩ = some (.int .u32 (x4 : Int)) := by rw [Lib.cell_of_heap HT1.out]; rfl
      have f4 : W1.frozen? ⟨V.heap.size, 4, none⟩ = false := Lib.frozen_of_heap HT1.out 4
      have p5 : W1.cell? ⟨V.heap.size, 5, none⟩ = some (.int .u32 (x5 : Int)) := by rw [Lib.cell_of_heap HT1.out]; rfl
      have f5 : W1.frozen? ⟨V.heap.size, 5, none⟩ = false := Lib.frozen_of_heap HT1.out 5
      have p6 : W1.cell? ⟨V.heap.size, 6, none⟩ = some (.int .u32 (x6 : Int)) := by rw [Lib.cell_of_heap HT1.out]; rfl
      have f6 : W1.frozen? ⟨V.heap.size, 6, none⟩ = false := Lib.frozen_of_heap HT1.out 6
      have p7 : W1.cell? ⟨V.heap.size, 7, none⟩ = some (.int .u32 (x7 : Int)) := by rw [Lib.cell_of_heap HT1.out]; rfl
      have f7 : W1.frozen? ⟨V.heap.size, 7, none⟩ = false := Lib.frozen_of_heap HT1.out 7
      have r2 := fun u => rot2_c x0 u hx0
      have R2 := Lib.hid r2
      clear r2
      have r13 := fun u => rot13_c x0 u hx0
      have R13 := Lib.hid r13
      clear r13
      have r22 := fun u => rot22_c x0 u hx0
      have R22 := Lib.hid r22
      clear r22
      go_wp2_with fail
      go_quiet ((first
        | (go_at_call 33; (with_reducible show Calls _ _ #[_, .int .i64 (-2)] _ _); refine Calls.quiet_of_same (R2.out _))
        | (go_at_call 33; (with_reducible show Calls _ _ #[_, .int .i64 (-13)] _ _); refine Calls.quiet_of_same (R13.out _))
        | (go_at_call 33; (with_reducible show Calls _ _ #[_, .int .i64 (-22)] _ _); refine Calls.quiet_of_same (R22.out _))))
      have e3 : bits .xor .u32 (bits .xor .u32 (Sm.rot 2 x0 : Nat) (Sm.rot 13 x0 : Nat)) (Sm.rot 22 x0 : Nat) = (((Sm.rot 2 x0 ^^^ Sm.rot 13 x0) ^^^ Sm.rot 22 x0 : Nat) : Int) := by
        rw [bits_xor_u32 _ _ (Sm.rot_lt hx0) (Sm.rot_lt hx0)]
        exact bits_xor_u32 _ _ (Sm.xor_lt (Sm.rot_lt hx0) (Sm.rot_lt hx0)) (Sm.rot_lt hx0)
      have hSR := Sm.xor_lt (Sm.xor_lt (Sm.rot_lt (r := 2) hx0) (Sm.rot_lt (r := 13) hx0)) (Sm.rot_lt (r := 22) hx0)
      rw [e3]
      clear e3
      generalize (Sm.rot 2 x0 ^^^ Sm.rot 13 x0) ^^^ Sm.rot 22 x0 = SR at hSR HRN ⊢
      clear R2 R13 R22
      have e4 : bits .or .u32 (bits .and .u32 (x0 : Int) (x1 : Int)) (bits .and .u32 (x2 : Int) (bits .or .u32 (x0 : Int) (x1 : Int))) = (((x0 &&& x1) ||| (x2 &&& (x0 ||| x1)) : Nat) : Int) := by
        rw [bits_and_u32 _ _ hx0 hx1, bits_or_u32 _ _ hx0 hx1, bits_and_u32 _ _ hx2 (Sm.or_lt hx0 hx1)]
        exact bits_or_u32 _ _ (Sm.and_lt hx0) (Sm.and_lt hx2)
      have hMJ := Sm.or_lt (Sm.and_lt (b := x1) hx0) (Sm.and_lt (b := x0 ||| x1) hx2)
      have E4 := Lib.hid e4; clear e4
      generalize (x0 &&& x1) ||| (x2 &&& (x0 ||| x1)) = MJ at hMJ HRN E4
      go_wp2_with fail
      have hA : ((TT : Int) + SR + MJ) % 4294967296 = (((TT + SR + MJ) % 4294967296 : Nat) : Int) := by omega
      have hB2 : ((x3 : Int) + TT) % 4294967296 = (((x3 + TT) % 4294967296 : Nat) : Int) := by omega
      have hkey : ∀ (m n0 n1 n2 n3 n4 n5 n6 n7 : Nat), ((W1.drewN m).setCells V.heap.size 0 [.int .u32 (n0 : Int), .int .u32 (n1 : Int), .int .u32 (n2 : Int), .int .u32 (n3 : Int), .int .u32 (n4 : Int), .int .u32 (n5 : Int), .int .u32 (n6 : Int), .int .u32 (n7 : Int)]).heap[V.heap.size]? = some (.cells #[.int .u32 (n0 : Int), .int .u32 (n1 : Int), .int .u32 (n2 : Int), .int .u32 (n3 : Int), .int .u32 (n4 : Int), .int .u32 (n5 : Int), .int .u32 (n6 : Int), .int .u32 (n7 : Int)] 45 (0, 0)) := fun m n0 n1 n2 n3 n4 n5 n6 n7 =>
        heap_setCells_full (w := W1.drewN m) [.int .u32 (n0 : Int), .int .u32 (n1 : Int), .int .u32 (n2 : Int), .int .u32 (n3 : Int), .int .u32 (n4 : Int), .int .u32 (n5 : Int), .int .u32 (n6 : Int), .int .u32 (n7 : Int)] [.int .u32 (x0 : Int), .int .u32 (x1 : Int), .int .u32 (x2 : Int), .int .u32 (x3 : Int), .int .u32 (x4 : Int), .int .u32 (x5 : Int), .int .u32 (x6 : Int), .int .u32 (x7 : Int)] HT1.out rfl
      have HKEY := Lib.hid hkey; clear hkey
      rw [E4.out, hA, hB2]
      clear hA hB2
      go_roundw
      case rel =>
        refine ⟨k + 1, (TT + SR + MJ) % 4294967296, x0, x1, x2, (x3 + TT) % 4294967296, x4, x5, x6, by omega, by go_num, Lib.hid ?_, Lib.hid ?_, Lib.hid ?_, Lib.hid ?_⟩
        · intro x hx
          have h1 : (TT + SR + MJ) % 4294967296 < 4294967296 := Nat.mod_lt _ (by decide)
          have h2 : (x3 + TT) % 4294967296 < 4294967296 := Nat.mod_lt _ (by decide)
          simp only [List.mem_cons, List.not_mem_nil, or_false] at hx
          rcases hx with rfl | rfl | rfl | rfl | rfl | rfl | rfl | rfl <;> assumption
        · rw [eight]
          exact HKEY.out _ _ _ _ _ _ _ _ _
        · have hbq : ∀ m, Below V.heap.size V (W1.drewN m) := fun m => HB1.out.trans ⟨rfl, rfl, rfl, Nat.le_refl _, fun _ _ => rfl⟩
          rw [eight]
          exact below_setCells [uv ((TT + SR + MJ) % 4294967296), uv x0, uv x1, uv x2, uv ((x3 + TT) % 4294967296), uv x4, uv x5, uv x6] 0 (hbq _) (Nat.le_refl _)
        · rw [← HRN.out]
          exact HN.out
      case measure => simp [intOf] <;> omega
    · have k64' : k = 64 := by omega
      subst k64'
      have hR : Sm.rounds (List.zip Sm.K S) [a, b, c, d, e, f, g, h] = [x0, x1, x2, x3, x4, x5, x6, x7] := by
        rw [← HE.out, List.drop_of_length_le (by rw [HZL.out]; exact Nat.le_refl _)]
        rfl
      have hfin : Sm.mix [a, b, c, d, e, f, g, h] bt = List.zipWith (fun x y => (x + y) % 4294967296) [x0, x1, x2, x3, x4, x5, x6, x7] [a, b, c, d, e, f, g, h] := by rw [HM.out, hR]
      have HF := Lib.hid hfin
      clear hR hfin p0 p1 p2 p3 p4 p5 p6 p7 f0 f1 f2 f3 f4 f5 f6 f7
      have hst : wr.heap[V.heap.size]? = some (.cells ([x0, x1, x2, x3, x4, x5, x6, x7].map uv).toArray 45 (0, 0)) := HT.out
      have HST2 := Lib.hid hst
      clear hst HT
      go_wp2_with fail
      rw [show ((64 : Nat) : Int) = 64 from rfl]
      go_loopw [104] (fun i wq => ∃ (j : Nat) (L : List Nat), j ≤ 8 ∧ i = .int .i64 j ∧ L.length = 8 ∧ Hid (wq.heap[V.heap.size]? = some (.cells (L.map uv).toArray 45 (0, 0))) ∧ Hid (Below V.heap.size V wq) ∧ Hid (∀ m, m < 8 → L.getD m 0 = if m < j then ([x0, x1, x2, x3, x4, x5, x6, x7].getD m 0 + [a, b, c, d, e, f, g, h].getD m 0) % 4294967296 else [x0, x1, x2, x3, x4, x5, x6, x7].getD m 0)) (fun i _ => 8 - (intOf i).toNat)
      case atStart => exact ⟨0, [x0, x1, x2, x3, x4, x5, x6, x7], by omega, rfl, rfl, HST2, HB, Lib.hid (fun m hm => by simp)⟩
      case round =>
        obtain ⟨j, L, hj, rfl, hL, HTq, HBq, HQ⟩ := hrel
        by_cases j8 : j < 8
        · have cj : wr.cell? ⟨V.heap.size, j, none⟩ = some (.int .u32 (L.getD j 0 : Nat)) := by
            rw [Lib.cell_of_heap HTq.out, List.getElem?_toArray, List.getElem?_map, List.getElem?_eq_getElem (by omega), List.getD_eq_getElem?_getD, List.getElem?_eq_getElem (by omega)]
            rfl
          have fj : wr.frozen? ⟨V.heap.size, j, none⟩ = false := Lib.frozen_of_heap HTq.out j
          have v2 : V.heap[w.heap.size]? = some (.cells ([a, b, c, d, e, f, g, h].map uv).toArray 45 (0, 0)) := V2.out
          have c2 : wr.cell? ⟨w.heap.size, j, none⟩ = some (.int .u32 ([a, b, c, d, e, f, g, h].getD j 0 : Nat)) := cell_keep HBq.out.block (by
            rw [Lib.cell_of_heap v2, List.getElem?_toArray, List.getElem?_map, List.getElem?_eq_getElem (show j < [a, b, c, d, e, f, g, h].length from j8), List.getD_eq_getElem?_getD, List.getElem?_eq_getElem (show j < [a, b, c, d, e, f, g, h].length from j8)]
            rfl)
          have hxj := HQ.out j j8
          rw [if_neg (Nat.lt_irrefl j)] at hxj
          obtain ⟨hh', hhe⟩ : ∃ y, y = [a, b, c, d, e, f, g, h].getD j 0 := ⟨_, rfl⟩
          rw [← hhe] at c2
          have HHE := Lib.hid hhe; clear hhe
          generalize L.getD j 0 = lj at cj hxj
          have HXJ := Lib.hid hxj; clear hxj
          have i0 : (0 : Int) ≤ (j : Int) := by omega
          have i1 : (j : Int) < 8 := by omega
          clear v2
          go_wp2_with fail
          go_region_law (fail)
          all_goals go_wp2_with fail
          all_goals go_roundw
          all_goals first
            | (simp [intOf]; omega)
            | (refine ⟨j + 1, L.set j ((lj + hh') % 4294967296), by omega, by go_num, by simp [hL], Lib.hid ?_, Lib.hid ?_, Lib.hid ?_⟩
               · have ht := heap_setCell_same wr V.heap.size j _ _ (uv ((lj + hh') % 4294967296)) HTq.out
                 rw [List.setIfInBounds_toArray, ← List.map_set] at ht
                 exact ht
               · have hbs : ∀ v, Below V.heap.size V (wr.setCell ⟨V.heap.size, j, none⟩ v) := fun v => HBq.out.setCell (p := ⟨V.heap.size, j, none⟩) (Nat.le_refl _) v
                 first
                   | exact hbs _
                   | exact Below.trans (hbs _) ⟨rfl, rfl, rfl, Nat.le_refl _, fun _ _ => rfl⟩
               · intro m hm
                 by_cases hmj : m = j
                 · subst hmj
                   rw [if_pos (Nat.lt_succ_self _), ← HHE.out, ← HXJ.out, List.getD_eq_getElem?_getD, List.getElem?_set_self (by omega)]
                   rfl
                 · rw [List.getD_eq_getElem?_getD, List.getElem?_set_ne (fun e => hmj e.symm), ← List.getD_eq_getElem?_getD, HQ.out m hm]
                   by_cases h1 : m < j
                   · rw [if_pos h1, if_pos (by omega)]
                   · rw [if_neg h1, if_neg (by omega)])
        · have j8' : j = 8 := by omega
          subst j8'
          have hLe : L = Sm.mix [a, b, c, d, e, f, g, h] bt := by
            rw [HF.out]
            refine List.ext_getElem (by rw [hL]; rfl) fun m h1 h2 => ?_
            have hm : m < 8 := by omega
            have hq := HQ.out m hm
            rw [if_pos hm, List.getD_eq_getElem?_getD, List.getElem?_eq_getElem h1, List.getD_eq_getElem?_getD, List.getElem?_eq_getElem (show m < [x0, x1, x2, x3, x4, x5, x6, x7].length from hm), List.getD_eq_getElem?_getD, List.getElem?_eq_getElem (show m < [a, b, c, d, e, f, g, h].length from hm)] at hq
            rw [List.getElem_zipWith]
            exact hq
          have HLE := Lib.hid hLe
          clear hLe
          obtain ⟨y0, y1, y2, y3, y4, y5, y6, y7, hY⟩ : ∃ y0 y1 y2 y3 y4 y5 y6 y7, L = [y0, y1, y2, y3, y4, y5, y6, y7] := by
            match L, hL with
            | [y0, y1, y2, y3, y4, y5, y6, y7], _ => exact ⟨_, _, _, _, _, _, _, _, rfl⟩
          subst hY
          have q0 : wr.cell? ⟨V.heap.size, 0, none⟩ = some (.int .u32 (y0 : Int)) := by rw [Lib.cell_of_heap HTq.out]; rfl
          have q1 : wr.cell? ⟨V.heap.size, 1, none⟩ = some (.int .u32 (y1 : Int)) := by rw [Lib.cell_of_heap HTq.out]; rfl
          have q2 : wr.cell? ⟨V.heap.size, 2, none⟩ = some (.int .u32 (y2 : Int)) := by rw [Lib.cell_of_heap HTq.out]; rfl
          have q3 : wr.cell? ⟨V.heap.size, 3, none⟩ = some (.int .u32 (y3 : Int)) := by rw [Lib.cell_of_heap HTq.out]; rfl
          have q4 : wr.cell? ⟨V.heap.size, 4, none⟩ = some (.int .u32 (y4 : Int)) := by rw [Lib.cell_of_heap HTq.out]; rfl
          have q5 : wr.cell? ⟨V.heap.size, 5, none⟩ = some (.int .u32 (y5 : Int)) := by rw [Lib.cell_of_heap HTq.out]; rfl
          have q6 : wr.cell? ⟨V.heap.size, 6, none⟩ = some (.int .u32 (y6 : Int)) := by rw [Lib.cell_of_heap HTq.out]; rfl
          have q7 : wr.cell? ⟨V.heap.size, 7, none⟩ = some (.int .u32 (y7 : Int)) := by rw [Lib.cell_of_heap HTq.out]; rfl
          clear hL
          have r2 : wr.heap[w.heap.size + 1]? = some (.cells #[.int .u32 0, .int .u32 0, .int .u32 0, .int .u32 0, .int .u32 0, .int .u32 0, .int .u32 0, .int .u32 0] 45 (0, 0)) := ((HBq.out.mono (Nat.le_refl _)).block (w.heap.size + 1) (by have := VS.out; omega)).trans ((VB.out.block (w.heap.size + 1) (by omega)).trans H5.out.2.1)
          have rc0 : wr.cell? ⟨w.heap.size + 1, 0, none⟩ = some (.int .u32 0) := by rw [Lib.cell_of_heap r2]; rfl
          have rf0 : wr.frozen? ⟨w.heap.size + 1, 0, none⟩ = false := Lib.frozen_of_heap r2 0
          have rc1 : wr.cell? ⟨w.heap.size + 1, 1, none⟩ = some (.int .u32 0) := by rw [Lib.cell_of_heap r2]; rfl
          have rf1 : wr.frozen? ⟨w.heap.size + 1, 1, none⟩ = false := Lib.frozen_of_heap r2 1
          have rc2 : wr.cell? ⟨w.heap.size + 1, 2, none⟩ = some (.int .u32 0) := by rw [Lib.cell_of_heap r2]; rfl
          have rf2 : wr.frozen? ⟨w.heap.size + 1, 2, none⟩ = false := Lib.frozen_of_heap r2 2
          have rc3 : wr.cell? ⟨w.heap.size + 1, 3, none⟩ = some (.int .u32 0) := by rw [Lib.cell_of_heap r2]; rfl
          have rf3 : wr.frozen? ⟨w.heap.size + 1, 3, none⟩ = false := Lib.frozen_of_heap r2 3
          have rc4 : wr.cell? ⟨w.heap.size + 1, 4, none⟩ = some (.int .u32 0) := by rw [Lib.cell_of_heap r2]; rfl
          have rf4 : wr.frozen? ⟨w.heap.size + 1, 4, none⟩ = false := Lib.frozen_of_heap r2 4
          have rc5 : wr.cell? ⟨w.heap.size + 1, 5, none⟩ = some (.int .u32 0) := by rw [Lib.cell_of_heap r2]; rfl
          have rf5 : wr.frozen? ⟨w.heap.size + 1, 5, none⟩ = false := Lib.frozen_of_heap r2 5
          have rc6 : wr.cell? ⟨w.heap.size + 1, 6, none⟩ = some (.int .u32 0) := by rw [Lib.cell_of_heap r2]; rfl
          have rf6 : wr.frozen? ⟨w.heap.size + 1, 6, none⟩ = false := Lib.frozen_of_heap r2 6
          have rc7 : wr.cell? ⟨w.heap.size + 1, 7, none⟩ = some (.int .u32 0) := by rw [Lib.cell_of_heap r2]; rfl
          have rf7 : wr.frozen? ⟨w.heap.size + 1, 7, none⟩ = false := Lib.frozen_of_heap r2 7
          have R2 := Lib.hid r2; clear r2
          rw [show ((8 : Nat) : Int) = 8 from rfl]
          go_wp2_with fail
          rw [eight]
          have hh := heap_setCells_full (w := wr) [.int .u32 (y0 : Int), .int .u32 (y1 : Int), .int .u32 (y2 : Int), .int .u32 (y3 : Int), .int .u32 (y4 : Int), .int .u32 (y5 : Int), .int .u32 (y6 : Int), .int .u32 (y7 : Int)] [.int .u32 0, .int .u32 0, .int .u32 0, .int .u32 0, .int .u32 0, .int .u32 0, .int .u32 0, .int .u32 0] R2.out rfl
          refine ⟨rfl, _, results_cell_row rfl _ _ _ _ _ _ _ rfl hh Try.underlying45 rfl (by kernel_rfl), ?_, ?_⟩
          · rw [← HLE.out]
            rfl
          · have b0 := H5.out.2.2
            have b1 : Below w.heap.size w V := b0.trans (VB.out.mono (by omega))
            have b2 : Below w.heap.size w wr := b1.trans (HBq.out.mono (by have := VS.out; omega))
            exact below_setCells _ 0 b2 (by omega)
end Go.Proofs.Ytjijmgmobdoliaa
