/- Walks: a digest's hexadecimal digits, written and read; the order of digests. -/
import Derived.Test.YtjijmgmobdoliaaUnhex
import Derived.Lib.LazyBuf
import Derived.Lib.BytesEntry
namespace Go.Proofs.Ytjijmgmobdoliaa
open Go.RowKit

theorem eq_bytes (a b : ByteArray) : (a.toList == b.toList) = (a.data.toList == b.data.toList) := by rw [Lib.toList_data, Lib.toList_data]
/-- the order of lists of one length -/
def Hx.lt : List Nat → List Nat → Bool
  | a :: x, b :: y => decide (a < b) || (decide (a = b) && Hx.lt x y)
  | _, _ => false
theorem compare_lt : ∀ (a b : List Nat), a.length = b.length → (∀ x ∈ a, x < 256) → (∀ x ∈ b, x < 256) → decide (Lib.compareBytes (a.map UInt8.ofNat) (b.map UInt8.ofNat) < 0) = Hx.lt a b
  | [], [], _, _, _ => rfl
  | x :: a, y :: b, hl, ha, hb => by
    have ih := compare_lt a b (by simpa using hl) (fun z hz => ha z (by simp [hz])) (fun z hz => hb z (by simp [hz]))
    have hx := ha x (by simp)
    have hy := hb y (by simp)
    have e1 : UInt8.ofNat x < UInt8.ofNat y ↔ x < y := by
      rw [UInt8.lt_iff_toNat_lt, Vi.ofNat_toNat hx, Vi.ofNat_toNat hy]
    have e2 : UInt8.ofNat y < UInt8.ofNat x ↔ y < x := by
      rw [UInt8.lt_iff_toNat_lt, Vi.ofNat_toNat hx, Vi.ofNat_toNat hy]
    simp only [List.map_cons, Lib.compareBytes, Hx.lt, e1, e2]
    by_cases h1 : x < y
    · simp [h1]
    · by_cases h2 : y < x
      · have h3 : ¬ x = y := by omega
        simp [h1, h2, h3]
      · have h3 : x = y := by omega
        subst h3
        simp [ih]
theorem results_cell_row_tmp {P : Program} {fn : Func} {p u : Tmp} {ty : TypeId} (h : fn.results = #[.cell p ty, .tmp u]) (tmps : Array Value) (w : World) (g : Nat) (t : TypeId) (cs : Array Value) (fr : Nat × Nat) (d : TypeDesc)
    (hp : tmps.getD p undef = .pointer (some ⟨g, 0, none⟩)) (hg : w.heap[g]? = some (.cells cs t fr))
    (hu : P.underlying ty = some d) (hd : (match d with | .struct _ | .array _ _ => true | _ => false) = true) (hi : (P.info? ty).map (·.size) = some cs.size) :
    (results fn tmps).run P w = .ok (.tuple #[.agg cs, tmps.getD u undef]) w := by
  have hp' : tmps[p]?.getD undef = .pointer (some ⟨g, 0, none⟩) := by simpa using hp
  simp [results, h, hp', asAddr, run_loadVar_row w g t ty cs fr d hg hu hd hi]
theorem toNat_ofNat_map {l : List Nat} (h : ∀ x ∈ l, x < 256) : (bs (l.map UInt8.ofNat)).data.toList.map UInt8.toNat = l := by
  rw [bs_data, List.map_map]
  conv => rhs; rw [← List.map_id l]
  exact List.map_congr_left fun x hx => Vi.ofNat_toNat (h x hx)
theorem conv_back (W : World) (b n cap : Nat) (R : List Nat) (t : TypeId) (hh : W.heap[b]? = some (.cells (R.map yv).toArray t (0, 0))) (hn : R.length = n) (hlt : ∀ x ∈ R, x < 256) :
    (convert 36 9 (.slice (some ⟨b, 0, none⟩) n cap)).run Try.prog W = .ok (.string (bs (R.map UInt8.ofNat))) W := by
  have h := run_convert_bytes_back (P := Try.prog) W 36 9 5 ⟨b, 0, none⟩ cap (R.map UInt8.ofNat) Try.underlying36 Try.underlying5 Try.underlying9 (fun j hj => by
    rw [List.length_map] at hj
    have hadd : (⟨b, 0, none⟩ : Addr).add j = ⟨b, j, none⟩ := by unfold Addr.add; split <;> simp_all
    rw [hadd, Lib.cell_of_heap hh, List.getElem?_toArray, List.getElem?_map, List.getElem?_eq_getElem hj, List.getElem_map, Vi.ofNat_toNat (hlt _ (List.getElem_mem hj))]
    rfl)
  rw [List.length_map, hn] at h
  exact h

set_option maxHeartbeats 4000000 in
theorem DigHex_c (l : List Nat) (w : World) (hl : l.length = 32) (hlt : ∀ x ∈ l, x < 256) :
    Calls Try.prog 14 #[.agg (l.map yv).toArray] w fun e w' => e = .returned (.string (bs (Hx.hex l))) ∧ Below w.heap.size w w' := by
  have hst : (w.alloc (.cells (l.map yv).toArray 23)).heap[w.heap.size]? = some (.cells (l.map yv).toArray 23 (0, 0)) := heap_alloc_new _ _
  have hcv := conv_back _ w.heap.size 32 32 l _ hst hl hlt
  have hx := NumHex_c (bs (l.map UInt8.ofNat)) (w.alloc (.cells (l.map yv).toArray 23)) (by rw [bs_size, List.length_map, hl]; decide)
  rw [toNat_ofNat_map hlt] at hx
  have HX := Lib.hid hx
  clear hst hx
  go_enter Try.func14, Try.ntmps14
  go_wp2_with fail
  refine HX.out.mono ?_
  rintro e w1 ⟨rfl, b1⟩
  go_wp2_with fail
  go_ret
  exact ⟨rfl, ((Below.refl _ w).alloc (Nat.le_refl _) _).trans (b1.mono (by simp))⟩

theorem run_compareSlices (W : World) (b1 b2 n1 c1 n2 c2 : Nat) (x y : List Nat) (t : TypeId) (h1 : W.heap[b1]? = some (.cells (x.map yv).toArray t (0, 0))) (h2 : W.heap[b2]? = some (.cells (y.map yv).toArray t (0, 0))) (hx : x.length = n1) (hy : y.length = n2) :
    (Extern.BytealgCompare.compare #[.slice (some ⟨b1, 0, none⟩) n1 c1, .slice (some ⟨b2, 0, none⟩) n2 c2]).run Try.prog W = .ok (.int .i64 (Lib.compareBytes (x.map UInt8.ofNat) (y.map UInt8.ofNat))) W := by
  have load : ∀ (b : Nat) (l : List Nat), W.heap[b]? = some (.cells (l.map yv).toArray t (0, 0)) → (Extern.Bytes.loadBytes ⟨b, 0, none⟩ l.length .empty).run Try.prog W = .ok (bs (l.map UInt8.ofNat)) W := by
    intro b l h
    have hr := Lib.run_loadBytesX (P := Try.prog) W (l.map fun n : Nat => (n : Int)) ⟨b, 0, none⟩ .empty (fun j z hj => by
      have hadd : (⟨b, 0, none⟩ : Addr).add j = ⟨b, j, none⟩ := by unfold Addr.add; split <;> simp_all
      rw [hadd, Lib.cell_of_heap h, List.getElem?_toArray, List.getElem?_map]
      rw [List.getElem?_map] at hj
      cases hq : l[j]? with
      | none => rw [hq] at hj; cases hj
      | some v => rw [hq] at hj; injection hj with hj; subst hj; rfl)
    rw [List.length_map] at hr
    rw [hr]
    congr 1
    apply ByteArray.ext
    show (#[] : Array UInt8) ++ _ = _
    simp [Lib.bytesOf, bs]
  have l1 := load b1 x h1
  have l2 := load b2 y h2
  rw [hx] at l1
  rw [hy] at l2
  change Sem.run Try.prog (do pure (goInt (Extern.BytealgCompare.cmp (← Extern.Bytes.bytesOf (.slice (some ⟨b1, 0, none⟩) n1 c1)) (← Extern.Bytes.bytesOf (.slice (some ⟨b2, 0, none⟩) n2 c2))))) W = _
  simp only [Extern.Bytes.bytesOf, Sem.run_bind, Sem.run_pure, l1, l2, Result.andThen]
  rw [Lib.cmp_eq]
  rfl
theorem Compare_c (W : World) (b1 b2 n1 c1 n2 c2 : Nat) (x y : List Nat) (t : TypeId) (h1 : W.heap[b1]? = some (.cells (x.map yv).toArray t (0, 0))) (h2 : W.heap[b2]? = some (.cells (y.map yv).toArray t (0, 0))) (hx : x.length = n1) (hy : y.length = n2) :
    Calls Try.prog 26 #[.slice (some ⟨b1, 0, none⟩) n1 c1, .slice (some ⟨b2, 0, none⟩) n2 c2] W fun e w' => e = .returned (.int .i64 (Lib.compareBytes (x.map UInt8.ofNat) (y.map UInt8.ofNat))) ∧ w' = W := by
  have hr := run_compareSlices W b1 b2 n1 c1 n2 c2 x y t h1 h2 hx hy
  have HR := Lib.hid hr
  clear hr h1 h2 hx hy
  go_enter Try.func26, Try.ntmps26
  go_wp2_with fail
  rw [run_callFunc_extern Try.func37 (by kernel_rfl) (by kernel_rfl) (by kernel_rfl) (e := Extern.BytealgCompare.compare) (by kernel_rfl), HR.out]
  simp only [Result.andThen]
  rw [Oper.upon_value]
  go_wp2_with fail
  go_ret
  exact ⟨rfl, rfl⟩
theorem two_boxes (w : World) (o1 o2 : Obj) (W : World) (hW : (w.alloc o1).alloc o2 = W) : W.heap[w.heap.size]? = some o1 ∧ W.heap[w.heap.size + 1]? = some o2 ∧ Below w.heap.size w W ∧ W.heap.size = w.heap.size + 1 + 1 := by
  subst hW
  exact ⟨w2_fst w o1 o2, w2_res w o1 o2, w2_below w o1 o2, w2_size w o1 o2⟩
set_option maxHeartbeats 4000000 in
theorem Less_c (x y : List Nat) (w : World) (hx : x.length = 32) (hy : y.length = 32) (hxl : ∀ z ∈ x, z < 256) (hyl : ∀ z ∈ y, z < 256) :
    Calls Try.prog 16 #[.agg (x.map yv).toArray, .agg (y.map yv).toArray] w fun e w' => e = .returned (.bool (Hx.lt x y)) ∧ Below w.heap.size w w' := by
  have hc := compare_lt x y (by rw [hx, hy]) hxl hyl
  have HC := Lib.hid hc
  clear hc
  go_enter Try.func16, Try.ntmps16
  go_wp2_with fail
  generalize hW : (w.alloc _).alloc _ = W
  obtain ⟨h1, h2, hb, hz⟩ := two_boxes _ _ _ _ hW
  clear hW
  have hcm := fun q => Compare_c (W.drewN q) w.heap.size (w.heap.size + 1) 32 32 32 32 x y 23 h1 h2 hx hy
  have HCM := Lib.hid hcm
  have HB := Lib.hid hb
  clear hcm h1 h2 hb hz hx hy hxl hyl
  go_wp2_with fail
  go_quiet ((go_at_call 26; refine Calls.quiet_of_same (HCM.out _)))
  go_wp2_with fail
  go_ret
  rw [← HC.out]
  exact ⟨rfl, HB.out.trans ⟨rfl, rfl, rfl, Nat.le_refl _, fun _ _ => rfl⟩⟩
theorem rd_eq {l : List UInt8} {R : List Nat} {ok : Bool} (h : Hx.unhex l = (R, ok)) : Hx.rd l = if ok = true ∧ R.length = 32 ∧ Hx.hex R = l then (R, true) else (List.replicate 32 0, false) := by
  unfold Hx.rd
  rw [h]
set_option maxHeartbeats 4000000 in
theorem Read_c (s : ByteArray) (w : World) (hs : s.size ≤ 140737488355328) :
    Calls Try.prog 8 #[.string s] w fun e w' => e = .returned (.tuple #[.agg ((Hx.rd s.data.toList).1.map yv).toArray, .bool (Hx.rd s.data.toList).2]) ∧ Below w.heap.size w w' := by
  have hun := Unhex_c s (w.alloc (.cells ((List.replicate 32 0).map yv).toArray 23)) hs
  have hst : (w.alloc (.cells ((List.replicate 32 0).map yv).toArray 23)).heap[w.heap.size]? = some (.cells ((List.replicate 32 0).map yv).toArray 23 (0, 0)) := heap_alloc_new _ _
  have hbw : Below w.heap.size w (w.alloc (.cells ((List.replicate 32 0).map yv).toArray 23)) := (Below.refl _ w).alloc (Nat.le_refl _) _
  obtain ⟨R, ok, hR⟩ : ∃ R ok, Hx.unhex s.data.toList = (R, ok) := ⟨_, _, rfl⟩
  have hrd := rd_eq hR
  rw [hR] at hun
  have hRlt : ∀ x ∈ R, x < 256 := by
    unfold Hx.unhex at hR
    split at hR
    · injection hR with h1 h2; subst h1; exact Hx.raw_lt _
    · injection hR with h1 h2; subst h1; simp
  have HUN := Lib.hid hun
  have HRD := Lib.hid hrd
  have HST := Lib.hid hst
  have HBW := Lib.hid hbw
  clear hun hrd hR hst hbw
  go_enter Try.func8, Try.ntmps8
  go_wp2_with fail
  change Calls _ _ _ (w.alloc (.cells ((List.replicate 32 0).map yv).toArray 23)) _
  refine HUN.out.mono ?_
  rintro e w1 ⟨rfl, b1⟩
  have h1 := (b1.block w.heap.size (by simp)).trans HST.out
  have B1 := Lib.hid (HBW.out.trans (b1.mono (by simp)))
  have hi32 : (Try.prog.info? 23).map (·.size) = some ((List.replicate 32 0).map yv).length := by kernel_rfl
  have H1 := Lib.hid h1
  have HRG := Lib.hid (range_of h1)
  have HTH := Lib.hid (there_of h1)
  have HI := Lib.hid hi32
  clear h1 b1 hi32 HST HBW HUN
  have fin0 : Hx.rd s.data.toList = (List.replicate 32 0, false) → ∀ w9 : World, w9 = w1.setCells w.heap.size 0 ((List.replicate 32 0).map yv) → w9.heap[w.heap.size]? = some (.cells ((List.replicate 32 0).map yv).toArray 23 (0, 0)) ∧ Below w.heap.size w w9 := by
    rintro _ w9 rfl
    exact ⟨heap_setCells_same (w := w1) (b := w.heap.size) (C := ((List.replicate 32 0).map yv).toArray) (t := 23) _ 0 H1.out (fun j v hv => by rw [Nat.zero_add]; simpa using hv), below_setCells _ 0 B1.out (Nat.le_refl _)⟩
  have FIN0 := Lib.hid fin0
  clear fin0
  cases ok with
  | false =>
    have hrd : Hx.rd s.data.toList = (List.replicate 32 0, false) := by rw [HRD.out]; rfl
    have HR2 := Lib.hid hrd
    clear hrd HRD hRlt
    go_wp2_with (first
      | refine wpList_load_mid rfl 23 (.tmp 2) rfl w.heap.size 0 rfl ((List.replicate 32 0).map yv) _ HRG.out Try.underlying23 rfl HI.out ?_
      | refine wpList_store_mid rfl 23 (.tmp 2) (.tmp 23) rfl w.heap.size 0 ((List.replicate 32 0).map yv).toArray rfl rfl HTH.out (by simpa using HI.out) (all_oneY _) ?_)
    obtain ⟨h9, b9⟩ := FIN0.out HR2.out _ rfl
    refine ⟨rfl, _, results_cell_row_tmp rfl _ _ _ _ _ _ _ rfl h9 Try.underlying23 rfl (by simpa using HI.out), ?_, b9⟩
    rw [HR2.out]
    rfl
  | true =>
    have hsz : (bs (R.map UInt8.ofNat)).size = R.length := by rw [bs_size, List.length_map]
    by_cases h32 : R.length = 32
    · have hnh := NumHex_c (bs (R.map UInt8.ofNat)) w1 (by rw [hsz, h32]; decide)
      rw [toNat_ofNat_map hRlt] at hnh
      have HNH := Lib.hid hnh
      have h32' : ((bs (R.map UInt8.ofNat)).size : Int) = 32 := by rw [hsz, h32]; rfl
      have h32s : (bs (R.map UInt8.ofNat)).size = 32 := by rw [hsz, h32]
      have HS32 := Lib.hid h32s
      have HSZ := Lib.hid hsz
      have H32 := Lib.hid h32
      clear hnh hsz h32 h32s
      go_wp2_with fail
      refine HNH.out.mono ?_
      rintro e w2 ⟨rfl, b2⟩
      have h2 := (b2.block w.heap.size (blk_lt H1.out)).trans H1.out
      have bb := chain B1.out b2
      have B2 := Lib.hid bb
      have H2 := Lib.hid h2
      have HRG2 := Lib.hid (range_of h2)
      have HTH2 := Lib.hid (there_of h2)
      clear bb b2
      by_cases hq : Hx.hex R = s.data.toList
      · have hb1 : ((bs (Hx.hex R)).toList == s.toList) = true := by rw [eq_bytes, bs_data]; simpa using hq
        have hrd : Hx.rd s.data.toList = (R, true) := by rw [HRD.out, if_pos ⟨trivial, H32.out, hq⟩]
        have hcp := run_copy_string (P := Try.prog) w2 36 9 3 5 w.heap.size 0 32 32 (bs (R.map UInt8.ofNat)) Try.underlying36 Try.sizeOf5 (by rw [HS32.out]; decide)
          (fun j hj => (HTH2.out j (by rw [HS32.out] at hj; simpa using hj)).1) (fun j hj => (HTH2.out j (by rw [HS32.out] at hj; simpa using hj)).2)
        have hcl : ((bs (R.map UInt8.ofNat)).data.toList.map fun x => Value.int .u8 (x.toNat : Int)) = R.map yv := by
          have h := toNat_ofNat_map hRlt
          conv => rhs; rw [← h]
          rw [List.map_map]
          rfl
        rw [hcl] at hcp
        obtain ⟨w3, hw3⟩ : ∃ w3, w3 = w2.setCells w.heap.size 0 (R.map yv) := ⟨_, rfl⟩
        have h3 : w3.heap[w.heap.size]? = some (.cells (R.map yv).toArray 23 (0, 0)) := by
          rw [hw3]
          exact heap_setCells_full (R.map yv) ((List.replicate 32 0).map yv) h2 (by rw [List.length_map, List.length_map, H32.out]; rfl)
        have b3 : Below w.heap.size w w3 := by
          rw [hw3]
          exact below_setCells _ 0 B2.out (Nat.le_refl _)
        rw [← hw3] at hcp
        have hiR : (Try.prog.info? 23).map (·.size) = some (R.map yv).length := by rw [List.length_map, H32.out]; kernel_rfl
        have HRD2 := Lib.hid hrd
        have H3 := Lib.hid h3
        have B3 := Lib.hid b3
        have HRG3 := Lib.hid (range_of h3)
        have HTH3 := Lib.hid (there_of h3)
        have HIR := Lib.hid hiR
        clear hcl hrd h3 b3 hw3 hiR h2 hq hRlt
        go_wp2_with (first
          | refine wpList_load_mid rfl 23 (.tmp 2) rfl w.heap.size 0 rfl (R.map yv) _ HRG3.out Try.underlying23 rfl HIR.out ?_
          | refine wpList_store_mid rfl 23 (.tmp 2) (.tmp 27) rfl w.heap.size 0 (R.map yv).toArray rfl rfl HTH3.out (by simpa using HIR.out) (all_oneY _) ?_)
        have h9 := heap_setCells_same (w := w3) (b := w.heap.size) (C := (R.map yv).toArray) (t := 23) (R.map yv) 0 H3.out (fun j v hv => by rw [Nat.zero_add]; simpa using hv)
        refine ⟨rfl, _, results_cell_row_tmp rfl _ _ _ _ _ _ _ rfl h9 Try.underlying23 rfl (by simpa using HIR.out), ?_, below_setCells _ 0 B3.out (Nat.le_refl _)⟩
        rw [HRD2.out]
        rfl
      · have hb1 : ((bs (Hx.hex R)).toList == s.toList) = false := by rw [eq_bytes, bs_data]; simpa using hq
        have hrd : Hx.rd s.data.toList = (List.replicate 32 0, false) := by rw [HRD.out, if_neg (fun h => hq h.2.2)]
        have HR2 := Lib.hid hrd
        clear hrd HRD hRlt hq h2
        go_wp2_with (first
          | refine wpList_load_mid rfl 23 (.tmp 2) rfl w.heap.size 0 rfl ((List.replicate 32 0).map yv) _ HRG2.out Try.underlying23 rfl HI.out ?_
          | refine wpList_store_mid rfl 23 (.tmp 2) (.tmp 23) rfl w.heap.size 0 ((List.replicate 32 0).map yv).toArray rfl rfl HTH2.out (by simpa using HI.out) (all_oneY _) ?_)
        have h9 := heap_setCells_same (w := w2) (b := w.heap.size) (C := ((List.replicate 32 0).map yv).toArray) (t := 23) ((List.replicate 32 0).map yv) 0 H2.out (fun j v hv => by rw [Nat.zero_add]; simpa using hv)
        refine ⟨rfl, _, results_cell_row_tmp rfl _ _ _ _ _ _ _ rfl h9 Try.underlying23 rfl (by simpa using HI.out), ?_, below_setCells _ 0 B2.out (Nat.le_refl _)⟩
        rw [HR2.out]
        rfl
    · have hne : ¬ ((bs (R.map UInt8.ofNat)).size : Int) = 32 := by rw [hsz]; omega
      have hrd : Hx.rd s.data.toList = (List.replicate 32 0, false) := by rw [HRD.out, if_neg (fun h => h32 h.2.1)]
      have HR2 := Lib.hid hrd
      clear hrd HRD hRlt hsz h32
      go_wp2_with (first
        | refine wpList_load_mid rfl 23 (.tmp 2) rfl w.heap.size 0 rfl ((List.replicate 32 0).map yv) _ HRG.out Try.underlying23 rfl HI.out ?_
        | refine wpList_store_mid rfl 23 (.tmp 2) (.tmp 23) rfl w.heap.size 0 ((List.replicate 32 0).map yv).toArray rfl rfl HTH.out (by simpa using HI.out) (all_oneY _) ?_)
      obtain ⟨h9, b9⟩ := FIN0.out HR2.out _ rfl
      refine ⟨rfl, _, results_cell_row_tmp rfl _ _ _ _ _ _ _ rfl h9 Try.underlying23 rfl (by simpa using HI.out), ?_, b9⟩
      rw [HR2.out]
      rfl
end Go.Proofs.Ytjijmgmobdoliaa
