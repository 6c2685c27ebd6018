/- Walks: a function applied to every line. -/
import Derived.Test.YtjllmhnicmonbaaSplit
import Derived.Test.YtjllmhnicmonbaaBuild
namespace Go.Proofs.Ytjllmhnicmonbaa
open Go Go.RowKit Go.Shelf
attribute [local go_sem] Oper.semAt_some

theorem builder_kept {T e : TypeId} {B b : Nat} {bs : List Value} {w w' : World} {row : Option Nat} (h : Lib.IsBuilderF T e B b bs w) (hg : w.grownBy w' row) (hb : some b ≠ row)
    (hr : ∀ r, row = some r → ∀ c fz, w.heap[r]? ≠ some (.cells c e fz)) : Lib.IsBuilderF T e B b bs w' := by
  have key : ∀ p, Lib.BuilderAtF T e B b p bs w → Lib.BuilderAtF T e B b p bs w' := by
    rintro p ⟨hB, v, hbk, hown, hne⟩
    refine ⟨hB, v, (hg.block b (blk_lt hbk) hb).trans hbk, hown.kept hg ?_, hne⟩
    rcases hown.2 with ⟨rfl, _⟩ | ⟨g, cap, cur, fz, rfl, _, hgb, _⟩
    · exact .inl rfl
    · refine .inr fun e' => ?_
      exact hr g e'.symm _ _ hgb
  rcases h with h | h
  · exact .inl (key _ h)
  · exact .inr (key _ h)
theorem kept_from {e : TypeId} {b B : Nat} {W W' : World} (h : Lib.OthersKept e (some b) W W') (hb : b < B) : ∀ (k : Nat) (o : Obj), B ≤ k → W.heap[k]? = some o → o.isCells = false → W'.heap[k]? = some o :=
  fun k o hk ho hc => h k o ho (fun e => by injection e with e; omega) (fun c fz e => by subst e; cases hc)
theorem map_len (f : List UInt8 → List UInt8) (hf : ∀ l, (f l).length ≤ l.length + 2) : ∀ (L : List (List UInt8)), (∀ l ∈ L, l ≠ []) → (L.flatMap f).length ≤ 3 * L.flatten.length
  | [], _ => Nat.le_refl _
  | l :: r, h => by
    have h1 := List.length_pos_iff.2 (h l (by simp))
    have h2 := map_len f hf r (fun x hx => h x (by simp [hx]))
    have h3 := hf l
    rw [List.flatMap_cons, List.flatten_cons, List.length_append, List.length_append]
    omega
theorem map_part (f : List UInt8 → List UInt8) (hf : ∀ l, (f l).length ≤ l.length + 2) (s : List UInt8) (pre : List (List UInt8)) (x : List UInt8) (post : List (List UInt8)) (h : Ln.lns s = pre ++ x :: post) : (pre.flatMap f).length + (f x).length ≤ 3 * s.length := by
  have h1 := map_len f hf (Ln.lns s) (fun l hl => Ln.ne_nil (Ln.lns_mem hl))
  rw [Ln.flat, h, List.flatMap_append, List.flatMap_cons, List.length_append, List.length_append] at h1
  omega
theorem part_len {s : List UInt8} {pre : List (List UInt8)} {x : List UInt8} {post : List (List UInt8)} (h : Ln.lns s = pre ++ x :: post) : x.length ≤ s.length ∧ x ≠ [] := by
  have h1 : x ∈ Ln.lns s := by rw [h]; simp
  refine ⟨?_, Ln.ne_nil (Ln.lns_mem h1)⟩
  have h2 := Ln.flat s
  rw [h] at h2
  rw [← h2]
  simp
  omega
theorem crlf1_le (l : List UInt8) : (Ln.crlf1 l).length ≤ l.length + 2 := by
  unfold Ln.crlf1 Ln.bare
  split
  · simp only [List.length_append, List.length_cons, List.length_nil]
    split
    · rw [List.length_dropLast, List.length_dropLast]; omega
    · rw [List.length_dropLast]; omega
  · omega
theorem stuff1_le (l : List UInt8) : (Ln.stuff1 l).length ≤ l.length + 2 := by
  unfold Ln.stuff1
  split
  · simp
  · omega
theorem unst1_le (l : List UInt8) : (Ln.unst1 l).length ≤ l.length + 2 := by
  unfold Ln.unst1
  split
  · simp; omega
  · omega
set_option maxHeartbeats 4000000 in
set_option maxRecDepth 100000 in
theorem mapC_c (s : ByteArray) (hs : s.size ≤ 1000000) (w : World) :
    Calls Try.prog 30 #[.string s, .func (.func 31) #[] #[]] w fun e w' => e = .returned (.string (bs ((Ln.lns s.data.toList).flatMap Ln.crlf1))) ∧ Below w.heap.size w w' := by
  refine (callsIn_wide (n := 5)).1 ?_
  refine callsIn_of_wp_marks Try.func30 rfl trivial ?_ rfl
  simp only [Try.ntmps30, List.size_toArray, List.length_cons, List.length_nil, Nat.reduceAdd, Nat.reduceSub, Array.replicate_succ, Array.replicate_zero, List.push_toArray, List.append_toArray, List.nil_append, List.cons_append]
  gi_wp2_with (refine ⟨trivial, ?_⟩; gi_at_call 27; refine (callsIn_wide.2 (all_c s _)).mono ?_; rintro e w1 ⟨rfl, hw⟩; obtain rfl := hw.symm)
  have bF := Boxed.new w 26 (.func (.func 31) #[] #[])
  have bI := Lib.IsBuilderF.of (Lib.fresh_isBuilder 52 5 (w.alloc (.cells #[.func (.func 31) #[] #[]] 26)))
  have bS := Boxed.new ((w.alloc (.cells #[.func (.func 31) #[] #[]] 26)).alloc (.cells #[.pointer none, .slice none 0 0] 52)) 9 (.string s)
  have hB0 : Below w.heap.size w (((w.alloc (.cells #[.func (.func 31) #[] #[]] 26)).alloc (.cells #[.pointer none, .slice none 0 0] 52)).alloc (.cells #[.string s] 9)) := (((Below.refl _ w).alloc (Nat.le_refl _) _).alloc (by simp) _).alloc (by simp; omega) _
  simp only [World.size_alloc] at bI bS
  refine wpIn_rangeFunc_cell (F := Fence.wide) (n := 5) rfl (by decide) (gf := 37) (lb := #[.pointer (some ⟨w.heap.size + 1 + 1, 0, none⟩)]) rfl trivial (enters_of Try.func37 (by kernel_rfl) rfl)
    (all1_gives (5 - 1) (by decide) (w.heap.size + 1 + 1) s hs) (by simp) (fun W hW => hW.trans bS) (fun _ => rfl)
    (fun pre W => (Lib.IsBuilderF 52 5 (w.heap.size + 1) (w.heap.size + 1) (Lib.byteCells (pre.flatMap Ln.crlf1)) W ∧ Boxed W w.heap.size 26 (.func (.func 31) #[] #[]) ∧ ∃ u, Boxed W (w.heap.size + 1 + 1) 9 u) ∧ Below w.heap.size w W)
    (OwnFrom.and ?own (ownFrom_below (Nat.le_refl _) (by simp; omega))) ?cell ⟨⟨bI.alloc _, (bF.alloc _).alloc _, _, bS⟩, hB0⟩
    (fun x => { tmps := #[.string s, .func (.func 31) #[] #[], undef, .pointer (some ⟨w.heap.size, 0, none⟩), .string ⟨#[]⟩, .pointer (some ⟨w.heap.size + 1, 0, none⟩), .string (bs x), .string s, .func (.func 37) #[] #[.pointer (some ⟨w.heap.size + 1 + 1, 0, none⟩)], .string (bs x), undef, undef, undef, undef, undef], defers := [] }) ?assign ?body ?done
  case own =>
    rintro pre X Y row ⟨h1, h2, u, h3⟩ hg hrow
    have hnc : ∀ r, row = some r → ∀ c t fz, X.heap[r]? ≠ some (.cells c t fz) := fun r e c t fz hx => by
      obtain ⟨_, o, ho, hc⟩ := hrow r e
      rw [hx] at ho; cases ho; cases hc
    have hlow : ∀ r, row = some r → w.heap.size + 1 + 1 + 1 ≤ r := fun r e => by
      have := (hrow r e).1
      simp at this
      omega
    refine ⟨builder_kept h1 hg (fun e => by have := hlow _ e.symm; omega) (fun r e c fz => hnc r e c _ fz), h2.kept hg (fun e => by have := hlow _ e.symm; omega), u, h3.kept hg (fun e => by have := hlow _ e.symm; omega)⟩
  case cell =>
    rintro pre W u ⟨⟨h1, h2, u0, h3⟩, hb2⟩
    refine ⟨⟨builder_kept h1 (grownBy_setCell' W _ u) (fun e => by injection e with e; omega) (fun r e c fz hx => ?_), h2.other (by omega) u, u, h3.set u⟩, hb2.setCell (p := ⟨w.heap.size + 1 + 1, 0, none⟩) (by simp; omega) u⟩
    injection e with e
    subst e
    rw [show W.heap[w.heap.size + 1 + 1]? = _ from h3] at hx
    simp at hx
  case assign =>
    intro l x W K hK
    gi_wp2
    exact hK
  case body =>
    rintro l pre x post W hx ⟨⟨h1, h2, u0, h3⟩, hBB⟩
    have hpx := part_len hx
    have hpl : x.length ≤ 1000000 := Nat.le_trans hpx.1 hs
    have hml := map_part Ln.crlf1 crlf1_le _ _ _ _ hx
    have hsl : s.data.toList.length ≤ 1000000 := hs
    have hcf := h2.cell
    have hcon := Crlf1_c (bs x) W (by rw [bs_size]; omega)
    have hwr := WriteString_k (w.heap.size + 1) (w.heap.size + 1) (Lib.byteCells (pre.flatMap Ln.crlf1)) (bs (Ln.crlf1 x)) W h1 (by rw [Lib.byteCells_length, bs_size]; omega) (by have := h3.lt; omega)
    rw [bs_data] at hcon
    have HC := Lib.hid hcon
    have HW := Lib.hid hwr
    clear hcon hwr hx hml
    gi_wp2_with (first
      | (refine ⟨trivial, ?_⟩; gi_at_call 31; refine (CallsIn.inRound l (callsIn_wide.2 HC.out)).mono ?_; rintro e w1 ⟨rfl, hw⟩; obtain rfl := hw.symm)
      | (refine ⟨trivial, ?_⟩; gi_at_call 41; refine (CallsIn.inRound l (callsIn_wide.2 HW.out)).mono ?_; rintro e w1 ⟨rfl, hb, hbl, hok⟩))
    have hz := hbl.size
    have h3' := hok _ _ h3 (fun e => by injection e with e; omega) (fun c fz e => by simp at e)
    refine ⟨kept_from hok (by simp), h3'.trans h3.symm, ⟨?_, (hbl.block _ (by omega)).trans h2, u0, h3'⟩, hBB.trans (hbl.mono (by omega))⟩
    · refine .inr ?_
      have e1 : Lib.byteCells ((pre ++ [x]).flatMap Ln.crlf1) = Lib.byteCells (pre.flatMap Ln.crlf1) ++ Lib.strCells (bs (Ln.crlf1 x)) := by
        rw [List.flatMap_append]
        simp [Lib.byteCells, Lib.strCells, bs]
      rw [e1]
      exact hb
  case done =>
    rintro D W hD ⟨⟨h1, h2, u0, h3⟩, hBB⟩ hK
    have hst := Try.Builder_String_any_k (w.heap.size + 1) (w.heap.size + 1) _ W h1 (by have := h3.lt; omega)
    have HST := Lib.hid hst
    clear hst
    gi_wp2_with (refine ⟨trivial, ?_⟩; gi_at_call 42; refine (callsIn_wide.2 HST.out).mono ?_; rintro e w1 ⟨rfl, hib, hbl, hok⟩)
    have hK2 := hok _ _ hK (fun e => by injection e with e; simp at hD; omega) (fun c fz e => by cases e)
    refine ⟨by simp, .inl ⟨_, _, rfl, run_takeDeferred hK2, ?_⟩⟩
    exact ⟨_, results_tmp rfl _ _ _, rfl, (hBB.trans (hbl.mono (by omega))).trans (belowK_b (n₀ := w.heap.size) (w := w) (Nat.le_refl _) w1 D _ _ (by simp at hD; omega) hK2 rfl rfl)⟩
set_option maxHeartbeats 4000000 in
set_option maxRecDepth 100000 in
theorem mapS_c (s : ByteArray) (hs : s.size ≤ 1000000) (w : World) :
    Calls Try.prog 30 #[.string s, .func (.func 32) #[] #[]] w fun e w' => e = .returned (.string (bs ((Ln.lns s.data.toList).flatMap Ln.stuff1))) ∧ Below w.heap.size w w' := by
  refine (callsIn_wide (n := 5)).1 ?_
  refine callsIn_of_wp_marks Try.func30 rfl trivial ?_ rfl
  simp only [Try.ntmps30, List.size_toArray, List.length_cons, List.length_nil, Nat.reduceAdd, Nat.reduceSub, Array.replicate_succ, Array.replicate_zero, List.push_toArray, List.append_toArray, List.nil_append, List.cons_append]
  gi_wp2_with (refine ⟨trivial, ?_⟩; gi_at_call 27; refine (callsIn_wide.2 (all_c s _)).mono ?_; rintro e w1 ⟨rfl, hw⟩; obtain rfl := hw.symm)
  have bF := Boxed.new w 26 (.func (.func 32) #[] #[])
  have bI := Lib.IsBuilderF.of (Lib.fresh_isBuilder 52 5 (w.alloc (.cells #[.func (.func 32) #[] #[]] 26)))
  have bS := Boxed.new ((w.alloc (.cells #[.func (.func 32) #[] #[]] 26)).alloc (.cells #[.pointer none, .slice none 0 0] 52)) 9 (.string s)
  have hB0 : Below w.heap.size w (((w.alloc (.cells #[.func (.func 32) #[] #[]] 26)).alloc (.cells #[.pointer none, .slice none 0 0] 52)).alloc (.cells #[.string s] 9)) := (((Below.refl _ w).alloc (Nat.le_refl _) _).alloc (by simp) _).alloc (by simp; omega) _
  simp only [World.size_alloc] at bI bS
  refine wpIn_rangeFunc_cell (F := Fence.wide) (n := 5) rfl (by decide) (gf := 37) (lb := #[.pointer (some ⟨w.heap.size + 1 + 1, 0, none⟩)]) rfl trivial (enters_of Try.func37 (by kernel_rfl) rfl)
    (all1_gives (5 - 1) (by decide) (w.heap.size + 1 + 1) s hs) (by simp) (fun W hW => hW.trans bS) (fun _ => rfl)
    (fun pre W => (Lib.IsBuilderF 52 5 (w.heap.size + 1) (w.heap.size + 1) (Lib.byteCells (pre.flatMap Ln.stuff1)) W ∧ Boxed W w.heap.size 26 (.func (.func 32) #[] #[]) ∧ ∃ u, Boxed W (w.heap.size + 1 + 1) 9 u) ∧ Below w.heap.size w W)
    (OwnFrom.and ?own (ownFrom_below (Nat.le_refl _) (by simp; omega))) ?cell ⟨⟨bI.alloc _, (bF.alloc _).alloc _, _, bS⟩, hB0⟩
    (fun x => { tmps := #[.string s, .func (.func 32) #[] #[], undef, .pointer (some ⟨w.heap.size, 0, none⟩), .string ⟨#[]⟩, .pointer (some ⟨w.heap.size + 1, 0, none⟩), .string (bs x), .string s, .func (.func 37) #[] #[.pointer (some ⟨w.heap.size + 1 + 1, 0, none⟩)], .string (bs x), undef, undef, undef, undef, undef], defers := [] }) ?assign ?body ?done
  case own =>
    rintro pre X Y row ⟨h1, h2, u, h3⟩ hg hrow
    have hnc : ∀ r, row = some r → ∀ c t fz, X.heap[r]? ≠ some (.cells c t fz) := fun r e c t fz hx => by
      obtain ⟨_, o, ho, hc⟩ := hrow r e
      rw [hx] at ho; cases ho; cases hc
    have hlow : ∀ r, row = some r → w.heap.size + 1 + 1 + 1 ≤ r := fun r e => by
      have := (hrow r e).1
      simp at this
      omega
    refine ⟨builder_kept h1 hg (fun e => by have := hlow _ e.symm; omega) (fun r e c fz => hnc r e c _ fz), h2.kept hg (fun e => by have := hlow _ e.symm; omega), u, h3.kept hg (fun e => by have := hlow _ e.symm; omega)⟩
  case cell =>
    rintro pre W u ⟨⟨h1, h2, u0, h3⟩, hb2⟩
    refine ⟨⟨builder_kept h1 (grownBy_setCell' W _ u) (fun e => by injection e with e; omega) (fun r e c fz hx => ?_), h2.other (by omega) u, u, h3.set u⟩, hb2.setCell (p := ⟨w.heap.size + 1 + 1, 0, none⟩) (by simp; omega) u⟩
    injection e with e
    subst e
    rw [show W.heap[w.heap.size + 1 + 1]? = _ from h3] at hx
    simp at hx
  case assign =>
    intro l x W K hK
    gi_wp2
    exact hK
  case body =>
    rintro l pre x post W hx ⟨⟨h1, h2, u0, h3⟩, hBB⟩
    have hpx := part_len hx
    have hpl : x.length ≤ 1000000 := Nat.le_trans hpx.1 hs
    have hml := map_part Ln.stuff1 stuff1_le _ _ _ _ hx
    have hsl : s.data.toList.length ≤ 1000000 := hs
    have hcf := h2.cell
    have hcon := Stuff1_c (bs x) W (by rw [bs_size]; omega) (by rw [bs_data]; exact hpx.2)
    have hwr := WriteString_k (w.heap.size + 1) (w.heap.size + 1) (Lib.byteCells (pre.flatMap Ln.stuff1)) (bs (Ln.stuff1 x)) W h1 (by rw [Lib.byteCells_length, bs_size]; omega) (by have := h3.lt; omega)
    rw [bs_data] at hcon
    have HC := Lib.hid hcon
    have HW := Lib.hid hwr
    clear hcon hwr hx hml
    gi_wp2_with (first
      | (refine ⟨trivial, ?_⟩; gi_at_call 32; refine (CallsIn.inRound l (callsIn_wide.2 HC.out)).mono ?_; rintro e w1 ⟨rfl, hw⟩; obtain rfl := hw.symm)
      | (refine ⟨trivial, ?_⟩; gi_at_call 41; refine (CallsIn.inRound l (callsIn_wide.2 HW.out)).mono ?_; rintro e w1 ⟨rfl, hb, hbl, hok⟩))
    have hz := hbl.size
    have h3' := hok _ _ h3 (fun e => by injection e with e; omega) (fun c fz e => by simp at e)
    refine ⟨kept_from hok (by simp), h3'.trans h3.symm, ⟨?_, (hbl.block _ (by omega)).trans h2, u0, h3'⟩, hBB.trans (hbl.mono (by omega))⟩
    · refine .inr ?_
      have e1 : Lib.byteCells ((pre ++ [x]).flatMap Ln.stuff1) = Lib.byteCells (pre.flatMap Ln.stuff1) ++ Lib.strCells (bs (Ln.stuff1 x)) := by
        rw [List.flatMap_append]
        simp [Lib.byteCells, Lib.strCells, bs]
      rw [e1]
      exact hb
  case done =>
    rintro D W hD ⟨⟨h1, h2, u0, h3⟩, hBB⟩ hK
    have hst := Try.Builder_String_any_k (w.heap.size + 1) (w.heap.size + 1) _ W h1 (by have := h3.lt; omega)
    have HST := Lib.hid hst
    clear hst
    gi_wp2_with (refine ⟨trivial, ?_⟩; gi_at_call 42; refine (callsIn_wide.2 HST.out).mono ?_; rintro e w1 ⟨rfl, hib, hbl, hok⟩)
    have hK2 := hok _ _ hK (fun e => by injection e with e; simp at hD; omega) (fun c fz e => by cases e)
    refine ⟨by simp, .inl ⟨_, _, rfl, run_takeDeferred hK2, ?_⟩⟩
    exact ⟨_, results_tmp rfl _ _ _, rfl, (hBB.trans (hbl.mono (by omega))).trans (belowK_b (n₀ := w.heap.size) (w := w) (Nat.le_refl _) w1 D _ _ (by simp at hD; omega) hK2 rfl rfl)⟩
set_option maxHeartbeats 4000000 in
set_option maxRecDepth 100000 in
theorem mapU_c (s : ByteArray) (hs : s.size ≤ 1000000) (w : World) :
    Calls Try.prog 30 #[.string s, .func (.func 33) #[] #[]] w fun e w' => e = .returned (.string (bs ((Ln.lns s.data.toList).flatMap Ln.unst1))) ∧ Below w.heap.size w w' := by
  refine (callsIn_wide (n := 5)).1 ?_
  refine callsIn_of_wp_marks Try.func30 rfl trivial ?_ rfl
  simp only [Try.ntmps30, List.size_toArray, List.length_cons, List.length_nil, Nat.reduceAdd, Nat.reduceSub, Array.replicate_succ, Array.replicate_zero, List.push_toArray, List.append_toArray, List.nil_append, List.cons_append]
  gi_wp2_with (refine ⟨trivial, ?_⟩; gi_at_call 27; refine (callsIn_wide.2 (all_c s _)).mono ?_; rintro e w1 ⟨rfl, hw⟩; obtain rfl := hw.symm)
  have bF := Boxed.new w 26 (.func (.func 33) #[] #[])
  have bI := Lib.IsBuilderF.of (Lib.fresh_isBuilder 52 5 (w.alloc (.cells #[.func (.func 33) #[] #[]] 26)))
  have bS := Boxed.new ((w.alloc (.cells #[.func (.func 33) #[] #[]] 26)).alloc (.cells #[.pointer none, .slice none 0 0] 52)) 9 (.string s)
  have hB0 : Below w.heap.size w (((w.alloc (.cells #[.func (.func 33) #[] #[]] 26)).alloc (.cells #[.pointer none, .slice none 0 0] 52)).alloc (.cells #[.string s] 9)) := (((Below.refl _ w).alloc (Nat.le_refl _) _).alloc (by simp) _).alloc (by simp; omega) _
  simp only [World.size_alloc] at bI bS
  refine wpIn_rangeFunc_cell (F := Fence.wide) (n := 5) rfl (by decide) (gf := 37) (lb := #[.pointer (some ⟨w.heap.size + 1 + 1, 0, none⟩)]) rfl trivial (enters_of Try.func37 (by kernel_rfl) rfl)
    (all1_gives (5 - 1) (by decide) (w.heap.size + 1 + 1) s hs) (by simp) (fun W hW => hW.trans bS) (fun _ => rfl)
    (fun pre W => (Lib.IsBuilderF 52 5 (w.heap.size + 1) (w.heap.size + 1) (Lib.byteCells (pre.flatMap Ln.unst1)) W ∧ Boxed W w.heap.size 26 (.func (.func 33) #[] #[]) ∧ ∃ u, Boxed W (w.heap.size + 1 + 1) 9 u) ∧ Below w.heap.size w W)
    (OwnFrom.and ?own (ownFrom_below (Nat.le_refl _) (by simp; omega))) ?cell ⟨⟨bI.alloc _, (bF.alloc _).alloc _, _, bS⟩, hB0⟩
    (fun x => { tmps := #[.string s, .func (.func 33) #[] #[], undef, .pointer (some ⟨w.heap.size, 0, none⟩), .string ⟨#[]⟩, .pointer (some ⟨w.heap.size + 1, 0, none⟩), .string (bs x), .string s, .func (.func 37) #[] #[.pointer (some ⟨w.heap.size + 1 + 1, 0, none⟩)], .string (bs x), undef, undef, undef, undef, undef], defers := [] }) ?assign ?body ?done
  case own =>
    rintro pre X Y row ⟨h1, h2, u, h3⟩ hg hrow
    have hnc : ∀ r, row = some r → ∀ c t fz, X.heap[r]? ≠ some (.cells c t fz) := fun r e c t fz hx => by
      obtain ⟨_, o, ho, hc⟩ := hrow r e
      rw [hx] at ho; cases ho; cases hc
    have hlow : ∀ r, row = some r → w.heap.size + 1 + 1 + 1 ≤ r := fun r e => by
      have := (hrow r e).1
      simp at this
      omega
    refine ⟨builder_kept h1 hg (fun e => by have := hlow _ e.symm; omega) (fun r e c fz => hnc r e c _ fz), h2.kept hg (fun e => by have := hlow _ e.symm; omega), u, h3.kept hg (fun e => by have := hlow _ e.symm; omega)⟩
  case cell =>
    rintro pre W u ⟨⟨h1, h2, u0, h3⟩, hb2⟩
    refine ⟨⟨builder_kept h1 (grownBy_setCell' W _ u) (fun e => by injection e with e; omega) (fun r e c fz hx => ?_), h2.other (by omega) u, u, h3.set u⟩, hb2.setCell (p := ⟨w.heap.size + 1 + 1, 0, none⟩) (by simp; omega) u⟩
    injection e with e
    subst e
    rw [show W.heap[w.heap.size + 1 + 1]? = _ from h3] at hx
    simp at hx
  case assign =>
    intro l x W K hK
    gi_wp2
    exact hK
  case body =>
    rintro l pre x post W hx ⟨⟨h1, h2, u0, h3⟩, hBB⟩
    have hpx := part_len hx
    have hpl : x.length ≤ 1000000 := Nat.le_trans hpx.1 hs
    have hml := map_part Ln.unst1 unst1_le _ _ _ _ hx
    have hsl : s.data.toList.length ≤ 1000000 := hs
    have hcf := h2.cell
    have hcon := Unst1_c (bs x) W
    have hwr := WriteString_k (w.heap.size + 1) (w.heap.size + 1) (Lib.byteCells (pre.flatMap Ln.unst1)) (bs (Ln.unst1 x)) W h1 (by rw [Lib.byteCells_length, bs_size]; omega) (by have := h3.lt; omega)
    rw [bs_data] at hcon
    have HC := Lib.hid hcon
    have HW := Lib.hid hwr
    clear hcon hwr hx hml
    gi_wp2_with (first
      | (refine ⟨trivial, ?_⟩; gi_at_call 33; refine (CallsIn.inRound l (callsIn_wide.2 HC.out)).mono ?_; rintro e w1 ⟨rfl, hw⟩; obtain rfl := hw.symm)
      | (refine ⟨trivial, ?_⟩; gi_at_call 41; refine (CallsIn.inRound l (callsIn_wide.2 HW.out)).mono ?_; rintro e w1 ⟨rfl, hb, hbl, hok⟩))
    have hz := hbl.size
    have h3' := hok _ _ h3 (fun e => by injection e with e; omega) (fun c fz e => by simp at e)
    refine ⟨kept_from hok (by simp), h3'.trans h3.symm, ⟨?_, (hbl.block _ (by omega)).trans h2, u0, h3'⟩, hBB.trans (hbl.mono (by omega))⟩
    · refine .inr ?_
      have e1 : Lib.byteCells ((pre ++ [x]).flatMap Ln.unst1) = Lib.byteCells (pre.flatMap Ln.unst1) ++ Lib.strCells (bs (Ln.unst1 x)) := by
        rw [List.flatMap_append]
        simp [Lib.byteCells, Lib.strCells, bs]
      rw [e1]
      exact hb
  case done =>
    rintro D W hD ⟨⟨h1, h2, u0, h3⟩, hBB⟩ hK
    have hst := Try.Builder_String_any_k (w.heap.size + 1) (w.heap.size + 1) _ W h1 (by have := h3.lt; omega)
    have HST := Lib.hid hst
    clear hst
    gi_wp2_with (refine ⟨trivial, ?_⟩; gi_at_call 42; refine (callsIn_wide.2 HST.out).mono ?_; rintro e w1 ⟨rfl, hib, hbl, hok⟩)
    have hK2 := hok _ _ hK (fun e => by injection e with e; simp at hD; omega) (fun c fz e => by cases e)
    refine ⟨by simp, .inl ⟨_, _, rfl, run_takeDeferred hK2, ?_⟩⟩
    exact ⟨_, results_tmp rfl _ _ _, rfl, (hBB.trans (hbl.mono (by omega))).trans (belowK_b (n₀ := w.heap.size) (w := w) (Nat.le_refl _) w1 D _ _ (by simp at hD; omega) hK2 rfl rfl)⟩
end Go.Proofs.Ytjllmhnicmonbaa
