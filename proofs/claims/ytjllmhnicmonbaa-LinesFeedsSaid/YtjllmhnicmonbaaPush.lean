/- Walk: a feed takes a chunk. -/
import Derived.Test.YtjllmhnicmonbaaFd
namespace Go.Proofs.Ytjllmhnicmonbaa
open Go Go.RowKit Go.Shelf
attribute [local go_sem] Oper.semAt_some

theorem feed_cell0 {W : World} {b : Nat} {t : TypeId} {x y : Value} (h : W.heap[b]? = some (.cells #[x, y] t (0, 0))) : W.cell? ⟨b, 0, none⟩ = some x := by rw [Lib.cell_of_heap h]; rfl
theorem feed_cell1 {W : World} {b : Nat} {t : TypeId} {x y : Value} (h : W.heap[b]? = some (.cells #[x, y] t (0, 0))) : W.cell? ⟨b, 1, none⟩ = some y := by rw [Lib.cell_of_heap h]; rfl
theorem own_len {w : World} {B n s : Nat} {e : TypeId} {v : Value} {xs : List Value} (h : w.ownsRow B e s v n xs) : ∃ A c, v = .slice A n c := by
  rcases h.2 with ⟨rfl, h0⟩ | ⟨g, cap, cur, rfl, _⟩
  · exact ⟨none, 0, by rw [h0]⟩
  · exact ⟨_, cap, rfl⟩
theorem back_own {w : World} {B g cap n : Nat} {l : List UInt8} {xs : List Value} (h : w.ownsRow B 5 1 (.slice (some ⟨g, 0, none⟩) n cap) n xs) (hx : xs = Lib.byteCells l) :
    (convert 43 9 (.slice (some ⟨g, 0, none⟩) n cap)).run Try.prog w = .ok (.string (bs l)) w := by
  subst hx
  have hl : n = l.length := by have := h.1; simp [Lib.byteCells_length] at this; omega
  subst hl
  exact run_convert_bytes_back w 43 9 5 ⟨g, 0, none⟩ cap l Try.underlying43 Try.underlying5 Try.underlying9 (fun j hj => h.cells (g := g) rfl j _ (by simp [Lib.byteCells, hj]))
/-- what the law of the range asks of a step -/
def GO (w u u' : World) : Prop := (∀ (k : Nat) (o : Obj), u.heap[k]? = some o → o.isCells = false → u'.heap[k]? = some o) ∧ u'.heap[w.heap.size + 2]? = u.heap[w.heap.size + 2]?
theorem GO.trans {w u u' u2 : World} (h : GO w u u') (k : GO w u' u2) : GO w u u2 := ⟨fun i o hi ho => k.1 i o (h.1 i o hi ho) ho, k.2.trans h.2⟩
theorem GO.drew {w u u' : World} (h : GO w u.drew u') : GO w u u' := h
theorem go_step {w u u' : World} {row : Option Nat} (hg : u.grownBy u' row) (hz : w.heap.size + 2 < u.heap.size) (hr : ∀ b, row = some b → b ≠ w.heap.size + 2 ∧ ∃ c t fz, u.heap[b]? = some (.cells c t fz)) : GO w u u' := by
  refine ⟨fun k o hk ho => (hg.block k (blk_lt hk) (fun e => ?_)).trans hk, hg.block _ hz (fun e => (hr _ e.symm).1 rfl)⟩
  obtain ⟨_, c, t, fz, hc⟩ := hr k e.symm
  rw [hk] at hc
  rw [Option.some.inj hc] at ho
  cases ho
section
variable {w u u1 : World} {B f n : Nat} {r : List UInt8} {outs : List (List UInt8)} {v vo : Value}
theorem go_app (h : PS w B f n r outs v vo u) (hf : f < w.heap.size) (hg : u.grownBy u1 v.ownBlock) (z : Value) : GO w u (u1.setCell ⟨f, 1, none⟩ z) := by
  obtain ⟨t, h6⟩ := h.2.1.2.2.2
  have hm := h.mid hg
  refine (go_step hg h6.lt (fun b e => ?_)).trans (go_step (set1_grown u1 f z) (by have := hg.size; have := h6.lt; omega) (fun b e => ?_))
  · obtain ⟨_, cur, hc⟩ := row_block h.1.2 e
    refine ⟨fun e2 => ?_, cur, _, _, hc⟩
    subst e2
    rw [show u.heap[w.heap.size + 2]? = _ from h6] at hc
    simp at hc
  · injection e with e
    subst e
    exact ⟨by omega, _, _, _, hm.1⟩
theorem go_cut (h : PS w B f n r outs v vo u) (hf : f < w.heap.size) (z : Value) : GO w u (u.setCell ⟨f, 1, none⟩ z) := by
  obtain ⟨t, h6⟩ := h.2.1.2.2.2
  refine go_step (set1_grown u f z) h6.lt (fun b e => ?_)
  injection e with e
  subst e
  exact ⟨by omega, _, _, _, h.1.1⟩
theorem go_told {o : Obj} (h : PS w B f n r outs v vo u) (hg : (u.alloc o).grownBy u1 vo.ownBlock) (hb : Boxed u1 (w.heap.size + 1) 24 vo) (z : Value) : GO w u (u1.setCell ⟨w.heap.size + 1, 0, none⟩ z) := by
  obtain ⟨t, h6⟩ := h.2.1.2.2.2
  have hz := h6.lt
  refine ((go_step (World.grownBy_alloc u o none) hz (fun b e => by cases e)).trans (go_step hg (by simp; omega) (fun b e => ?_))).trans (go_step (grownBy_setCell' u1 (w.heap.size + 1) z) (by have := hg.size; simp at this; omega) (fun b e => ?_))
  · obtain ⟨hB, cur, hc⟩ := row_block h.2.1.2.2.1 e
    exact ⟨by omega, cur, _, _, (Below.heap_alloc u o b (blk_lt hc)).trans hc⟩
  · injection e with e
    subst e
    exact ⟨by omega, _, _, _, hb⟩
end
theorem take_str (x : List UInt8) (m : Nat) : (bs x).extract 0 m = bs (x.take m) := by
  refine bs_of ?_
  rw [Lib.extract_data, bs_data]
  simp
theorem infoByteM : (Try.prog.info? 5).map (fun i => (i.zero, i.size, i.bytes)) = some (some (.int .u8 0), 1, 1) := by kernel_rfl
set_option maxHeartbeats 8000000 in
set_option maxRecDepth 100000 in
theorem Push_c (B f n : Nat) (r0 : List UInt8) (chunk : ByteArray) (hc : chunk.size ≤ 1000000) (hn1 : 1 ≤ n) (hn2 : n ≤ 1048576) (w : World) (hr0 : r0.length ≤ n) (hF : Fd w B f n r0) (hB : B ≤ w.heap.size) :
    Calls Try.prog 24 #[.pointer (some ⟨f, 0, none⟩), .string chunk] w fun e w' => ∃ v, e = .returned v ∧ w'.ownsRow w.heap.size 9 1 v (Ln.pushF n r0 (Ln.lns chunk.data.toList)).1.length ((Ln.pushF n r0 (Ln.lns chunk.data.toList)).1.map sv) ∧ Fd w' B f n (Ln.pushF n r0 (Ln.lns chunk.data.toList)).2 ∧ Pw B f w w' := by
  obtain ⟨i0, hi, hz0, hz1, hz2⟩ := info_parts infoStr
  obtain ⟨j0, hj, jz0, jz1, jz2⟩ := info_parts infoByteM
  have hsl : chunk.data.toList.length ≤ 1000000 := hc
  have hln : (Ln.lns chunk.data.toList).length ≤ 1000000 := Nat.le_trans (Ln.lns_len _) hc
  obtain ⟨v0, hF1, hF2⟩ := hF
  have hf := blk_lt hF1
  refine (callsIn_wide (n := 5)).1 ?_
  refine callsIn_of_wp_marks Try.func24 rfl trivial ?_ rfl
  simp only [Try.ntmps24, List.size_toArray, List.length_cons, List.length_nil, Nat.reduceAdd, Nat.reduceSub, Array.replicate_succ, Array.replicate_zero, List.push_toArray, List.append_toArray, List.nil_append, List.cons_append]
  gi_wp2_with (refine ⟨trivial, ?_⟩; gi_at_call 27; refine (callsIn_wide.2 (all_c chunk _)).mono ?_; rintro e w1 ⟨rfl, hw⟩; obtain rfl := hw.symm)
  have hB1 := Boxed.new w 29 (.pointer (some ⟨f, 0, none⟩))
  have hB2 := Boxed.new (w.alloc (.cells #[.pointer (some ⟨f, 0, none⟩)] 29)) 24 (.slice none 0 0)
  have hB3 := Boxed.new ((w.alloc (.cells #[.pointer (some ⟨f, 0, none⟩)] 29)).alloc (.cells #[.slice none 0 0] 24)) 9 (.string chunk)
  have hz3 : (((w.alloc (.cells #[.pointer (some ⟨f, 0, none⟩)] 29)).alloc (.cells #[.slice none 0 0] 24)).alloc (.cells #[.string chunk] 9)).heap.size = w.heap.size + 3 := by simp
  have hg1 := World.grownBy_alloc w (.cells #[.pointer (some ⟨f, 0, none⟩)] 29) none
  have hg2 := World.grownBy_alloc (w.alloc (.cells #[.pointer (some ⟨f, 0, none⟩)] 29)) (.cells #[.slice none 0 0] 24) none
  have hg3 := World.grownBy_alloc ((w.alloc (.cells #[.pointer (some ⟨f, 0, none⟩)] 29)).alloc (.cells #[.slice none 0 0] 24)) (.cells #[.string chunk] 9) none
  have hps : PS w B f n r0 [] v0 (.slice none 0 0) (((w.alloc (.cells #[.pointer (some ⟨f, 0, none⟩)] 29)).alloc (.cells #[.slice none 0 0] 24)).alloc (.cells #[.string chunk] 9)) := by
    have hnn : ∀ (W W' : World) b, (none : Option Nat) = some b → v0.ownBlock ≠ some b := fun _ _ b e => by cases e
    refine ⟨⟨?_, ?_⟩, ⟨(hB1.alloc _).alloc _, ?_, World.ownsRow_nil _ _ _ _, .string chunk, ?_⟩, (((Pw.refl B f w).grown hg1 (fun b e => by cases e)).grown hg2 (fun b e => by cases e)).grown hg3 (fun b e => by cases e)⟩
    · exact (Below.heap_alloc _ _ _ (by simp; omega)).trans ((Below.heap_alloc _ _ _ (by simp; omega)).trans ((Below.heap_alloc _ _ _ hf).trans hF1))
    · exact ((hF2.alloc _).alloc _).alloc _
    · have := hB2.alloc (.cells #[.string chunk] 9)
      simpa using this
    · simpa using hB3
  have bS : Boxed (((w.alloc (.cells #[.pointer (some ⟨f, 0, none⟩)] 29)).alloc (.cells #[.slice none 0 0] 24)).alloc (.cells #[.string chunk] 9)) (w.heap.size + 2) 9 (.string chunk) := by simpa using hB3
  clear hB1 hB2 hB3 hg1 hg2 hg3
  generalize World.alloc (World.alloc (World.alloc w _) _) _ = w3 at hps bS hz3 ⊢
  refine wpIn_rangeFunc_cell (F := Fence.wide) (n := 5) rfl (by decide) (gf := 37) (lb := #[.pointer (some ⟨w.heap.size + 2, 0, none⟩)]) (by simp [Act.eval]) trivial (enters_of Try.func37 (by kernel_rfl) rfl)
    (all1_gives (5 - 1) (by decide) (w.heap.size + 2) chunk hc) (by omega) (fun W hW => hW.trans bS) (fun _ => rfl)
    (fun pre W => ∃ v vo, PS w B f n (Ln.pushF n r0 pre).2 (Ln.pushF n r0 pre).1 v vo W) ?own ?cell ⟨v0, _, hps⟩
    (fun x => { tmps := #[.pointer (some ⟨f, 0, none⟩), .string chunk, .pointer (some ⟨w.heap.size, 0, none⟩), undef, .slice none 0 0, .pointer (some ⟨w.heap.size + 1, 0, none⟩), .string (bs x), .string chunk, .func (.func 37) #[] #[.pointer (some ⟨w.heap.size + 2, 0, none⟩)], .string (bs x), undef, undef, undef, undef, undef, undef, undef, undef, undef, undef, undef, undef, undef, undef, undef, undef, undef, undef, undef, undef, undef, undef, undef, undef, undef, undef, undef, undef, undef, undef, undef, undef, undef, undef, undef, undef, undef, undef, undef, undef, undef, undef], defers := [] }) ?assign ?body ?done
  case own =>
    rintro pre X Y row ⟨v, vo, h⟩ hg hrow
    refine ⟨v, vo, h.keep hf hg (fun b e => ?_)⟩
    obtain ⟨hb, ob, ho, hcl⟩ := hrow b e
    refine ⟨by omega, fun e2 => ?_, fun e2 => ?_⟩
    · obtain ⟨_, cur, hc2⟩ := row_block h.1.2 e2
      rw [ho] at hc2; cases hc2; cases hcl
    · obtain ⟨_, cur, hc2⟩ := row_block h.2.1.2.2.1 e2
      rw [ho] at hc2; cases hc2; cases hcl
  case cell =>
    rintro pre W u ⟨v, vo, h⟩
    exact ⟨v, vo, h.setBn hf u⟩
  case assign =>
    intro l x W K hK
    gi_wp2
    exact hK
  case body =>
    rintro l pre x post W hx ⟨v, vo, h⟩
    have hpx := part_len hx
    have hxl : x.length ≤ 1000000 := Nat.le_trans hpx.1 hsl
    have hpl : pre.length ≤ 1000000 := by
      have := congrArg List.length hx
      simp only [List.length_append, List.length_cons] at this
      omega
    have hrn := Ln.pushF_le hr0 pre
    have hol := Nat.le_trans (Ln.pushF_len n r0 pre) hpl
    have hsn := Ln.pushF_snoc n r0 pre x
    generalize Ln.pushF n r0 pre = st at h hrn hol hsn
    obtain ⟨outs, r⟩ := st
    simp only at h hrn hol
    have HSN := Lib.hid hsn
    clear hsn hx hpl hps
    dsimp only
    obtain ⟨A, c, rfl⟩ := own_len h.1.2
    have hWz := h.2.2.1.2.2.2
    generalize hv : (Value.slice A r.length c) = v at h
    have HPS := Lib.hid h
    have HV := Lib.hid hv
    have htk := take_str x (n - r.length)
    have hm : x.take (min x.length (n - r.length)) = x.take (n - r.length) := by
      rcases Nat.le_total x.length (n - r.length) with h | h
      · rw [Nat.min_eq_left h, List.take_of_length_le (Nat.le_refl _), List.take_of_length_le h]
      · rw [Nat.min_eq_right h]
    have w1 : IntKind.i64.wrap ((n : Int) - (r.length : Int)) = (n : Int) - (r.length : Int) := by rw [IntKind.wrap_i64]; omega
    have hm1 : (0 : Int) ≤ min ((bs x).size : Int) ((n : Int) - (r.length : Int)) := by omega
    have hm2 : min ((bs x).size : Int) ((n : Int) - (r.length : Int)) ≤ ((bs x).size : Int) := by omega
    have hm3 : (min ((bs x).size : Int) ((n : Int) - (r.length : Int))).toNat = min x.length (n - r.length) := by rw [bs_size]; omega
    have hm4 : (bs x).extract 0 (min x.length (n - r.length)) = bs (x.take (n - r.length)) := by rw [take_str, hm]
    have htl : (x.take (n - r.length)).length ≤ 1000000 := by rw [List.length_take]; omega
    obtain ⟨R, hR⟩ : ∃ R, R = r ++ x.take (n - r.length) := ⟨_, rfl⟩
    have hrc : Lib.byteCells r ++ Lib.strCells (bs (x.take (n - r.length))) = Lib.byteCells R := by rw [hR]; simp [Lib.byteCells, Lib.strCells, bs]
    have hrl : r.length + (bs (x.take (n - r.length))).size = R.length := by rw [hR, List.length_append, bs_size]
    have HR := Lib.hid hR
    have hRl : R.length ≤ 3000000 := by rw [hR, List.length_append, List.length_take]; omega
    have hRn : R ≠ [] := by
      intro e
      rw [hR, List.append_eq_nil_iff] at e
      have h2 := congrArg List.length e.2
      rw [List.length_take, e.1] at h2
      have h3 := List.length_pos_iff.2 hpx.2
      simp only [List.length_nil, Nat.sub_zero] at h2
      omega
    have HRC := Lib.hid hrc
    have HRL := Lib.hid hrl
    clear hR
    generalize x.take (n - r.length) = y at hm hm4 htl HRC HRL
    clear h htk hm hrc hrl
    subst hv
    gi_wp2
    · skip
      refine wpIn_region_keep 23 (fun u => Boxed u w.heap.size 29 (.pointer (some ⟨f, 0, none⟩)) ∧ u.heap[f]? = some (.cells #[.int .i64 (n : Int), .slice A r.length c] 45 (0, 0))) (by kernel_rfl) (by kernel_rfl) (by intro _ _ h; exact h) ⟨HPS.out.2.1.1, HPS.out.1.1⟩ (fun _ => ?_)
      refine take_k (i := 0) (d := (some 10)) (v := ?_) rfl rfl (by decide) (by kernel_rfl) (by kernel_rfl) (by kernel_rfl) (by kernel_rfl) (fun _ _ _ h => h) (Or.inl ⟨by rfl, ?_⟩) (by assumption) ?_
      rotate_left
      · (intro u hSu; obtain ⟨s1, s2⟩ := hSu; have q1 := s1.cell; have q2 := feed_cell0 s2; have q3 := feed_cell1 s2; go_simp; with_reducible rfl)
      simp only [Act.put, List.setIfInBounds_toArray, List.set_cons_zero, List.set_cons_succ]
      refine take_k (i := 1) (d := (some 11)) (v := ?_) rfl rfl (by decide) (by kernel_rfl) (by kernel_rfl) (by kernel_rfl) (by kernel_rfl) (fun _ _ _ h => h) (Or.inl ⟨by rfl, ?_⟩) (by assumption) ?_
      rotate_left
      · (intro u hSu; obtain ⟨s1, s2⟩ := hSu; have q1 := s1.cell; have q2 := feed_cell0 s2; have q3 := feed_cell1 s2; go_simp; with_reducible rfl)
      simp only [Act.put, List.setIfInBounds_toArray, List.set_cons_zero, List.set_cons_succ]
      refine take_k (i := 2) (d := (some 12)) (v := ?_) rfl rfl (by decide) (by kernel_rfl) (by kernel_rfl) (by kernel_rfl) (by kernel_rfl) (fun _ _ _ h => h) (Or.inl ⟨by rfl, ?_⟩) (by assumption) ?_
      rotate_left
      · (intro u hSu; obtain ⟨s1, s2⟩ := hSu; have q1 := s1.cell; have q2 := feed_cell0 s2; have q3 := feed_cell1 s2; go_simp; with_reducible rfl)
      simp only [Act.put, List.setIfInBounds_toArray, List.set_cons_zero, List.set_cons_succ]
      refine take_k (i := 3) (d := (some 13)) (v := ?_) rfl rfl (by decide) (by kernel_rfl) (by kernel_rfl) (by kernel_rfl) (by kernel_rfl) (fun _ _ _ h => h) (Or.inl ⟨by rfl, ?_⟩) (by assumption) ?_
      rotate_left
      · (intro u hSu; obtain ⟨s1, s2⟩ := hSu; have q1 := s1.cell; have q2 := feed_cell0 s2; have q3 := feed_cell1 s2; go_simp; with_reducible rfl)
      simp only [Act.put, List.setIfInBounds_toArray, List.set_cons_zero, List.set_cons_succ]
      refine take_k (i := 4) (d := (some 14)) (v := ?_) rfl rfl (by decide) (by kernel_rfl) (by kernel_rfl) (by kernel_rfl) (by kernel_rfl) (fun _ _ _ h => h) (Or.inl ⟨by rfl, ?_⟩) (by assumption) ?_
      rotate_left
      · (intro u hSu; obtain ⟨s1, s2⟩ := hSu; have q1 := s1.cell; have q2 := feed_cell0 s2; have q3 := feed_cell1 s2; go_simp; with_reducible rfl)
      simp only [Act.put, List.setIfInBounds_toArray, List.set_cons_zero, List.set_cons_succ]
      refine take_k (i := 5) (d := (some 15)) (v := ?_) rfl rfl (by decide) (by kernel_rfl) (by kernel_rfl) (by kernel_rfl) (by kernel_rfl) (fun _ _ _ h => h) (Or.inl ⟨by rfl, ?_⟩) (by assumption) ?_
      rotate_left
      · (intro u hSu; obtain ⟨s1, s2⟩ := hSu; have q1 := s1.cell; have q2 := feed_cell0 s2; have q3 := feed_cell1 s2; go_simp; with_reducible rfl)
      simp only [Act.put, List.setIfInBounds_toArray, List.set_cons_zero, List.set_cons_succ]
      refine take_k (i := 6) (d := (some 16)) (v := ?_) rfl rfl (by decide) (by kernel_rfl) (by kernel_rfl) (by kernel_rfl) (by kernel_rfl) (fun _ _ _ h => h) (Or.inl ⟨by rfl, ?_⟩) (by assumption) ?_
      rotate_left
      · (intro u hSu; obtain ⟨s1, s2⟩ := hSu; have q1 := s1.cell; have q2 := feed_cell0 s2; have q3 := feed_cell1 s2; go_simp; with_reducible rfl)
      simp only [Act.put, List.setIfInBounds_toArray, List.set_cons_zero, List.set_cons_succ]
      refine take_k (i := 7) (d := (some 17)) (v := ?_) rfl rfl (by decide) (by kernel_rfl) (by kernel_rfl) (by kernel_rfl) (by kernel_rfl) (fun _ _ _ h => h) (Or.inl ⟨by rfl, ?_⟩) (by assumption) ?_
      rotate_left
      · (intro u hSu; obtain ⟨s1, s2⟩ := hSu; have q1 := s1.cell; have q2 := feed_cell0 s2; have q3 := feed_cell1 s2; go_simp; with_reducible rfl)
      simp only [Act.put, List.setIfInBounds_toArray, List.set_cons_zero, List.set_cons_succ]
      refine take_k (i := 8) (d := (some 18)) (v := ?_) rfl rfl (by decide) (by kernel_rfl) (by kernel_rfl) (by kernel_rfl) (by kernel_rfl) (fun _ _ _ h => h) (Or.inl ⟨by rfl, ?_⟩) (by assumption) ?_
      rotate_left
      · (intro u hSu; obtain ⟨s1, s2⟩ := hSu; have q1 := s1.cell; have q2 := feed_cell0 s2; have q3 := feed_cell1 s2; go_simp; with_reducible rfl)
      simp only [Act.put, List.setIfInBounds_toArray, List.set_cons_zero, List.set_cons_succ]
      refine take_k (i := 9) (d := (some 19)) (v := ?_) rfl rfl (by decide) (by kernel_rfl) (by kernel_rfl) (by kernel_rfl) (by kernel_rfl) (fun _ _ _ h => h) (Or.inl ⟨by rfl, ?_⟩) (by assumption) ?_
      rotate_left
      · (intro u hSu; obtain ⟨s1, s2⟩ := hSu; have q1 := s1.cell; have q2 := feed_cell0 s2; have q3 := feed_cell1 s2; go_simp; with_reducible rfl)
      simp only [Act.put, List.setIfInBounds_toArray, List.set_cons_zero, List.set_cons_succ]
      refine take_k (i := 10) (d := (some 20)) (v := ?_) rfl rfl (by decide) (by kernel_rfl) (by kernel_rfl) (by kernel_rfl) (by kernel_rfl) (fun _ _ _ h => h) (Or.inl ⟨by rfl, ?_⟩) (by assumption) ?_
      rotate_left
      · (intro u hSu; obtain ⟨s1, s2⟩ := hSu; have q1 := s1.cell; have q2 := feed_cell0 s2; have q3 := feed_cell1 s2; go_simp; with_reducible rfl)
      simp only [Act.put, List.setIfInBounds_toArray, List.set_cons_zero, List.set_cons_succ]
      refine take_k (i := 11) (d := (some 21)) (v := ?_) rfl rfl (by decide) (by kernel_rfl) (by kernel_rfl) (by kernel_rfl) (by kernel_rfl) (fun _ _ _ h => h) (Or.inl ⟨by rfl, ?_⟩) (by assumption) ?_
      rotate_left
      · (intro u hSu; obtain ⟨s1, s2⟩ := hSu; have q1 := s1.cell; have q2 := feed_cell0 s2; have q3 := feed_cell1 s2; go_simp; with_reducible rfl)
      simp only [Act.put, List.setIfInBounds_toArray, List.set_cons_zero, List.set_cons_succ]
      refine take_k (i := 12) (d := (some 22)) (v := ?_) rfl rfl (by decide) (by kernel_rfl) (by kernel_rfl) (by kernel_rfl) (by kernel_rfl) (fun _ _ _ h => h) (Or.inl ⟨by rfl, ?_⟩) (by assumption) ?_
      rotate_left
      · (intro u hSu; obtain ⟨s1, s2⟩ := hSu; have q1 := s1.cell; have q2 := feed_cell0 s2; have q3 := feed_cell1 s2; go_simp; with_reducible rfl)
      simp only [Act.put, List.setIfInBounds_toArray, List.set_cons_zero, List.set_cons_succ]
      refine take_k (i := 13) (d := (some 23)) (v := ?_) rfl rfl (by decide) (by kernel_rfl) (by kernel_rfl) (by kernel_rfl) (by kernel_rfl) (fun _ _ _ h => h) (Or.inl ⟨by rfl, ?_⟩) (by assumption) ?_
      rotate_left
      · (intro u hSu; obtain ⟨s1, s2⟩ := hSu; have q1 := s1.cell; have q2 := feed_cell0 s2; have q3 := feed_cell1 s2; go_simp; with_reducible rfl)
      simp only [Act.put, List.setIfInBounds_toArray, List.set_cons_zero, List.set_cons_succ]
      refine take_k (i := 14) (d := (some 24)) (v := ?_) rfl rfl (by decide) (by kernel_rfl) (by kernel_rfl) (by kernel_rfl) (by kernel_rfl) (fun _ _ _ h => h) (Or.inl ⟨by rfl, ?_⟩) (by assumption) ?_
      rotate_left
      · (intro u hSu; obtain ⟨s1, s2⟩ := hSu; have q1 := s1.cell; have q2 := feed_cell0 s2; have q3 := feed_cell1 s2; go_simp; with_reducible rfl)
      simp only [Act.put, List.setIfInBounds_toArray, List.set_cons_zero, List.set_cons_succ]
      refine take_k (i := 15) (d := (some 25)) (v := ?_) rfl rfl (by decide) (by kernel_rfl) (by kernel_rfl) (by kernel_rfl) (by kernel_rfl) (fun _ _ _ h => h) (Or.inl ⟨by rfl, ?_⟩) (by assumption) ?_
      rotate_left
      · (intro u hSu; obtain ⟨s1, s2⟩ := hSu; have q1 := s1.cell; have q2 := feed_cell0 s2; have q3 := feed_cell1 s2; go_simp; with_reducible rfl)
      simp only [Act.put, List.setIfInBounds_toArray, List.set_cons_zero, List.set_cons_succ]
      refine take_k (i := 16) (d := (some 26)) (v := ?_) rfl rfl (by decide) (by kernel_rfl) (by kernel_rfl) (by kernel_rfl) (by kernel_rfl) (fun _ _ _ h => h) (Or.inl ⟨by rfl, ?_⟩) (by assumption) ?_
      rotate_left
      · (intro u hSu; obtain ⟨s1, s2⟩ := hSu; have q1 := s1.cell; have q2 := feed_cell0 s2; have q3 := feed_cell1 s2; go_simp; with_reducible rfl)
      simp only [Act.put, List.setIfInBounds_toArray, List.set_cons_zero, List.set_cons_succ]
      refine take_k (i := 17) (d := (some 27)) (v := ?_) rfl rfl (by decide) (by kernel_rfl) (by kernel_rfl) (by kernel_rfl) (by kernel_rfl) (fun _ _ _ h => h) (Or.inl ⟨by rfl, ?_⟩) (by assumption) ?_
      rotate_left
      · (intro u hSu; obtain ⟨s1, s2⟩ := hSu; have q1 := s1.cell; have q2 := feed_cell0 s2; have q3 := feed_cell1 s2; go_simp; with_reducible rfl)
      simp only [Act.put, List.setIfInBounds_toArray, List.set_cons_zero, List.set_cons_succ]
      refine take_k (i := 18) (d := (some 28)) (v := ?_) rfl rfl (by decide) (by kernel_rfl) (by kernel_rfl) (by kernel_rfl) (by kernel_rfl) (fun _ _ _ h => h) (Or.inl ⟨by rfl, ?_⟩) (by assumption) ?_
      rotate_left
      · (intro u hSu; obtain ⟨s1, s2⟩ := hSu; have q1 := s1.cell; have q2 := feed_cell0 s2; have q3 := feed_cell1 s2; go_simp; with_reducible rfl)
      simp only [Act.put, List.setIfInBounds_toArray, List.set_cons_zero, List.set_cons_succ]
      refine take_k (i := 19) (d := (some 29)) (v := ?_) rfl rfl (by decide) (by kernel_rfl) (by kernel_rfl) (by kernel_rfl) (by kernel_rfl) (fun _ _ _ h => h) (Or.inl ⟨by rfl, ?_⟩) (by assumption) ?_
      rotate_left
      · (intro u hSu; obtain ⟨s1, s2⟩ := hSu; have q1 := s1.cell; have q2 := feed_cell0 s2; have q3 := feed_cell1 s2; go_simp; with_reducible rfl)
      simp only [Act.put, List.setIfInBounds_toArray, List.set_cons_zero, List.set_cons_succ]
      refine one_k (j := 20) (by kernel_rfl) rfl (fun K hK => ?_)
      refine step_append_str rfl (.tmp 14) (.tmp 29) 43 9 rfl B 5 j0 Try.underlying43 Try.underlying9 hj jz0 jz1 jz2 (.slice A r.length c) r.length (Lib.byteCells r) (by rfl) HPS.out.1.2 (bs y) (by rfl) (by rw [bs_size]; unfold maxLen; omega) (by rw [bs_size]; omega) (Nat.le_trans hB hWz) ?_
      intro v' u1 hown hg
      rw [HRC.out, HRL.out] at hown
      have hmid := PS.mid (PS.drew HPS.out) hg
      obtain ⟨A2, c2, rfl⟩ := own_len hown
      have HPA := Lib.hid (PS.app (PS.drew HPS.out) hf hg hown)
      have q3 := feed_cell1 hmid.1
      have q4 := Lib.frozen_of_heap hmid.1 1
      have HMID := Lib.hid hmid
      have HGO := Lib.hid (go_app (PS.drew HPS.out) hf hg (.slice A2 R.length c2))
      clear hown hg hmid
      refine hK.out _ _ (fun _ => ⟨HMID.out.2.1.1, HMID.out.1⟩) (fun _ => ?_)
      clear hK K
      simp only [Act.put, List.setIfInBounds_toArray]
      refine one_k (j := 21) (by kernel_rfl) rfl (fun K hK => ?_)
      go_simp
      refine hK.out _ _ (fun _ => ⟨HMID.out.2.1.1, HMID.out.1⟩) (fun _ => ?_)
      clear hK K
      try simp only [Act.put, List.setIfInBounds_toArray, List.set_cons_zero, List.set_cons_succ]
      refine one_k (j := 22) (by kernel_rfl) rfl (fun K hK => ?_)
      go_simp
      refine hK.out _ _ (fun _ => ⟨HMID.out.2.1.1, HMID.out.1⟩) (fun _ => ?_)
      clear hK K
      try simp only [Act.put, List.setIfInBounds_toArray, List.set_cons_zero, List.set_cons_succ]
      refine one_k (j := 23) (by kernel_rfl) rfl (fun K hK => ?_)
      go_simp
      refine hK.out _ _ (fun h => absurd rfl h) (fun _ => ?_)
      clear hK K
      refine done_k (by kernel_rfl) ?_ _
      clear q3 q4 HMID
      generalize World.setCell _ _ _ = W4 at HPA HGO ⊢
      obtain ⟨g2, cap2, hA2⟩ : ∃ g2 cap2, Value.slice A2 R.length c2 = .slice (some ⟨g2, 0, none⟩) R.length cap2 := by
        obtain ⟨k, hk⟩ : ∃ k, R.length = k + 1 := ⟨R.length - 1, by have := List.length_pos_iff.2 hRn; omega⟩
        have h1 := HPA.out.1.2
        rw [hk] at h1 ⊢
        exact ownsRow_succ h1
      injection hA2 with hA3 _ hc3
      subst hA3; subst hc3
      have hsuf := Try.strings_HasSuffix (bs x) (bs [10]) W4 (by rw [bs_size]; omega)
      rw [bs_data, bs_data, Ln.suffix_one] at hsuf
      change Calls _ _ _ _ (fun e w' => e = .returned (.bool (Ln.ends x)) ∧ w' = W4) at hsuf
      cases he : Ln.ends x with
      | false =>
        rw [he] at hsuf
        have HSF := Lib.hid hsuf
        have hst : Ln.pushF n r0 (pre ++ [x]) = (outs, R) := by rw [HSN.out, HR.out]; unfold Ln.pl; rw [he]; rfl
        have HST := Lib.hid hst
        clear hsuf hst he
        gi_wp2_with (refine ⟨trivial, ?_⟩; gi_at_call 28; refine (CallsIn.inRound l (callsIn_wide.2 HSF.out)).mono ?_; rintro e u5 ⟨rfl, hw⟩; obtain rfl := hw.symm)
        refine ⟨fun k o _ => HGO.out.1 k o, HGO.out.2, ?_⟩
        dsimp only
        rw [HST.out]
        exact ⟨_, _, HPA.out⟩
      | true =>
        rw [he] at hsuf
        have HSF := Lib.hid hsuf
        have hst : Ln.pushF n r0 (pre ++ [x]) = (outs ++ [R], []) := by rw [HSN.out, HR.out]; unfold Ln.pl; rw [he]; rfl
        have HST := Lib.hid hst
        obtain ⟨Ao, co, hvo⟩ := own_len HPA.out.2.1.2.2.1
        subst hvo
        clear hsuf hst he HRC HRL HSN HR
        gi_wp2_with (refine ⟨trivial, ?_⟩; gi_at_call 28; refine (CallsIn.inRound l (callsIn_wide.2 HSF.out)).mono ?_; rintro e u5 ⟨rfl, hw⟩; obtain rfl := hw.symm)

        refine wpIn_region_keep 8 (fun u => Boxed u w.heap.size 29 (.pointer (some ⟨f, 0, none⟩)) ∧ u.heap[f]? = some (.cells #[.int .i64 (n : Int), .slice (some ⟨g2, 0, none⟩) R.length c2] 45 (0, 0)) ∧ Boxed u (w.heap.size + 1) 24 (.slice Ao outs.length co) ∧ u.ownsRow B 5 1 (.slice (some ⟨g2, 0, none⟩) R.length c2) R.length (Lib.byteCells R)) (by kernel_rfl) (by kernel_rfl) (by intro _ _ h; exact h) ⟨HPA.out.2.1.1, HPA.out.1.1, HPA.out.2.1.2.1, HPA.out.1.2⟩ (fun _ => ?_)
        refine take_k (i := 0) (d := (some 35)) (v := ?_) rfl rfl (by decide) (by kernel_rfl) (by kernel_rfl) (by kernel_rfl) (by kernel_rfl) (fun _ _ _ h => h) (Or.inl ⟨by rfl, ?_⟩) (by assumption) ?_
        rotate_left
        · (intro u hSu; obtain ⟨s1, s2, s3, s4⟩ := hSu; have q1 := s1.cell; have q2 := feed_cell0 s2; have q3 := feed_cell1 s2; have q4 := s3.cell; have q5 := back_own s4 rfl; go_simp; with_reducible rfl)
        simp only [Act.put, List.setIfInBounds_toArray, List.set_cons_zero, List.set_cons_succ]
        refine take_k (i := 1) (d := (some 36)) (v := ?_) rfl rfl (by decide) (by kernel_rfl) (by kernel_rfl) (by kernel_rfl) (by kernel_rfl) (fun _ _ _ h => h) (Or.inl ⟨by rfl, ?_⟩) (by assumption) ?_
        rotate_left
        · (intro u hSu; obtain ⟨s1, s2, s3, s4⟩ := hSu; have q1 := s1.cell; have q2 := feed_cell0 s2; have q3 := feed_cell1 s2; have q4 := s3.cell; have q5 := back_own s4 rfl; go_simp; with_reducible rfl)
        simp only [Act.put, List.setIfInBounds_toArray, List.set_cons_zero, List.set_cons_succ]
        refine take_k (i := 2) (d := (some 37)) (v := ?_) rfl rfl (by decide) (by kernel_rfl) (by kernel_rfl) (by kernel_rfl) (by kernel_rfl) (fun _ _ _ h => h) (Or.inl ⟨by rfl, ?_⟩) (by assumption) ?_
        rotate_left
        · (intro u hSu; obtain ⟨s1, s2, s3, s4⟩ := hSu; have q1 := s1.cell; have q2 := feed_cell0 s2; have q3 := feed_cell1 s2; have q4 := s3.cell; have q5 := back_own s4 rfl; go_simp; with_reducible rfl)
        simp only [Act.put, List.setIfInBounds_toArray, List.set_cons_zero, List.set_cons_succ]
        refine take_k (i := 3) (d := (some 38)) (v := ?_) rfl rfl (by decide) (by kernel_rfl) (by kernel_rfl) (by kernel_rfl) (by kernel_rfl) (fun _ _ _ h => h) (Or.inl ⟨by rfl, ?_⟩) (by assumption) ?_
        rotate_left
        · (intro u hSu; obtain ⟨s1, s2, s3, s4⟩ := hSu; have q1 := s1.cell; have q2 := feed_cell0 s2; have q3 := feed_cell1 s2; have q4 := s3.cell; have q5 := back_own s4 rfl; go_simp; with_reducible rfl)
        simp only [Act.put, List.setIfInBounds_toArray, List.set_cons_zero, List.set_cons_succ]
        refine take_k (i := 4) (d := (some 39)) (v := ?_) rfl rfl (by decide) (by kernel_rfl) (by kernel_rfl) (by kernel_rfl) (by kernel_rfl) (fun _ _ _ h => h) (Or.inl ⟨by rfl, ?_⟩) (by assumption) ?_
        rotate_left
        · (intro u hSu; obtain ⟨s1, s2, s3, s4⟩ := hSu; have q1 := s1.cell; have q2 := feed_cell0 s2; have q3 := feed_cell1 s2; have q4 := s3.cell; have q5 := back_own s4 rfl; go_simp; with_reducible rfl)
        simp only [Act.put, List.setIfInBounds_toArray, List.set_cons_zero, List.set_cons_succ]
        refine take_k (i := 5) (d := (some 40)) (v := ?_) rfl rfl (by decide) (by kernel_rfl) (by kernel_rfl) (by kernel_rfl) (by kernel_rfl) (fun _ _ _ h => h) (Or.inl ⟨by rfl, ?_⟩) (by assumption) ?_
        rotate_left
        · (intro u hSu; obtain ⟨s1, s2, s3, s4⟩ := hSu; have q1 := s1.cell; have q2 := feed_cell0 s2; have q3 := feed_cell1 s2; have q4 := s3.cell; have q5 := back_own s4 rfl; go_simp; with_reducible rfl)
        simp only [Act.put, List.setIfInBounds_toArray, List.set_cons_zero, List.set_cons_succ]
        refine one_k (j := 6) (by kernel_rfl) rfl (fun K hK => ?_)
        go_simp
        refine hK.out _ _ (fun _ => ⟨HPA.out.2.1.1.alloc _, (Below.heap_alloc _ _ _ (blk_lt HPA.out.1.1)).trans HPA.out.1.1, HPA.out.2.1.2.1.alloc _, HPA.out.1.2.alloc _⟩) (fun _ => ?_)
        clear hK K
        try simp only [Act.put, List.setIfInBounds_toArray, List.set_cons_zero, List.set_cons_succ]
        refine one_k (j := 7) (by kernel_rfl) rfl (fun K hK => ?_)
        refine step_append_own rfl (.tmp 35) (.tmp 41) 24 rfl (w.heap.size + 3) 9 i0 (.string ⟨#[]⟩) 1 16 Try.underlying24 hi hz0 hz1 hz2 rfl (by decide) (.slice Ao outs.length co) outs.length (outs.map sv) (by rfl) (HPA.out.2.1.2.2.1.alloc _) ⟨W4.drew.heap.size, 0, none⟩ 1 1 [.string (bs R)] (by rfl) rfl (cell_one_new _ _ _) (by simp [Value.oneCell']) (by unfold maxLen; omega) (by omega) (by obtain ⟨t, h6⟩ := HPA.out.2.1.2.2.2; have := h6.lt; simp; omega) ?_
        intro vo' u2 hown2 hg2
        have hown3 : u2.ownsRow (w.heap.size + 3) 9 1 vo' (outs ++ [R]).length ((outs ++ [R]).map sv) := by rw [List.length_append, List.map_append]; exact hown2
        have htold := PS.told (PS.drew HPA.out) hf hg2 hown3
        obtain ⟨O2, hO2⟩ : ∃ O2, O2 = outs ++ [R] := ⟨_, rfl⟩
        rw [← hO2] at hown3 htold
        have HO2 := Lib.hid hO2
        clear hO2
        obtain ⟨Ao2, co2, rfl⟩ := own_len hown3
        have HGO2 := Lib.hid (HGO.out.trans (GO.drew (go_told (PS.drew HPA.out) hg2 htold.1.1 (.slice Ao2 O2.length co2))))
        have HPT := Lib.hid htold.2
        have HT1 := Lib.hid htold.1
        have q1 := htold.1.1.cell
        have q2 := htold.1.1.frozen
        clear hown2 hown3 hg2 htold
        refine hK.out _ _ (fun _ => ⟨HT1.out.2.1, HT1.out.2.2.1, HT1.out.1, HT1.out.2.2.2⟩) (fun _ => ?_)
        clear hK K
        simp only [Act.put, List.setIfInBounds_toArray]
        refine one_k (j := 8) (by kernel_rfl) rfl (fun K hK => ?_)
        go_simp
        refine hK.out _ _ (fun h => absurd rfl h) (fun _ => ?_)
        clear hK K
        refine done_k (by kernel_rfl) ?_ _
        clear q1 q2 HT1 HGO HPA
        generalize World.setCell _ _ _ = W5 at HPT HGO2 ⊢
        gi_wp2
        refine wpIn_region_keep 8 (fun u => Boxed u w.heap.size 29 (.pointer (some ⟨f, 0, none⟩)) ∧ u.heap[f]? = some (.cells #[.int .i64 (n : Int), .slice (some ⟨g2, 0, none⟩) R.length c2] 45 (0, 0))) (by kernel_rfl) (by kernel_rfl) (by intro _ _ h; exact h) ⟨HPT.out.2.1.1, HPT.out.1.1⟩ (fun _ => ?_)
        refine take_k (i := 0) (d := (some 43)) (v := ?_) rfl rfl (by decide) (by kernel_rfl) (by kernel_rfl) (by kernel_rfl) (by kernel_rfl) (fun _ _ _ h => h) (Or.inl ⟨by rfl, ?_⟩) (by assumption) ?_
        rotate_left
        · (intro u hSu; obtain ⟨s1, s2⟩ := hSu; have q1 := s1.cell; have q2 := feed_cell0 s2; have q3 := feed_cell1 s2; go_simp; with_reducible rfl)
        simp only [Act.put, List.setIfInBounds_toArray, List.set_cons_zero, List.set_cons_succ]
        refine take_k (i := 1) (d := (some 44)) (v := ?_) rfl rfl (by decide) (by kernel_rfl) (by kernel_rfl) (by kernel_rfl) (by kernel_rfl) (fun _ _ _ h => h) (Or.inl ⟨by rfl, ?_⟩) (by assumption) ?_
        rotate_left
        · (intro u hSu; obtain ⟨s1, s2⟩ := hSu; have q1 := s1.cell; have q2 := feed_cell0 s2; have q3 := feed_cell1 s2; go_simp; with_reducible rfl)
        simp only [Act.put, List.setIfInBounds_toArray, List.set_cons_zero, List.set_cons_succ]
        refine take_k (i := 2) (d := (some 45)) (v := ?_) rfl rfl (by decide) (by kernel_rfl) (by kernel_rfl) (by kernel_rfl) (by kernel_rfl) (fun _ _ _ h => h) (Or.inl ⟨by rfl, ?_⟩) (by assumption) ?_
        rotate_left
        · (intro u hSu; obtain ⟨s1, s2⟩ := hSu; have q1 := s1.cell; have q2 := feed_cell0 s2; have q3 := feed_cell1 s2; go_simp; with_reducible rfl)
        simp only [Act.put, List.setIfInBounds_toArray, List.set_cons_zero, List.set_cons_succ]
        refine take_k (i := 3) (d := (some 46)) (v := ?_) rfl rfl (by decide) (by kernel_rfl) (by kernel_rfl) (by kernel_rfl) (by kernel_rfl) (fun _ _ _ h => h) (Or.inl ⟨by rfl, ?_⟩) (by assumption) ?_
        rotate_left
        · (intro u hSu; obtain ⟨s1, s2⟩ := hSu; have q1 := s1.cell; have q2 := feed_cell0 s2; have q3 := feed_cell1 s2; go_simp; with_reducible rfl)
        simp only [Act.put, List.setIfInBounds_toArray, List.set_cons_zero, List.set_cons_succ]
        refine take_k (i := 4) (d := (some 47)) (v := ?_) rfl rfl (by decide) (by kernel_rfl) (by kernel_rfl) (by kernel_rfl) (by kernel_rfl) (fun _ _ _ h => h) (Or.inl ⟨by rfl, ?_⟩) (by assumption) ?_
        rotate_left
        · (intro u hSu; obtain ⟨s1, s2⟩ := hSu; have q1 := s1.cell; have q2 := feed_cell0 s2; have q3 := feed_cell1 s2; go_simp; with_reducible rfl)
        simp only [Act.put, List.setIfInBounds_toArray, List.set_cons_zero, List.set_cons_succ]
        refine take_k (i := 5) (d := (some 48)) (v := ?_) rfl rfl (by decide) (by kernel_rfl) (by kernel_rfl) (by kernel_rfl) (by kernel_rfl) (fun _ _ _ h => h) (Or.inl ⟨by rfl, ?_⟩) (by assumption) ?_
        rotate_left
        · (intro u hSu; obtain ⟨s1, s2⟩ := hSu; have q1 := s1.cell; have q2 := feed_cell0 s2; have q3 := feed_cell1 s2; go_simp; with_reducible rfl)
        simp only [Act.put, List.setIfInBounds_toArray, List.set_cons_zero, List.set_cons_succ]
        have q3 := feed_cell1 HPT.out.1.1
        have q4 := Lib.frozen_of_heap HPT.out.1.1 1
        refine one_k (j := 6) (by kernel_rfl) rfl (fun K hK => ?_)
        go_simp
        refine hK.out _ _ (fun _ => ⟨HPT.out.2.1.1, HPT.out.1.1⟩) (fun _ => ?_)
        clear hK K
        try simp only [Act.put, List.setIfInBounds_toArray, List.set_cons_zero, List.set_cons_succ]
        refine one_k (j := 7) (by kernel_rfl) rfl (fun K hK => ?_)
        go_simp
        refine hK.out _ _ (fun _ => ⟨HPT.out.2.1.1, HPT.out.1.1⟩) (fun _ => ?_)
        clear hK K
        try simp only [Act.put, List.setIfInBounds_toArray, List.set_cons_zero, List.set_cons_succ]
        refine one_k (j := 8) (by kernel_rfl) rfl (fun K hK => ?_)
        go_simp
        refine hK.out _ _ (fun h => absurd rfl h) (fun _ => ?_)
        clear hK K
        refine done_k (by kernel_rfl) ?_ _
        gi_wp2
        have hfin := PS.cut (PS.drew HPT.out) hf
        have hgo := HGO2.out.trans (GO.drew (go_cut (PS.drew HPT.out) hf (.slice (some ⟨g2, 0, none⟩) 0 c2)))
        refine ⟨fun k o _ => hgo.1 k o, hgo.2, ?_⟩
        dsimp only
        rw [HST.out, ← HO2.out]
        exact ⟨_, _, hfin⟩
  case done =>
    rintro D W hD ⟨v, vo, h⟩ hK
    have hcv := h.2.1.2.1.cell
    have hk := h.keep hf (grownBy_putObj' W D (.deferred none)) (fun b e => by
      injection e with e
      subst e
      refine ⟨by omega, fun e2 => ?_, fun e2 => ?_⟩
      · obtain ⟨_, cur, hc2⟩ := row_block h.1.2 e2
        rw [hK] at hc2; cases hc2
      · obtain ⟨_, cur, hc2⟩ := row_block h.2.1.2.2.1 e2
        rw [hK] at hc2; cases hc2)
    have HK := Lib.hid hk
    clear hk h hps
    gi_wp2
    refine ⟨by simp, .inl ⟨_, _, rfl, run_takeDeferred hK, ?_⟩⟩
    exact ⟨_, results_tmp rfl _ _ _, vo, rfl, own_base HK.out.2.1.2.2.1 (by omega), ⟨v, HK.out.1⟩, HK.out.2.2⟩
end Go.Proofs.Ytjllmhnicmonbaa
