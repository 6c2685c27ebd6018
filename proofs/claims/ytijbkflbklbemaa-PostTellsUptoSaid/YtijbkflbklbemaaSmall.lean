/- small of the statements of chapter 33: the fixed example. -/
import Derived.Test.YtijbkflbklbemaaNext
namespace Go.Proofs.Ytijbkflbklbemaa
open Go.RowKit

def exA : List Po.P := [⟨3, [5, 7]⟩, ⟨9, [0]⟩]
def exB : List Po.P := [⟨3, [6, 7, 9]⟩]
theorem seq_at {u : World} {X : Nat} {t : TypeId} {xs : List Value} (h : u.heap[X]? = some (.cells xs.toArray t (0, 0))) (hl : xs.length ≤ maxLen) : Seq u (.slice (some ⟨X, 0, none⟩) xs.length xs.length) xs := by
  refine ⟨_, _, rfl, Nat.le_refl _, hl, .inr ⟨_, _, rfl, fun i v hv => ?_⟩⟩
  rw [Lib.cell_of_heap h, Nat.zero_add]
  simpa using hv
theorem seqP_at {u : World} {X : Nat} {t : TypeId} {cs : List Value} {l : List Po.P} {off cap : Nat} (h : u.heap[X]? = some (.cells cs.toArray t (0, 0))) (hl : l.length ≤ cap) (hm : cap ≤ maxLen)
    (hc : ∀ i p, l[i]? = some p → cs[off + i * 2]? = some (.int .i64 p.doc) ∧ ∃ A k c, cs[off + i * 2 + 1]? = some (.slice A k c) ∧ Seq u (.slice A k c) (p.places.map iv)) : SeqP u (.slice (some ⟨X, off, none⟩) l.length cap) l := by
  refine ⟨_, _, rfl, hl, hm, .inr ⟨_, _, rfl, fun i p hp => ?_⟩⟩
  obtain ⟨h0, A, k, c, h1, h2⟩ := hc i p hp
  refine ⟨?_, A, k, c, ?_, h2⟩
  · rw [Lib.cell_of_heap h]
    simpa using h0
  · rw [Lib.cell_of_heap h]
    simpa using h1
/-- one posting, its places in block X, itself in block Y -/
theorem seqP_one {u : World} {X Y : Nat} {d : Int} {l : List Int} (h : u.heap[X]? = some (.cells (l.map iv).toArray 3 (0, 0))) (hY : u.heap[Y]? = some (.cells #[.int .i64 d, .slice (some ⟨X, 0, none⟩) l.length l.length] 40 (0, 0))) (hl : l.length ≤ maxLen) :
    SeqP u (.slice (some ⟨Y, 0, none⟩) 1 1) [⟨d, l⟩] := by
  have hs := seq_at h (by rw [List.length_map]; exact hl)
  rw [List.length_map] at hs
  refine seqP_at (l := [⟨d, l⟩]) (cs := [.int .i64 d, .slice (some ⟨X, 0, none⟩) l.length l.length]) hY (by simp) (by decide) (fun i p hp => ?_)
  match i with
  | 0 => simp at hp; subst hp; exact ⟨rfl, _, _, _, rfl, hs⟩
  | n + 1 => simp at hp
theorem seqP_new (u : World) (d : Int) (l : List Int) (hl : l.length ≤ maxLen) : SeqP ((u.alloc (.cells (l.map iv).toArray 3)).alloc (.cells #[.int .i64 d, .slice (some ⟨u.heap.size, 0, none⟩) l.length l.length] 40)) (.slice (some ⟨u.heap.size + 1, 0, none⟩) 1 1) [⟨d, l⟩] := by
  refine seqP_one (X := u.heap.size) ?_ ?_ hl
  · exact (Below.heap_alloc _ _ _ (by simp)).trans (heap_alloc_new _ _)
  · have := heap_alloc_new (u.alloc (.cells (l.map iv).toArray 3)) (.cells #[.int .i64 d, .slice (some ⟨u.heap.size, 0, none⟩) l.length l.length] 40)
    simpa using this
theorem seqP_new2 (u u2 : World) (d : Int) (l : List Int) (hl : l.length ≤ maxLen) (k : Below (u.alloc (.cells (l.map iv).toArray 3)).heap.size (u.alloc (.cells (l.map iv).toArray 3)) u2) :
    SeqP (u2.alloc (.cells #[.int .i64 d, .slice (some ⟨u.heap.size, 0, none⟩) l.length l.length] 40)) (.slice (some ⟨u2.heap.size, 0, none⟩) 1 1) [⟨d, l⟩] := by
  have hs := k.size
  refine seqP_one (X := u.heap.size) ?_ (heap_alloc_new _ _) hl
  exact (Below.heap_alloc _ _ _ (by simp at hs; omega)).trans ((k.block _ (by simp)).trans (heap_alloc_new _ _))
def w5 (w : World) (o1 o2 o3 o4 o5 : Obj) : World := ((((w.alloc o1).alloc o2).alloc o3).alloc o4).alloc o5
theorem w5_below (w : World) (o1 o2 o3 o4 o5 : Obj) : Below w.heap.size w (w5 w o1 o2 o3 o4 o5) :=
  (((((Below.refl _ w).alloc (Nat.le_refl _) o1).alloc (by simp) o2).alloc (by simp; omega) o3).alloc (by simp; omega) o4).alloc (by simp; omega) o5
theorem w5_at (w : World) (o1 o2 o3 o4 o5 : Obj) : (w5 w o1 o2 o3 o4 o5).heap[w.heap.size]? = some o1 ∧ (w5 w o1 o2 o3 o4 o5).heap[w.heap.size + 1]? = some o2 ∧ (w5 w o1 o2 o3 o4 o5).heap[w.heap.size + 1 + 1]? = some o3 ∧ (w5 w o1 o2 o3 o4 o5).heap[w.heap.size + 1 + 1 + 1]? = some o4 ∧ (w5 w o1 o2 o3 o4 o5).heap[w.heap.size + 1 + 1 + 1 + 1]? = some o5 := by
  have h1 := heap_alloc_new w o1
  have h2 := heap_alloc_new (w.alloc o1) o2
  have h3 := heap_alloc_new ((w.alloc o1).alloc o2) o3
  have h4 := heap_alloc_new (((w.alloc o1).alloc o2).alloc o3) o4
  have h5 := heap_alloc_new ((((w.alloc o1).alloc o2).alloc o3).alloc o4) o5
  simp only [World.size_alloc] at h2 h3 h4 h5
  have g : ∀ (v : World) (o x : Obj) (i : Nat), v.heap[i]? = some x → (v.alloc o).heap[i]? = some x := fun v o x i h => (Below.heap_alloc _ _ _ (blk_lt h)).trans h
  exact ⟨g _ _ _ _ (g _ _ _ _ (g _ _ _ _ (g _ _ _ _ h1))), g _ _ _ _ (g _ _ _ _ (g _ _ _ _ h2)), g _ _ _ _ (g _ _ _ _ h3), g _ _ _ _ h4, h5⟩
theorem ex_dec : decOk [1, 3, 2, 5, 2] = true ∧ decL [1, 3, 2, 5, 2] = [⟨3, [5, 7]⟩] := ⟨by decide +kernel, by rfl⟩
theorem ex_no : decOk [1, 3, 2, 5, 0] = false := by decide +kernel
theorem ex_enc : encL [⟨3, [5, 7]⟩] = [1, 3, 2, 5, 2] := by decide +kernel
theorem ex_next : Po.nextL 1 exA exB = [⟨3, [6]⟩] := by simp [Po.nextL, Po.out, Po.mrg, exA, exB, Po.nextF]
theorem ex_less : Po.lessL exA exB = [⟨9, [0]⟩] := by simp [Po.lessL, Po.out, Po.mrg, exA, exB, Po.lessF]
theorem ex_and : Po.andL exA exB = [⟨3, [5, 6, 7, 9]⟩] := by simp [Po.andL, Po.out, Po.mrg, exA, exB, Po.andF, Po.un, Po.uf]
theorem ex_or : (Po.orL exA exB).length = 2 := by simp [Po.orL, Po.out, Po.mrg, exA, exB, Po.orF]
theorem ok_A : Po.Ok exA := (Po.right_iff _).1 (by decide +kernel)
theorem ok_B : Po.Ok exB := (Po.right_iff _).1 (by decide +kernel)

theorem docs_or (u : World) (v : Value) (h : SeqP u v (Po.orL exA exB)) : Calls Try.prog 15 #[v] u fun e u' => (∃ A cap, e = .returned (.slice A 2 cap)) ∧ Below u.heap.size u u' := by
  refine (Docs_c v _ u h (by rw [ex_or]; decide)).mono ?_
  rintro e u' ⟨v', rfl, ⟨A, cap, rfl, _⟩, hb⟩
  rw [List.length_map, List.length_map, ex_or]
  exact ⟨⟨A, cap, rfl⟩, hb⟩
theorem same_t (va vb : Value) (l : List Po.P) (w : World) (ha : SeqP w va l) (hb : SeqP w vb l) : Calls Try.prog 13 #[va, vb] w fun e w' => e = .returned (.bool true) ∧ Below w.heap.size w w' := by
  refine (Same_c va vb l l w ha hb).mono ?_
  rintro e w' ⟨b, rfl, hb, n, rfl⟩
  rw [hb.2 rfl]
  exact ⟨rfl, rfl, rfl, rfl, Nat.le_refl _, fun _ _ => rfl⟩

set_option maxHeartbeats 8000000 in
set_option maxRecDepth 100000 in
theorem small_c (w : World) :
    Calls Try.prog 7 #[] w fun e w' => e = .returned (.bool true) ∧ Below w.heap.size w w' := by
  go_enter Try.func7, Try.ntmps7
  go_wp2_with fail
  have hw : ∀ o1 o2 o3 o4 o5, ((((w.alloc o1).alloc o2).alloc o3).alloc o4).alloc o5 = w5 w o1 o2 o3 o4 o5 := fun _ _ _ _ _ => rfl
  rw [hw]
  clear hw
  have h5 := w5_below w (.cells #[.int .i64 5, .int .i64 7] 3) (.cells #[.int .i64 0] 3) (.cells #[.int .i64 3, .slice (some ⟨w.heap.size, 0, none⟩) 2 2, .int .i64 9, .slice (some ⟨w.heap.size + 1, 0, none⟩) 1 1] 40) (.cells #[.int .i64 6, .int .i64 7, .int .i64 9] 3) (.cells #[.int .i64 3, .slice (some ⟨w.heap.size + 1 + 1 + 1, 0, none⟩) 3 3] 40)
  have h6 := w5_at w (.cells #[.int .i64 5, .int .i64 7] 3) (.cells #[.int .i64 0] 3) (.cells #[.int .i64 3, .slice (some ⟨w.heap.size, 0, none⟩) 2 2, .int .i64 9, .slice (some ⟨w.heap.size + 1, 0, none⟩) 1 1] 40) (.cells #[.int .i64 6, .int .i64 7, .int .i64 9] 3) (.cells #[.int .i64 3, .slice (some ⟨w.heap.size + 1 + 1 + 1, 0, none⟩) 3 3] 40)
  generalize w5 w _ _ _ _ _ = W at *
  obtain ⟨g1, g2, g3, g4, g5⟩ := h6
  have q1 : Seq W (.slice (some ⟨w.heap.size, 0, none⟩) 2 2) ([5, 7].map iv) := seq_at (xs := [5, 7].map iv) g1 (by decide)
  have q2 : Seq W (.slice (some ⟨w.heap.size + 1, 0, none⟩) 1 1) ([0].map iv) := seq_at (xs := [0].map iv) g2 (by decide)
  have sA : SeqP W (.slice (some ⟨w.heap.size + 1 + 1, 0, none⟩) 2 2) exA := seqP_at (l := exA) (off := 0) (cs := [_, _, _, _]) g3 (by decide) (by decide) (fun i p hp => by
    match i with
    | 0 => simp [exA] at hp; subst hp; exact ⟨rfl, _, _, _, rfl, q1⟩
    | 1 => simp [exA] at hp; subst hp; exact ⟨rfl, _, _, _, rfl, q2⟩
    | n + 2 => simp [exA] at hp)
  have sA1 : SeqP W (.slice (some ⟨w.heap.size + 1 + 1, 0, none⟩) 1 2) [⟨3, [5, 7]⟩] := seqP_at (l := [⟨3, [5, 7]⟩]) (off := 0) (cs := [_, _, _, _]) g3 (by decide) (by decide) (fun i p hp => by
    match i with
    | 0 => simp at hp; subst hp; exact ⟨rfl, _, _, _, rfl, q1⟩
    | n + 1 => simp at hp)
  have sA2 : SeqP W (.slice (some ⟨w.heap.size + 1 + 1, 2, none⟩) 1 1) [⟨9, [0]⟩] := seqP_at (l := [⟨9, [0]⟩]) (off := 2) (cs := [_, _, _, _]) g3 (by decide) (by decide) (fun i p hp => by
    match i with
    | 0 => simp at hp; subst hp; exact ⟨rfl, _, _, _, rfl, q2⟩
    | n + 1 => simp at hp)
  have sB : SeqP W (.slice (some ⟨w.heap.size + 1 + 1 + 1 + 1, 0, none⟩) 1 1) exB := seqP_one (l := [6, 7, 9]) g4 g5 (by decide)
  clear g1 g2 g3 g4 g5 q1 q2
  have SA := Lib.hid sA; clear sA
  have SA1 := Lib.hid sA1; clear sA1
  have SA2 := Lib.hid sA2; clear sA2
  have SB := Lib.hid sB; clear sB
  refine (Decode_c [1, 3, 2, 5, 2] W (by decide)).mono ?_
  rintro e w1 ⟨v3, rfl, hv3, b1⟩
  rw [ex_dec.1]
  rw [ex_dec.2] at hv3
  have HV3 := Lib.hid hv3; clear hv3
  go_wp2_with fail
  refine (Decode_c [1, 3, 2, 5, 0] w1 (by decide)).mono ?_
  rintro e w2 ⟨v5, rfl, _, b2⟩
  rw [ex_no]
  have b12 := chain b1 b2
  have HV3' := Lib.hid (HV3.out.keep b2.block); clear HV3
  have hb := h5.trans (b12.mono h5.size)
  have SA' := Lib.hid (SA.out.keep b12.block); clear SA
  have SA1' := Lib.hid (SA1.out.keep b12.block); clear SA1
  have SA2' := Lib.hid (SA2.out.keep b12.block); clear SA2
  have SB' := Lib.hid (SB.out.keep b12.block); clear SB
  clear b1 b2 b12 h5
  have HB := Lib.hid hb; clear hb
  have hE : ((bs [1, 3, 2, 5, 2]).toList == [1, 3, 2, 5, 2]) = true := by decide +kernel
  go_wp2_with fail
  go_region_held3 (fun u => Below w2.heap.size w2 u) (first | exact e1 | assumption | exact ⟨rfl, rfl, rfl, Nat.le_refl _, fun _ _ => rfl⟩ | exact Below.alloc (by assumption) (Below.size (by assumption)) _) ((first
    | (go_at_call 21; refine (Encode_c _ [⟨3, [5, 7]⟩] _ (SA1'.out.keep (Below.block (by assumption))) (by decide) (by rw [ex_enc]; decide)).mono ?_; rintro e u1 ⟨rfl, k1⟩; rw [ex_enc]; have e1 := chain (a := w2) (by assumption) k1)
    | (go_at_call 13; (with_reducible show Calls _ _ #[v3, _] _ _); refine (same_t _ _ [⟨3, [5, 7]⟩] _ (HV3'.out.keep (Below.block (by assumption))) (SA1'.out.keep (Below.block (by assumption)))).mono ?_; rintro e u1 ⟨rfl, k1⟩; have e1 := chain (a := w2) (by assumption) k1)
    | (go_at_call 16; refine (Next_c _ _ exA exB 1 _ (SA'.out.keep (Below.block (by assumption))) (SB'.out.keep (Below.block (by assumption))) ok_A ok_B (by decide) (by decide)).mono ?_; rintro e u2 ⟨v43, rfl, hv43, k2⟩; rw [ex_next] at hv43; have e1 := chain (a := w2) (by assumption) k2)
    | (go_at_call 13; first
        | ((with_reducible show Calls _ _ #[v43, _] (World.alloc (World.alloc _ _) _) _); refine (same_t _ _ [⟨3, [6]⟩] _ (hv43.keep (((Below.refl _ _).alloc (Nat.le_refl _) _).alloc (by simp) _).block) (seqP_new _ 3 [6] (by decide))).mono ?_; rintro e u1 ⟨rfl, k1⟩; have e1 := chain (a := w2) (by assumption) k1)
        | ((with_reducible show Calls _ _ #[v43, _] (World.alloc _ _) _); refine (same_t _ _ [⟨3, [6]⟩] _ (hv43.keep ((Below.refl _ _).alloc (Nat.le_refl _) _).block) (seqP_new2 _ _ 3 [6] (by decide) k2)).mono ?_; rintro e u1 ⟨rfl, k1⟩; have e1 := chain (a := w2) (by assumption) k1)
        | ((with_reducible show Calls _ _ #[v43, _] _ _); refine (same_t _ _ [⟨3, [6]⟩] _ hv43 ((seqP_new _ 3 [6] (by decide)).keep k2.block)).mono ?_; rintro e u1 ⟨rfl, k1⟩; have e1 := chain (a := w2) (by assumption) k1))
    | (go_at_call 11; refine (Or_c _ _ exA exB _ (SA'.out.keep (Below.block (by assumption))) (SB'.out.keep (Below.block (by assumption))) (okSz ok_A) (okSz ok_B)).mono ?_; rintro e u3 ⟨v52, rfl, hv52, k3⟩; have e1 := chain (a := w2) (by assumption) k3)
    | (go_at_call 15; refine (docs_or _ _ hv52).mono ?_; rintro e u1 ⟨⟨A5, c5, rfl⟩, k1⟩; have e1 := chain (a := w2) (by assumption) k1)
    | (go_at_call 12; refine (Less_c _ _ exA exB _ (SA'.out.keep (Below.block (by assumption))) (SB'.out.keep (Below.block (by assumption))) (okSz ok_A) (okSz ok_B)).mono ?_; rintro e u4 ⟨v60, rfl, hv60, k4⟩; rw [ex_less] at hv60; have e1 := chain (a := w2) (by assumption) k4)
    | (go_at_call 13; (with_reducible show Calls _ _ #[v60, _] _ _); refine (same_t _ _ [⟨9, [0]⟩] _ hv60 (SA2'.out.keep (Below.block (by assumption)))).mono ?_; rintro e u1 ⟨rfl, k1⟩; have e1 := chain (a := w2) (by assumption) k1)
    | (go_at_call 10; refine (And_c _ _ exA exB _ (SA'.out.keep (Below.block (by assumption))) (SB'.out.keep (Below.block (by assumption))) (okSz ok_A) (okSz ok_B)).mono ?_; rintro e u2 ⟨v68, rfl, hv68, k2⟩; rw [ex_and] at hv68; have e1 := chain (a := w2) (by assumption) k2)
    | (go_at_call 13; first
        | ((with_reducible show Calls _ _ #[v68, _] (World.alloc (World.alloc _ _) _) _); refine (same_t _ _ [⟨3, [5, 6, 7, 9]⟩] _ (hv68.keep (((Below.refl _ _).alloc (Nat.le_refl _) _).alloc (by simp) _).block) (seqP_new _ 3 [5, 6, 7, 9] (by decide))).mono ?_; rintro e u1 ⟨rfl, k1⟩; have e1 := chain (a := w2) (by assumption) k1)
        | ((with_reducible show Calls _ _ #[v68, _] (World.alloc _ _) _); refine (same_t _ _ [⟨3, [5, 6, 7, 9]⟩] _ (hv68.keep ((Below.refl _ _).alloc (Nat.le_refl _) _).block) (seqP_new2 _ _ 3 [5, 6, 7, 9] (by decide) k2)).mono ?_; rintro e u1 ⟨rfl, k1⟩; have e1 := chain (a := w2) (by assumption) k1)
        | ((with_reducible show Calls _ _ #[v68, _] _ _); refine (same_t _ _ [⟨3, [5, 6, 7, 9]⟩] _ hv68 ((seqP_new _ 3 [5, 6, 7, 9] (by decide)).keep k2.block)).mono ?_; rintro e u1 ⟨rfl, k1⟩; have e1 := chain (a := w2) (by assumption) k1))))
  all_goals (go_wp2_with fail; go_ret; exact ⟨rfl, HB.out.trans (Below.mono (by assumption) HB.out.size)⟩)
end Go.Proofs.Ytijbkflbklbemaa
