/- The walk of CodeAgain: the switch. -/
import Derived.Test.YtipehfidphgbbaaAgainW
namespace Go.Proofs.Ytipehfidphgbbaa
open Go.RowKit

theorem grown_new {a w : World} {r : Option Nat} (h : a.grownBy w r) {p : Addr} (hp : a.heap.size ≤ p.block) (u : Value) : a.grownBy (w.setCell p u) r :=
  ⟨h.os, h.tape, h.output, by simpa [World.setCell] using h.size, fun k hk hne => (Below.heap_setCell w _ u k (by omega)).trans (h.block k hk hne)⟩
/-- the value before the switch -/
abbrev p0 (k : Int) : P3 := (⟨k, 0, [], [], []⟩, .slice none 0 0, .slice none 0 0)
structure Mid4 (wr w4 : World) (B T : Nat) (st : Vi.St) (k : Int) : Prop where
  rd : Rd 61 w4 B st
  blk : w4.heap[T]? = some (.cells (vc (p0 k)).toArray 47 (0, 0))
  grown : wr.grownBy w4 (some B)
/-- the store of what was read -/
theorem Mid4.put {wr w4 w5 : World} {w0 : World} {B C T : Nat} {st st' : Vi.St} {k : Int} (h : Mid4 wr w4 B T st k) (hT : T = wr.heap.size) (hBT : B < T) (hC : C ≤ T) (g : w4.grownBy w5 (some B)) (u : Rd 61 w5 B st')
    (p : P3) (i : Nat) (x : Value) (hv : (vc (p0 k)).toArray.setIfInBounds i x = (vc p).toArray) (ok : VOk p.1)
    (o3 : w5.ownsRow w4.heap.size 9 1 p.2.1 p.1.texts.length (p.1.texts.map sv)) (o4 : w5.ownsRow w4.heap.size 3 1 p.2.2 p.1.nums.length (p.1.nums.map iv))
    (fit : Vi.Fit st') (len : st'.1.length ≤ 10000) (eq : st'.2 = false → encV p.1 ++ st'.1 = st.1 ∧ st.2 = false) : Sw w0 C B wr T st st' p (w5.setCell ⟨T, i, none⟩ x) := by
  have hlt : T < w4.heap.size := blk_lt h.blk
  have b5 : w5.heap[T]? = some (.cells (vc (p0 k)).toArray 47 (0, 0)) := (g.block T hlt (by simp; omega)).trans h.blk
  have gs : w5.grownBy (w5.setCell ⟨T, i, none⟩ x) (some T) := grown_set (grown_refl w5 _) i x
  refine ⟨u.grown gs (by simp; omega), ?_, ⟨ok, own_base (o3.kept gs (own_ne o3 hlt)) (by omega), own_base (o4.kept gs (own_ne o4 hlt)) (by omega)⟩, grown_new (grown_trans h.grown g) (by simp; omega) x, fit, len, eq⟩
  rw [heap_setCell_same _ _ _ _ _ _ b5, hv]
theorem Mid4.cells {wr w4 w5 : World} {B T : Nat} {st : Vi.St} {k : Int} (h : Mid4 wr w4 B T st k) (hBT : B < T) (g : w4.grownBy w5 (some B)) (i : Nat) (u : Value) (hu : (vc (p0 k))[i]? = some u) : w5.frozen? ⟨T, i, none⟩ = false ∧ w5.cell? ⟨T, i, none⟩ = some u := by
  have b5 : w5.heap[T]? = some (.cells (vc (p0 k)).toArray 47 (0, 0)) := (g.block T (blk_lt h.blk) (by simp; omega)).trans h.blk
  refine ⟨Lib.frozen_of_heap b5 i, ?_⟩
  rw [Lib.cell_of_heap b5]
  simpa using hu
theorem Sw.cell {w0 w w' : World} {C B T : Nat} {st st' : Vi.St} {p : P3} (h : Sw w0 C B w T st st' p w') (i : Nat) (u : Value) (hu : (vc p)[i]? = some u) : w'.cell? ⟨T, i, none⟩ = some u := by
  rw [Lib.cell_of_heap h.blk]
  simpa using hu
theorem cells_new (w : World) (xs : List Value) (t : TypeId) : ∀ j u, xs[j]? = some u → (w.alloc (.cells xs.toArray t)).cell? ((⟨w.heap.size, 0, none⟩ : Addr).add j) = some u := by
  intro j u hu
  rw [Addr.add_lit, World.cell?_alloc_mark, Nat.zero_add]
  simpa using hu
theorem PV.alloc {w : World} {C : Nat} {p : P3} (h : PV w C p) (o : Obj) : PV (w.alloc o) C p := ⟨h.ok, h.o3.alloc o, h.o4.alloc o⟩
theorem Ag.next {w0 wr wc w6 : World} {C B : Nat} {S : List UInt8} {st st' : Vi.St} {v v' : Value} {vs : List P3} {T : Nat} {p : P3} (h : Ag w0 C B S wr st v vs) (h0 : w0.heap.size ≤ B) (hBC : B < C) (s : Sw w0 C B wr T st st' p wc) (o : Obj)
    (own : w6.ownsRow C 47 5 v' (vs.length + 1) (vs.flatMap vc ++ vc p)) (g : (wc.alloc o).grownBy w6 v.ownBlock) : Ag w0 C B S w6 st' v' (vs ++ [p]) := by
  have ov := (h.own.kept s.grown (own_ne h.own hBC)).alloc o
  have hle : ∀ b, v.ownBlock = some b → C ≤ b := fun b e => (h.own.lt b e).1
  have hz := g.size
  have hz2 := s.grown.size
  have hz3 := h.size
  have hz4 : (wc.alloc o).heap.size = wc.heap.size + 1 := by simp
  refine ⟨(s.rd.of_block (Below.heap_alloc wc o B s.rd.lt)).grown g (fun e => by have := hle B e.symm; omega), ?_, ?_, ?_, by omega, s.fit, s.len, ?_⟩
  · simpa using own
  · intro q hq
    have hq' : PV (wc.alloc o) C q := by
      rcases List.mem_append.1 hq with hq | hq
      · exact ((h.each q hq).other s.grown hBC).alloc o
      · rw [List.mem_singleton.1 hq]
        exact s.pv.alloc o
    exact hq'.kept g (own_types hq'.o3 ov (by decide)) (own_types hq'.o4 ov (by decide))
  · have hb := below_of_grown h.below s.grown (Nat.le_trans h.below.size (Nat.le_refl _)) h0
    exact ((hb.alloc hb.size o).grown g (by have := hb.size; omega) (fun b e => by have := hle b e; omega))
  · intro e
    obtain ⟨e1, e2⟩ := s.eq e
    have e3 := h.eq e2
    rw [← e3, ← e1]
    simp
theorem nv_iv (l : List Nat) : l.map nv = (l.map (fun n : Nat => (n : Int))).map iv := by rw [List.map_map]; rfl

theorem sw_num {st : Vi.St} {k : Int} (hk : k % 4 = 0) (e : (Vi.rNum st).2.2 = false) : encV ⟨k, ((Vi.rNum st).1 : Nat), [], [], []⟩ ++ (Vi.rNum st).2.1 = st.1 ∧ st.2 = false := by
  unfold encV
  rw [if_pos hk]
  exact Vi.rNum_back e
theorem sw_text {st : Vi.St} {k : Int} (hk : k % 4 = 1) (e : (Vi.rText st).2.2 = false) : encV ⟨k, 0, (Vi.rText st).1, [], []⟩ ++ (Vi.rText st).2.1 = st.1 ∧ st.2 = false := by
  unfold encV
  rw [if_neg (by simp only; omega), if_pos hk]
  exact Vi.rText_back e
theorem sw_texts {st : Vi.St} {k : Int} (hk : k % 4 = 2) (e : (Vi.rMany Vi.rText st).2.2 = false) : encV ⟨k, 0, [], (Vi.rMany Vi.rText st).1, []⟩ ++ (Vi.rMany Vi.rText st).2.1 = st.1 ∧ st.2 = false := by
  unfold encV
  rw [if_neg (by simp only; omega), if_neg (by simp only; omega), if_pos hk]
  exact Vi.rMany_back (fun _ => Vi.rText_back) e
theorem sw_nums {st : Vi.St} {k : Int} (hk : k % 4 = 3) (e : (Vi.rMany Vi.rNum st).2.2 = false) : encV ⟨k, 0, [], [], (Vi.rMany Vi.rNum st).1.map (fun n : Nat => (n : Int))⟩ ++ (Vi.rMany Vi.rNum st).2.1 = st.1 ∧ st.2 = false := by
  unfold encV
  rw [if_neg (by simp only; omega), if_neg (by simp only; omega), if_neg (by simp only; omega)]
  have h := Vi.rMany_back (g := fun n : Nat => Vi.eNum (n : Int)) (fun _ => Vi.rNum_back) e
  unfold Vi.eMany at h ⊢
  rw [List.flatMap_map, List.length_map]
  exact h
theorem mem_flat {α : Type} {g : α → List UInt8} : ∀ {l : List α} {y : α}, y ∈ l → (g y).length ≤ (l.flatMap g).length
  | x :: l, y, h => by
    rcases List.mem_cons.1 h with rfl | h
    · simp
    · have := mem_flat (g := g) h
      simp only [List.flatMap_cons, List.length_append]; omega
theorem rMany_shut {α : Type} {f : Vi.St → α × Vi.St} {st : Vi.St} (h : (Vi.rMany f st).2.2 = true) : (Vi.rMany f st).1 = [] := by
  unfold Vi.rMany at h ⊢
  split
  · rfl
  · rename_i hn
    rw [if_neg hn] at h
    unfold Vi.shut at h ⊢
    split
    · rfl
    · rename_i h2
      rw [if_neg h2] at h
      exact absurd h h2
theorem rMany_all {α : Type} {f : Vi.St → α × Vi.St} {P : α → Prop} (hf : ∀ st, P (f st).1) (st : Vi.St) : ∀ x ∈ (Vi.rMany f st).1, P x := by
  unfold Vi.rMany
  split
  · intro x hx; simp at hx
  · unfold Vi.shut
    split
    · intro x hx; simp at hx
    · exact Vi.many_all hf _ _
theorem texts_le {st : Vi.St} : ∀ y ∈ (Vi.rMany Vi.rText st).1, y.length ≤ st.1.length := by
  intro y hy
  cases h : (Vi.rMany Vi.rText st).2.2 with
  | true => rw [rMany_shut h] at hy; simp at hy
  | false =>
    have e := (Vi.rMany_back (f := Vi.rText) (g := Vi.eText) (fun _ => Vi.rText_back) h).1
    have h1 := mem_flat (g := Vi.eText) hy
    have h2 := congrArg List.length e
    have h3 : y.length ≤ (Vi.eText y).length := by unfold Vi.eText; simp
    unfold Vi.eMany at h2
    simp only [List.length_append] at h2
    omega
theorem ok_num {k n : Int} (hk : I64 k) (hn : I64 n) : VOk ⟨k, n, [], [], []⟩ := ⟨hk, hn, by simp, by simp, by simp⟩
theorem ok_text {k : Int} {t : List UInt8} (hk : I64 k) (h : t.length ≤ 10000) : VOk ⟨k, 0, t, [], []⟩ := ⟨hk, show I64 0 from by unfold I64; omega, by simp only; omega, by simp, by simp⟩
theorem ok_texts {k : Int} {t : List (List UInt8)} (hk : I64 k) (h : ∀ y ∈ t, y.length ≤ 10000) : VOk ⟨k, 0, [], t, []⟩ := ⟨hk, show I64 0 from by unfold I64; omega, by simp, fun y hy => by have := h y hy; omega, by simp⟩
theorem ok_nums {k : Int} {t : List Int} (hk : I64 k) (h : ∀ y ∈ t, I64 y) : VOk ⟨k, 0, [], [], t⟩ := ⟨hk, show I64 0 from by unfold I64; omega, by simp, by simp, h⟩
theorem num_i64 (st : Vi.St) : I64 ((Vi.rNum st).1 : Nat) := by
  have := Vi.rNum_lt st
  unfold I64; omega
theorem nums_i64 (st : Vi.St) : ∀ y ∈ (Vi.rMany Vi.rNum st).1.map (fun n : Nat => (n : Int)), I64 y := by
  intro y hy
  obtain ⟨n, hn, rfl⟩ := List.mem_map.1 hy
  exact rMany_all (P := fun n : Nat => I64 (n : Int)) num_i64 st n hn
theorem own_one {w : World} {b n s : Nat} {e : TypeId} {v : Value} {xs : List Value} (h : w.ownsRow b e s v n xs) : v.oneCell' = true := by
  rcases h.2 with ⟨rfl, _⟩ | ⟨g, cap, cur, rfl, _⟩ <;> rfl
theorem own_slice {w : World} {b n s : Nat} {e : TypeId} {v : Value} {xs : List Value} (h : w.ownsRow b e s v n xs) : ∃ A k c, v = .slice A k c := by
  rcases h.2 with ⟨rfl, _⟩ | ⟨g, cap, cur, rfl, _⟩
  · exact ⟨_, _, _, rfl⟩
  · exact ⟨_, _, _, rfl⟩
theorem vc_one {w : World} {C : Nat} {p : P3} (h : PV w C p) : ∀ u ∈ vc p, u.oneCell' = true := by
  intro u hu
  simp only [vc, List.mem_cons, List.not_mem_nil, or_false] at hu
  rcases hu with rfl | rfl | rfl | rfl | rfl
  · rfl
  · rfl
  · rfl
  · exact own_one h.o3
  · exact own_one h.o4
theorem len_of {a b : List UInt8} {n : Nat} (h : a.length ≤ b.length) (hb : b.length ≤ n) : a.length ≤ n := Nat.le_trans h hb
end Go.Proofs.Ytipehfidphgbbaa
