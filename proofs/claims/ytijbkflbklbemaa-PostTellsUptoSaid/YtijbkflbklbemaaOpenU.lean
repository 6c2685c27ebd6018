/- Postings as arguments, of small bulk. -/
import Derived.Test.YtijbkflbklbemaaRows
import Derived.Test.YtijbkflbklbemaaOpenP
import Derived.Test.YtijbkflbklbemaaRef
namespace Go.Proofs.Ytijbkflbklbemaa
open Go.RowKit Go.WideShapes

theorem bulk_one {H : Type} (d : DataW H) : 1 ≤ Rows.uptoBulk d := by
  cases d with
  | lit l => cases l <;> simp [Rows.uptoBulk]
  | nil => simp [Rows.uptoBulk]
  | ptr d => simp [Rows.uptoBulk]
  | slice elems spare => simp [Rows.uptoBulk]
  | agg parts => simp [Rows.uptoBulk]
  | iface t d => simp [Rows.uptoBulk]
  | map entries => simp [Rows.uptoBulk]
  | held h => simp [Rows.uptoBulk]
theorem bulk_part {H : Type} {d : DataW H} : ∀ {l : List (DataW H)}, d ∈ l → Rows.uptoBulk d ≤ Rows.uptoBulkAll l
  | x :: r, h => by
    simp only [Rows.uptoBulkAll]
    rcases List.mem_cons.1 h with e | e
    · subst e; omega
    · have := bulk_part e; omega
theorem bulk_length {H : Type} : ∀ l : List (DataW H), l.length ≤ Rows.uptoBulkAll l
  | [] => by simp [Rows.uptoBulkAll]
  | x :: r => by have := bulk_one x; have := bulk_length r; simp only [Rows.uptoBulkAll, List.length_cons]; omega
theorem bulk_elem {H : Type} {N : Nat} {elems rest : List (DataW H)} (h : Rows.uptoBulk (.slice elems rest) ≤ N) {d : DataW H} (hd : d ∈ elems) : Rows.uptoBulk d ≤ N := by
  have := bulk_part hd
  simp only [Rows.uptoBulk] at h
  omega
theorem bulk_elems {H : Type} {N : Nat} {elems rest : List (DataW H)} (h : Rows.uptoBulk (.slice elems rest) ≤ N) : elems.length ≤ N := by
  have := bulk_length elems
  simp only [Rows.uptoBulk] at h
  omega
theorem bulk_field {H : Type} {N : Nat} {parts : List (DataW H)} (h : Rows.uptoBulk (.agg parts) ≤ N) {d : DataW H} (hd : d ∈ parts) : Rows.uptoBulk d ≤ N := by
  have := bulk_part hd
  simp only [Rows.uptoBulk] at h
  omega

section
variable {H : Type} {enc : TypeId × Value → H} {P : Program} {w : World} {base : Nat} {spare : Nat → Bool} {held : Bool}
theorem rdb_slice {α : Type} {N : Nat} {t e : TypeId} {fuel : Nat} {cs : List Value} {x : DataW H × List MemPlace} (ht : P.underlying t = some (.slice e)) (hpos : 0 < P.cellsOf e)
    (h : DataW.trod enc P w base spare held fuel t cs = some x) (hs : Small P t x.1) (hN : Rows.uptoBulk x.1 ≤ N) (R : List Value → α → Prop)
    (hel : ∀ n cs' y, DataW.trod enc P w base spare held n e cs' = some y → Small P e y.1 → Rows.uptoBulk y.1 ≤ N → ∃ a, R cs' a) :
    ∃ (A : Option Addr) (cap : Nat) (xs : List α), cs = [.slice A xs.length cap] ∧ xs.length ≤ cap ∧ cap ≤ maxLen ∧ xs.length ≤ N ∧
      (xs = [] ∨ ∃ b off, A = some ⟨b, off, none⟩ ∧ ∀ i a, xs[i]? = some a → ∃ cs', R cs' a ∧ cs'.length = P.cellsOf e ∧ ∀ j, j < P.cellsOf e → w.cell? ⟨b, off + i * P.cellsOf e + j, none⟩ = cs'[j]?) := by
  rcases Go.Deep.open_slice ht h with ⟨rfl, _⟩ | ⟨a, len, cap, m, n, D, Pl, rfl, hb, hl, hm, hmm, hx, hi⟩
  · exact ⟨none, 0, [], rfl, by simp, by decide, by simp, .inl rfl⟩
  · have hlm : len ≤ m := by rw [hmm]; split <;> omega
    have hs' : Small P t (.slice ((List.range len).map D) ((List.range (m - len)).map fun j => D (len + j))) := by rw [hx] at hs; exact hs
    have hN' : Rows.uptoBulk (.slice ((List.range len).map D) ((List.range (m - len)).map fun j => D (len + j))) ≤ N := by rw [hx] at hN; exact hN
    have key : ∀ i, i < len → ∃ y : α, ∃ cs', R cs' y ∧ w.cells? base (a.add (i * P.cellsOf e)) (P.cellsOf e) = some cs' := by
      intro i hi'
      obtain ⟨cs', hc, htr⟩ := hi i (by omega)
      have hmem : D i ∈ (List.range len).map D := List.mem_map.2 ⟨i, by simp [hi'], rfl⟩
      obtain ⟨y, hy⟩ := hel n cs' _ htr (small_elem ht hs' hmem) (bulk_elem hN' hmem)
      exact ⟨y, cs', hy, hc⟩
    obtain ⟨xs, hxl, hxs⟩ := list_of _ len key
    refine ⟨some a, cap, xs, by rw [hxl], by omega, hm, by have := bulk_elems hN'; simpa [hxl] using this, ?_⟩
    rcases Nat.eq_zero_or_pos len with h0 | h0
    · exact .inl (List.eq_nil_of_length_eq_zero (by omega))
    · right
      have hspot : a.spot = none := by
        obtain ⟨_, cs', _, hc⟩ := key 0 h0
        obtain ⟨_, hcl, hat⟩ := World.cells?_some hc
        have h1 := hat 0 hpos
        rw [List.getElem?_eq_getElem (by omega)] at h1
        have h2 := World.cell?_spot h1
        simpa [Addr.add] using h2
      obtain ⟨b, off, spot⟩ := a
      simp only at hspot
      subst hspot
      refine ⟨b, off, rfl, fun i y hy => ?_⟩
      obtain ⟨cs', hR, hc⟩ := hxs i y hy
      obtain ⟨_, hcl, hat⟩ := World.cells?_some hc
      refine ⟨cs', hR, hcl, fun j hj => ?_⟩
      rw [← hat j hj, Addr.add_lit, Addr.add_lit]
end
section
variable {H : Type} {enc : TypeId × Value → H} {w : World} {base : Nat} {spare : Nat → Bool} {held : Bool}
theorem rdb_str {N n : Nat} {cs : List Value} {x : DataW H × List MemPlace} (h : DataW.trod enc Try.prog w base spare held n 9 cs = some x) (hN : Rows.uptoBulk x.1 ≤ N) : ∃ l : List UInt8, cs = [.string (bs l)] ∧ l.length ≤ N := by
  obtain ⟨s, rfl, rfl, _⟩ := DataW.trod_string Try.underlying9 h
  refine ⟨s.data.toList, by rw [← bs_of (rfl : s.data.toList = s.data.toList)], ?_⟩
  simp only [Rows.uptoBulk] at hN
  omega
theorem rdb_ints {N n : Nat} {cs : List Value} {x : DataW H × List MemPlace} (h : DataW.trod enc Try.prog w base spare held n 28 cs = some x) (hs : Small Try.prog 28 x.1) (hN : Rows.uptoBulk x.1 ≤ N) :
    ∃ (v : Value) (xs : List Int), cs = [v] ∧ Seq w v (xs.map iv) ∧ (∀ y ∈ xs, -9223372036854775808 ≤ y ∧ y ≤ 9223372036854775807) ∧ xs.length ≤ N := by
  have hc1 : Try.prog.cellsOf 3 = 1 := by kernel_rfl
  obtain ⟨A, cap, xs, rfl, hc, hm, hr, hcell⟩ := rdb_slice (α := Int) Try.underlying28 (by rw [hc1]; decide) h hs hN (fun cs z => cs = [.int .i64 z] ∧ (-9223372036854775808 ≤ z ∧ z ≤ 9223372036854775807)) (fun n cs' y hy _ _ => rd_int hy)
  rw [hc1] at hcell
  refine ⟨_, xs, rfl, seq_of (fun cs a hr => hr.1) hc hm hcell, fun y hy => ?_, hr⟩
  rcases hcell with rfl | ⟨b, off, _, hcell⟩
  · cases hy
  · obtain ⟨i, hi⟩ := List.getElem?_of_mem hy
    obtain ⟨cs', hr', _⟩ := hcell i y hi
    exact hr'.2
theorem rdb_P {n : Nat} {cs : List Value} {x : DataW H × List MemPlace} (h : DataW.trod enc Try.prog w base spare held n 40 cs = some x) (hs : Small Try.prog 40 x.1) (hN : Rows.uptoBulk x.1 ≤ 1048576) : ∃ a : Po.P, PCells w cs a ∧ a.places.length ≤ 1048576 := by
  have k3 : Try.prog.cellsOf 3 = 1 := by kernel_rfl
  have k23 : Try.prog.cellsOf 28 = 1 := by kernel_rfl
  have k47 : Try.prog.cellsOf 40 = 2 := by kernel_rfl
  obtain ⟨ys, m, _, rfl, hl, hyl, hf⟩ := DataW.trod_struct Try.underlying40 h
  obtain ⟨c0, c1, rfl⟩ := list2 (hl.trans k47)
  obtain ⟨y0, y1, rfl⟩ := list2 hyl
  have f0 : DataW.trod enc Try.prog w base spare held m 3 [c0] = some y0 := by have := hf 0 _ rfl; simpa [k3] using this
  have f1 : DataW.trod enc Try.prog w base spare held m 28 [c1] = some y1 := by have := hf 1 _ rfl; simpa [k23] using this
  have s1 : Small Try.prog 28 y1.1 := small_field Try.underlying40 hs (j := 1) rfl rfl
  obtain ⟨z0, h0, b0⟩ := rd_int f0
  obtain ⟨v1, x1, h1, q1, b1, l1⟩ := rdb_ints f1 s1 (bulk_field hN (by simp))
  simp at h0 h1
  subst h0 h1
  obtain ⟨A, c, rfl, hc2, hm2, _⟩ := id q1
  exact ⟨⟨z0, x1⟩, ⟨⟨b0, b1, Nat.le_trans l1 (by decide)⟩, A, _, c, rfl, q1⟩, l1⟩
theorem cnt_le {l : List Po.P} {N : Nat} (h : ∀ p ∈ l, p.places.length ≤ N) : cnt l ≤ l.length * (1 + N) := by
  induction l with
  | nil => simp [cnt]
  | cons a l ih =>
    have h1 := h a (by simp)
    have h2 := ih fun p hp => h p (by simp [hp])
    have hc : cnt (a :: l) = (1 + a.places.length) + cnt l := by simp [cnt]
    rw [hc, List.length_cons, Nat.succ_mul]
    omega
theorem rdb_Ps {n : Nat} {cs : List Value} {x : DataW H × List MemPlace} (h : DataW.trod enc Try.prog w base spare held n 22 cs = some x) (hs : Small Try.prog 22 x.1) (hN : Rows.uptoBulk x.1 ≤ 1048576) :
    ∃ (v : Value) (xs : List Po.P), cs = [v] ∧ SeqP w v xs ∧ xs.length ≤ 1048576 ∧ cnt xs ≤ 4611686018427387904 ∧ ∀ y ∈ xs, POk y := by
  have k47 : Try.prog.cellsOf 40 = 2 := by kernel_rfl
  obtain ⟨A, cap, xs, rfl, hc, hm, hr, hcell⟩ := rdb_slice (α := Po.P) Try.underlying22 (by rw [k47]; decide) h hs hN (fun cs p => PCells w cs p ∧ p.places.length ≤ 1048576) (fun n cs' y hy hsm hb => rdb_P hy hsm hb)
  rw [k47] at hcell
  have hall : ∀ y ∈ xs, POk y ∧ y.places.length ≤ 1048576 := by
    intro y hy
    rcases hcell with rfl | ⟨b, off, _, hcell⟩
    · cases hy
    · obtain ⟨i, hi⟩ := List.getElem?_of_mem hy
      obtain ⟨cs', ⟨⟨hok, _⟩, hlen⟩, _⟩ := hcell i y hi
      exact ⟨hok, hlen⟩
  refine ⟨_, xs, rfl, ⟨A, cap, rfl, hc, hm, ?_⟩, hr, ?_, fun y hy => (hall y hy).1⟩
  · rcases hcell with h0 | ⟨b, off, hA, hcell⟩
    · exact .inl h0
    · refine .inr ⟨b, off, hA, fun i y hy => ?_⟩
      obtain ⟨cs', ⟨⟨_, A', k, c, rfl, q3⟩, _⟩, _, hat⟩ := hcell i y hy
      exact ⟨hat 0 (by omega), A', k, c, hat 1 (by omega), q3⟩
  · have h1 := cnt_le (fun p hp => (hall p hp).2)
    have h2 : xs.length * (1 + 1048576) ≤ 1048576 * (1 + 1048576) := Nat.mul_le_mul_right _ hr
    omega
end
end Go.Proofs.Ytijbkflbklbemaa
