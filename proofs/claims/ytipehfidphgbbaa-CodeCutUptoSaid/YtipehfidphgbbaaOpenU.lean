/- A Value struct as an argument, of small bulk. -/
import Derived.Test.YtipehfidphgbbaaRows
import Derived.Test.YtipehfidphgbbaaOpenV
import Derived.Test.YtipehfidphgbbaaLawA
import Derived.Test.YtipehfidphgbbaaVi
namespace Go.Proofs.Ytipehfidphgbbaa
open Go.RowKit Go.WideShapes

theorem bulk_one {H : Type} (d : DataW H) : 1 ≤ Rows.uptoBulk d := by
  cases d with
  | lit l => cases l <;> simp [Rows.uptoBulk]
  | nil => simp [Rows.uptoBulk]
  | ptr d => simp [Rows.uptoBulk]
  | slice elems spare => simp [Rows.uptoBulk]
  | agg parts => simp [Rows.uptoBulk]
  | iface t d => simp [Rows.uptoBulk]
  | map entries => simp [Rows.uptoBulk]
  | held h => simp [Rows.uptoBulk]
theorem bulk_part {H : Type} {d : DataW H} : ∀ {l : List (DataW H)}, d ∈ l → Rows.uptoBulk d ≤ Rows.uptoBulkAll l
  | x :: r, h => by
    simp only [Rows.uptoBulkAll]
    rcases List.mem_cons.1 h with e | e
    · subst e; omega
    · have := bulk_part e; omega
theorem bulk_length {H : Type} : ∀ l : List (DataW H), l.length ≤ Rows.uptoBulkAll l
  | [] => by simp [Rows.uptoBulkAll]
  | x :: r => by have := bulk_one x; have := bulk_length r; simp only [Rows.uptoBulkAll, List.length_cons]; omega
theorem bulk_elem {H : Type} {N : Nat} {elems rest : List (DataW H)} (h : Rows.uptoBulk (.slice elems rest) ≤ N) {d : DataW H} (hd : d ∈ elems) : Rows.uptoBulk d ≤ N := by
  have := bulk_part hd
  simp only [Rows.uptoBulk] at h
  omega
theorem bulk_elems {H : Type} {N : Nat} {elems rest : List (DataW H)} (h : Rows.uptoBulk (.slice elems rest) ≤ N) : elems.length ≤ N := by
  have := bulk_length elems
  simp only [Rows.uptoBulk] at h
  omega
theorem bulk_field {H : Type} {N : Nat} {parts : List (DataW H)} (h : Rows.uptoBulk (.agg parts) ≤ N) {d : DataW H} (hd : d ∈ parts) : Rows.uptoBulk d ≤ N := by
  have := bulk_part hd
  simp only [Rows.uptoBulk] at h
  omega

section
variable {H : Type} {enc : TypeId × Value → H} {P : Program} {w : World} {base : Nat} {spare : Nat → Bool} {held : Bool}
theorem rdb_slice {α : Type} {N : Nat} {t e : TypeId} {fuel : Nat} {cs : List Value} {x : DataW H × List MemPlace} (ht : P.underlying t = some (.slice e)) (hpos : 0 < P.cellsOf e)
    (h : DataW.trod enc P w base spare held fuel t cs = some x) (hs : Small P t x.1) (hN : Rows.uptoBulk x.1 ≤ N) (R : List Value → α → Prop)
    (hel : ∀ n cs' y, DataW.trod enc P w base spare held n e cs' = some y → Small P e y.1 → Rows.uptoBulk y.1 ≤ N → ∃ a, R cs' a) :
    ∃ (A : Option Addr) (cap : Nat) (xs : List α), cs = [.slice A xs.length cap] ∧ xs.length ≤ cap ∧ cap ≤ maxLen ∧ xs.length ≤ N ∧
      (xs = [] ∨ ∃ b off, A = some ⟨b, off, none⟩ ∧ ∀ i a, xs[i]? = some a → ∃ cs', R cs' a ∧ cs'.length = P.cellsOf e ∧ ∀ j, j < P.cellsOf e → w.cell? ⟨b, off + i * P.cellsOf e + j, none⟩ = cs'[j]?) := by
  rcases Go.Deep.open_slice ht h with ⟨rfl, _⟩ | ⟨a, len, cap, m, n, D, Pl, rfl, hb, hl, hm, hmm, hx, hi⟩
  · exact ⟨none, 0, [], rfl, by simp, by decide, by simp, .inl rfl⟩
  · have hlm : len ≤ m := by rw [hmm]; split <;> omega
    have hs' : Small P t (.slice ((List.range len).map D) ((List.range (m - len)).map fun j => D (len + j))) := by rw [hx] at hs; exact hs
    have hN' : Rows.uptoBulk (.slice ((List.range len).map D) ((List.range (m - len)).map fun j => D (len + j))) ≤ N := by rw [hx] at hN; exact hN
    have key : ∀ i, i < len → ∃ y : α, ∃ cs', R cs' y ∧ w.cells? base (a.add (i * P.cellsOf e)) (P.cellsOf e) = some cs' := by
      intro i hi'
      obtain ⟨cs', hc, htr⟩ := hi i (by omega)
      have hmem : D i ∈ (List.range len).map D := List.mem_map.2 ⟨i, by simp [hi'], rfl⟩
      obtain ⟨y, hy⟩ := hel n cs' _ htr (small_elem ht hs' hmem) (bulk_elem hN' hmem)
      exact ⟨y, cs', hy, hc⟩
    obtain ⟨xs, hxl, hxs⟩ := list_of _ len key
    refine ⟨some a, cap, xs, by rw [hxl], by omega, hm, by have := bulk_elems hN'; simpa [hxl] using this, ?_⟩
    rcases Nat.eq_zero_or_pos len with h0 | h0
    · exact .inl (List.eq_nil_of_length_eq_zero (by omega))
    · right
      have hspot : a.spot = none := by
        obtain ⟨_, cs', _, hc⟩ := key 0 h0
        obtain ⟨_, hcl, hat⟩ := World.cells?_some hc
        have h1 := hat 0 hpos
        rw [List.getElem?_eq_getElem (by omega)] at h1
        have h2 := World.cell?_spot h1
        simpa [Addr.add] using h2
      obtain ⟨b, off, spot⟩ := a
      simp only at hspot
      subst hspot
      refine ⟨b, off, rfl, fun i y hy => ?_⟩
      obtain ⟨cs', hR, hc⟩ := hxs i y hy
      obtain ⟨_, hcl, hat⟩ := World.cells?_some hc
      refine ⟨cs', hR, hcl, fun j hj => ?_⟩
      rw [← hat j hj, Addr.add_lit, Addr.add_lit]
end
section
variable {H : Type} {enc : TypeId × Value → H} {w : World} {base : Nat} {spare : Nat → Bool} {held : Bool}
theorem rdb_str {N n : Nat} {cs : List Value} {x : DataW H × List MemPlace} (h : DataW.trod enc Try.prog w base spare held n 9 cs = some x) (hN : Rows.uptoBulk x.1 ≤ N) : ∃ l : List UInt8, cs = [.string (bs l)] ∧ l.length ≤ N := by
  obtain ⟨s, rfl, rfl, _⟩ := DataW.trod_string Try.underlying9 h
  refine ⟨s.data.toList, by rw [← bs_of (rfl : s.data.toList = s.data.toList)], ?_⟩
  simp only [Rows.uptoBulk] at hN
  omega
theorem rdb_ints {N n : Nat} {cs : List Value} {x : DataW H × List MemPlace} (h : DataW.trod enc Try.prog w base spare held n 23 cs = some x) (hs : Small Try.prog 23 x.1) (hN : Rows.uptoBulk x.1 ≤ N) :
    ∃ (v : Value) (xs : List Int), cs = [v] ∧ Seq w v (xs.map iv) ∧ (∀ y ∈ xs, -9223372036854775808 ≤ y ∧ y ≤ 9223372036854775807) ∧ xs.length ≤ N := by
  have hc1 : Try.prog.cellsOf 3 = 1 := by kernel_rfl
  obtain ⟨A, cap, xs, rfl, hc, hm, hr, hcell⟩ := rdb_slice (α := Int) Try.underlying23 (by rw [hc1]; decide) h hs hN (fun cs z => cs = [.int .i64 z] ∧ (-9223372036854775808 ≤ z ∧ z ≤ 9223372036854775807)) (fun n cs' y hy _ _ => rd_int hy)
  rw [hc1] at hcell
  refine ⟨_, xs, rfl, seq_of (fun cs a hr => hr.1) hc hm hcell, fun y hy => ?_, hr⟩
  rcases hcell with rfl | ⟨b, off, _, hcell⟩
  · cases hy
  · obtain ⟨i, hi⟩ := List.getElem?_of_mem hy
    obtain ⟨cs', hr', _⟩ := hcell i y hi
    exact hr'.2
theorem rdb_strs {N n : Nat} {cs : List Value} {x : DataW H × List MemPlace} (h : DataW.trod enc Try.prog w base spare held n 22 cs = some x) (hs : Small Try.prog 22 x.1) (hN : Rows.uptoBulk x.1 ≤ N) :
    ∃ (v : Value) (xs : List (List UInt8)), cs = [v] ∧ Seq w v (xs.map sv) ∧ (∀ y ∈ xs, y.length ≤ N) ∧ xs.length ≤ N := by
  have hc1 : Try.prog.cellsOf 9 = 1 := by kernel_rfl
  obtain ⟨A, cap, xs, rfl, hc, hm, hr, hcell⟩ := rdb_slice (α := List UInt8) Try.underlying22 (by rw [hc1]; decide) h hs hN (fun cs l => cs = [.string (bs l)] ∧ l.length ≤ N) (fun n cs' y hy _ hb => rdb_str hy hb)
  rw [hc1] at hcell
  refine ⟨_, xs, rfl, seq_of (fun cs a hr => hr.1) hc hm hcell, fun y hy => ?_, hr⟩
  rcases hcell with rfl | ⟨b, off, _, hcell⟩
  · cases hy
  · obtain ⟨i, hi⟩ := List.getElem?_of_mem hy
    obtain ⟨cs', hr', _⟩ := hcell i y hi
    exact hr'.2
theorem bulk_enc {x : V} {N : Nat} (h1 : x.text.length ≤ N) (h2 : ∀ y ∈ x.texts, y.length ≤ N) (h3 : x.texts.length ≤ N) (h4 : x.nums.length ≤ N) : (encV x).length ≤ 9 + N * (9 + N) + 9 * N + N := by
  have key : ∀ (g : List UInt8 → List UInt8) (l : List (List UInt8)), (∀ y ∈ l, (g y).length ≤ 9 + N) → (l.flatMap g).length ≤ l.length * (9 + N) := by
    intro g l
    induction l with
    | nil => intro _; simp
    | cons a l ih =>
      intro h
      have := h a (by simp)
      have := ih (fun y hy => h y (by simp [hy]))
      simp only [List.flatMap_cons, List.length_append, List.length_cons, Nat.succ_mul]
      omega
  have key2 : ∀ l : List Int, (l.flatMap Vi.eNum).length ≤ l.length * 9 := by
    intro l
    induction l with
    | nil => simp
    | cons a l ih =>
      have := Vi.eNum_le a
      simp only [List.flatMap_cons, List.length_append, List.length_cons, Nat.succ_mul]
      omega
  unfold encV
  split
  · have := Vi.eNum_le x.n; omega
  · split
    · have := (Vi.vi_len x.text.length).2
      unfold Vi.eText
      rw [List.length_append]
      omega
    · split
      · have e1 := (Vi.vi_len x.texts.length).2
        have e2 := key Vi.eText x.texts (fun y hy => by have := h2 y hy; have := (Vi.vi_len y.length).2; unfold Vi.eText; rw [List.length_append]; omega)
        have e3 : x.texts.length * (9 + N) ≤ N * (9 + N) := Nat.mul_le_mul_right _ h3
        unfold Vi.eMany
        rw [List.length_append]
        omega
      · have e1 := (Vi.vi_len x.nums.length).2
        have e2 := key2 x.nums
        unfold Vi.eMany
        rw [List.length_append]
        omega
theorem rdb_V {n : Nat} {cs : List Value} {x : DataW H × List MemPlace} (h : DataW.trod enc Try.prog w base spare held n 47 cs = some x) (hs : Small Try.prog 47 x.1) (hN : Rows.uptoBulk x.1 ≤ 1048576) :
    ∃ a : V, VCells w cs a ∧ (encV a).length ≤ 70368744177664 := by
  have k3 : Try.prog.cellsOf 3 = 1 := by kernel_rfl
  have k9 : Try.prog.cellsOf 9 = 1 := by kernel_rfl
  have k22 : Try.prog.cellsOf 22 = 1 := by kernel_rfl
  have k23 : Try.prog.cellsOf 23 = 1 := by kernel_rfl
  have k47 : Try.prog.cellsOf 47 = 5 := by kernel_rfl
  obtain ⟨ys, m, _, rfl, hl, hyl, hf⟩ := DataW.trod_struct Try.underlying47 h
  obtain ⟨c0, c1, c2, c3, c4, rfl⟩ := list5 (hl.trans k47)
  obtain ⟨y0, y1, y2, y3, y4, rfl⟩ := list5 hyl
  have f0 : DataW.trod enc Try.prog w base spare held m 3 [c0] = some y0 := by have := hf 0 _ rfl; simpa [k3] using this
  have f1 : DataW.trod enc Try.prog w base spare held m 3 [c1] = some y1 := by have := hf 1 _ rfl; simpa [k3] using this
  have f2 : DataW.trod enc Try.prog w base spare held m 9 [c2] = some y2 := by have := hf 2 _ rfl; simpa [k9] using this
  have f3 : DataW.trod enc Try.prog w base spare held m 22 [c3] = some y3 := by have := hf 3 _ rfl; simpa [k22] using this
  have f4 : DataW.trod enc Try.prog w base spare held m 23 [c4] = some y4 := by have := hf 4 _ rfl; simpa [k23] using this
  have s3 : Small Try.prog 22 y3.1 := small_field Try.underlying47 hs (j := 3) rfl rfl
  have s4 : Small Try.prog 23 y4.1 := small_field Try.underlying47 hs (j := 4) rfl rfl
  obtain ⟨z0, h0, b0⟩ := rd_int f0
  obtain ⟨z1, h1, b1⟩ := rd_int f1
  obtain ⟨l2, h2, b2⟩ := rdb_str f2 (bulk_field hN (by simp))
  obtain ⟨v3, x3, h3, q3, b3, c3'⟩ := rdb_strs f3 s3 (bulk_field hN (by simp))
  obtain ⟨v4, x4, h4, q4, b4, c4'⟩ := rdb_ints f4 s4 (bulk_field hN (by simp))
  simp at h0 h1 h2 h3 h4
  subst h0 h1 h2 h3 h4
  refine ⟨⟨z0, z1, l2, x3, x4⟩, ⟨⟨b0, b1, Nat.le_trans b2 (by decide), fun y hy => Nat.le_trans (b3 y hy) (by decide), b4⟩, _, _, rfl, q3, q4⟩, ?_⟩
  exact Nat.le_trans (bulk_enc (N := 1048576) b2 b3 c3' c4') (by decide)
end
end Go.Proofs.Ytipehfidphgbbaa
