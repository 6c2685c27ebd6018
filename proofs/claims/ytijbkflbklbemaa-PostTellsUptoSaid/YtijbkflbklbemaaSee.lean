/- Walks: the closures of And, Or and Less. -/
import Derived.Test.YtijbkflbklbemaaRow
namespace Go.Proofs.Ytijbkflbklbemaa
open Go.RowKit

def Fine (p : Po.P) : Prop := p.places ≠ [] ∧ p.places.length ≤ 2199023255552
theorem cell_two_new (w : World) (a b : Value) (t : TypeId) : ∀ j u, [a, b][j]? = some u → (w.alloc (.cells #[a, b] t)).cell? ((⟨w.heap.size, 0, none⟩ : Addr).add j) = some u := by
  intro j u hj
  have hn := heap_alloc_new w (.cells #[a, b] t)
  have : ((⟨w.heap.size, 0, none⟩ : Addr).add j) = ⟨w.heap.size, j, none⟩ := by simp [Addr.add_lit]
  rw [this, Lib.cell_of_heap hn]
  match j with
  | 0 => simpa using hj
  | 1 => simpa using hj
  | n + 2 => simp at hj

set_option maxHeartbeats 4000000 in
theorem and1_c (w0 u : World) (B : Nat) (l : List Po.P) (x y : Option Po.P) (px py : Value) (h : OutI w0 B l u) (hx : SeeP u x px) (hy : SeeP u y py) (fx : ∀ p, x = some p → Fine p) (fy : ∀ p, y = some p → Fine p) (hl : l.length ≤ 2199023255552) :
    Calls Try.prog 25 #[px, py, .pointer (some ⟨B, 0, none⟩)] u fun e u' => e = .returned (.tuple #[]) ∧ OutI w0 B (l ++ (Po.andF x y).toList) u' := by
  obtain ⟨i0, hi, hz0, hz1, hz2⟩ := info_parts infoP
  have hu0 : OutI w0 B l u.drew := h.keep ⟨rfl, rfl, rfl, Nat.le_refl _, fun _ _ => rfl⟩
  have H0 := Lib.hid h
  obtain ⟨⟨v, vs, rfl, hb, hr⟩, hbe, hlo⟩ := hu0
  obtain ⟨A0, k0, c0, rfl⟩ := own_slice hr.own
  rw [List.length_map] at hl
  have cB : u.cell? ⟨B, 0, none⟩ = some (.slice A0 k0 c0) := (show u.cell? _ = _ from by rw [Lib.cell_of_heap (w := u) (show u.heap[B]? = _ from hb)]; rfl)
  have hlt : B < u.heap.size := blk_lt hb
  have HB := Lib.hid hb; clear hb
  have HR := Lib.hid hr; clear hr
  have HE := Lib.hid hbe; clear hbe
  have HLT := Lib.hid hlt; clear hlt
  cases x with
  | none =>
    obtain rfl : px = .pointer none := hx
    go_enter Try.func25, Try.ntmps25
    cases y with
    | none =>
      obtain rfl : py = .pointer none := hy
      go_wp2_with fail
      go_end0
      exact ⟨rfl, by simpa [Po.andF] using H0.out⟩
    | some y =>
      obtain ⟨b, o, rfl, _⟩ := hy
      go_wp2_with fail
      go_end0
      exact ⟨rfl, by simpa [Po.andF] using H0.out⟩
  | some x =>
    obtain ⟨b1, o1, rfl, p1, P1, n1, m1, q1, s1⟩ := hx
    have S1 := Lib.hid s1; clear s1
    have l1b : b1 < u.heap.size := World.block_lt_of_cell? _ _ p1
    have L1 := Lib.hid l1b; clear l1b
    cases y with
    | none =>
      obtain rfl : py = .pointer none := hy
      go_enter Try.func25, Try.ntmps25
      go_wp2_with fail
      go_end0
      exact ⟨rfl, by simpa [Po.andF] using H0.out⟩
    | some y =>
      obtain ⟨b2, o2, rfl, p2, P2, n2, m2, q2, s2⟩ := hy
      have S2 := Lib.hid s2; clear s2
      have l2b : b2 < u.heap.size := World.block_lt_of_cell? _ _ p2
      have L2 := Lib.hid l2b; clear l2b
      obtain ⟨_, fx⟩ := fx x rfl
      obtain ⟨_, fy⟩ := fy y rfl
      have hc := union_c x.doc y.doc _ _ x.places y.places u.drew (S1.out.keep fun _ _ => rfl) (S2.out.keep fun _ _ => rfl) fx fy
      have HC := Lib.hid hc; clear hc fx fy
      go_enter Try.func25, Try.ntmps25
      go_wp2_with fail
      go_region_law ((first | (refine step_append_own rfl (.tmp 11) (.tmp 19) 22 rfl (B + 1) 40 i0 (.agg #[.int .i64 0, .slice none 0 0]) 2 32 Try.underlying22 hi hz0 hz1 hz2 rfl (by decide) (.slice A0 k0 c0) vs.length (vs.flatMap pc) (by simp [Act.eval]) ((HR.out.below h1).below ((Below.refl _ _).alloc (Nat.le_refl _) _)).own ⟨u1.heap.size, 0, none⟩ 1 1 [.int .i64 x.doc, .slice A3 k3 c3] (by simp [Act.eval]) rfl (cell_two_new _ _ _ _) (by simp [Value.oneCell']) (by unfold maxLen; omega) (by omega) (by simp; have := h1.size; have := HLT.out; simp at *; omega) ?_; intro v' w' hown hg; obtain ⟨A2, k2, c2, rfl⟩ := own_slice hown; have hun := OutI.next (p := ⟨x.doc, Po.un x.places y.places⟩) (s := .slice A3 k3 c3) hlo HE.out HB.out HR.out h1 hp hown hg; have f2 := Lib.frozen_of_heap (OutI.blk2 HB.out HR.out h1 hg) 0; have d2 : w'.cell? ⟨B, 0, none⟩ = some (.slice A0 k0 c0) := (by rw [Lib.cell_of_heap (OutI.blk2 HB.out HR.out h1 hg)]; rfl)) | (go_simp; refine HC.out.mono ?_; rintro e u1 ⟨A3, k3, c3, rfl, hp, h1⟩; have d5 := (h1.cell (p := ⟨B, 0, none⟩) HLT.out).trans (show u.drew.cell? _ = _ from cB); have d6 : ∀ o, (u1.alloc o).cell? ⟨B, 0, none⟩ = some (.slice A0 k0 c0) := (fun o => (((Below.refl _ u1).alloc (Nat.le_refl _) o).cell (p := ⟨B, 0, none⟩) (Nat.lt_of_lt_of_le HLT.out h1.size)).trans d5); dsimp only)))
      all_goals (go_end0; exact ⟨rfl, hun⟩)

set_option maxHeartbeats 4000000 in
theorem or1_c (w0 u : World) (B : Nat) (l : List Po.P) (x y : Option Po.P) (px py : Value) (h : OutI w0 B l u) (hx : SeeP u x px) (hy : SeeP u y py) (fx : ∀ p, x = some p → Fine p) (fy : ∀ p, y = some p → Fine p) (hl : l.length ≤ 2199023255552) (hne : x ≠ none ∨ y ≠ none) :
    Calls Try.prog 27 #[px, py, .pointer (some ⟨B, 0, none⟩)] u fun e u' => e = .returned (.tuple #[]) ∧ OutI w0 B (l ++ (Po.orF x y).toList) u' := by
  obtain ⟨i0, hi, hz0, hz1, hz2⟩ := info_parts infoP
  have hu0 : OutI w0 B l u.drew := h.keep ⟨rfl, rfl, rfl, Nat.le_refl _, fun _ _ => rfl⟩
  have H0 := Lib.hid h
  obtain ⟨⟨v, vs, rfl, hb, hr⟩, hbe, hlo⟩ := hu0
  obtain ⟨A0, k0, c0, rfl⟩ := own_slice hr.own
  rw [List.length_map] at hl
  have cB : u.cell? ⟨B, 0, none⟩ = some (.slice A0 k0 c0) := (show u.cell? _ = _ from by rw [Lib.cell_of_heap (w := u) (show u.heap[B]? = _ from hb)]; rfl)
  have hlt : B < u.heap.size := blk_lt hb
  have HB := Lib.hid hb; clear hb
  have HR := Lib.hid hr; clear hr
  have HE := Lib.hid hbe; clear hbe
  have HLT := Lib.hid hlt; clear hlt
  cases x with
  | none =>
    obtain rfl : px = .pointer none := hx
    cases y with
    | none => simp at hne
    | some y =>
      obtain ⟨b2, o2, rfl, p2, P2, n2, m2, q2, s2⟩ := hy
      have S2 := Lib.hid s2; clear s2
      have l2b : b2 < u.heap.size := World.block_lt_of_cell? _ _ p2
      have L2 := Lib.hid l2b; clear l2b
      clear hne
      obtain ⟨ne, fl⟩ := fy y rfl
      have hc := copied_c y.doc _ y.places u.drew (S2.out.keep fun _ _ => rfl) ne fl
      have HC := Lib.hid hc; clear hc fl ne fx fy
      go_enter Try.func27, Try.ntmps27
      go_wp2_with fail
      go_region_law ((first | (refine step_append_own rfl (.tmp 18) (.tmp 23) 22 rfl (B + 1) 40 i0 (.agg #[.int .i64 0, .slice none 0 0]) 2 32 Try.underlying22 hi hz0 hz1 hz2 rfl (by decide) (.slice A0 k0 c0) vs.length (vs.flatMap pc) (by simp [Act.eval]) ((HR.out.below h1).below ((Below.refl _ _).alloc (Nat.le_refl _) _)).own ⟨u1.heap.size, 0, none⟩ 1 1 [.int .i64 y.doc, .slice A3 k3 c3] (by simp [Act.eval]) rfl (cell_two_new _ _ _ _) (by simp [Value.oneCell']) (by unfold maxLen; omega) (by omega) (by simp; have := h1.size; have := HLT.out; simp at *; omega) ?_; intro v' w' hown hg; obtain ⟨A2, k2, c2, rfl⟩ := own_slice hown; have hun := OutI.next (p := y) (s := .slice A3 k3 c3) hlo HE.out HB.out HR.out h1 hp hown hg; have f2 := Lib.frozen_of_heap (OutI.blk2 HB.out HR.out h1 hg) 0; have d2 : w'.cell? ⟨B, 0, none⟩ = some (.slice A0 k0 c0) := (by rw [Lib.cell_of_heap (OutI.blk2 HB.out HR.out h1 hg)]; rfl)) | (go_simp; refine HC.out.mono ?_; rintro e u1 ⟨A3, k3, c3, rfl, hp, h1⟩; have d5 := (h1.cell (p := ⟨B, 0, none⟩) HLT.out).trans (show u.drew.cell? _ = _ from cB); have d6 : ∀ o, (u1.alloc o).cell? ⟨B, 0, none⟩ = some (.slice A0 k0 c0) := (fun o => (((Below.refl _ u1).alloc (Nat.le_refl _) o).cell (p := ⟨B, 0, none⟩) (Nat.lt_of_lt_of_le HLT.out h1.size)).trans d5); dsimp only)))
      all_goals go_wp2_with fail
      all_goals (go_end0; exact ⟨rfl, hun⟩)
  | some x =>
    obtain ⟨b1, o1, rfl, p1, P1, n1, m1, q1, s1⟩ := hx
    have S1 := Lib.hid s1; clear s1
    have l1b : b1 < u.heap.size := World.block_lt_of_cell? _ _ p1
    have L1 := Lib.hid l1b; clear l1b
    cases y with
    | none =>
      obtain rfl : py = .pointer none := hy
      clear hne
      obtain ⟨ne, fl⟩ := fx x rfl
      have hc := copied_c x.doc _ x.places u.drew (S1.out.keep fun _ _ => rfl) ne fl
      have HC := Lib.hid hc; clear hc fl ne fx fy
      go_enter Try.func27, Try.ntmps27
      go_wp2_with fail
      go_region_law ((first | (refine step_append_own rfl (.tmp 28) (.tmp 33) 22 rfl (B + 1) 40 i0 (.agg #[.int .i64 0, .slice none 0 0]) 2 32 Try.underlying22 hi hz0 hz1 hz2 rfl (by decide) (.slice A0 k0 c0) vs.length (vs.flatMap pc) (by simp [Act.eval]) ((HR.out.below h1).below ((Below.refl _ _).alloc (Nat.le_refl _) _)).own ⟨u1.heap.size, 0, none⟩ 1 1 [.int .i64 x.doc, .slice A3 k3 c3] (by simp [Act.eval]) rfl (cell_two_new _ _ _ _) (by simp [Value.oneCell']) (by unfold maxLen; omega) (by omega) (by simp; have := h1.size; have := HLT.out; simp at *; omega) ?_; intro v' w' hown hg; obtain ⟨A2, k2, c2, rfl⟩ := own_slice hown; have hun := OutI.next (p := x) (s := .slice A3 k3 c3) hlo HE.out HB.out HR.out h1 hp hown hg; have f2 := Lib.frozen_of_heap (OutI.blk2 HB.out HR.out h1 hg) 0; have d2 : w'.cell? ⟨B, 0, none⟩ = some (.slice A0 k0 c0) := (by rw [Lib.cell_of_heap (OutI.blk2 HB.out HR.out h1 hg)]; rfl)) | (go_simp; refine HC.out.mono ?_; rintro e u1 ⟨A3, k3, c3, rfl, hp, h1⟩; have d5 := (h1.cell (p := ⟨B, 0, none⟩) HLT.out).trans (show u.drew.cell? _ = _ from cB); have d6 : ∀ o, (u1.alloc o).cell? ⟨B, 0, none⟩ = some (.slice A0 k0 c0) := (fun o => (((Below.refl _ u1).alloc (Nat.le_refl _) o).cell (p := ⟨B, 0, none⟩) (Nat.lt_of_lt_of_le HLT.out h1.size)).trans d5); dsimp only)))
      all_goals go_wp2_with fail
      all_goals (go_end0; exact ⟨rfl, hun⟩)
    | some y =>
      obtain ⟨b2, o2, rfl, p2, P2, n2, m2, q2, s2⟩ := hy
      have S2 := Lib.hid s2; clear s2
      have l2b : b2 < u.heap.size := World.block_lt_of_cell? _ _ p2
      have L2 := Lib.hid l2b; clear l2b
      obtain ⟨_, fx⟩ := fx x rfl
      obtain ⟨_, fy⟩ := fy y rfl
      have hc := union_c x.doc y.doc _ _ x.places y.places u.drew (S1.out.keep fun _ _ => rfl) (S2.out.keep fun _ _ => rfl) fx fy
      have HC := Lib.hid hc; clear hc fx fy hne
      go_enter Try.func27, Try.ntmps27
      go_wp2_with fail
      go_region_law ((first | (refine step_append_own rfl (.tmp 5) (.tmp 13) 22 rfl (B + 1) 40 i0 (.agg #[.int .i64 0, .slice none 0 0]) 2 32 Try.underlying22 hi hz0 hz1 hz2 rfl (by decide) (.slice A0 k0 c0) vs.length (vs.flatMap pc) (by simp [Act.eval]) ((HR.out.below h1).below ((Below.refl _ _).alloc (Nat.le_refl _) _)).own ⟨u1.heap.size, 0, none⟩ 1 1 [.int .i64 x.doc, .slice A3 k3 c3] (by simp [Act.eval]) rfl (cell_two_new _ _ _ _) (by simp [Value.oneCell']) (by unfold maxLen; omega) (by omega) (by simp; have := h1.size; have := HLT.out; simp at *; omega) ?_; intro v' w' hown hg; obtain ⟨A2, k2, c2, rfl⟩ := own_slice hown; have hun := OutI.next (p := ⟨x.doc, Po.un x.places y.places⟩) (s := .slice A3 k3 c3) hlo HE.out HB.out HR.out h1 hp hown hg; have f2 := Lib.frozen_of_heap (OutI.blk2 HB.out HR.out h1 hg) 0; have d2 : w'.cell? ⟨B, 0, none⟩ = some (.slice A0 k0 c0) := (by rw [Lib.cell_of_heap (OutI.blk2 HB.out HR.out h1 hg)]; rfl)) | (go_simp; refine HC.out.mono ?_; rintro e u1 ⟨A3, k3, c3, rfl, hp, h1⟩; have d5 := (h1.cell (p := ⟨B, 0, none⟩) HLT.out).trans (show u.drew.cell? _ = _ from cB); have d6 : ∀ o, (u1.alloc o).cell? ⟨B, 0, none⟩ = some (.slice A0 k0 c0) := (fun o => (((Below.refl _ u1).alloc (Nat.le_refl _) o).cell (p := ⟨B, 0, none⟩) (Nat.lt_of_lt_of_le HLT.out h1.size)).trans d5); dsimp only)))
      all_goals go_wp2_with fail
      all_goals (go_end0; exact ⟨rfl, hun⟩)

set_option maxHeartbeats 4000000 in
theorem less1_c (w0 u : World) (B : Nat) (l : List Po.P) (x y : Option Po.P) (px py : Value) (h : OutI w0 B l u) (hx : SeeP u x px) (hy : SeeP u y py) (fx : ∀ p, x = some p → Fine p) (fy : ∀ p, y = some p → Fine p) (hl : l.length ≤ 2199023255552) (hne : y = none → x ≠ none) :
    Calls Try.prog 29 #[px, py, .pointer (some ⟨B, 0, none⟩)] u fun e u' => e = .returned (.tuple #[]) ∧ OutI w0 B (l ++ (Po.lessF x y).toList) u' := by
  obtain ⟨i0, hi, hz0, hz1, hz2⟩ := info_parts infoP
  have hu0 : OutI w0 B l u.drew := h.keep ⟨rfl, rfl, rfl, Nat.le_refl _, fun _ _ => rfl⟩
  have H0 := Lib.hid h
  obtain ⟨⟨v, vs, rfl, hb, hr⟩, hbe, hlo⟩ := hu0
  obtain ⟨A0, k0, c0, rfl⟩ := own_slice hr.own
  rw [List.length_map] at hl
  have cB : u.cell? ⟨B, 0, none⟩ = some (.slice A0 k0 c0) := (show u.cell? _ = _ from by rw [Lib.cell_of_heap (w := u) (show u.heap[B]? = _ from hb)]; rfl)
  have hlt : B < u.heap.size := blk_lt hb
  have HB := Lib.hid hb; clear hb
  have HR := Lib.hid hr; clear hr
  have HE := Lib.hid hbe; clear hbe
  have HLT := Lib.hid hlt; clear hlt
  cases y with
  | some y =>
    obtain ⟨b, o, rfl, _⟩ := hy
    go_enter Try.func29, Try.ntmps29
    go_wp2_with fail
    go_end0
    cases x <;> exact ⟨rfl, by simpa [Po.lessF] using H0.out⟩
  | none =>
    obtain rfl : py = .pointer none := hy
    cases x with
    | none => exact absurd rfl (hne rfl)
    | some x =>
      obtain ⟨b1, o1, rfl, p1, P1, n1, m1, q1, s1⟩ := hx
      have S1 := Lib.hid s1; clear s1
      have l1b : b1 < u.heap.size := World.block_lt_of_cell? _ _ p1
      have L1 := Lib.hid l1b; clear l1b
      clear hne
      obtain ⟨ne, fl⟩ := fx x rfl
      have hc := copied_c x.doc _ x.places u.drew (S1.out.keep fun _ _ => rfl) ne fl
      have HC := Lib.hid hc; clear hc fl ne fx fy
      go_enter Try.func29, Try.ntmps29
      go_wp2_with fail
      go_region_law ((first | (refine step_append_own rfl (.tmp 7) (.tmp 12) 22 rfl (B + 1) 40 i0 (.agg #[.int .i64 0, .slice none 0 0]) 2 32 Try.underlying22 hi hz0 hz1 hz2 rfl (by decide) (.slice A0 k0 c0) vs.length (vs.flatMap pc) (by simp [Act.eval]) ((HR.out.below h1).below ((Below.refl _ _).alloc (Nat.le_refl _) _)).own ⟨u1.heap.size, 0, none⟩ 1 1 [.int .i64 x.doc, .slice A3 k3 c3] (by simp [Act.eval]) rfl (cell_two_new _ _ _ _) (by simp [Value.oneCell']) (by unfold maxLen; omega) (by omega) (by simp; have := h1.size; have := HLT.out; simp at *; omega) ?_; intro v' w' hown hg; obtain ⟨A2, k2, c2, rfl⟩ := own_slice hown; have hun := OutI.next (p := x) (s := .slice A3 k3 c3) hlo HE.out HB.out HR.out h1 hp hown hg; have f2 := Lib.frozen_of_heap (OutI.blk2 HB.out HR.out h1 hg) 0; have d2 : w'.cell? ⟨B, 0, none⟩ = some (.slice A0 k0 c0) := (by rw [Lib.cell_of_heap (OutI.blk2 HB.out HR.out h1 hg)]; rfl)) | (go_simp; refine HC.out.mono ?_; rintro e u1 ⟨A3, k3, c3, rfl, hp, h1⟩; have d5 := (h1.cell (p := ⟨B, 0, none⟩) HLT.out).trans (show u.drew.cell? _ = _ from cB); have d6 : ∀ o, (u1.alloc o).cell? ⟨B, 0, none⟩ = some (.slice A0 k0 c0) := (fun o => (((Below.refl _ u1).alloc (Nat.le_refl _) o).cell (p := ⟨B, 0, none⟩) (Nat.lt_of_lt_of_le HLT.out h1.size)).trans d5); dsimp only)))
      all_goals go_wp2_with fail
      all_goals (go_end0; exact ⟨rfl, hun⟩)

end Go.Proofs.Ytijbkflbklbemaa
