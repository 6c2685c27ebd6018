/- A feed that is fed chunk by chunk, beside a row of what it told. -/
import Derived.Test.YtjllmhnicmonbaaFew
import Derived.Test.YtjllmhnicmonbaaNew
namespace Go.Proofs.Ytjllmhnicmonbaa
open Go Go.RowKit

theorem own_keep {w w' : World} {B n s : Nat} {e : TypeId} {v : Value} {xs : List Value} (h : w.ownsRow B e s v n xs) (hk : ∀ b, v.ownBlock = some b → w'.heap[b]? = w.heap[b]?) : w'.ownsRow B e s v n xs := by
  refine ⟨h.1, ?_⟩
  rcases h.2 with h | ⟨g, cap, cur, hv, hB, hg, r⟩
  · exact .inl h
  · exact .inr ⟨g, cap, cur, hv, hB, (hk g (by rw [hv]; rfl)).trans hg, r⟩
theorem Fd.keep {w w' : World} {B f n : Nat} {r : List UInt8} (h : Fd w B f n r) (hk : ∀ b, b < w.heap.size → b = f ∨ B ≤ b → w'.heap[b]? = w.heap[b]?) : Fd w' B f n r := by
  obtain ⟨v, h1, h2⟩ := h
  refine ⟨v, (hk f (blk_lt h1) (.inl rfl)).trans h1, own_keep h2 fun b hb => ?_⟩
  obtain ⟨hB, cur, hc⟩ := row_block h2 hb
  exact hk b (blk_lt hc) (.inr hB)
theorem Fd.below {w w' : World} {B f n : Nat} {r : List UInt8} (h : Fd w B f n r) (hb : Below w.heap.size w w') : Fd w' B f n r := h.keep fun b hl _ => hb.block b hl
/-- since world w0 the feed at f was fed: it told outs, which lie in the row va, and holds r -/
def FS (w0 : World) (f n : Nat) (outs : List (List UInt8)) (r : List UInt8) (va : Value) (u : World) : Prop :=
  Fd u w0.heap.size f n r ∧ u.ownsRow w0.heap.size 9 1 va outs.length (outs.map sv) ∧ (u.os = w0.os ∧ u.tape = w0.tape ∧ u.output = w0.output ∧ w0.heap.size ≤ u.heap.size) ∧ ∀ k, k < w0.heap.size → k ≠ f → u.heap[k]? = w0.heap[k]?
section
variable {w0 u u' : World} {f g n : Nat} {outs more : List (List UInt8)} {r r' : List UInt8} {va va' : Value}
theorem FS.start (h : Fd w0 w0.heap.size f n []) : FS w0 f n [] [] (.slice none 0 0) w0 := ⟨h, World.ownsRow_nil _ _ _ _, ⟨rfl, rfl, rfl, Nat.le_refl _⟩, fun _ _ _ => rfl⟩
theorem FS.push (h : FS w0 f n outs r va u) (hf : f < w0.heap.size) (hp : Pw w0.heap.size f u u') (hF : Fd u' w0.heap.size f n r') : FS w0 f n outs r' va u' := by
  obtain ⟨_, h2, ⟨a, b, c, d⟩, h4⟩ := h
  refine ⟨hF, own_keep h2 fun b hb => ?_, ⟨hp.1.1.trans a, hp.1.2.1.trans b, hp.1.2.2.1.trans c, Nat.le_trans d hp.1.2.2.2⟩, fun k hk hf => (hp.2.1 k hk (Nat.lt_of_lt_of_le hk d) hf).trans (h4 k hk hf)⟩
  obtain ⟨hB, cur, hc⟩ := row_block h2 hb
  rw [hc]
  exact hp.2.2 b _ hc (fun e => by injection e with e; omega) (fun c fz e => by injection e with e1 e2 e3; exact absurd e2 (by decide))
theorem FS.app (h : FS w0 f n outs r va u) (hf : f < w0.heap.size) (hg : u.grownBy u' va.ownBlock) (ho : u'.ownsRow w0.heap.size 9 1 va' (outs ++ more).length ((outs ++ more).map sv)) : FS w0 f n (outs ++ more) r va' u' := by
  obtain ⟨⟨v, h1, h1'⟩, h2, ⟨a, b, c, d⟩, h4⟩ := h
  have hblk : ∀ b, va.ownBlock = some b → w0.heap.size ≤ b ∧ ∃ cur, u.heap[b]? = some (.cells cur 9 (0, 0)) := fun b hb => row_block h2 hb
  refine ⟨⟨v, (hg.block f (blk_lt h1) (fun e => by have := (hblk f e.symm).1; omega)).trans h1, row_kept h1' hg fun b hb e => ?_⟩, ho, ⟨hg.os.trans a, hg.tape.trans b, hg.output.trans c, Nat.le_trans d hg.size⟩, fun k hk hkf => (hg.block k (Nat.lt_of_lt_of_le hk d) (fun e => by have := (hblk k e.symm).1; omega)).trans (h4 k hk hkf)⟩
  obtain ⟨_, cur, hc⟩ := hblk b hb
  obtain ⟨_, cur', hc'⟩ := row_block h1' e
  rw [hc] at hc'
  simp at hc'
theorem FS.below {w : World} (h : FS w0 f n outs r va u) (hb : Below w.heap.size w w0) (hf : w.heap.size ≤ f) : Below w.heap.size w u := by
  obtain ⟨_, _, ⟨a, b, c, d⟩, h4⟩ := h
  exact ⟨a.trans hb.os, b.trans hb.tape, c.trans hb.output, Nat.le_trans hb.size d, fun k hk => (h4 k (Nat.lt_of_lt_of_le hk hb.size) (by omega)).trans (hb.block k hk)⟩
theorem FS.size (h : FS w0 f n outs r va u) : w0.heap.size ≤ u.heap.size := h.2.2.1.2.2.2
theorem FS.other {m : Nat} (h : FS w0 f n outs r va u) (hgf : g ≠ f) (hg : g < w0.heap.size) (hc : w0.heap[g]? = some (.cells #[.int .i64 (m : Int), .slice none 0 0] 45 (0, 0))) (B : Nat) : Fd u B g m [] := ⟨_, (h.2.2.2 g hg hgf).trans hc, World.ownsRow_nil _ _ _ _⟩
theorem FS.late (h : FS w0 f n outs r va u) (hg : g < w0.heap.size) (hgf : g ≠ f) (hk : ∀ k, k < u.heap.size → k ≠ g → u'.heap[k]? = u.heap[k]?) : Fd u' w0.heap.size f n r ∧ u'.ownsRow w0.heap.size 9 1 va outs.length (outs.map sv) := by
  obtain ⟨h1, h2, _⟩ := h
  refine ⟨h1.keep fun b hb hx => hk b hb (by omega), own_keep h2 fun b hb => ?_⟩
  obtain ⟨hB, cur, hc⟩ := row_block h2 hb
  exact hk b (blk_lt hc) (by omega)
end
end Go.Proofs.Ytjllmhnicmonbaa
