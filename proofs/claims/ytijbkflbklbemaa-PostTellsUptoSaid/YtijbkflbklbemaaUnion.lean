/- Walks: union and what it calls. -/
import Derived.Test.YtijbkflbklbemaaBothI
import Derived.Test.YtijbkflbklbemaaPs
import Derived.Deep.RegionLaw
namespace Go.Proofs.Ytijbkflbklbemaa
open Go.RowKit

/-- append to a row of the call's own, as one step of a region that draws -/
theorem step_append_own {P : Program} {ops : Array Oper} {o : Oper} {a : Act} {w : World} {K : Act → World → Prop} {Q : Exit → Act → World → Prop} {E : Prop}
    (hg : o.guard = none) (s x : Operand) (t : TypeId) (hop : o.op = Op.call { callee := Callee.builtin Builtin.append, args := #[s, x], argTypes := #[t, t] })
    (base : Nat) (e : TypeId) (i : TypeInfo) (z : Value) (size bytes : Nat) (h1 : P.underlying t = some (.slice e)) (h2 : P.info? e = some i) (h3 : i.zero = some z) (h4 : i.size = size) (h5 : i.bytes = bytes) (h6 : z.cells.size = size) (h7 : 0 < size)
    (v : Value) (n : Nat) (xs : List Value) (hs : a.eval s = v) (hown : w.ownsRow base e size v n xs)
    (ad : Addr) (m c : Nat) (news : List Value) (hx : a.eval x = .slice (some ad) m c) (hn : news.length = m * size) (hc : ∀ j u, news[j]? = some u → w.cell? (ad.add j) = some u) (h1c : ∀ u ∈ news, u.oneCell' = true)
    (b1 : n + m ≤ maxLen) (b2 : (n + m) * bytes ≤ 140737488355328) (hbase : base ≤ w.heap.size)
    (hK : ∀ v' w', w'.ownsRow base e size v' (n + m) (xs ++ news) → w.grownBy w' v.ownBlock → K (a.put o.dst v') w') :
    if Region.wanted o (yielded ops a.tmps) = true then Oper.wp P o a w K Q else E := by
  have hw : Region.wanted o (yielded ops a.tmps) = true := by simp [Region.wanted, hg]
  rw [if_pos hw]
  obtain ⟨v', w', hrun, r1, r2, _⟩ := run_append_own (P := P) w base t o.type e i z size bytes h1 h2 h3 h4 h5 h6 h7 v n xs hown ad m c news hn hc h1c b1 b2 hbase
  unfold Oper.wp
  simp [execOp, hop, resolve, invoke, builtin, hs, hx, hrun, Result.andThen]
  exact hK v' w' r1 r2
theorem own_slice {w : World} {b n s : Nat} {e : TypeId} {v : Value} {xs : List Value} (h : w.ownsRow b e s v n xs) : ∃ A k c, v = .slice A k c := by
  rcases h.2 with ⟨rfl, _⟩ | ⟨g, cap, cur, rfl, _⟩
  · exact ⟨_, _, _, rfl⟩
  · exact ⟨_, _, _, rfl⟩
/-- what holds between two calls of union's see -/
structure UnI (w0 : World) (B : Nat) (doc : Int) (zs : List Int) (u : World) : Prop where
  blk : ∃ A k c, u.heap[B]? = some (.cells #[.int .i64 doc, .slice A k c] 40 (0, 0)) ∧ u.ownsRow (B + 1) 3 1 (.slice A k c) zs.length (zs.map iv)
  below : Below w0.heap.size w0 u
  lo : w0.heap.size ≤ B
theorem own_base {w : World} {b b' : Nat} {e : TypeId} {s n : Nat} {v : Value} {xs : List Value} (h : w.ownsRow b e s v n xs) (hb : b' ≤ b) : w.ownsRow b' e s v n xs := by
  refine ⟨h.1, ?_⟩
  rcases h.2 with h | ⟨g, cap, cur, hv, hg, r⟩
  · exact .inl h
  · exact .inr ⟨g, cap, cur, hv, by omega, r⟩
/-- behind the append and the store -/
theorem UnI.next {w0 u u2 : World} {B : Nat} {doc z : Int} {zs : List Int} {A : Option Addr} {k c : Nat} {A2 : Option Addr} {k2 c2 : Nat} {o : Obj} (lo : w0.heap.size ≤ B) (below : Below w0.heap.size w0 u)
    (hb : u.heap[B]? = some (.cells #[.int .i64 doc, .slice A k c] 40 (0, 0))) (ho : u.ownsRow (B + 1) 3 1 (.slice A k c) zs.length (zs.map iv))
    (own : u2.ownsRow (B + 1) 3 1 (.slice A2 k2 c2) (zs.length + 1) (zs.map iv ++ [iv z])) (g : (u.alloc o).grownBy u2 (Value.slice A k c).ownBlock) : UnI w0 B doc (zs ++ [z]) (u2.setCell ⟨B, 1, none⟩ (.slice A2 k2 c2)) := by
  have hBu := blk_lt hb
  have hle : ∀ b, (Value.slice A k c).ownBlock = some b → B + 1 ≤ b := fun b e => (ho.lt b e).1
  have hb2 : u2.heap[B]? = some (.cells #[.int .i64 doc, .slice A k c] 40 (0, 0)) :=
    (g.block B (by simp; omega) (fun e => by have := hle B e.symm; omega)).trans ((Below.heap_alloc u o B hBu).trans hb)
  refine ⟨⟨A2, k2, c2, ?_, ?_⟩, ?_, lo⟩
  · rw [heap_setCell_same _ _ _ _ _ _ hb2]
    rfl
  · have h := own.kept (grown_set (grown_refl u2 (some B)) 1 (.slice A2 k2 c2)) (own_ne own (by omega))
    simpa using h
  · exact ((below.alloc below.size o).grown g (by have := below.size; simp; omega) (fun b e => by have := hle b e; omega)).setCell lo _

theorem UnI.blk2 {u u2 : World} {B : Nat} {doc : Int} {zs : List Int} {A : Option Addr} {k c : Nat} {o : Obj}
    (hb : u.heap[B]? = some (.cells #[.int .i64 doc, .slice A k c] 40 (0, 0))) (ho : u.ownsRow (B + 1) 3 1 (.slice A k c) zs.length (zs.map iv)) (g : (u.alloc o).grownBy u2 (Value.slice A k c).ownBlock) :
    u2.heap[B]? = some (.cells #[.int .i64 doc, .slice A k c] 40 (0, 0)) := by
  have hBu := blk_lt hb
  exact (g.block B (by simp; omega) (fun e => by have := (ho.lt B e.symm).1; omega)).trans ((Below.heap_alloc u o B hBu).trans hb)
theorem UnI.cell2 {u u2 : World} {B : Nat} {doc : Int} {zs : List Int} {A : Option Addr} {k c : Nat} {o : Obj}
    (hb : u.heap[B]? = some (.cells #[.int .i64 doc, .slice A k c] 40 (0, 0))) (ho : u.ownsRow (B + 1) 3 1 (.slice A k c) zs.length (zs.map iv)) (g : (u.alloc o).grownBy u2 (Value.slice A k c).ownBlock) :
    u2.cell? ⟨B, 1, none⟩ = some (.slice A k c) := by
  rw [Lib.cell_of_heap (UnI.blk2 hb ho g)]
  rfl

set_option maxHeartbeats 4000000 in
theorem union1_c (w0 : World) (B : Nat) (doc : Int) (zs : List Int) (x y : Option Int) (px py : Value) (z : Int) (u : World) (h : UnI w0 B doc zs u) (hx : See u x px) (hy : See u y py) (hz : Po.uf x y = some z) (hl : zs.length ≤ 4398046511104) :
    Calls Try.prog 51 #[px, py, .pointer (some ⟨B, 0, none⟩)] u fun e u' => e = .returned (.tuple #[]) ∧ UnI w0 B doc (zs ++ [z]) u' := by
  obtain ⟨i0, hi, hz0, hz1, hz2⟩ := info_parts infoInt
  obtain ⟨⟨A, k, c, hb, ho⟩, hbe, hlo⟩ := h
  have f1 : u.frozen? ⟨B, 1, none⟩ = false := Lib.frozen_of_heap hb 1
  have c1 : u.cell? ⟨B, 1, none⟩ = some (.slice A k c) := by rw [Lib.cell_of_heap hb]; rfl
  have hBu := blk_lt hb
  have HB := Lib.hid hb; clear hb
  have HO := Lib.hid ho; clear ho
  cases x with
  | none =>
    obtain rfl : y = some z := by simpa [Po.uf] using hz
    obtain ⟨b, o, rfl, cz⟩ := hy
    obtain rfl : px = .pointer none := hx
    clear hz
    go_enter Try.func51, Try.ntmps51
    go_wp2_with fail
    have hod : u.drew.ownsRow (B + 1) 3 1 (.slice A k c) zs.length (zs.map iv) := HO.out
    have hbe' : Below w0.heap.size w0 u.drew := hbe.drew
    have hbd : u.drew.heap[B]? = some (.cells #[.int .i64 doc, .slice A k c] 40 (0, 0)) := HB.out
    have HD := Lib.hid hod; clear hod
    have HBD := Lib.hid hbd; clear hbd
    have HE := Lib.hid hbe'; clear hbe'
    go_region_law ((refine step_append_own rfl (.tmp 9) (.tmp 13) 28 rfl (B + 1) 3 i0 (.int .i64 0) 1 8 Try.underlying28 hi hz0 hz1 hz2 rfl (by decide) (.slice A k c) zs.length (zs.map iv) (by simp [Act.eval]) (HD.out.alloc (.cells #[.int .i64 z] 3)) ⟨u.drew.heap.size, 0, none⟩ 1 1 [.int .i64 z] (by simp [Act.eval]) rfl (cell_one_new _ _ _) (by simp [Value.oneCell']) (by unfold maxLen; omega) (by omega) (by simp; omega) ?_; intro v' w' hown hg; obtain ⟨A2, k2, c2, rfl⟩ := own_slice hown; have hun := UnI.next (z := z) hlo HE.out HBD.out HD.out hown hg; have f2 := Lib.frozen_of_heap (UnI.blk2 HBD.out HD.out hg) 1; have d2 := UnI.cell2 HBD.out HD.out hg))
    all_goals (go_end0; exact ⟨rfl, hun⟩)
  | some x =>
    obtain rfl : x = z := by simpa [Po.uf] using hz
    obtain ⟨b, o, rfl, cz⟩ := hx
    clear hz hy
    go_enter Try.func51, Try.ntmps51
    go_wp2_with fail
    have hod : u.drew.ownsRow (B + 1) 3 1 (.slice A k c) zs.length (zs.map iv) := HO.out
    have hbe' : Below w0.heap.size w0 u.drew := hbe.drew
    have hbd : u.drew.heap[B]? = some (.cells #[.int .i64 doc, .slice A k c] 40 (0, 0)) := HB.out
    have HD := Lib.hid hod; clear hod
    have HBD := Lib.hid hbd; clear hbd
    have HE := Lib.hid hbe'; clear hbe'
    go_region_law ((refine step_append_own rfl (.tmp 9) (.tmp 13) 28 rfl (B + 1) 3 i0 (.int .i64 0) 1 8 Try.underlying28 hi hz0 hz1 hz2 rfl (by decide) (.slice A k c) zs.length (zs.map iv) (by simp [Act.eval]) (HD.out.alloc (.cells #[.int .i64 x] 3)) ⟨u.drew.heap.size, 0, none⟩ 1 1 [.int .i64 x] (by simp [Act.eval]) rfl (cell_one_new _ _ _) (by simp [Value.oneCell']) (by unfold maxLen; omega) (by omega) (by simp; omega) ?_; intro v' w' hown hg; obtain ⟨A2, k2, c2, rfl⟩ := own_slice hown; have hun := UnI.next (z := x) hlo HE.out HBD.out HD.out hown hg; have f2 := Lib.frozen_of_heap (UnI.blk2 HBD.out HD.out hg) 1; have d2 := UnI.cell2 HBD.out HD.out hg))
    all_goals (go_end0; exact ⟨rfl, hun⟩)
end Go.Proofs.Ytijbkflbklbemaa
