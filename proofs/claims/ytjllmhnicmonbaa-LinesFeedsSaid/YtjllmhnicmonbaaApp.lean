/- A row of the call's own that another slice is appended to, nil or not, under a guard or not. -/
import Derived.Test.YtjllmhnicmonbaaEndsW
import Derived.Laws.OwnMore
import Derived.Deep.DeepMust
namespace Go.Proofs.Ytjllmhnicmonbaa
open Go Go.RowKit

section
variable {P : Program}
theorem run_append_none' (w : World) (base : Nat) (t ty e : TypeId) (i : TypeInfo) (size : Nat) (ht : P.underlying t = some (.slice e)) (hi : P.info? e = some i)
    (v : Value) (n : Nat) (xs : List Value) (hown : w.ownsRow base e size v n xs) (c : Nat) :
    (Builtin.append_ #[t, t] ty #[v, .slice none 0 c]).run P w = .ok v w := by
  rcases hown.2 with ⟨rfl, rfl⟩ | ⟨g, cap, cur, rfl, _, _, hnc, _⟩
  · simp [Builtin.append_, run_underlying ht, sizeOf, typeInfo, hi, Builtin.lenOf, Builtin.firstCells]
  · simp [Builtin.append_, run_underlying ht, sizeOf, typeInfo, hi, Builtin.lenOf, Builtin.firstCells, hnc, storeCells]
theorem run_append_seq (w : World) (base : Nat) (t ty e : TypeId) (i : TypeInfo) (z : Value) (bytes : Nat) (h1 : P.underlying t = some (.slice e)) (h2 : P.info? e = some i) (h3 : i.zero = some z) (h4 : i.size = 1) (h5 : i.bytes = bytes) (h6 : z.cells.size = 1)
    (v : Value) (n : Nat) (xs : List Value) (hown : w.ownsRow base e 1 v n xs) (y : Value) (news : List Value) (hy : Seq w y news) (h1c : ∀ u ∈ news, u.oneCell' = true)
    (b1 : n + news.length ≤ maxLen) (b2 : (n + news.length) * bytes ≤ 140737488355328) (hbase : base ≤ w.heap.size) :
    ∃ v' w', (Builtin.append_ #[t, t] ty #[v, y]).run P w = .ok v' w' ∧ w'.ownsRow base e 1 v' (n + news.length) (xs ++ news) ∧ w.grownBy w' v.ownBlock := by
  obtain ⟨A, cap, rfl, _, _, hd⟩ := hy
  have key : ∀ ad : Addr, A = some ad → (∀ j u, news[j]? = some u → w.cell? (ad.add j) = some u) → ∃ v' w', (Builtin.append_ #[t, t] ty #[v, .slice A news.length cap]).run P w = .ok v' w' ∧ w'.ownsRow base e 1 v' (n + news.length) (xs ++ news) ∧ w.grownBy w' v.ownBlock := fun ad hA hc => by
    subst hA
    obtain ⟨v', w', hrun, r1, r2, _⟩ := run_append_own (P := P) w base t ty e i z 1 bytes h1 h2 h3 h4 h5 h6 (by decide) v n xs hown ad news.length cap news (by simp) hc h1c b1 b2 hbase
    exact ⟨v', w', hrun, r1, r2⟩
  rcases hd with rfl | ⟨b, off, hA, hc⟩
  · cases A with
    | none => exact ⟨v, w, run_append_none' w base t ty e i 1 h1 h2 v n xs hown cap, by simpa using hown, World.grownBy.refl w _⟩
    | some ad => exact key ad rfl (fun j u hu => by simp at hu)
  · exact key _ hA (fun j u hu => by
      rw [show (⟨b, off, none⟩ : Addr).add j = ⟨b, off + j, none⟩ from by unfold Addr.add; split <;> simp_all]
      exact hc j u hu)
theorem wpList_append_seq {ops : Array Oper} {rest : List Oper} {o : Oper} {a : Act} {w : World} {Q : Exit → Act → World → Prop} (hw : Region.wanted o (yielded ops a.tmps) = true) (s x : Operand) (t : TypeId)
    (ho : o.op = .call { callee := .builtin .append, args := #[s, x], argTypes := #[t, t] })
    (base : Nat) (e : TypeId) (i : TypeInfo) (z : Value) (bytes : Nat) (h1 : P.underlying t = some (.slice e)) (h2 : P.info? e = some i) (h3 : i.zero = some z) (h4 : i.size = 1) (h5 : i.bytes = bytes) (h6 : z.cells.size = 1)
    (v : Value) (n : Nat) (xs : List Value) (hs : a.eval s = v) (hown : w.ownsRow base e 1 v n xs) (y : Value) (news : List Value) (hx : a.eval x = y) (hy : Seq w y news) (h1c : ∀ u ∈ news, u.oneCell' = true)
    (b1 : n + news.length ≤ maxLen) (b2 : (n + news.length) * bytes ≤ 140737488355328) (hbase : base ≤ w.heap.size)
    (h : ∀ v' w', w'.ownsRow base e 1 v' (n + news.length) (xs ++ news) → w.grownBy w' v.ownBlock → wpList P ops Q rest (a.put o.dst v') w') : wpList P ops Q (o :: rest) a w := by
  unfold wpList
  rw [if_pos hw]
  refine .inl ?_
  obtain ⟨v', w', hr, h7, h8⟩ := run_append_seq (P := P) w base t o.type e i z bytes h1 h2 h3 h4 h5 h6 v n xs hown y news hy h1c b1 b2 hbase
  unfold Oper.wp execOp
  simp only [ho, resolve, invoke, builtin, Sem.run_bind, Sem.run_pure, Result.andThen_ok, List.map_toArray, List.map_cons, List.map_nil, hs, hx, hr]
  exact h v' w' h7 h8
end
theorem byte_ten {c : UInt8} {r : Bool} (h : (c == 10) = r) : ((c.toNat : Int) == 10) = r := by
  rw [← h]
  by_cases e : c = 10
  · subst e; rfl
  · rw [beq_eq_false_iff_ne.2 e, beq_eq_false_iff_ne]
    exact fun e2 => e (UInt8.toNat.inj (by show c.toNat = 10; omega))
theorem sv_one (L : List (List UInt8)) : ∀ u ∈ L.map sv, u.oneCell' = true := by
  intro u hu
  obtain ⟨x, _, rfl⟩ := List.mem_map.1 hu
  rfl
/-- behind an append: what lay below the base lies as it lay -/
theorem own_grown {w u u2 : World} {B n s : Nat} {e : TypeId} {v : Value} {xs : List Value} (ho : u.ownsRow B e s v n xs) (g : u.grownBy u2 v.ownBlock) (hb : Below w.heap.size w u) (hB : w.heap.size ≤ B) : Below w.heap.size w u2 :=
  hb.grown g hb.size (fun b e => by have := (ho.lt b e).1; omega)
end Go.Proofs.Ytjllmhnicmonbaa
