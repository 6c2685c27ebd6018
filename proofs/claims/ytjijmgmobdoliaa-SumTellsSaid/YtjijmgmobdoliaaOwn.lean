/- Rows of a call's own: appends in regions that draw. -/
import Derived.Test.YtjijmgmobdoliaaOrderW
import Derived.Deep.RegionLaw
namespace Go.Proofs.Ytjijmgmobdoliaa
open Go.RowKit

theorem step_append_own {P : Program} {ops : Array Oper} {o : Oper} {a : Act} {w : World} {K : Act → World → Prop} {Q : Exit → Act → World → Prop} {E : Prop}
    (hg : o.guard = none) (s x : Operand) (t : TypeId) (hop : o.op = Op.call { callee := Callee.builtin Builtin.append, args := #[s, x], argTypes := #[t, t] })
    (base : Nat) (e : TypeId) (i : TypeInfo) (z : Value) (size bytes : Nat) (h1 : P.underlying t = some (.slice e)) (h2 : P.info? e = some i) (h3 : i.zero = some z) (h4 : i.size = size) (h5 : i.bytes = bytes) (h6 : z.cells.size = size) (h7 : 0 < size)
    (v : Value) (n : Nat) (xs : List Value) (hs : a.eval s = v) (hown : w.ownsRow base e size v n xs)
    (ad : Addr) (m c : Nat) (news : List Value) (hx : a.eval x = .slice (some ad) m c) (hn : news.length = m * size) (hc : ∀ j u, news[j]? = some u → w.cell? (ad.add j) = some u) (h1c : ∀ u ∈ news, u.oneCell' = true)
    (b1 : n + m ≤ maxLen) (b2 : (n + m) * bytes ≤ 140737488355328) (hbase : base ≤ w.heap.size)
    (hK : ∀ v' w', w'.ownsRow base e size v' (n + m) (xs ++ news) → w.grownBy w' v.ownBlock → K (a.put o.dst v') w') :
    if Region.wanted o (yielded ops a.tmps) = true then Oper.wp P o a w K Q else E := by
  have hw : Region.wanted o (yielded ops a.tmps) = true := by simp [Region.wanted, hg]
  rw [if_pos hw]
  obtain ⟨v', w', hrun, r1, r2, _⟩ := run_append_own (P := P) w base t o.type e i z size bytes h1 h2 h3 h4 h5 h6 h7 v n xs hown ad m c news hn hc h1c b1 b2 hbase
  unfold Oper.wp
  simp [execOp, hop, resolve, invoke, builtin, hs, hx, hrun, Result.andThen]
  exact hK v' w' r1 r2
theorem own_slice {w : World} {b n s : Nat} {e : TypeId} {v : Value} {xs : List Value} (h : w.ownsRow b e s v n xs) : ∃ A k c, v = .slice A k c := by
  rcases h.2 with ⟨rfl, _⟩ | ⟨g, cap, cur, rfl, _⟩
  · exact ⟨_, _, _, rfl⟩
  · exact ⟨_, _, _, rfl⟩
theorem own_succ {w : World} {B : Nat} {e : TypeId} {v : Value} {n : Nat} {xs : List Value} (h : w.ownsRow B e 1 v n xs) (hn : 0 < n) : ∃ g cap, v = .slice (some ⟨g, 0, none⟩) n cap ∧ B ≤ g ∧ g < w.heap.size ∧ n ≤ cap ∧ cap ≤ maxLen := by
  rcases h.2 with ⟨_, h0⟩ | ⟨g, cap, cur, hv, hb, hg, h1, h2, _⟩
  · omega
  · exact ⟨g, cap, hv, hb, blk_lt hg, h1, h2⟩
theorem back_own {w : World} {B g cap n : Nat} {l : List UInt8} {xs : List Value} (h : w.ownsRow B 5 1 (.slice (some ⟨g, 0, none⟩) n cap) n xs) (hx : xs = Lib.byteCells l) :
    (convert 36 9 (.slice (some ⟨g, 0, none⟩) n cap)).run Try.prog w = .ok (.string (bs l)) w := by
  subst hx
  have hl : n = l.length := by have := h.1; simp [Lib.byteCells_length] at this; omega
  subst hl
  exact run_convert_bytes_back w 36 9 5 ⟨g, 0, none⟩ cap l Try.underlying36 Try.underlying5 Try.underlying9 (fun j hj => h.cells (g := g) rfl j _ (by simp [Lib.byteCells, hj]))
theorem cell_two_new (w : World) (x y : Value) (t : TypeId) : ∀ j u, [x, y][j]? = some u → (w.alloc (.cells #[x, y] t)).cell? ((⟨w.heap.size, 0, none⟩ : Addr).add j) = some u := by
  intro j u hj
  have hh := heap_alloc_new w (.cells #[x, y] t)
  match j, hj with
  | 0, hj => simp at hj; subst hj; simp [Addr.add, Lib.cell_of_heap hh]
  | 1, hj => simp at hj; subst hj; simp [Addr.add, Lib.cell_of_heap hh]
/-- the row keeps when its block is untouched -/
theorem own_below {w w' : World} {B n s : Nat} {e : TypeId} {v : Value} {xs : List Value} (h : w.ownsRow B e s v n xs) (k : Below w.heap.size w w') : w'.ownsRow B e s v n xs := by
  refine ⟨h.1, ?_⟩
  rcases h.2 with h2 | ⟨g, cap, cur, hv, hb, hg, r⟩
  · exact .inl h2
  · exact .inr ⟨g, cap, cur, hv, hb, (k.block g (blk_lt hg)).trans hg, r⟩
theorem cells_two (acc : List UInt8) (m n : Nat) (hm : m < 256) (hn : n < 256) : Lib.byteCells acc ++ [Value.int .u8 (m : Int), Value.int .u8 (n : Int)] = Lib.byteCells (acc ++ [UInt8.ofNat m] ++ [UInt8.ofNat n]) := by
  rw [← cells_snoc _ _ hn, ← cells_snoc _ _ hm, List.append_assoc]
  rfl
/-- behind an append: the row's own block has grown, all below the base lies as it lay -/
theorem own_grown {w u u2 : World} {B n : Nat} {e : TypeId} {v : Value} {xs : List Value} {o : Obj} (ho : u.ownsRow B e 1 v n xs) (g : (u.alloc o).grownBy u2 v.ownBlock) (hb : Below w.heap.size w u) (hB : w.heap.size ≤ B) : Below w.heap.size w u2 :=
  (hb.alloc hb.size o).grown g (by have := hb.size; simp; omega) (fun b e => by have := (ho.lt b e).1; omega)
theorem dg_grown {u u2 : World} {B n b : Nat} {e : TypeId} {v : Value} {xs : List Value} {o : Obj} {l : List Nat} (ho : u.ownsRow B e 1 v n xs) (g : (u.alloc o).grownBy u2 v.ownBlock) (hd : Dg u b l) (hb : b < B) : Dg u2 b l :=
  (g.block b (by have := blk_lt hd; simp; omega) (fun e => by have := (ho.lt b e.symm).1; omega)).trans ((Below.heap_alloc u o b (blk_lt hd)).trans hd)
theorem infoWordM : (Try.prog.info? 27).map (fun i => (i.zero, i.size, i.bytes)) = some (some (.int .u32 0), 1, 4) := by kernel_rfl

set_option maxHeartbeats 8000000 in
theorem RHex_c (l : List Nat) (w : World) (hl : l.length = 32) (hlt : ∀ x ∈ l, x < 256) :
    Calls Try.prog 15 #[.agg (l.map yv).toArray] w fun e w' => e = .returned (.string (bs (Hx.hex l))) ∧ Below w.heap.size w w' := by
  obtain ⟨i0, hi, hz0, hz1, hz2⟩ := info_parts infoByteM
  have HL := Lib.hid hl
  have HLT := Lib.hid hlt
  clear hl hlt
  go_enter Try.func15, Try.ntmps15
  go_wp2_with fail
  have hst : Dg (w.alloc (.cells (l.map yv).toArray 23)) w.heap.size l := heap_alloc_new _ _
  have hbl : Below w.heap.size w (w.alloc (.cells (l.map yv).toArray 23)) := (Below.refl _ w).alloc (Nat.le_refl _) _
  have hsz : (w.alloc (.cells (l.map yv).toArray 23)).heap.size = w.heap.size + 1 := by simp
  generalize w.alloc (.cells (l.map yv).toArray 23) = W at hst hbl hsz ⊢
  have DS := Lib.hid hst
  have HB := Lib.hid hbl
  have HS := Lib.hid hsz.symm
  clear hst hbl hsz
  go_loopw [3, 4] (fun v iv wr => ∃ (k : Nat) (acc : List UInt8), k ≤ 32 ∧ iv = .int .i64 k ∧ wr.ownsRow (w.heap.size + 1) 5 1 v acc.length (Lib.byteCells acc) ∧ Hid (acc = Hx.hex (l.take k)) ∧ acc.length = 2 * k ∧ Hid (Dg wr w.heap.size l) ∧ Hid (Below w.heap.size w wr) ∧ w.heap.size + 1 ≤ wr.heap.size) (fun _ iv _ => (32 - intOf iv).toNat)
  case atStart => exact ⟨0, [], by omega, rfl, World.ownsRow_nil _ _ _ _, Lib.hid rfl, rfl, DS, HB, Nat.le_of_eq HS.out⟩
  case round =>
    clear DS HB HS
    obtain ⟨k, acc, hk, rfl, hown, HA, hal, DS, HB, hwz⟩ := hrel
    by_cases k32 : k < 32
    · obtain ⟨a, ha⟩ : ∃ a, l[k]? = some a := ⟨_, List.getElem?_eq_getElem (by rw [HL.out]; exact k32)⟩
      have ha256 : a < 256 := HLT.out a (List.mem_of_getElem? ha)
      have c1 : wr.cell? ⟨w.heap.size, k, none⟩ = some (.int .u8 a) := by
        rw [Lib.cell_of_heap DS.out, List.getElem?_toArray, List.getElem?_map, ha]
        rfl
      have hnx : Hx.hex (l.take (k + 1)) = acc ++ [UInt8.ofNat (Hx.dg (a / 16))] ++ [UInt8.ofNat (Hx.dg (a % 16))] := by
        rw [HA.out, List.take_add_one, ha]
        unfold Hx.hex
        rw [List.flatMap_append, List.append_assoc]
        rfl
      have HN := Lib.hid hnx
      have k0 : (0 : Int) ≤ (k : Int) := by omega
      have k1 : (k : Int) < 32 := by omega
      have a1 : (0 : Int) ≤ (a : Int) / 16 := by omega
      have a2 : (a : Int) / 16 < 16 := by omega
      have a3 : (0 : Int) ≤ (a : Int) % 16 := by omega
      have a4 : (a : Int) % 16 < 16 := by omega
      have w1 : IntKind.u8.wrap ((a : Int) / 16) = (a : Int) / 16 := by rw [IntKind.wrap_u8]; omega
      have tm : (a : Int).tmod 16 = (a : Int) % 16 := Int.tmod_eq_emod_of_nonneg (by omega)
      have w2 : IntKind.u8.wrap ((a : Int) % 16) = (a : Int) % 16 := by rw [IntKind.wrap_u8]; omega
      have t1 : ((a : Int) / 16).toNat = a / 16 := by omega
      have t2 : ((a : Int) % 16).toNat = a % 16 := by omega
      obtain ⟨A0, n0, c0, rfl⟩ := own_slice hown
      have hod : wr.drew.ownsRow (w.heap.size + 1) 5 1 (.slice A0 n0 c0) acc.length (Lib.byteCells acc) := hown
      have HD := Lib.hid hod
      clear hnx ha hod hown
      go_wp2_with fail
      have l1 := Hx.dg_lt (n := a / 16) (by omega)
      have l2 := Hx.dg_lt (n := a % 16) (by omega)
      have hq1 : a / 16 < 16 := by omega
      have hq2 : a % 16 < 16 := by omega
      have DSd := Lib.hid (show Dg wr.drew w.heap.size l from DS.out)
      have HBd := Lib.hid (HB.out.drew)
      go_region_law ((refine step_append_own rfl (.tmp 9) (.tmp 20) 36 rfl (w.heap.size + 1) 5 i0 (.int .u8 0) 1 1 Try.underlying36 hi hz0 hz1 hz2 rfl (by decide) (.slice A0 n0 c0) acc.length (Lib.byteCells acc) (by simp [Act.eval]) (HD.out.alloc _) ⟨wr.drew.heap.size, 0, none⟩ 2 2 _ (by simp [Act.eval]) rfl (cell_two_new _ _ _ _) (by simp [Value.oneCell']) (by unfold maxLen; omega) (by omega) (by simp; omega) ?_; intro v' w' hown' hg; obtain ⟨A2, k2, c2, rfl⟩ := own_slice hown'; have E2 := Lib.hid (own_grown HD.out hg HBd.out (by omega)); have F2 := Lib.hid (dg_grown HD.out hg DSd.out (by omega)); have z2 := hg.size; rw [digit_at _ hq1, digit_at _ hq2, Vi.ofNat_toNat l1, Vi.ofNat_toNat l2, cells_two _ _ _ l1 l2, ← HN.out] at hown'; have H2 := Lib.hid hown'; clear hown' hg))
      all_goals go_wp2_with fail
      all_goals go_roundw
      all_goals first
        | (simp [intOf]; omega)
        | (have h3 := H2.out
           have hl2 : (Hx.hex (l.take (k + 1))).length = 2 * (k + 1) := by rw [HN.out]; simp; omega
           rw [show acc.length + 2 = (Hx.hex (l.take (k + 1))).length from by rw [hl2, hal]; omega] at h3
           exact ⟨k + 1, _, by omega, by go_num, h3, Lib.hid rfl, hl2, F2, E2, by have := z2; simp at this; omega⟩)
    · obtain rfl : k = 32 := by omega
      have hacc : acc = Hx.hex l := by rw [HA.out, List.take_of_length_le (by rw [HL.out]; exact Nat.le_refl _)]
      rw [hacc] at hown
      obtain ⟨g, cap, rfl, _⟩ := own_succ hown (by rw [← hacc, hal]; decide)
      have hcv := back_own hown rfl
      clear hown hacc HA
      go_wp2_with fail
      go_ret
      exact ⟨rfl, HB.out⟩
end Go.Proofs.Ytjijmgmobdoliaa
