/- SumOrder walked. -/
import Derived.Test.YtjijmgmobdoliaaGoesW
import Derived.Test.YtjijmgmobdoliaaOrderL
import Derived.Deep.CutRange
import Derived.Deep.CutBlock
namespace Go.Proofs.Ytjijmgmobdoliaa
open Go.RowKit

/-- a load of a row, guarded or not -/
theorem wpList_load_row {P : Program} {ops : Array Oper} {rest : List Oper} {op : Oper} {a : Act} {w : World} {Q : Exit → Act → World → Prop} (hw : Region.wanted op (yielded ops a.tmps) = true) (ty : TypeId) (x : Operand) (ho : op.op = .load ty x)
    (b o : Nat) (hx : a.eval x = .pointer (some ⟨b, o, none⟩)) (cs : List Value) (d : TypeDesc) (hc : w.rangeAt b o cs)
    (hu : P.underlying ty = some d) (hd : d.isRow = true) (hi : (P.info? ty).map (·.size) = some cs.length)
    (h : wpList P ops Q rest (a.put op.dst (.agg cs.toArray)) w) : wpList P ops Q (op :: rest) a w := by
  unfold wpList
  rw [if_pos hw]
  exact .inl (wp_load_mid ty x ho b o hx cs d hc hu hd hi h)
def Dg (u : World) (b : Nat) (l : List Nat) : Prop := u.heap[b]? = some (.cells (l.map yv).toArray 23 (0, 0))
theorem Dg.step {u u' : World} {b : Nat} {l : List Nat} (h : Dg u b l) (k : Below u.heap.size u u') : Dg u' b l := (k.block b (blk_lt h)).trans h
def Tri (w : World) (a b c : List Nat) (u : World) : Prop := Dg u w.heap.size a ∧ Dg u (w.heap.size + 1) b ∧ Dg u (w.heap.size + 2) c ∧ Below w.heap.size w u
theorem Tri.step {w : World} {a b c : List Nat} {u u' : World} (h : Tri w a b c u) (k : Below u.heap.size u u') : Tri w a b c u' := ⟨h.1.step k, h.2.1.step k, h.2.2.1.step k, chain h.2.2.2 k⟩
theorem Tri.below {w : World} {a b c : List Nat} {u : World} (h : Tri w a b c u) : Below w.heap.size w u := h.2.2.2
theorem three_boxes (w : World) (a b c : List Nat) (W : World) (hW : ((w.alloc (.cells (a.map yv).toArray 23)).alloc (.cells (b.map yv).toArray 23)).alloc (.cells (c.map yv).toArray 23) = W) : Tri w a b c W := by
  subst hW
  refine ⟨?_, ?_, ?_, (((Below.refl _ w).alloc (Nat.le_refl _) _).alloc (by simp) _).alloc (by simp; omega) _⟩
  · unfold Dg
    rw [Below.heap_alloc _ _ _ (by simp; omega), Below.heap_alloc _ _ _ (by simp)]
    exact heap_alloc_new w _
  · unfold Dg
    rw [Below.heap_alloc _ _ _ (by simp)]
    have := heap_alloc_new (w.alloc (.cells (a.map yv).toArray 23)) (.cells (b.map yv).toArray 23)
    simpa using this
  · unfold Dg
    have := heap_alloc_new ((w.alloc (.cells (a.map yv).toArray 23)).alloc (.cells (b.map yv).toArray 23)) (.cells (c.map yv).toArray 23)
    simpa using this
/-- a sixth block -/
def Pen (w : World) (a b c : List Nat) (D : Nat) (d : List Nat) (E : Nat) (e : List Nat) (u : World) : Prop := Tri w a b c u ∧ Dg u D d ∧ Dg u E e
theorem Pen.step {w : World} {a b c d e : List Nat} {D E : Nat} {u u' : World} (h : Pen w a b c D d E e u) (k : Below u.heap.size u u') : Pen w a b c D d E e u' := ⟨h.1.step k, h.2.1.step k, h.2.2.step k⟩
theorem neq_dig (x y : List Nat) (hx : x.length = 32) (hy : y.length = 32) (hxl : ∀ z ∈ x, z < 256) (hyl : ∀ z ∈ y, z < 256) (r : Bool) (hr : decide (x = y) = !r) (W : World) :
    (binOp .neq 23 (.agg (x.map yv).toArray) (.agg (y.map yv).toArray)).run Try.prog W = .ok (.bool r) W := by
  have h := eql_dig x y hx hy hxl hyl W
  rw [hr] at h
  simp only [binOp, Sem.run_bind] at h ⊢
  revert h
  cases hq : (Op.equal 23 (.agg (x.map yv).toArray) (.agg (y.map yv).toArray)).run Try.prog W with
  | ok v w1 =>
    intro h
    simp only [Result.andThen_ok, Sem.run_pure, Result.ok.injEq, Value.bool.injEq] at h ⊢
    refine ⟨?_, h.2⟩
    rw [h.1, Bool.not_not]
  | _ => intro h; cases h
theorem zero_dig : (Hx.rd []).2 = false := by
  unfold Hx.rd
  split
  · rename_i h
    have h1 := h.2.1
    rw [show Hx.unhex [] = ([], true) from by unfold Hx.unhex; rw [if_pos ⟨rfl, fun j hj => by simp at hj⟩]; rfl] at h1
    simp at h1
  · rfl
set_option maxHeartbeats 8000000 in
set_option maxRecDepth 100000 in
theorem sumOrder_yes (a b c : List Nat) (la : a.length = 32) (lb : b.length = 32) (lc : c.length = 32) (ha : ∀ x ∈ a, x < 256) (hb : ∀ x ∈ b, x < 256) (hc : ∀ x ∈ c, x < 256) (s : ByteArray) (hs : s.data.toList.length ≤ 140737488355328) (w : World) :
    Calls Try.prog 6 #[.agg (a.map yv).toArray, .agg (b.map yv).toArray, .agg (c.map yv).toArray, .string s] w fun e w' => e = .returned (.bool true) ∧ Below w.heap.size w w' := by
  have hiA : (Try.prog.info? 23).map (·.size) = some (a.map yv).length := by rw [List.length_map, la]; kernel_rfl
  have hiB : (Try.prog.info? 23).map (·.size) = some (b.map yv).length := by rw [List.length_map, lb]; kernel_rfl
  have hiC : (Try.prog.info? 23).map (·.size) = some (c.map yv).length := by rw [List.length_map, lc]; kernel_rfl
  have hiA2 : (Try.prog.info? 23).map (·.size) = some (a.map yv).toArray.size := by rw [List.size_toArray]; exact hiA
  have HIA := Lib.hid hiA
  have HIB := Lib.hid hiB
  have HIC := Lib.hid hiC
  have HIA2 := Lib.hid hiA2
  clear hiA hiB hiC hiA2
  have hxa := fun u => DigHex_c a u la ha
  have hra : ∀ u : World, Calls Try.prog 8 #[.string (bs (Hx.hex a))] u fun e w' => e = .returned (.tuple #[.agg (a.map yv).toArray, .bool true]) ∧ Below u.heap.size u w' := fun u => by
    have h := Read_c (bs (Hx.hex a)) u (by rw [bs_size, Hx.hex_len, la]; decide)
    rw [bs_data, Hx.rd_hex ha la] at h
    exact h
  have HXA := Lib.hid hxa
  have HRA := Lib.hid hra
  clear hxa hra
  have hla := bs_size (Hx.hex a)
  rw [Hx.hex_len, la] at hla
  replace hla : (bs (Hx.hex a)).size = 64 := hla
  go_enter Try.func6, Try.ntmps6
  go_wp2_with fail
  generalize hW : World.alloc (World.alloc (World.alloc w _) _) _ = W
  have h0 := three_boxes w a b c W hW
  clear hW
  refine (small_c W).mono ?_
  rintro e w1 ⟨rfl, k1⟩
  have T1 := Lib.hid (h0.step k1)
  clear h0 k1
  go_wp2_with (first
    | refine wpList_load_mid rfl 23 (.tmp 4) rfl w.heap.size 0 rfl (a.map yv) _ (range_of T1.out.1) Try.underlying23 rfl HIA.out ?_)
  refine (HXA.out w1).mono ?_
  rintro e w2 ⟨rfl, k2⟩
  have T2 := Lib.hid (T1.out.step k2)
  clear k2 T1
  go_wp2_with fail
  refine (HRA.out w2).mono ?_
  rintro e w3 ⟨rfl, k3⟩
  have T3 := Lib.hid (T2.out.step k3)
  have ST := Lib.hid (st_dig w3 a la)
  clear k3 T2
  go_wp2_with (first
    | (refine wpList_store_mid rfl 23 (.tmp 10) (.tmp 19) rfl w3.heap.size 0 (a.map yv).toArray rfl rfl ST.out.1 HIA2.out (all_oneY a) ?_
       generalize hV : World.setCells _ _ _ _ = V
       have h4 := ST.out.2 V hV
       clear hV))
  obtain ⟨h4, k4⟩ := h4
  have T4 := Lib.hid (T3.out.step k4)
  have D4 := Lib.hid (show Dg V w3.heap.size a from h4)
  clear h4 k4 T3 ST
  refine (Read_c s V hs).mono ?_
  rintro e w5 ⟨rfl, k5⟩
  have T5 := Lib.hid (T4.out.step k5)
  have D5 := Lib.hid (D4.out.step k5)
  clear T4 D4 k5
  obtain ⟨e, is, hrd⟩ : ∃ e is, Hx.rd s.data.toList = (e, is) := ⟨_, _, rfl⟩
  have he1 : e.length = 32 ∧ ∀ x ∈ e, x < 256 := by
    have h1 := Hx.rd_len s.data.toList
    cases is with
    | true =>
      have h2 := Hx.rd_true (l := s.data.toList) (by rw [hrd])
      rw [hrd] at h2
      exact h2.2
    | false =>
      have h2 := Hx.rd_false (l := s.data.toList) (by rw [hrd])
      rw [hrd] at h2
      simp only at h2
      subst h2
      exact ⟨by simp, fun x hx => by have := List.eq_of_mem_replicate hx; omega⟩
  have he2 : is = true → Hx.hex e = s.data.toList := fun h => by
    subst h
    have h2 := Hx.rd_true (l := s.data.toList) (by rw [hrd])
    rw [hrd] at h2
    exact h2.1
  have he3 : is = false → e = List.replicate 32 0 := fun h => by
    subst h
    have h2 := Hx.rd_false (l := s.data.toList) (by rw [hrd])
    rw [hrd] at h2
    exact h2
  rw [hrd]
  clear hrd
  have ST := Lib.hid (st_dig w5 e he1.1)
  have hiE : (Try.prog.info? 23).map (·.size) = some (e.map yv).length := by rw [List.length_map, he1.1]; kernel_rfl
  have hiE2 : (Try.prog.info? 23).map (·.size) = some (e.map yv).toArray.size := by rw [List.size_toArray]; exact hiE
  have HIE := Lib.hid hiE
  have HIE2 := Lib.hid hiE2
  clear hiE hiE2
  have hxe := fun u => DigHex_c e u he1.1 he1.2
  have HXE := Lib.hid hxe
  clear hxe
  have hna := fun u => neq_dig a a la la ha ha false (by simp) u
  have HE1 := Lib.hid he1
  have HE2 := Lib.hid he2
  have HE3 := Lib.hid he3
  clear he1 he2 he3
  go_upto_region 4 with (first
    | (refine wpList_store_mid rfl 23 (.tmp 12) (.tmp 24) rfl w5.heap.size 0 (e.map yv).toArray rfl rfl ST.out.1 HIE2.out (all_oneY e) ?_
       generalize hV : World.setCells _ _ _ _ = V6
       have h6 := ST.out.2 V6 hV
       clear hV
       replace T5 := Lib.hid (show Pen w a b c w3.heap.size a w5.heap.size e V6 from ⟨T5.out.step h6.2, D5.out.step h6.2, h6.1⟩)
       clear h6 D5 ST))
  go_cut [56] from 26 to 56 (fun v wc => v = .bool false ∧ Hid (Tri w a b c wc))
  case first =>
    cases is with
    | true =>
      have hse : ((bs (Hx.hex e)).toList == s.toList) = true := by rw [eq_bytes, bs_data, HE2.out rfl]; simp
      go_wp2_with (first
        | refine wpList_load_row (by rfl) 23 (.tmp 10) rfl (w3.heap.size) 0 rfl (a.map yv) _ (range_of T5.out.2.1) Try.underlying23 rfl HIA.out ?_
        | refine wpList_load_row (by rfl) 23 (.tmp 4) rfl (w.heap.size) 0 rfl (a.map yv) _ (range_of T5.out.1.1) Try.underlying23 rfl HIA.out ?_
        | refine wpList_load_row (by rfl) 23 (.tmp 12) rfl (w5.heap.size) 0 rfl (e.map yv) _ (range_of T5.out.2.2) Try.underlying23 rfl HIE.out ?_
        | (go_at_call 14; (with_reducible show Calls _ _ #[.agg (List.map yv a).toArray] _ _); refine (HXA.out _).mono ?_; rintro x u ⟨rfl, k⟩; replace T5 := Lib.hid (T5.out.step k); clear k)
        | (go_at_call 14; (with_reducible show Calls _ _ #[.agg (List.map yv e).toArray] _ _); refine (HXE.out _).mono ?_; rintro x u ⟨rfl, k⟩; replace T5 := Lib.hid (T5.out.step k); clear k))
      go_meet
      exact ⟨rfl, Lib.hid T5.out.1⟩
    | false =>
      have he := HE3.out rfl
      have hnz := fun u => neq_dig e (List.replicate 32 0) HE1.out.1 (by simp) HE1.out.2 (fun x hx => by have := List.eq_of_mem_replicate hx; omega) false (by simp [he]) u
      clear he
      have hnz2 : ∀ u, (binOp .neq 23 (.agg (e.map yv).toArray) (.agg #[.int .u8 0, .int .u8 0, .int .u8 0, .int .u8 0, .int .u8 0, .int .u8 0, .int .u8 0, .int .u8 0, .int .u8 0, .int .u8 0, .int .u8 0, .int .u8 0, .int .u8 0, .int .u8 0, .int .u8 0, .int .u8 0, .int .u8 0, .int .u8 0, .int .u8 0, .int .u8 0, .int .u8 0, .int .u8 0, .int .u8 0, .int .u8 0, .int .u8 0, .int .u8 0, .int .u8 0, .int .u8 0, .int .u8 0, .int .u8 0, .int .u8 0, .int .u8 0])).run Try.prog u = .ok (.bool false) u := hnz
      clear hnz
      go_wp2_with (first
        | refine wpList_load_row (by rfl) 23 (.tmp 10) rfl (w3.heap.size) 0 rfl (a.map yv) _ (range_of T5.out.2.1) Try.underlying23 rfl HIA.out ?_
        | refine wpList_load_row (by rfl) 23 (.tmp 4) rfl (w.heap.size) 0 rfl (a.map yv) _ (range_of T5.out.1.1) Try.underlying23 rfl HIA.out ?_
        | refine wpList_load_row (by rfl) 23 (.tmp 12) rfl (w5.heap.size) 0 rfl (e.map yv) _ (range_of T5.out.2.2) Try.underlying23 rfl HIE.out ?_
        | (go_at_call 14; (with_reducible show Calls _ _ #[.agg (List.map yv a).toArray] _ _); refine (HXA.out _).mono ?_; rintro x u ⟨rfl, k⟩; replace T5 := Lib.hid (T5.out.step k); clear k))
      go_meet
      exact ⟨rfl, Lib.hid T5.out.1⟩
  case rest =>
    obtain ⟨rfl, T7⟩ := hcut
    go_upto_region 6 with fail
    go_cut [97] from 57 to 97 (fun v wc => v = .bool false ∧ Hid (Tri w a b c wc))
    case first =>
      by_cases p : Hx.lt a b = true
      · have hlt2 := Hx.lt_asymm a b p
        by_cases q : Hx.lt b c = true
        · have hr := Hx.lt_trans a b c p q
          have ab := fun u => Less_c a b u la lb ha hb
          have bc := fun u => Less_c b c u lb lc hb hc
          have ac := fun u => Less_c a c u la lc ha hc
          have ba := fun u => Less_c b a u lb la hb ha
          rw [p] at ab
          rw [q] at bc
          rw [hr] at ac
          rw [hlt2] at ba
          have AB := Lib.hid ab
          have BC := Lib.hid bc
          have AC := Lib.hid ac
          have BA := Lib.hid ba
          clear ab bc ac ba p q hr hlt2
          go_wp2_with (first
            | refine wpList_load_row (by rfl) 23 (.tmp 4) rfl (w.heap.size) 0 rfl (a.map yv) _ (range_of T7.out.1) Try.underlying23 rfl HIA.out ?_
            | refine wpList_load_row (by rfl) 23 (.tmp 5) rfl (w.heap.size + 1) 0 rfl (b.map yv) _ (range_of T7.out.2.1) Try.underlying23 rfl HIB.out ?_
            | refine wpList_load_row (by rfl) 23 (.tmp 6) rfl (w.heap.size + 2) 0 rfl (c.map yv) _ (range_of T7.out.2.2.1) Try.underlying23 rfl HIC.out ?_
            | (go_at_call 16; (with_reducible show Calls _ _ #[.agg (List.map yv a).toArray, .agg (List.map yv b).toArray] _ _); refine (AB.out _).mono ?_; rintro x u ⟨rfl, k⟩; replace T7 := Lib.hid (T7.out.step k); clear k)
            | (go_at_call 16; (with_reducible show Calls _ _ #[.agg (List.map yv b).toArray, .agg (List.map yv c).toArray] _ _); refine (BC.out _).mono ?_; rintro x u ⟨rfl, k⟩; replace T7 := Lib.hid (T7.out.step k); clear k)
            | (go_at_call 16; (with_reducible show Calls _ _ #[.agg (List.map yv a).toArray, .agg (List.map yv c).toArray] _ _); refine (AC.out _).mono ?_; rintro x u ⟨rfl, k⟩; replace T7 := Lib.hid (T7.out.step k); clear k)
            | (go_at_call 16; (with_reducible show Calls _ _ #[.agg (List.map yv b).toArray, .agg (List.map yv a).toArray] _ _); refine (BA.out _).mono ?_; rintro x u ⟨rfl, k⟩; replace T7 := Lib.hid (T7.out.step k); clear k))
          go_meet
          exact ⟨rfl, T7⟩
        · have q' : Hx.lt b c = false := by simpa using q
          have ab := fun u => Less_c a b u la lb ha hb
          have bc := fun u => Less_c b c u lb lc hb hc
          have ba := fun u => Less_c b a u lb la hb ha
          rw [p] at ab
          rw [q'] at bc
          rw [hlt2] at ba
          have AB := Lib.hid ab
          have BC := Lib.hid bc
          have BA := Lib.hid ba
          clear ab bc ba p q q' hlt2
          go_wp2_with (first
            | refine wpList_load_row (by rfl) 23 (.tmp 4) rfl (w.heap.size) 0 rfl (a.map yv) _ (range_of T7.out.1) Try.underlying23 rfl HIA.out ?_
            | refine wpList_load_row (by rfl) 23 (.tmp 5) rfl (w.heap.size + 1) 0 rfl (b.map yv) _ (range_of T7.out.2.1) Try.underlying23 rfl HIB.out ?_
            | refine wpList_load_row (by rfl) 23 (.tmp 6) rfl (w.heap.size + 2) 0 rfl (c.map yv) _ (range_of T7.out.2.2.1) Try.underlying23 rfl HIC.out ?_
            | (go_at_call 16; (with_reducible show Calls _ _ #[.agg (List.map yv a).toArray, .agg (List.map yv b).toArray] _ _); refine (AB.out _).mono ?_; rintro x u ⟨rfl, k⟩; replace T7 := Lib.hid (T7.out.step k); clear k)
            | (go_at_call 16; (with_reducible show Calls _ _ #[.agg (List.map yv b).toArray, .agg (List.map yv c).toArray] _ _); refine (BC.out _).mono ?_; rintro x u ⟨rfl, k⟩; replace T7 := Lib.hid (T7.out.step k); clear k)
            | (go_at_call 16; (with_reducible show Calls _ _ #[.agg (List.map yv b).toArray, .agg (List.map yv a).toArray] _ _); refine (BA.out _).mono ?_; rintro x u ⟨rfl, k⟩; replace T7 := Lib.hid (T7.out.step k); clear k))
          go_meet
          exact ⟨rfl, T7⟩
      · have p' : Hx.lt a b = false := by simpa using p
        by_cases q : Hx.lt b a = true
        · have ab := fun u => Less_c a b u la lb ha hb
          have ba := fun u => Less_c b a u lb la hb ha
          rw [p'] at ab
          rw [q] at ba
          have AB := Lib.hid ab
          have BA := Lib.hid ba
          clear ab ba p p' q
          go_wp2_with (first
            | refine wpList_load_row (by rfl) 23 (.tmp 4) rfl (w.heap.size) 0 rfl (a.map yv) _ (range_of T7.out.1) Try.underlying23 rfl HIA.out ?_
            | refine wpList_load_row (by rfl) 23 (.tmp 5) rfl (w.heap.size + 1) 0 rfl (b.map yv) _ (range_of T7.out.2.1) Try.underlying23 rfl HIB.out ?_
            | refine wpList_load_row (by rfl) 23 (.tmp 6) rfl (w.heap.size + 2) 0 rfl (c.map yv) _ (range_of T7.out.2.2.1) Try.underlying23 rfl HIC.out ?_
            | (go_at_call 16; (with_reducible show Calls _ _ #[.agg (List.map yv a).toArray, .agg (List.map yv b).toArray] _ _); refine (AB.out _).mono ?_; rintro x u ⟨rfl, k⟩; replace T7 := Lib.hid (T7.out.step k); clear k)
            | (go_at_call 16; (with_reducible show Calls _ _ #[.agg (List.map yv b).toArray, .agg (List.map yv a).toArray] _ _); refine (BA.out _).mono ?_; rintro x u ⟨rfl, k⟩; replace T7 := Lib.hid (T7.out.step k); clear k))
          go_meet
          exact ⟨rfl, T7⟩
        · have q' : Hx.lt b a = false := by simpa using q
          have hab := Hx.lt_total a b (by rw [la, lb]) p' q'
          have hnab := fun u => neq_dig a b la lb ha hb false (by simp [hab]) u
          have ab := fun u => Less_c a b u la lb ha hb
          have ba := fun u => Less_c b a u lb la hb ha
          rw [p'] at ab
          rw [q'] at ba
          have AB := Lib.hid ab
          have BA := Lib.hid ba
          clear ab ba p p' q q' hab
          go_wp2_with (first
            | refine wpList_load_row (by rfl) 23 (.tmp 4) rfl (w.heap.size) 0 rfl (a.map yv) _ (range_of T7.out.1) Try.underlying23 rfl HIA.out ?_
            | refine wpList_load_row (by rfl) 23 (.tmp 5) rfl (w.heap.size + 1) 0 rfl (b.map yv) _ (range_of T7.out.2.1) Try.underlying23 rfl HIB.out ?_
            | refine wpList_load_row (by rfl) 23 (.tmp 6) rfl (w.heap.size + 2) 0 rfl (c.map yv) _ (range_of T7.out.2.2.1) Try.underlying23 rfl HIC.out ?_
            | (go_at_call 16; (with_reducible show Calls _ _ #[.agg (List.map yv a).toArray, .agg (List.map yv b).toArray] _ _); refine (AB.out _).mono ?_; rintro x u ⟨rfl, k⟩; replace T7 := Lib.hid (T7.out.step k); clear k)
            | (go_at_call 16; (with_reducible show Calls _ _ #[.agg (List.map yv b).toArray, .agg (List.map yv a).toArray] _ _); refine (BA.out _).mono ?_; rintro x u ⟨rfl, k⟩; replace T7 := Lib.hid (T7.out.step k); clear k))
          go_meet
          exact ⟨rfl, T7⟩
    case rest =>
      obtain ⟨rfl, T7⟩ := hcut
      have hbl : Op.bytesLess (bs (Hx.hex a)).toList (bs (Hx.hex b)).toList = Hx.lt a b := by
        rw [Lib.toList_data, Lib.toList_data, bs_data, bs_data]
        exact Hx.lt_hex a b (by rw [la, lb]) ha hb
      have ab := fun u => Less_c a b u la lb ha hb
      have xb := fun u => DigHex_c b u lb hb
      have AB := Lib.hid ab
      have XA := HXA
      have XB := Lib.hid xb
      clear ab xb
      generalize Hx.lt a b = p at hbl AB
      have hpp : (p == p) = true := by simp
      go_upto_region 8 with fail
      have s0 := T7.out
      have s1 : Tri w a b c wc := s0
      refine wp_region_held_drew (S := Tri w a b c) (by kernel_rfl) (s1.step ⟨rfl, rfl, rfl, Nat.le_refl _, fun _ _ => rfl⟩) (fun _ => ?_)
      clear s0 s1
      refine take_at (i := 0) (d := (some 98)) (v := ?_) rfl rfl (by kernel_rfl) (by kernel_rfl) (by kernel_rfl) (fun _ _ _ h => h) (Or.inl ⟨by rfl, ?_⟩) (by assumption) ?_
      rotate_left
      · (intro u hSu; go_simp; with_reducible rfl)
      simp only [Act.put, List.setIfInBounds_toArray, List.set_cons_zero, List.set_cons_succ]
      refine take_at (i := 1) (d := (some 99)) (v := ?_) rfl rfl (by kernel_rfl) (by kernel_rfl) (by kernel_rfl) (fun _ _ _ h => h) (Or.inl ⟨by rfl, ?_⟩) (by assumption) ?_
      rotate_left
      · (intro u hSu; go_simp; with_reducible rfl)
      simp only [Act.put, List.setIfInBounds_toArray, List.set_cons_zero, List.set_cons_succ]
      refine take_load (i := 2) (d := (some 100)) 23 (.tmp 4) (w.heap.size) (a.map yv) _ rfl rfl rfl (by kernel_rfl) (by kernel_rfl) (by kernel_rfl) (fun _ _ _ h => h) (by rfl) rfl (fun _ h => range_of h.1) Try.underlying23 rfl HIA.out (by assumption) ?_
      simp only [Act.put, List.setIfInBounds_toArray, List.set_cons_zero, List.set_cons_succ]
      refine take_load (i := 3) (d := (some 101)) 23 (.tmp 5) (w.heap.size + 1) (b.map yv) _ rfl rfl rfl (by kernel_rfl) (by kernel_rfl) (by kernel_rfl) (fun _ _ _ h => h) (by rfl) rfl (fun _ h => range_of h.2.1) Try.underlying23 rfl HIB.out (by assumption) ?_
      simp only [Act.put, List.setIfInBounds_toArray, List.set_cons_zero, List.set_cons_succ]
      refine take_load (i := 5) (d := (some 103)) 23 (.tmp 4) (w.heap.size) (a.map yv) _ rfl rfl rfl (by kernel_rfl) (by kernel_rfl) (by kernel_rfl) (fun _ _ _ h => h) (by rfl) rfl (fun _ h => range_of h.1) Try.underlying23 rfl HIA.out (by assumption) ?_
      simp only [Act.put, List.setIfInBounds_toArray, List.set_cons_zero, List.set_cons_succ]
      refine take_load (i := 7) (d := (some 105)) 23 (.tmp 5) (w.heap.size + 1) (b.map yv) _ rfl rfl rfl (by kernel_rfl) (by kernel_rfl) (by kernel_rfl) (fun _ _ _ h => h) (by rfl) rfl (fun _ h => range_of h.2.1) Try.underlying23 rfl HIB.out (by assumption) ?_
      simp only [Act.put, List.setIfInBounds_toArray, List.set_cons_zero, List.set_cons_succ]
      refine wpAnyH_ready (rs := [4]) (by kernel_rfl) (by simp) ?_
      refine (AllReadyH.cons rfl (fun K hK => ?_) AllReadyH.nil)
      · go_simp
        refine (AB.out _).mono ?_
        rintro e u1 ⟨rfl, k1⟩
        have e1 := Tri.step (by assumption) k1
        clear k1
        go_wp2_with fail
        refine hK.out _ _ (by assumption) (fun _ => ?_)
        clear hK K
        try simp only [Act.put, List.setIfInBounds_toArray, List.set_cons_zero, List.set_cons_succ]
        refine wpAnyH_ready (rs := [6]) (by kernel_rfl) (by simp) ?_
        refine (AllReadyH.cons rfl (fun K hK => ?_) AllReadyH.nil)
        · go_simp
          refine (XA.out _).mono ?_
          rintro e u1 ⟨rfl, k1⟩
          have e1 := Tri.step (by assumption) k1
          clear k1
          go_wp2_with fail
          refine hK.out _ _ (by assumption) (fun _ => ?_)
          clear hK K
          try simp only [Act.put, List.setIfInBounds_toArray, List.set_cons_zero, List.set_cons_succ]
          refine wpAnyH_ready (rs := [8]) (by kernel_rfl) (by simp) ?_
          refine (AllReadyH.cons rfl (fun K hK => ?_) AllReadyH.nil)
          · go_simp
            refine (XB.out _).mono ?_
            rintro e u1 ⟨rfl, k1⟩
            have e1 := Tri.step (by assumption) k1
            clear k1
            go_wp2_with fail
            refine hK.out _ _ (by assumption) (fun _ => ?_)
            clear hK K
            try simp only [Act.put, List.setIfInBounds_toArray, List.set_cons_zero, List.set_cons_succ]
            refine take_at (i := 9) (d := (some 107)) (v := ?_) rfl rfl (by kernel_rfl) (by kernel_rfl) (by kernel_rfl) (fun _ _ _ h => h) (Or.inl ⟨by rfl, ?_⟩) (by assumption) ?_
            rotate_left
            · (intro u hSu; go_simp; with_reducible rfl)
            simp only [Act.put, List.setIfInBounds_toArray, List.set_cons_zero, List.set_cons_succ]
            refine take_at (i := 10) (d := (some 108)) (v := ?_) rfl rfl (by kernel_rfl) (by kernel_rfl) (by kernel_rfl) (fun _ _ _ h => h) (Or.inl ⟨by rfl, ?_⟩) (by assumption) ?_
            rotate_left
            · (intro u hSu; go_simp; with_reducible rfl)
            simp only [Act.put, List.setIfInBounds_toArray, List.set_cons_zero, List.set_cons_succ]
            refine take_at (i := 11) (d := (some 109)) (v := ?_) rfl rfl (by kernel_rfl) (by kernel_rfl) (by kernel_rfl) (fun _ _ _ h => h) (Or.inl ⟨by rfl, ?_⟩) (by assumption) ?_
            rotate_left
            · (intro u hSu; go_simp; with_reducible rfl)
            simp only [Act.put, List.setIfInBounds_toArray, List.set_cons_zero, List.set_cons_succ]
            refine take_at (i := 12) (d := (some 8)) (v := ?_) rfl rfl (by kernel_rfl) (by kernel_rfl) (by kernel_rfl) (fun _ _ _ h => h) (Or.inl ⟨by rfl, ?_⟩) (by assumption) ?_
            rotate_left
            · (intro u hSu; go_simp; with_reducible rfl)
            simp only [Act.put, List.setIfInBounds_toArray, List.set_cons_zero, List.set_cons_succ]
            refine wpAnyH_done (by kernel_rfl) ?_ _
            go_wp2_with fail
            go_ret
            exact ⟨rfl, Tri.below (by assumption)⟩
end Go.Proofs.Ytjijmgmobdoliaa
