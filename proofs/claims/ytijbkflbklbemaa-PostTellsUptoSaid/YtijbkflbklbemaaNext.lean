/- Walks: Next. -/
import Derived.Test.YtijbkflbklbemaaDecW
import Derived.Test.YtijbkflbklbemaaBothN
namespace Go.Proofs.Ytijbkflbklbemaa
open Go.RowKit

theorem find_c (va : Value) (xs : List Int) (z : Int) (w : World) (ha : Seq w va (xs.map iv)) (hs : Po.Srt id xs) (hx : xs ≠ []) (hl : xs.length ≤ 2199023255552) :
    Calls Try.prog 32 #[va, .int .i64 z] w fun e w' => ∃ i : Nat, e = .returned (.tuple #[.int .i64 i, .bool (xs.contains z)]) ∧ ∃ q, w' = w.drewN q := by
  obtain ⟨A, ca, rfl, hca, hma, ha⟩ := ha
  obtain ⟨b, o, rfl, hc⟩ := ha.resolve_left (by simpa using hx)
  rw [List.length_map]
  refine (Try.slices_BinarySearch_int b o xs.length ca xs z w (Nat.le_refl _) (by omega) (fun j hj => hc j _ (by rw [List.getElem?_map, List.getElem?_eq_getElem hj]; simp [iv, List.getD, hj])) (by rw [List.take_length]; exact List.Pairwise.imp (fun h => Int.le_of_lt h) hs)).mono ?_
  rintro e w' ⟨rfl, q, rfl⟩
  rw [List.take_length]
  exact ⟨_, rfl, q, rfl⟩
/-- the loop of Next: the posting lies behind u -/
structure NxI (u : World) (d : Int) (wq : World) (A : Option Addr) (k c : Nat) (zs : List Int) : Prop where
  below : Below u.heap.size u wq
  blk : wq.heap[u.heap.size]? = some (.cells #[.int .i64 d, .slice A k c] 40 (0, 0))
  own : wq.ownsRow (u.heap.size + 1) 3 1 (.slice A k c) zs.length (zs.map iv)
theorem NxI.start (u : World) (d : Int) : NxI u d (u.alloc (.cells #[.int .i64 d, .slice none 0 0] 40)) none 0 0 [] :=
  ⟨(Below.refl _ _).alloc (Nat.le_refl _) _, heap_alloc_new _ _, World.ownsRow_nil _ _ _ _⟩
theorem NxI.drewN {u wq : World} {d : Int} {A : Option Addr} {k c : Nat} {zs : List Int} (h : NxI u d wq A k c zs) (n : Nat) : NxI u d (wq.drewN n) A k c zs :=
  ⟨h.below.trans ⟨rfl, rfl, rfl, Nat.le_refl _, fun _ _ => rfl⟩, h.blk, h.own⟩
theorem NxI.two {u wq w6 : World} {d : Int} {A : Option Addr} {k c : Nat} {zs : List Int} {o : Obj} (h : NxI u d wq A k c zs) (g : (wq.alloc o).grownBy w6 (Value.slice A k c).ownBlock) :
    w6.heap[u.heap.size]? = some (.cells #[.int .i64 d, .slice A k c] 40 (0, 0)) := by
  have hlt := blk_lt h.blk
  exact (g.block _ (by simp; omega) (fun e => by have := (h.own.lt _ e.symm).1; omega)).trans ((Below.heap_alloc wq o _ hlt).trans h.blk)
theorem NxI.push {u wq w6 : World} {d z : Int} {A A2 : Option Addr} {k c k2 c2 : Nat} {zs : List Int} {o : Obj} (h : NxI u d wq A k c zs) (g : (wq.alloc o).grownBy w6 (Value.slice A k c).ownBlock)
    (own : w6.ownsRow (u.heap.size + 1) 3 1 (.slice A2 k2 c2) (zs.length + 1) (zs.map iv ++ [iv z])) : NxI u d (w6.setCell ⟨u.heap.size, 1, none⟩ (.slice A2 k2 c2)) A2 k2 c2 (zs ++ [z]) := by
  have hle : ∀ x, (Value.slice A k c).ownBlock = some x → u.heap.size + 1 ≤ x := fun x e => (h.own.lt x e).1
  refine ⟨((h.below.alloc h.below.size o).grown g (by have := h.below.size; simp; omega) (fun x e => by have := hle x e; omega)).setCell (Nat.le_refl _) _, ?_, ?_⟩
  · rw [heap_setCell_same _ _ _ _ _ _ (h.two g)]
    rfl
  · have := own.kept (grown_set (grown_refl w6 (some u.heap.size)) 1 (.slice A2 k2 c2)) (own_ne own (by omega))
    simpa using this
theorem own_len {w : World} {b n : Nat} {e : TypeId} {s : Nat} {A : Option Addr} {k c : Nat} {xs : List Value} (h : w.ownsRow b e s (.slice A k c) n xs) : k = n := by
  rcases h.2 with ⟨h, h0⟩ | ⟨g, cap, cur, h, _⟩
  · injection h with _ h _; omega
  · injection h
theorem filter_take {l : List Int} {f : Int → Bool} {k : Nat} (hk : k < l.length) : (l.take (k + 1)).filter f = (l.take k).filter f ++ (if f l[k] then [l[k]] else []) := by
  rw [List.take_succ_eq_append_getElem hk, List.filter_append]
  congr 1
  simp [List.filter_cons]

set_option maxHeartbeats 8000000 in
theorem next1_c (w0 u : World) (B G : Nat) (gap : Int) (l : List Po.P) (x y : Option Po.P) (px py : Value) (h : OutI w0 B l u) (hx : SeeP u x px) (hy : SeeP u y py)
    (hG : w0.heap[G]? = some (.cells #[.int .i64 gap] 3 (0, 0))) (hg0 : -1000 ≤ gap) (hg1 : gap ≤ 1000)
    (fx : ∀ p, x = some p → Po.OkPl p.places) (fy : ∀ p, y = some p → Po.OkPl p.places) (hl : l.length ≤ 2199023255552) :
    Calls Try.prog 31 #[px, py, .pointer (some ⟨G, 0, none⟩), .pointer (some ⟨B, 0, none⟩)] u fun e u' => e = .returned (.tuple #[]) ∧ OutI w0 B (l ++ (Po.nextF gap x y).toList) u' := by
  obtain ⟨i0, hi, hz0, hz1, hz2⟩ := info_parts infoInt
  obtain ⟨j0, hj, hy0, hy1, hy2⟩ := info_parts infoP
  have H0 := Lib.hid h
  have hGu : u.heap[G]? = some (.cells #[.int .i64 gap] 3 (0, 0)) := (h.below.block G (blk_lt hG)).trans hG
  clear hG
  have cG : u.cell? ⟨G, 0, none⟩ = some (.int .i64 gap) := by rw [Lib.cell_of_heap hGu]; rfl
  clear hGu
  cases x with
  | none =>
    obtain rfl : px = .pointer none := hx
    go_enter Try.func31, Try.ntmps31
    cases y with
    | none =>
      obtain rfl : py = .pointer none := hy
      go_wp2_with fail
      (try simp only [Exit.inBlock, Exit.then]); refine bodyPost_ret (results_none rfl _ _ _) rfl ?_
      exact ⟨rfl, by simpa [Po.nextF] using H0.out⟩
    | some y =>
      obtain ⟨b, o, rfl, _⟩ := hy
      go_wp2_with fail
      (try simp only [Exit.inBlock, Exit.then]); refine bodyPost_ret (results_none rfl _ _ _) rfl ?_
      exact ⟨rfl, by simpa [Po.nextF] using H0.out⟩
  | some x =>
    obtain ⟨b1, o1, rfl, p1, P1, n1, m1, q1, s1⟩ := hx
    cases y with
    | none =>
      obtain rfl : py = .pointer none := hy
      clear s1
      go_enter Try.func31, Try.ntmps31
      go_wp2_with fail
      (try simp only [Exit.inBlock, Exit.then]); refine bodyPost_ret (results_none rfl _ _ _) rfl ?_
      exact ⟨rfl, by simpa [Po.nextF] using H0.out⟩
    | some y =>
      obtain ⟨b2, o2, rfl, p2, P2, n2, m2, q2, s2⟩ := hy
      have fx := fx x rfl
      have fy := fy y rfl
      have hlx := plen fx
      have hly := plen fy
      obtain ⟨P3, m3, he, hcp, hmx, hq⟩ := s2
      rw [List.length_map] at he hcp
      obtain ⟨bp, op, rfl, hc3⟩ := hq.resolve_left (by simpa using fy.ne)
      injection he with e1 e2 e3
      subst e1 e2 e3
      unfold maxLen at hmx
      have hFC : ∀ z v, Below u.heap.size u v → _ := fun z v hb => find_c (.slice P1 n1 m1) x.places z v (s1.keep hb.block) fx.srt fx.ne (by omega)
      have HFC := Lib.hid hFC; clear hFC s1
      have HC3 := Lib.hid hc3; clear hc3 hq
      have hb1 := World.block_lt_of_cell? _ _ p1
      have hb2 := World.block_lt_of_cell? _ _ p2
      have hbG := World.block_lt_of_cell? _ _ cG
      have hFY := fy.rng
      unfold Po.most at hFY
      have HFY := Lib.hid hFY; clear hFY fx
      have HFY2 := Lib.hid fy; clear fy
      go_enter Try.func31, Try.ntmps31
      go_wp2_with fail
      have hI := NxI.start u y.doc
      have HI := Lib.hid hI; clear hI
      go_loopw [27] (fun i wq => ∃ (j : Nat) (A : Option Addr) (k c : Nat), j ≤ y.places.length ∧ i = .int .i64 j ∧ Hid (NxI u y.doc wq A k c ((y.places.take j).filter (fun n => x.places.contains (n - gap))))) (fun i _ => y.places.length - (intOf i).toNat)
      case atStart => exact ⟨0, none, 0, 0, by omega, rfl, HI⟩
      case round =>
        obtain ⟨j, A, k, c, hjl, rfl, HJ⟩ := hrel
        clear HI
        have hbe := HJ.out.below
        by_cases j1 : j < y.places.length
        · have hcz := cell_keep hbe.block (HC3.out j (iv y.places[j]) (by simp [j1]))
          unfold iv at hcz
          have d1 := cell_keep hbe.block q1
          have dG := cell_keep hbe.block cG
          have i2 : (0 : Int) ≤ (j : Int) := by omega
          have i3 : (j : Int) < (y.places.length : Int) := by omega
          have hz := HFY.out y.places[j] (by simp)
          have hft := filter_take (f := fun n => x.places.contains (n - gap)) j1
          generalize y.places[j] = z at hcz hz hft
          obtain ⟨z0, z1⟩ := hz
          have hfc := HFC.out (z - gap) wr.drew (hbe.trans ⟨rfl, rfl, rfl, Nat.le_refl _, fun _ _ => rfl⟩)
          have hsz : u.heap.size + 1 ≤ wr.heap.size := blk_lt HJ.out.blk
          have hw : IntKind.i64.wrap (z - gap) = z - gap := by rw [IntKind.wrap_i64]; omega
          have HW := Lib.hid hw; clear hw
          cases hf : x.places.contains (z - gap) with
          | false =>
            rw [hf] at hfc hft
            have HCC := Lib.hid hfc; clear hfc hf
            have HFT := Lib.hid hft; clear hft
            go_wp2_with fail
            go_region_held3 (fun v => v.cell? ⟨b1, o1 + 1, none⟩ = some (.slice P1 n1 m1) ∧ v.cell? ⟨G, 0, none⟩ = some (.int .i64 gap)) (first | exact ⟨d1, dG⟩ | exact e1) ((first | (go_at_call 32; rw [HW.out]; refine HCC.out.mono ?_; rintro e w5 ⟨i5, rfl, q5, rfl⟩; have e1 := And.intro (show (World.drewN _ q5).cell? _ = _ from d1) (show (World.drewN _ q5).cell? _ = _ from dG))))
            all_goals go_wp2_with fail
            go_roundw
            case rel => exact ⟨j + 1, A, k, c, by omega, by go_num, Lib.hid (by rw [HFT.out]; simpa using HJ.out.drewN (1 + q5))⟩
            case measure => simp [intOf] <;> omega
          | true =>
            rw [hf] at hfc hft
            have HCC := Lib.hid hfc; clear hfc hf
            have HFT := Lib.hid hft; clear hft
            go_wp2_with fail
            go_region_held3 (fun v => v.cell? ⟨b1, o1 + 1, none⟩ = some (.slice P1 n1 m1) ∧ v.cell? ⟨G, 0, none⟩ = some (.int .i64 gap)) (first | exact ⟨d1, dG⟩ | exact e1) ((first | (go_at_call 32; rw [HW.out]; refine HCC.out.mono ?_; rintro e w5 ⟨i5, rfl, q5, rfl⟩; have e1 := And.intro (show (World.drewN _ q5).cell? _ = _ from d1) (show (World.drewN _ q5).cell? _ = _ from dG))))
            clear e1
            have hJ6 := HJ.out.drewN (1 + q5)
            have c61 : (wr.drewN (1 + q5)).cell? ⟨u.heap.size, 1, none⟩ = some (.slice A k c) := by rw [Lib.cell_of_heap hJ6.blk]; rfl
            have HJ6 := Lib.hid hJ6; clear hJ6
            have hzl : ((y.places.take j).filter (fun n => x.places.contains (n - gap))).length ≤ 1099511627777 := Nat.le_trans (List.length_filter_le _ _) (by rw [List.length_take]; omega)
            generalize (y.places.take j).filter (fun n => x.places.contains (n - gap)) = zs at *
            have hsz6 : u.heap.size + 1 ≤ (wr.drewN (1 + q5)).heap.size := hsz
            go_wp2_with (at_builtin; refine wpList_append_own _ rfl _ _ 28 rfl (u.heap.size + 1) 3 i0 _ 1 8 Try.underlying28 hi hz0 hz1 hz2 rfl (by decide) _ _ _ rfl (HJ6.out.own.alloc _) ⟨wr.heap.size, 0, none⟩ 1 1 [.int .i64 z] rfl rfl (cell_one_new _ _ _) (by simp [Value.oneCell']) (by unfold maxLen; omega) (by omega) (by simp; omega) ?_; intro v' w8 hown8 hg8 _; obtain ⟨A2, k2, c2, rfl⟩ := own_slice hown8; have f8 := Lib.frozen_of_heap (HJ6.out.two hg8) 1; have d8 : w8.cell? ⟨u.heap.size, 1, none⟩ = some (.slice A k c) := (by rw [Lib.cell_of_heap (HJ6.out.two hg8)]; rfl))
            go_roundw
            case rel => exact ⟨j + 1, A2, k2, c2, by omega, by go_num, Lib.hid (by rw [HFT.out]; simpa using HJ6.out.push hg8 hown8)⟩
            case measure => simp [intOf] <;> omega
        · have hd : y.places.take j = y.places := List.take_of_length_le (by omega)
          rw [hd] at HJ
          clear hd
          have hzl : (y.places.filter (fun n => x.places.contains (n - gap))).length ≤ 1099511627777 := Nat.le_trans (List.length_filter_le _ _) (by omega)
          have hnf : (Po.nextF gap (some x) (some y)) = if (y.places.filter (fun n => x.places.contains (n - gap))).isEmpty then none else some ⟨y.doc, y.places.filter (fun n => x.places.contains (n - gap))⟩ := rfl
          have HNF := Lib.hid hnf; clear hnf
          generalize y.places.filter (fun n => x.places.contains (n - gap)) = zs at *
          obtain rfl := own_len HJ.out.own
          have cT0 : wr.cell? ⟨u.heap.size, 0, none⟩ = some (.int .i64 y.doc) := by rw [Lib.cell_of_heap HJ.out.blk]; rfl
          have cT1 : wr.cell? ⟨u.heap.size, 1, none⟩ = some (.slice A zs.length c) := by rw [Lib.cell_of_heap HJ.out.blk]; rfl
          by_cases hz : zs = []
          · have hO : OutI w0 B (l ++ (Po.nextF gap (some x) (some y)).toList) wr := by
              rw [HNF.out, hz]
              simpa using H0.out.keep hbe
            subst hz
            rw [List.length_nil] at cT1
            have HOO := Lib.hid hO; clear hO
            clear h hzl
            go_wp2_with fail
            go_end0
            exact ⟨rfl, HOO.out⟩
          · have hzp : 0 < zs.length := List.length_pos_iff.2 hz
            have hzi : (0 : Int) < (zs.length : Int) := by omega
            have hnx : Po.nextF gap (some x) (some y) = some ⟨y.doc, zs⟩ := by rw [HNF.out, if_neg (by simpa using hz)]
            have HNX := Lib.hid hnx; clear hnx hz HNF
            obtain ⟨⟨v, vs, rfl, hB, hr⟩, hbw, hlo⟩ := id h
            rw [List.length_map] at hl
            clear h
            obtain ⟨A0, k0, c0, rfl⟩ := own_slice hr.own
            have hBr := (hbe.block B (blk_lt hB)).trans hB
            have cB : wr.cell? ⟨B, 0, none⟩ = some (.slice A0 k0 c0) := by rw [Lib.cell_of_heap hBr]; rfl
            have hsz : u.heap.size + 1 ≤ wr.heap.size := blk_lt HJ.out.blk
            have hBu := blk_lt hB
            have hp : PV wr u.heap.size (⟨y.doc, zs⟩, .slice A zs.length c) := own_base HJ.out.own (by omega)
            have HB := Lib.hid hB; clear hB
            have HR := Lib.hid hr; clear hr
            have HPV := Lib.hid hp; clear hp
            have HE := Lib.hid hbw; clear hbw hBr
            go_wp2_with (at_builtin; refine wpList_append_own _ rfl _ _ 22 rfl (B + 1) 40 j0 _ 2 32 Try.underlying22 hj hy0 hy1 hy2 rfl (by decide) _ _ _ rfl ((HR.out.below hbe).own.alloc _) ⟨wr.heap.size, 0, none⟩ 1 1 [.int .i64 y.doc, .slice A zs.length c] rfl rfl (cell_two_new _ _ _ _) (by simp [Value.oneCell']) (by unfold maxLen; omega) (by omega) (by simp; omega) ?_; intro v' w9 hown9 hg9 _; obtain ⟨A2, k2, c2, rfl⟩ := own_slice hown9; have f9 := Lib.frozen_of_heap (OutI.blk2 HB.out HR.out hbe hg9) 0; have d9 : w9.cell? ⟨B, 0, none⟩ = some (.slice A0 k0 c0) := (by rw [Lib.cell_of_heap (OutI.blk2 HB.out HR.out hbe hg9)]; rfl))
            go_end0
            rw [HNX.out]
            exact ⟨rfl, OutI.next (p := ⟨y.doc, zs⟩) (s := .slice A zs.length c) hlo HE.out HB.out HR.out hbe HPV.out hown9 hg9⟩

theorem outI_start2 (w : World) (o : Obj) : OutI (w.alloc o) (w.heap.size + 1) [] ((w.alloc o).alloc (.cells #[.slice none 0 0] 22)) := by
  have := outI_start (w.alloc o)
  simpa using this
theorem okSz {l : List Po.P} (h : Po.Ok l) : Sz l := by
  refine ⟨?_, fun p hp => ⟨(h.pl p hp).ne, by have := plen (h.pl p hp); omega⟩⟩
  have := srt_len (l.map Po.P.doc) 1 Po.most (List.pairwise_map.2 h.srt) (fun n hn => by obtain ⟨p, hp, rfl⟩ := List.mem_map.1 hn; exact h.rng p hp)
  rw [List.length_map] at this
  unfold Po.most at this
  omega
theorem Next_c (va vb : Value) (xs ys : List Po.P) (gap : Int) (w : World) (ha : SeqP w va xs) (hb : SeqP w vb ys) (hx : Po.Ok xs) (hy : Po.Ok ys) (hg0 : -1000 ≤ gap) (hg1 : gap ≤ 1000) :
    Calls Try.prog 16 #[va, vb, .int .i64 gap] w fun e w' => ∃ v, e = .returned v ∧ SeqP w' v (Po.nextL gap xs ys) ∧ Below w.heap.size w w' := by
  have hG := heap_alloc_new w (.cells #[.int .i64 gap] 3)
  have hbl : Below w.heap.size w (w.alloc (.cells #[.int .i64 gap] 3)) := (Below.refl _ _).alloc (Nat.le_refl _) _
  have hin := docs_c va vb (.func (.func 31) #[] #[.pointer (some ⟨w.heap.size, 0, none⟩), .pointer (some ⟨w.heap.size + 1, 0, none⟩)]) ((w.alloc (.cells #[.int .i64 gap] 3)).alloc (.cells #[.slice none 0 0] 22)) _
    (bothNext_c va vb xs ys (.pointer (some ⟨w.heap.size, 0, none⟩)) (.pointer (some ⟨w.heap.size + 1, 0, none⟩)) (w.alloc (.cells #[.int .i64 gap] 3)) ((w.alloc (.cells #[.int .i64 gap] 3)).alloc (.cells #[.slice none 0 0] 22)) (ha.keep hbl.block) (hb.keep hbl.block)
      (fun l u => OutI (w.alloc (.cells #[.int .i64 gap] 3)) (w.heap.size + 1) (l.filterMap fun q : Option Po.P × Option Po.P => Po.nextF gap q.1 q.2) u) (outI_start2 w _) (fun l u h => h.below) (fun l u u' h k => h.keep k)
      (fun l x y px py u h hx' hy' hp => by
        have hlm := mrg_len (key := Po.P.doc) xs ys
        obtain ⟨hn, hq⟩ := filter_pre (fun q : Option Po.P × Option Po.P => Po.nextF gap q.1 q.2) hp
        have hm := mrg_mem xs ys _ hq
        have := (okSz hx).len
        have := (okSz hy).len
        rw [seeF_snoc]
        exact next1_c _ u _ _ gap _ x y px py h hx' hy' hG hg0 hg1 (fun p e => hx.pl p (hm.1 p e)) (fun p e => hy.pl p (hm.2 p e)) (by omega)))
  have HIN := Lib.hid hin; clear hin
  clear hG
  go_enter Try.func16, Try.ntmps16
  go_wp2_with fail
  refine HIN.out.mono ?_
  rintro e u ⟨rfl, hu⟩
  obtain ⟨⟨v, vs, hl, hB, hr⟩, hbe, _⟩ := hu
  have c1 : u.cell? ⟨w.heap.size + 1, 0, none⟩ = some v := by rw [Lib.cell_of_heap hB]; rfl
  have HR := Lib.hid hr; clear hr hB
  have HL := Lib.hid hl; clear hl
  go_wp2_with fail
  go_ret
  refine ⟨_, rfl, ?_, hbl.trans (hbe.mono hbl.size)⟩
  have h := HR.out.seqP
  rw [← HL.out] at h
  exact h
end Go.Proofs.Ytijbkflbklbemaa
