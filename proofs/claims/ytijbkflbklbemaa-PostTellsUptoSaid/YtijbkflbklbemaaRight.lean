/- Walks: rises, Docs, Right. -/
import Derived.Test.YtijbkflbklbemaaOps
namespace Go.Proofs.Ytijbkflbklbemaa
open Go.RowKit

theorem rises_drop {l : List Int} {k : Nat} {lo : Int} {r : Bool} (hk : k < l.length) (h : Po.risesB lo (l.drop k) = r) : (decide (lo ≤ l[k]) && decide (l[k] ≤ Po.most) && Po.risesB (l[k] + 1) (l.drop (k + 1))) = r := by
  rw [List.drop_eq_getElem_cons hk] at h
  exact h
set_option maxHeartbeats 2000000 in
theorem rises_c (va : Value) (l : List Int) (lo : Int) (w : World) (ha : Seq w va (l.map iv)) (hl0 : 0 ≤ lo) (hl1 : lo ≤ 1) :
    Calls Try.prog 23 #[va, .int .i64 lo] w fun e w' => e = .returned (.bool (Po.risesB lo l)) ∧ w' = w := by
  obtain ⟨A, ca, rfl, hca, hma, ha⟩ := ha
  rw [List.length_map] at hca
  unfold maxLen at hma
  simp only [List.length_map]
  by_cases x0 : l = []
  · subst x0
    clear ha
    have hr : Po.risesB lo [] = true := rfl
    rw [hr]
    clear hr
    go_enter Try.func23, Try.ntmps23
    go_wp2
    go_loopw [9] (fun i wr => i = .int .i64 0 ∧ wr = w) (fun _ _ => 0)
    case atStart => exact ⟨rfl, rfl⟩
    case round =>
      obtain ⟨rfl, rfl⟩ := hrel
      go_wp2
      go_ret
      exact ⟨rfl, rfl⟩
  · obtain ⟨b1, o1, rfl, h1⟩ := ha.resolve_left (by simpa using x0)
    clear ha x0
    have H1 := Lib.hid h1; clear h1
    go_enter Try.func23, Try.ntmps23
    go_wp2
    go_loopw [1, 9] (fun lv i wr => ∃ (k : Nat) (lo' : Int), k ≤ l.length ∧ i = .int .i64 k ∧ lv = .int .i64 lo' ∧ 0 ≤ lo' ∧ lo' ≤ 1099511627777 ∧ Hid (Po.risesB lo' (l.drop k) = Po.risesB lo l) ∧ wr = w) (fun _ i _ => l.length - (intOf i).toNat)
    case atStart => exact ⟨0, lo, by omega, rfl, rfl, hl0, by omega, Lib.hid rfl, rfl⟩
    case round =>
      obtain ⟨k, lo', hk, rfl, rfl, g0, g1, heq, rfl⟩ := hrel
      by_cases k1 : k < l.length
      · have hc1 : wr.cell? ⟨b1, o1 + k, none⟩ = some (iv l[k]) := H1.out k _ (by simp [k1])
        unfold iv at hc1
        have i0 : (0 : Int) ≤ (k : Int) := by omega
        have i1 : (k : Int) < (l.length : Int) := by omega
        have hd := rises_drop k1 heq.out
        generalize l[k] = n at hc1 hd
        by_cases k2 : n < lo'
        · have hf : Po.risesB lo l = false := by rw [← hd]; simp; omega
          have HF := Lib.hid hf; clear hf hd
          go_wp2
          go_ret
          rw [HF.out]
          exact ⟨rfl, rfl⟩
        · have k2' : lo' ≤ n := by omega
          clear k2
          by_cases k3 : 1099511627776 < n
          · have hf : Po.risesB lo l = false := by rw [← hd, decide_eq_false (show ¬ n ≤ Po.most by unfold Po.most; omega)]; simp
            have HF := Lib.hid hf; clear hf hd
            go_wp2
            go_ret
            rw [HF.out]
            exact ⟨rfl, rfl⟩
          · have k3' : n ≤ 1099511627776 := by omega
            clear k3
            have hf : Po.risesB (n + 1) (l.drop (k + 1)) = Po.risesB lo l := by rw [← hd]; simp [Po.most, k2', k3']
            have HF := Lib.hid hf; clear hf hd
            go_wp2
            go_roundw
            case rel => exact ⟨k + 1, n + 1, by omega, by go_num, by go_num, by omega, by omega, HF, trivial⟩
            case measure => simp [intOf] <;> omega
      · have hd : Po.risesB lo l = true := by rw [← heq.out, List.drop_of_length_le (by omega)]; rfl
        have HD := Lib.hid hd; clear hd
        go_wp2
        go_ret
        rw [HD.out]
        exact ⟨rfl, rfl⟩

theorem cell_one_new2 (w : World) (o : Obj) (v : Value) (t : TypeId) : ∀ j u, [v][j]? = some u → ((w.alloc o).alloc (.cells #[v] t)).cell? ((⟨w.heap.size + 1, 0, none⟩ : Addr).add j) = some u := by
  have := cell_one_new (w.alloc o) v t
  simpa using this
set_option maxHeartbeats 2000000 in
theorem Docs_c (va : Value) (l : List Po.P) (w : World) (ha : SeqP w va l) (hl : l.length ≤ 4398046511104) :
    Calls Try.prog 15 #[va] w fun e w' => ∃ v, e = .returned v ∧ Seq w' v ((l.map Po.P.doc).map iv) ∧ Below w.heap.size w w' := by
  obtain ⟨i0, hi, hz0, hz1, hz2⟩ := info_parts infoInt
  obtain ⟨A, ca, rfl, hca, hma, ha⟩ := ha
  unfold maxLen at hma
  by_cases x0 : l = []
  · subst x0
    clear ha
    go_enter Try.func15, Try.ntmps15
    go_wp2
    go_loopw [3, 8] (fun v i wr => v = .slice none 0 0 ∧ i = .int .i64 0 ∧ wr = w) (fun _ _ _ => 0)
    case atStart => exact ⟨rfl, rfl, rfl⟩
    case round =>
      obtain ⟨rfl, rfl, rfl⟩ := hrel
      go_wp2
      go_ret
      exact ⟨_, rfl, ⟨none, 0, rfl, Nat.le_refl _, by decide, .inl rfl⟩, Below.refl _ _⟩
  · obtain ⟨b1, o1, rfl, h1⟩ := ha.resolve_left x0
    clear ha x0
    have H1 := Lib.hid h1; clear h1
    go_enter Try.func15, Try.ntmps15
    go_wp2
    go_loopw [3, 8] (fun v i wr => ∃ (k : Nat), k ≤ l.length ∧ i = .int .i64 k ∧ Below w.heap.size w wr ∧ wr.ownsRow w.heap.size 3 1 v k (((l.take k).map Po.P.doc).map iv)) (fun _ i _ => l.length - (intOf i).toNat)
    case atStart => exact ⟨0, by omega, rfl, Below.refl _ _, World.ownsRow_nil _ _ _ _⟩
    case round =>
      obtain ⟨k, hk, rfl, hbe, hown⟩ := hrel
      have hsz := hbe.size
      by_cases k1 : k < l.length
      · have hat := (H1.out k l[k] (by simp [k1])).keep hbe.block
        obtain ⟨c0, P1, n1, m1, c1, _⟩ := hat
        have i0' : (0 : Int) ≤ (k : Int) := by omega
        have i1 : (k : Int) < (l.length : Int) := by omega
        have hst : (l.take (k + 1)).map Po.P.doc = (l.take k).map Po.P.doc ++ [l[k].doc] := by rw [List.take_succ_eq_append_getElem k1, List.map_append]; rfl
        have HST := Lib.hid hst; clear hst
        generalize l[k] = p at c0 c1 HST
        have HO := Lib.hid hown; clear hown
        go_wp2_with (at_builtin; refine wpList_append_own _ rfl _ _ 28 rfl w.heap.size 3 i0 _ 1 8 Try.underlying28 hi hz0 hz1 hz2 rfl (by decide) _ _ _ rfl ((HO.out.alloc _).alloc _) ⟨wr.heap.size + 1, 0, none⟩ 1 1 [.int .i64 p.doc] rfl rfl (cell_one_new2 _ _ _ _) (by simp [Value.oneCell']) (by unfold maxLen; omega) (by omega) (by simp; omega) ?_; intro v' w3 hown3 hg3 _)
        go_roundw
        case rel => exact ⟨k + 1, by omega, by go_num, ((hbe.alloc hsz _).alloc (by simp; omega) _).grown hg3 (by simp; omega) (fun b e => (((HO.out.alloc (.cells #[.int .i64 p.doc, .slice P1 n1 m1] 40)).alloc (.cells #[.int .i64 p.doc] 3)).lt b e).1), by rw [HST.out, List.map_append]; exact hown3⟩
        case measure => simp [intOf] <;> omega
      · have hd : l.take k = l := List.take_of_length_le (by omega)
        rw [hd] at hown
        have hkl : k = l.length := by omega
        subst hkl
        have HO := Lib.hid hown; clear hown
        go_wp2
        go_ret
        exact ⟨_, rfl, Seq.of_own (by simpa using HO.out), hbe⟩
theorem all_drop {l : List Po.P} {k : Nat} {r : Bool} {f : Po.P → Bool} (hk : k < l.length) (h : (l.drop k).all f = r) : (f l[k] && (l.drop (k + 1)).all f) = r := by
  rw [List.drop_eq_getElem_cons hk] at h
  exact h
def okP (p : Po.P) : Bool := !p.places.isEmpty && Po.risesB 0 p.places
theorem right_of (l : List Po.P) : Po.rightB l = (l.all okP && Po.risesB 1 (l.map Po.P.doc)) := rfl
set_option maxHeartbeats 2000000 in
theorem Right_c (va : Value) (l : List Po.P) (w : World) (ha : SeqP w va l) (hl : l.length ≤ 4398046511104) :
    Calls Try.prog 9 #[va] w fun e w' => e = .returned (.bool (Po.rightB l)) ∧ Below w.heap.size w w' := by
  have HQ := Lib.hid ha
  obtain ⟨A, ca, rfl, hca, hma, ha⟩ := ha
  unfold maxLen at hma
  by_cases x0 : l = []
  · subst x0
    clear ha
    go_enter Try.func9, Try.ntmps9
    go_wp2
    go_loopw [7] (fun i wr => i = .int .i64 0 ∧ wr = w) (fun _ _ => 0)
    case atStart => exact ⟨rfl, rfl⟩
    case round =>
      obtain ⟨rfl, rfl⟩ := hrel
      go_wp2_with fail
      refine (Docs_c _ [] _ HQ.out (by simp)).mono ?_
      rintro e w1 ⟨v, rfl, hv, hb⟩
      go_wp2_with fail
      refine (rises_c _ [] 1 _ hv (by omega) (by omega)).mono ?_
      rintro e w2 ⟨rfl, rfl⟩
      go_wp2_with fail
      go_ret
      exact ⟨rfl, hb⟩
  · obtain ⟨b1, o1, rfl, h1⟩ := ha.resolve_left x0
    clear ha x0
    have H1 := Lib.hid h1; clear h1
    go_enter Try.func9, Try.ntmps9
    go_wp2
    go_loopw [7] (fun i wr => ∃ (k : Nat), k ≤ l.length ∧ i = .int .i64 k ∧ Below w.heap.size w wr ∧ Hid ((l.drop k).all okP = l.all okP)) (fun i _ => l.length - (intOf i).toNat)
    case atStart => exact ⟨0, by omega, rfl, Below.refl _ _, Lib.hid rfl⟩
    case round =>
      obtain ⟨k, hk, rfl, hbe, heq⟩ := hrel
      have hsz := hbe.size
      by_cases k1 : k < l.length
      · have hat := (H1.out k l[k] (by simp [k1])).keep hbe.block
        obtain ⟨c0, P1, n1, m1, c1, hs⟩ := hat
        have i0' : (0 : Int) ≤ (k : Int) := by omega
        have i1 : (k : Int) < (l.length : Int) := by omega
        have hd := all_drop k1 heq.out
        generalize l[k] = p at c0 c1 hs hd
        have hn : n1 = p.places.length := by obtain ⟨_, _, h, _⟩ := hs; injection h with _ h; simpa using h
        have HS := Lib.hid hs; clear hs
        by_cases k2 : p.places = []
        · have hf : l.all okP = false := by rw [← hd]; simp [okP, k2]
          have hr : Po.rightB l = false := by rw [right_of, hf]; rfl
          have HF := Lib.hid hr; clear hr hf hd
          obtain rfl : n1 = 0 := by rw [hn, k2]; rfl
          clear hn k2
          go_wp2_with fail
          go_ret
          rw [HF.out]
          exact ⟨rfl, hbe.alloc hsz _⟩
        · have hne : ¬ n1 = 0 := fun e => k2 (List.eq_nil_of_length_eq_zero (by omega))
          have hne' : ((n1 : Int) == 0) = false := by simpa using hne
          clear hn hne
          have HK := Lib.hid k2; clear k2
          cases k3 : Po.risesB 0 p.places with
          | false =>
            have hf : l.all okP = false := by rw [← hd]; simp [okP, k3]
            have hr : Po.rightB l = false := by rw [right_of, hf]; rfl
            have HF := Lib.hid hr; clear hr hf hd
            have HC := fun u h => rises_c (.slice P1 n1 m1) p.places 0 u h (by omega) (by omega)
            rw [k3] at HC
            have HC' := Lib.hid HC; clear HC k3
            go_wp2_with fail
            refine (HC'.out _ (HS.out.keep ((Below.refl _ _).alloc (Nat.le_refl _) _).block)).mono ?_
            rintro e w1 ⟨rfl, rfl⟩
            go_wp2_with fail
            go_ret
            rw [HF.out]
            exact ⟨rfl, hbe.alloc hsz _⟩
          | true =>
            have hf : (l.drop (k + 1)).all okP = l.all okP := by rw [← hd]; simp [okP, k3, HK.out]
            have HF := Lib.hid hf; clear hf hd
            have HC := fun u h => rises_c (.slice P1 n1 m1) p.places 0 u h (by omega) (by omega)
            rw [k3] at HC
            have HC' := Lib.hid HC; clear HC k3
            go_wp2_with fail
            refine (HC'.out _ (HS.out.keep ((Below.refl _ _).alloc (Nat.le_refl _) _).block)).mono ?_
            rintro e w1 ⟨rfl, rfl⟩
            go_wp2_with fail
            go_roundw
            case rel => exact ⟨k + 1, by omega, by go_num, hbe.alloc hsz _, HF⟩
            case measure => simp [intOf] <;> omega
      · have hd : l.all okP = true := by rw [← heq.out, List.drop_of_length_le (by omega)]; rfl
        have hr : Po.rightB l = Po.risesB 1 (l.map Po.P.doc) := by rw [right_of, hd]; rfl
        have HF := Lib.hid hr; clear hr hd
        go_wp2_with fail
        refine (Docs_c _ l _ (HQ.out.keep hbe.block) hl).mono ?_
        rintro e w1 ⟨v, rfl, hv, hb⟩
        go_wp2_with fail
        refine (rises_c _ _ 1 _ hv (by omega) (by omega)).mono ?_
        rintro e w2 ⟨rfl, rfl⟩
        go_wp2_with fail
        go_ret
        rw [HF.out]
        exact ⟨rfl, hbe.trans (hb.mono hsz)⟩
end Go.Proofs.Ytijbkflbklbemaa
