/- Walks: Few, Same, Has, Of. -/
import Derived.Test.YtijbkflbklbemaaRight
namespace Go.Proofs.Ytijbkflbklbemaa
open Go.RowKit

def cnt (l : List Po.P) : Nat := (l.map fun p => 1 + p.places.length).sum
theorem cnt_take {l : List Po.P} {k : Nat} (hk : k < l.length) : cnt (l.take (k + 1)) = cnt (l.take k) + (1 + l[k].places.length) := by
  unfold cnt
  rw [List.take_succ_eq_append_getElem hk, List.map_append, List.sum_append]
  rfl
theorem cnt_mono (l : List Po.P) (k : Nat) : cnt (l.take k) ≤ cnt l := by
  unfold cnt
  conv => rhs; rw [← List.take_append_drop k l]
  rw [List.map_append, List.sum_append]
  omega
set_option maxHeartbeats 2000000 in
theorem Few_c (va : Value) (l : List Po.P) (w : World) (ha : SeqP w va l) :
    Calls Try.prog 8 #[va] w fun e w' => ∃ b, e = .returned (.bool b) ∧ w' = w ∧ (cnt l ≤ 4611686018427387904 → b = decide (cnt l ≤ 300)) := by
  obtain ⟨A, ca, rfl, hca, hma, ha⟩ := ha
  unfold maxLen at hma
  by_cases x0 : l = []
  · subst x0
    clear ha
    go_enter Try.func8, Try.ntmps8
    go_wp2
    go_loopw [3, 4] (fun v i wr => v = .int .i64 0 ∧ i = .int .i64 0 ∧ wr = w) (fun _ _ _ => 0)
    case atStart => exact ⟨rfl, rfl, rfl⟩
    case round =>
      obtain ⟨rfl, rfl, rfl⟩ := hrel
      go_wp2
      go_ret
      exact ⟨_, rfl, rfl, fun _ => rfl⟩
  · obtain ⟨b1, o1, rfl, h1⟩ := ha.resolve_left x0
    clear ha x0
    have H1 := Lib.hid h1; clear h1
    go_enter Try.func8, Try.ntmps8
    go_wp2
    go_loopw [3, 4] (fun v i wr => ∃ (k : Nat) (z : Int), k ≤ l.length ∧ v = .int .i64 z ∧ i = .int .i64 k ∧ wr = w ∧ Hid (cnt (l.take k) ≤ 4611686018427387904 → z = cnt (l.take k))) (fun _ i _ => l.length - (intOf i).toNat)
    case atStart => exact ⟨0, 0, by omega, rfl, rfl, rfl, Lib.hid fun _ => rfl⟩
    case round =>
      obtain ⟨k, z, hk, rfl, rfl, rfl, heq⟩ := hrel
      by_cases k1 : k < l.length
      · have hat := H1.out k l[k] (by simp [k1])
        obtain ⟨c0, P1, n1, m1, c1, hs⟩ := hat
        have i0' : (0 : Int) ≤ (k : Int) := by omega
        have i1 : (k : Int) < (l.length : Int) := by omega
        have hn : n1 = l[k].places.length := by obtain ⟨_, _, h, _⟩ := hs; injection h with _ h; simpa using h
        have hd := cnt_take k1
        rw [← hn] at hd
        have HD := Lib.hid hd
        clear hs hn hd
        generalize l[k] = p at c0
        go_wp2
        go_roundw
        case rel =>
          refine ⟨k + 1, _, by omega, rfl, by go_num, trivial, Lib.hid fun hle => ?_⟩
          have h1 := HD.out
          have h2 := heq.out (by omega)
          rw [IntWalk.wrap64_in (z + 1) (by omega), IntWalk.wrap64_in _ (by omega)]
          omega
        case measure => simp [intOf] <;> omega
      · have hd : l.take k = l := List.take_of_length_le (by omega)
        rw [hd] at heq
        go_wp2
        go_ret
        exact ⟨_, rfl, rfl, fun hle => by have h := heq.out hle; subst h; simp; omega⟩
set_option maxHeartbeats 2000000 in
theorem Has_c (va : Value) (l : List Int) (d : Int) (w : World) (ha : Seq w va (l.map iv)) :
    Calls Try.prog 14 #[va, .int .i64 d] w fun e w' => e = .returned (.bool (l.contains d)) ∧ w' = w := by
  obtain ⟨A, ca, rfl, hca, hma, ha⟩ := ha
  rw [List.length_map] at hca
  unfold maxLen at hma
  simp only [List.length_map]
  by_cases x0 : l = []
  · subst x0
    clear ha
    have hr : ([] : List Int).contains d = false := rfl
    rw [hr]
    clear hr
    go_enter Try.func14, Try.ntmps14
    go_wp2
    go_loopw [5] (fun i wr => i = .int .i64 0 ∧ wr = w) (fun _ _ => 0)
    case atStart => exact ⟨rfl, rfl⟩
    case round =>
      obtain ⟨rfl, rfl⟩ := hrel
      go_wp2
      go_ret
      exact ⟨rfl, rfl⟩
  · obtain ⟨b1, o1, rfl, h1⟩ := ha.resolve_left (by simpa using x0)
    clear ha x0
    have H1 := Lib.hid h1; clear h1
    go_enter Try.func14, Try.ntmps14
    go_wp2
    go_loopw [5] (fun i wr => ∃ (k : Nat), k ≤ l.length ∧ i = .int .i64 k ∧ Hid ((l.drop k).contains d = l.contains d) ∧ wr = w) (fun i _ => l.length - (intOf i).toNat)
    case atStart => exact ⟨0, by omega, rfl, Lib.hid rfl, rfl⟩
    case round =>
      obtain ⟨k, hk, rfl, heq, rfl⟩ := hrel
      by_cases k1 : k < l.length
      · have hc1 : wr.cell? ⟨b1, o1 + k, none⟩ = some (iv l[k]) := H1.out k _ (by simp [k1])
        unfold iv at hc1
        have i0 : (0 : Int) ≤ (k : Int) := by omega
        have i1 : (k : Int) < (l.length : Int) := by omega
        have hd := heq.out
        rw [List.drop_eq_getElem_cons k1, List.contains_cons] at hd
        generalize l[k] = n at hc1 hd
        by_cases k2 : n = d
        · have hf : l.contains d = true := by rw [← hd, k2]; simp
          have HF := Lib.hid hf; clear hf hd
          subst k2
          go_wp2
          go_ret
          rw [HF.out]
          exact ⟨rfl, rfl⟩
        · have k2' : (n == d) = false := by simpa using k2
          have k3 : (d == n) = false := by simpa using fun e : d = n => k2 e.symm
          have hf : (l.drop (k + 1)).contains d = l.contains d := by rw [← hd, k3]; simp
          have HF := Lib.hid hf; clear hf hd k2 k3
          go_wp2
          go_roundw
          case rel => exact ⟨k + 1, by omega, by go_num, HF, trivial⟩
          case measure => simp [intOf] <;> omega
      · have hd : l.contains d = false := by rw [← heq.out, List.drop_of_length_le (by omega)]; rfl
        have HD := Lib.hid hd; clear hd
        go_wp2
        go_ret
        rw [HD.out]
        exact ⟨rfl, rfl⟩
set_option maxHeartbeats 4000000 in
theorem Same_c (va vb : Value) (xs ys : List Po.P) (w : World) (ha : SeqP w va xs) (hb : SeqP w vb ys) :
    Calls Try.prog 13 #[va, vb] w fun e w' => ∃ b, e = .returned (.bool b) ∧ (b = true ↔ xs = ys) ∧ ∃ n, w' = w.drewN n := by
  obtain ⟨A, ca, rfl, hca, hma, ha⟩ := ha
  obtain ⟨B, cb, rfl, hcb, hmb, hb⟩ := hb
  unfold maxLen at hma hmb
  by_cases k0 : xs.length = ys.length
  · by_cases x0 : xs = []
    · subst x0
      have : ys = [] := List.eq_nil_of_length_eq_zero k0.symm
      subst this
      clear ha hb k0
      go_enter Try.func13, Try.ntmps13
      go_wp2
      go_loopw [5] (fun i wr => i = .int .i64 0 ∧ wr = w) (fun _ _ => 0)
      case atStart => exact ⟨rfl, rfl⟩
      case round =>
        obtain ⟨rfl, rfl⟩ := hrel
        go_wp2
        go_ret
        exact ⟨_, rfl, by simp, 0, rfl⟩
    · obtain ⟨b1, o1, rfl, h1⟩ := ha.resolve_left x0
      have y0 : ys ≠ [] := fun e => x0 (List.eq_nil_of_length_eq_zero (by rw [k0, e]; rfl))
      obtain ⟨b2, o2, rfl, h2⟩ := hb.resolve_left y0
      clear ha hb x0 y0
      have H1 := Lib.hid h1; clear h1
      have H2 := Lib.hid h2; clear h2
      have K0 := Lib.hid k0
      rw [← k0]
      clear k0
      go_enter Try.func13, Try.ntmps13
      go_wp2
      go_loopw [5] (fun i wr => ∃ k n : Nat, k ≤ xs.length ∧ i = .int .i64 k ∧ Hid (xs.take k = ys.take k) ∧ wr = w.drewN n) (fun i _ => xs.length - (intOf i).toNat)
      case atStart => exact ⟨0, 0, by omega, rfl, rfl, rfl⟩
      case round =>
        obtain ⟨k, n, hk, rfl, heq, rfl⟩ := hrel
        by_cases k1 : k < xs.length
        · have k2 : k < ys.length := by rw [← K0.out]; exact k1
          obtain ⟨c1, P1, n1, m1, d1, s1⟩ := H1.out k xs[k] (by simp [k1])
          obtain ⟨c2, P2, n2, m2, d2, s2⟩ := H2.out k ys[k] (by simp [k2])
          have i0 : (0 : Int) ≤ (k : Int) := by omega
          have i1 : (k : Int) < (xs.length : Int) := by omega
          have hc := fun u (q1 : Seq u (.slice P1 n1 m1) (xs[k].places.map iv)) (q2 : Seq u (.slice P2 n2 m2) (ys[k].places.map iv)) => SameInts_c (.slice P1 n1 m1) (.slice P2 n2 m2) xs[k].places ys[k].places u q1 q2
          have HC := Lib.hid (hc (w.drewN n).drew (s1.keep fun _ _ => rfl) (s2.keep fun _ _ => rfl)); clear hc s1 s2
          have hnew : xs[k].doc = ys[k].doc → xs[k].places = ys[k].places → xs.take (k + 1) = ys.take (k + 1) := fun e1 e2 => by
            rw [List.take_succ_eq_append_getElem k1, List.take_succ_eq_append_getElem k2, heq.out, show xs[k] = ys[k] from by cases h : xs[k]; cases h' : ys[k]; simp_all]
          have hold : xs = ys → xs[k].doc = ys[k].doc ∧ xs[k].places = ys[k].places := fun e => by subst e; exact ⟨rfl, rfl⟩
          have HN := Lib.hid hnew; clear hnew
          have HO := Lib.hid hold; clear hold
          generalize xs[k] = x at c1 HC HN HO
          generalize ys[k] = y at c2 HC HN HO
          go_wp2_with fail
          go_region_held3 (fun u => u.cell? ⟨b1, o1 + k * 2 + 1, none⟩ = some (.slice P1 n1 m1) ∧ u.cell? ⟨b2, o2 + k * 2 + 1, none⟩ = some (.slice P2 n2 m2)) (first | exact ⟨d1, d2⟩ | exact e1) ((first | (go_at_call 30; refine HC.out.mono ?_; rintro e w5 ⟨rfl, n5, rfl⟩; have e1 := And.intro (show (World.drewN _ n5).cell? _ = _ from d1) (show (World.drewN _ n5).cell? _ = _ from d2))))
          clear e1 d1 d2
          by_cases k3 : x.doc = y.doc
          · by_cases k4 : x.places = y.places
            · have HK := Lib.hid (HN.out k3 k4); clear HN HO
              have k5 : decide (x.places = y.places) = true := decide_eq_true k4
              rw [← k3] at c2
              rw [k5]
              clear k3 k4 k5
              go_wp2_with fail
              go_quiet (fail)
              all_goals go_wp2_with fail
              go_roundw
              case rel => exact ⟨k + 1, _, by omega, by go_num, HK.out, rfl⟩
              case measure => simp [intOf] <;> omega
            · have HK := Lib.hid (fun e : xs = ys => k4 (HO.out e).2); clear HN HO
              have k5 : decide (x.places = y.places) = false := decide_eq_false k4
              rw [← k3] at c2
              rw [k5]
              clear k3 k4 k5
              go_wp2_with fail
              go_quiet (fail)
              all_goals go_wp2_with fail
              go_ret
              exact ⟨_, rfl, ⟨fun h => (by cases h), fun h => (HK.out h).elim⟩, _, World.drewN_drewN _ _ _⟩
          · have HK := Lib.hid (fun e : xs = ys => k3 (HO.out e).1); clear HN HO
            have k4 : (x.doc != y.doc) = true := by simpa using k3
            clear k3
            generalize x.doc = X at *
            generalize y.doc = Y at *
            go_wp2_with fail
            go_quiet (fail)
            all_goals go_wp2_with fail
            go_ret
            exact ⟨_, rfl, ⟨fun h => (by cases h), fun h => (HK.out h).elim⟩, _, World.drewN_drewN _ _ _⟩
        · have hp : xs = ys := by
            have h1 := heq.out
            rw [List.take_of_length_le (by omega), List.take_of_length_le (by rw [← K0.out]; omega)] at h1
            exact h1
          have HP := Lib.hid hp; clear hp
          go_wp2
          go_ret
          exact ⟨_, rfl, by simp [HP.out], _, rfl⟩
  · have hp : ¬ xs = ys := fun e => k0 (by rw [e])
    have HP := Lib.hid hp
    have k0' : ((xs.length : Int) == (ys.length : Int)) = false := by simp; omega
    clear hp ha hb
    go_enter Try.func13, Try.ntmps13
    go_wp2
    go_ret
    exact ⟨_, rfl, by simp [HP.out], 0, rfl⟩
end Go.Proofs.Ytijbkflbklbemaa
