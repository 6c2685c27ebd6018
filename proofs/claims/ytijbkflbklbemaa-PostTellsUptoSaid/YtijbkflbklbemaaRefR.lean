/- Walks: the reference's Right and Encode. -/
import Derived.Test.YtijbkflbklbemaaEncP
namespace Go.Proofs.Ytijbkflbklbemaa
open Go.RowKit

def rR : Int → List Po.P → Bool
  | _, [] => true
  | d, p :: r => decide (d < p.doc) && decide (p.doc ≤ Po.most) && !p.places.isEmpty && Po.risesB 0 p.places && rR p.doc r
theorem rR_eq : ∀ (l : List Po.P) (d : Int), rR d l = (l.all okP && Po.risesB (d + 1) (l.map Po.P.doc))
  | [], d => rfl
  | p :: r, d => by
    rw [rR, rR_eq r p.doc, List.all_cons, List.map_cons, Po.risesB, show decide (d < p.doc) = decide (d + 1 ≤ p.doc) from by congr 1]
    unfold okP
    cases decide (d + 1 ≤ p.doc) <;> cases decide (p.doc ≤ Po.most) <;> cases (!p.places.isEmpty) <;> cases Po.risesB 0 p.places <;> simp
theorem rR_right (l : List Po.P) : rR 0 l = Po.rightB l := by rw [rR_eq, right_of]; rfl
theorem rR_drop {l : List Po.P} {k : Nat} {d : Int} {b : Bool} (hk : k < l.length) (h : rR d (l.drop k) = b) : (decide (d < l[k].doc) && decide (l[k].doc ≤ Po.most) && !l[k].places.isEmpty && Po.risesB 0 l[k].places && rR l[k].doc (l.drop (k + 1))) = b := by
  rw [List.drop_eq_getElem_cons hk] at h
  exact h

set_option maxHeartbeats 4000000 in
theorem RightR_c (va : Value) (l : List Po.P) (w : World) (ha : SeqP w va l) :
    Calls Try.prog 20 #[va] w fun e w' => e = .returned (.bool (Po.rightB l)) ∧ w' = w := by
  obtain ⟨A, ca, rfl, hca, hma, ha⟩ := ha
  unfold maxLen at hma
  by_cases x0 : l = []
  · subst x0
    clear ha
    go_enter Try.func20, Try.ntmps20
    go_wp2
    go_loopw [4] (fun i wr => i = .int .i64 0 ∧ wr = w) (fun _ _ => 0)
    case atStart => exact ⟨rfl, rfl⟩
    case round =>
      obtain ⟨rfl, rfl⟩ := hrel
      go_wp2
      go_ret
      exact ⟨rfl, rfl⟩
  · obtain ⟨b1, o1, rfl, h1⟩ := ha.resolve_left x0
    clear ha x0
    have H1 := Lib.hid h1; clear h1
    go_enter Try.func20, Try.ntmps20
    go_wp2
    go_loopw [3, 4] (fun d i wr => ∃ (k : Nat) (dz : Int), k ≤ l.length ∧ i = .int .i64 k ∧ d = .int .i64 dz ∧ 0 ≤ dz ∧ dz ≤ 1099511627776 ∧ wr = w ∧ Hid (rR dz (l.drop k) = Po.rightB l)) (fun _ i _ => l.length - (intOf i).toNat)
    case atStart => exact ⟨0, 0, by omega, rfl, rfl, by omega, by omega, rfl, Lib.hid (rR_right l)⟩
    case round =>
      obtain ⟨k, dz, hk, rfl, rfl, g0, g1, rfl, heq⟩ := hrel
      by_cases k1 : k < l.length
      · obtain ⟨c0, P1, n1, m1, c1, hs⟩ := H1.out k l[k] (by simp [k1])
        have i0 : (0 : Int) ≤ (k : Int) := by omega
        have i1 : (k : Int) < (l.length : Int) := by omega
        have hd := rR_drop k1 heq.out
        generalize l[k] = p at c0 c1 hs hd
        have hn : n1 = p.places.length := by obtain ⟨_, _, h, _⟩ := hs; injection h with _ h; simpa using h
        subst hn
        have HS := Lib.hid hs; clear hs
        by_cases k2 : p.doc ≤ dz
        · have hf : Po.rightB l = false := by rw [← hd, decide_eq_false (show ¬ dz < p.doc by omega)]; simp
          have HF := Lib.hid hf; clear hf hd
          have t1 : decide (p.doc ≤ dz) = true := decide_eq_true k2
          go_wp2
          go_ret
          rw [HF.out]
          exact ⟨rfl, rfl⟩
        · have k2' : dz < p.doc := by omega
          have t1 : decide (p.doc ≤ dz) = false := decide_eq_false k2
          clear k2
          by_cases k3 : 1099511627776 < p.doc
          · have hf : Po.rightB l = false := by rw [← hd, decide_eq_false (show ¬ p.doc ≤ Po.most by unfold Po.most; omega)]; simp
            have HF := Lib.hid hf; clear hf hd
            have t2 : decide (1099511627776 < p.doc) = true := decide_eq_true k3
            go_wp2
            go_ret
            rw [HF.out]
            exact ⟨rfl, rfl⟩
          · have t2 : decide (1099511627776 < p.doc) = false := decide_eq_false k3
            have k3' : p.doc ≤ 1099511627776 := by omega
            by_cases k4 : p.places = []
            · have hf : Po.rightB l = false := by rw [← hd, k4]; simp
              have HF := Lib.hid hf; clear hf hd
              have hz : p.places.length = 0 := by rw [k4]; rfl
              rw [hz] at c1
              clear hz k4
              go_wp2
              go_ret
              rw [HF.out]
              exact ⟨rfl, rfl⟩
            · have hne' : ((p.places.length : Int) == 0) = false := by simpa using k4
              obtain ⟨P2, m2, he, hcp, hmx, hq⟩ := HS.out
              rw [List.length_map] at he hcp
              obtain ⟨bp, op, rfl, hc3⟩ := hq.resolve_left (by simpa using k4)
              injection he with e1 e2 e3
              subst e1 e3
              unfold maxLen at hmx
              have hnew : Po.rightB l = (Po.risesB 0 p.places && rR p.doc (l.drop (k + 1))) := by
                rw [← hd, decide_eq_true k2', decide_eq_true (show p.doc ≤ Po.most by unfold Po.most; omega), show p.places.isEmpty = false from by simpa using k4]
                simp
              have HN := Lib.hid hnew
              have HC3 := Lib.hid hc3
              clear hnew hc3 hq hd k4 k3 e2 HS
              go_wp2
              go_loopw [5, 6] (fun a i wq => ∃ (j : Nat) (az : Int), j ≤ p.places.length ∧ i = .int .i64 j ∧ a = .int .i64 az ∧ -1 ≤ az ∧ az ≤ 1099511627776 ∧ wq = wr ∧ Hid (Po.risesB (az + 1) (p.places.drop j) = Po.risesB 0 p.places)) (fun _ i _ => p.places.length - (intOf i).toNat)
              case atStart => exact ⟨0, -1, by omega, rfl, rfl, by omega, by omega, rfl, Lib.hid rfl⟩
              case round =>
                obtain ⟨j, az, hj, rfl, rfl, f0, f1, hwq, hq⟩ := hrel
                obtain rfl := hwq.symm
                by_cases j1 : j < p.places.length
                · have hcz := HC3.out j (iv p.places[j]) (by simp [j1])
                  unfold iv at hcz
                  have i2 : (0 : Int) ≤ (j : Int) := by omega
                  have i3 : (j : Int) < (p.places.length : Int) := by omega
                  have hd := rises_drop j1 hq.out
                  generalize p.places[j] = z at hcz hd
                  by_cases z1 : z ≤ az
                  · have hf : Po.rightB l = false := by rw [HN.out, ← hd, decide_eq_false (show ¬ az + 1 ≤ z by omega)]; simp
                    have HF := Lib.hid hf; clear hf hd
                    have t3 : decide (z ≤ az) = true := decide_eq_true z1
                    go_wp2
                    go_ret
                    rw [HF.out]
                    exact ⟨rfl, rfl⟩
                  · have t3 : decide (z ≤ az) = false := decide_eq_false z1
                    have z1' : az < z := by omega
                    clear z1
                    by_cases z2 : 1099511627776 < z
                    · have hf : Po.rightB l = false := by rw [HN.out, ← hd, decide_eq_false (show ¬ z ≤ Po.most by unfold Po.most; omega)]; simp
                      have HF := Lib.hid hf; clear hf hd
                      have t4 : decide (1099511627776 < z) = true := decide_eq_true z2
                      go_wp2
                      go_ret
                      rw [HF.out]
                      exact ⟨rfl, rfl⟩
                    · have t4 : decide (1099511627776 < z) = false := decide_eq_false z2
                      have hf : Po.risesB (z + 1) (p.places.drop (j + 1)) = Po.risesB 0 p.places := by rw [← hd, decide_eq_true (show az + 1 ≤ z by omega), decide_eq_true (show z ≤ Po.most by unfold Po.most; omega)]; simp
                      have HF := Lib.hid hf; clear hf hd
                      have z2' : z ≤ 1099511627776 := by omega
                      clear z2
                      go_wp2
                      go_roundw
                      case rel => exact ⟨j + 1, z, by omega, by go_num, rfl, by omega, by omega, trivial, HF⟩
                      case measure => simp [intOf] <;> omega
                · have hd : Po.risesB 0 p.places = true := by rw [← hq.out, List.drop_of_length_le (by omega)]; rfl
                  have hn2 : rR p.doc (l.drop (k + 1)) = Po.rightB l := by rw [HN.out, hd]; simp
                  have HN2 := Lib.hid hn2
                  clear hd hn2 HN
                  go_wp2
                  go_roundw
                  case rel => exact ⟨k + 1, p.doc, by omega, by go_num, rfl, by omega, by omega, trivial, HN2⟩
                  case measure => simp [intOf] <;> omega
      · have hd : Po.rightB l = true := by rw [← heq.out, List.drop_of_length_le (by omega)]; rfl
        have HD := Lib.hid hd; clear hd
        go_wp2
        go_ret
        rw [HD.out]
        exact ⟨rfl, rfl⟩
end Go.Proofs.Ytijbkflbklbemaa
