/- Walks: cmp.Compare at int, and 'both' at int. -/
import Derived.Test.YtijbkflbklbemaaSame
import Derived.Test.YtijbkflbklbemaaPo
import Derived.Deep.RegionHeld3
import Derived.Deep.LoopGhost
namespace Go.Proofs.Ytijbkflbklbemaa
open Go.RowKit

theorem isNaN_c (a : Int) (w : World) : Calls Try.prog 59 #[.int .i64 a] w fun e w' => e = .returned (.bool false) ∧ w' = w := by
  go_enter Try.func59, Try.ntmps59
  have d : (a == a) = true := by simp
  go_wp2
  go_ret
  simp
def cmpI (a b : Int) : Int := if a < b then -1 else if b < a then 1 else 0
theorem compare_c (a b : Int) (w : World) : Calls Try.prog 49 #[.int .i64 a, .int .i64 b] w fun e w' => e = .returned (.int .i64 (cmpI a b)) ∧ w' = w := by
  by_cases h1 : a < b
  · have e : cmpI a b = -1 := by unfold cmpI; rw [if_pos h1]
    have d1 : decide (a < b) = true := by simpa using h1
    rw [e]
    go_enter Try.func49, Try.ntmps49
    go_wp2_with fail
    refine (isNaN_c a w).mono ?_
    rintro e w' ⟨rfl, rfl⟩
    go_wp2_with fail
    refine (isNaN_c b w').mono ?_
    rintro e w' ⟨rfl, rfl⟩
    go_wp2_with fail
    go_ret
    exact ⟨rfl, rfl⟩
  · have d1 : decide (a < b) = false := by simpa using h1
    by_cases h2 : b < a
    · have e : cmpI a b = 1 := by unfold cmpI; rw [if_neg h1, if_pos h2]
      have d2 : decide (b < a) = true := by simpa using h2
      rw [e]
      go_enter Try.func49, Try.ntmps49
      go_wp2_with fail
      refine (isNaN_c a w).mono ?_
      rintro e w' ⟨rfl, rfl⟩
      go_wp2_with fail
      refine (isNaN_c b w').mono ?_
      rintro e w' ⟨rfl, rfl⟩
      go_wp2_with fail
      go_ret
      exact ⟨rfl, rfl⟩
    · have e : cmpI a b = 0 := by unfold cmpI; rw [if_neg h1, if_neg h2]
      have d2 : decide (b < a) = false := by simpa using h2
      rw [e]
      go_enter Try.func49, Try.ntmps49
      go_wp2_with fail
      refine (isNaN_c a w).mono ?_
      rintro e w' ⟨rfl, rfl⟩
      go_wp2_with fail
      refine (isNaN_c b w').mono ?_
      rintro e w' ⟨rfl, rfl⟩
      go_wp2_with fail
      go_ret
      exact ⟨rfl, rfl⟩
/-- what is seen of an element: nothing, or a pointer to it -/
def See (w : World) (x : Option Int) (p : Value) : Prop := match x with
  | none => p = .pointer none
  | some n => ∃ b o, p = .pointer (some ⟨b, o, none⟩) ∧ w.cell? ⟨b, o, none⟩ = some (.int .i64 n)
def slen : Value → Nat
  | .slice _ n _ => n
  | _ => 0
/-- behind the first element -/
theorem Seq.tail {w : World} {b o ca : Nat} {u : Value} {us : List Value} (hca : us.length + 1 ≤ ca) (hm : ca ≤ maxLen) (h : ∀ i x, (u :: us)[i]? = some x → w.cell? ⟨b, o + i, none⟩ = some x) :
    Seq w (.slice (some ⟨b, o + 1, none⟩) us.length (ca - 1)) us :=
  ⟨_, _, rfl, by omega, by omega, .inr ⟨b, o + 1, rfl, fun i x hx => by
    have := h (i + 1) x (by simpa using hx)
    rwa [show o + 1 + i = o + (i + 1) from by omega]⟩⟩
theorem Seq.none {w : World} {A : Option Addr} {us : List Value} (h : us.length + 1 ≤ 1) : Seq w (.slice A us.length 0) us :=
  ⟨_, _, rfl, by omega, by decide, .inl (List.eq_nil_of_length_eq_zero (by omega))⟩
theorem tailA {w : World} {b o ca : Nat} {x : Int} {es : List Int} (hm : ca ≤ maxLen) (hca : es.length + 1 ≤ ca) (h : ∀ i u, ((x :: es).map iv)[i]? = some u → w.cell? ⟨b, o + i, none⟩ = some u) :
    Seq w (.slice (some ⟨b, o + 1, none⟩) es.length (ca - 1)) (es.map iv) := by
  have := Seq.tail (us := es.map iv) (by rw [List.length_map]; exact hca) hm h
  rwa [List.length_map] at this
theorem noneA {w : World} {A : Option Addr} {es : List Int} (h : es.length + 1 ≤ 1) : Seq w (.slice A es.length 0) (es.map iv) := by
  have := Seq.none (w := w) (A := A) (us := es.map iv) (by rw [List.length_map]; exact h)
  rwa [List.length_map] at this
section
open Po
variable {α : Type} {key : α → Int} {l all : List (Option α × Option α)} {x y : α} {es fs : List α}
theorem mrg_l (h : l ++ mrg key (x :: es) [] = all) : (l ++ [(some x, none)]) ++ mrg key es [] = all := by rw [← h, mrg]; simp
theorem mrg_r (h : l ++ mrg key [] (y :: fs) = all) : (l ++ [(none, some y)]) ++ mrg key [] fs = all := by rw [← h, mrg]; simp
theorem mrg_lt (h : l ++ mrg key (x :: es) (y :: fs) = all) (k : key x < key y) : (l ++ [(some x, none)]) ++ mrg key es (y :: fs) = all := by rw [← h, mrg, if_pos k]; simp
theorem mrg_gt (h : l ++ mrg key (x :: es) (y :: fs) = all) (k1 : key y ≤ key x) (k : key y < key x) : (l ++ [(none, some y)]) ++ mrg key (x :: es) fs = all := by rw [← h, mrg, if_neg (Int.not_lt.2 k1), if_pos k]; simp
theorem mrg_eq (h : l ++ mrg key (x :: es) (y :: fs) = all) (k1 : key y ≤ key x) (k : key x ≤ key y) : (l ++ [(some x, some y)]) ++ mrg key es fs = all := by rw [← h, mrg, if_neg (Int.not_lt.2 k1), if_neg (Int.not_lt.2 k)]; simp
theorem cell_drewN {w : World} {n : Nat} {a : Addr} {v : Value} (h : w.cell? a = some v) : (w.drewN n).cell? a = some v := h
end

set_option maxHeartbeats 8000000 in
theorem bothI_c (va vb : Value) (xs ys : List Int) (ptr : Value) (w1 w : World) (ha : Seq w1 va (xs.map iv)) (hb : Seq w1 vb (ys.map iv))
    (Inv : List (Option Int × Option Int) → World → Prop) (h0 : Inv [] w) (hkeep : ∀ l u, Inv l u → Below w1.heap.size w1 u) (hdrew : ∀ l u n, Inv l u → Inv l (u.drewN n))
    (hsee : ∀ l x y px py u, Inv l u → See u x px → See u y py → (l ++ [(x, y)]) <+: Po.mrg id xs ys → Calls Try.prog 51 #[px, py, ptr] u fun e u' => e = .returned (.tuple #[]) ∧ Inv (l ++ [(x, y)]) u') :
    Calls Try.prog 50 #[va, vb, .func (.func 49) #[] #[], .func (.func 51) #[] #[ptr]] w fun e w' => e = .returned (.tuple #[]) ∧ Inv (Po.mrg id xs ys) w' := by
  have QA := Lib.hid ha; clear ha
  have QB := Lib.hid hb; clear hb
  go_enter Try.func50, Try.ntmps50
  go_wp2_with fail
  go_loopw [0, 1] (fun v v' wr => ∃ (es fs : List Int) (l : List (Option Int × Option Int)), Seq w1 v (es.map iv) ∧ Seq w1 v' (fs.map iv) ∧ Inv l wr ∧ l ++ Po.mrg id es fs = Po.mrg id xs ys) (fun v v' _ => slen v + slen v')
  case atStart => exact ⟨xs, ys, [], QA.out, QB.out, h0, rfl⟩
  case round =>
    obtain ⟨es, fs, l, qa, qb, hi, hl⟩ := hrel
    obtain ⟨A, ca, rfl, hca, hma, ha⟩ := id qa
    obtain ⟨B, cb, rfl, hcb, hmb, hb⟩ := id qb
    rw [List.length_map] at hca hcb qa qb ⊢
    rw [List.length_map]
    have HQA := Lib.hid qa; clear qa
    have HQB := Lib.hid qb; clear qb
    have HL := Lib.hid hl; clear hl
    cases es with
    | nil =>
      cases fs with
      | nil =>
        go_wp2
        go_end0
        rw [← HL.out, show Po.mrg id ([] : List Int) [] = [] from by rw [Po.mrg], List.append_nil]
        exact ⟨rfl, hi⟩
      | cons y fs =>
        obtain ⟨b2, o2, rfl, hc2⟩ := hb.resolve_left (by simp)
        have HC2 := Lib.hid hc2
        have c2 := hc2 0 _ rfl
        have hlt2 : b2 < w1.heap.size := World.block_lt_of_cell? w1 _ c2
        have d2 : wr.cell? ⟨b2, o2, none⟩ = some (.int .i64 y) := ((hkeep _ _ hi).cell (p := ⟨b2, _, none⟩) hlt2).trans c2
        have i2 : (0 : Int) < ((fs.length + 1 : Nat) : Int) := by omega
        have j2 : (((fs.length : Nat) : Int) + 1 == 0) = false := by simp; omega
        have m2 : fs.length + 1 ≤ cb := by simpa using hcb
        have HM2 := Lib.hid hmb
        unfold maxLen at hmb
        clear hc2 c2 hb
        go_wp2_with fail
        go_quiet (fail)
        all_goals go_wp2_with fail
        all_goals (refine (hsee l none (some y) _ _ _ (hdrew _ _ _ hi) rfl ⟨b2, o2, rfl, d2⟩ ⟨_, mrg_r HL.out⟩).mono ?_; rintro e u' ⟨rfl, hu⟩; go_wp2_with fail; go_roundw; (case rel => exact ⟨[], fs, _, HQA.out, (by first | exact tailA HM2.out m2 HC2.out | exact noneA (by omega)), hu, mrg_r HL.out⟩); (case measure => simp [slen] <;> omega))
    | cons x es =>
      cases fs with
      | nil =>
        obtain ⟨b1, o1, rfl, hc1⟩ := ha.resolve_left (by simp)
        have HC1 := Lib.hid hc1
        have c1 := hc1 0 _ rfl
        have hlt1 : b1 < w1.heap.size := World.block_lt_of_cell? w1 _ c1
        have d1 : wr.cell? ⟨b1, o1, none⟩ = some (.int .i64 x) := ((hkeep _ _ hi).cell (p := ⟨b1, _, none⟩) hlt1).trans c1
        have i1 : (0 : Int) < ((es.length + 1 : Nat) : Int) := by omega
        have j1 : (((es.length : Nat) : Int) + 1 == 0) = false := by simp; omega
        have m1 : es.length + 1 ≤ ca := by simpa using hca
        have HM1 := Lib.hid hma
        unfold maxLen at hma
        clear hc1 c1 ha
        go_wp2_with fail
        go_quiet (fail)
        all_goals go_wp2_with fail
        all_goals (refine (hsee l (some x) none _ _ _ (hdrew _ _ _ hi) ⟨b1, o1, rfl, d1⟩ rfl ⟨_, mrg_l HL.out⟩).mono ?_; rintro e u' ⟨rfl, hu⟩; go_wp2_with fail; go_roundw; (case rel => exact ⟨es, [], _, (by first | exact tailA HM1.out m1 HC1.out | exact noneA (by omega)), HQB.out, hu, mrg_l HL.out⟩); (case measure => simp [slen] <;> omega))
      | cons y fs =>
        obtain ⟨b1, o1, rfl, hc1⟩ := ha.resolve_left (by simp)
        have HC1 := Lib.hid hc1
        have c1 := hc1 0 _ rfl
        have hlt1 : b1 < w1.heap.size := World.block_lt_of_cell? w1 _ c1
        have d1 : wr.cell? ⟨b1, o1, none⟩ = some (.int .i64 x) := ((hkeep _ _ hi).cell (p := ⟨b1, _, none⟩) hlt1).trans c1
        have i1 : (0 : Int) < ((es.length + 1 : Nat) : Int) := by omega
        have j1 : (((es.length : Nat) : Int) + 1 == 0) = false := by simp; omega
        have m1 : es.length + 1 ≤ ca := by simpa using hca
        have HM1 := Lib.hid hma
        unfold maxLen at hma
        clear hc1 c1 ha
        obtain ⟨b2, o2, rfl, hc2⟩ := hb.resolve_left (by simp)
        have HC2 := Lib.hid hc2
        have c2 := hc2 0 _ rfl
        have hlt2 : b2 < w1.heap.size := World.block_lt_of_cell? w1 _ c2
        have d2 : wr.cell? ⟨b2, o2, none⟩ = some (.int .i64 y) := ((hkeep _ _ hi).cell (p := ⟨b2, _, none⟩) hlt2).trans c2
        have i2 : (0 : Int) < ((fs.length + 1 : Nat) : Int) := by omega
        have j2 : (((fs.length : Nat) : Int) + 1 == 0) = false := by simp; omega
        have m2 : fs.length + 1 ≤ cb := by simpa using hcb
        have HM2 := Lib.hid hmb
        unfold maxLen at hmb
        clear hc2 c2 hb
        by_cases k1 : x < y
        · have K1 := Lib.hid k1; clear k1
          have hcm : ∀ u, Calls Try.prog 49 #[.int .i64 x, .int .i64 y] u fun e w' => e = .returned (.int .i64 (-1)) ∧ w' = u := fun u => by
            have := compare_c x y u
            rwa [show cmpI x y = -1 from by unfold cmpI; rw [if_pos K1.out]] at this
          have HCM := Lib.hid hcm; clear hcm
          go_wp2_with fail
          go_quiet ((go_at_call 49; refine Calls.quiet_of_same (HCM.out _)))
          all_goals go_wp2_with fail
          all_goals go_quiet (fail)
          all_goals go_wp2_with fail
          all_goals (refine (hsee l (some x) none _ _ _ (hdrew _ _ _ hi) ⟨b1, o1, rfl, d1⟩ rfl ⟨_, mrg_lt HL.out K1.out⟩).mono ?_; rintro e u' ⟨rfl, hu⟩; go_wp2_with fail; go_roundw; (case rel => exact ⟨es, (y :: fs), _, (by first | exact tailA HM1.out m1 HC1.out | exact noneA (by omega)), HQB.out, hu, mrg_lt HL.out K1.out⟩); (case measure => simp [slen] <;> omega))
        · by_cases k2 : y < x
          · have K1 := Lib.hid (Int.not_lt.1 k1); clear k1
            have K2 := Lib.hid k2; clear k2
            have hcm : ∀ u, Calls Try.prog 49 #[.int .i64 x, .int .i64 y] u fun e w' => e = .returned (.int .i64 (1)) ∧ w' = u := fun u => by
              have := compare_c x y u
              rwa [show cmpI x y = 1 from by unfold cmpI; rw [if_neg (Int.not_lt.2 K1.out), if_pos K2.out]] at this
            have HCM := Lib.hid hcm; clear hcm
            go_wp2_with fail
            go_quiet ((go_at_call 49; refine Calls.quiet_of_same (HCM.out _)))
            all_goals go_wp2_with fail
            all_goals go_quiet (fail)
            all_goals go_wp2_with fail
            all_goals (refine (hsee l none (some y) _ _ _ (hdrew _ _ _ hi) rfl ⟨b2, o2, rfl, d2⟩ ⟨_, mrg_gt HL.out K1.out K2.out⟩).mono ?_; rintro e u' ⟨rfl, hu⟩; go_wp2_with fail; go_roundw; (case rel => exact ⟨(x :: es), fs, _, HQA.out, (by first | exact tailA HM2.out m2 HC2.out | exact noneA (by omega)), hu, mrg_gt HL.out K1.out K2.out⟩); (case measure => simp [slen] <;> omega))
          · have K1 := Lib.hid (Int.not_lt.1 k1); clear k1
            have K2 := Lib.hid (Int.not_lt.1 k2); clear k2
            have hcm : ∀ u, Calls Try.prog 49 #[.int .i64 x, .int .i64 y] u fun e w' => e = .returned (.int .i64 (0)) ∧ w' = u := fun u => by
              have := compare_c x y u
              rwa [show cmpI x y = 0 from by unfold cmpI; rw [if_neg (Int.not_lt.2 K1.out), if_neg (Int.not_lt.2 K2.out)]] at this
            have HCM := Lib.hid hcm; clear hcm
            go_wp2_with fail
            go_quiet ((go_at_call 49; refine Calls.quiet_of_same (HCM.out _)))
            all_goals go_wp2_with fail
            all_goals go_quiet (fail)
            all_goals go_wp2_with fail
            all_goals go_quiet (fail)
            all_goals go_wp2_with fail
            all_goals (refine (hsee l (some x) (some y) _ _ _ (hdrew _ _ _ hi) ⟨b1, o1, rfl, d1⟩ ⟨b2, o2, rfl, d2⟩ ⟨_, mrg_eq HL.out K1.out K2.out⟩).mono ?_; rintro e u' ⟨rfl, hu⟩; go_wp2_with fail; go_roundw; (case rel => exact ⟨es, fs, _, (by first | exact tailA HM1.out m1 HC1.out | exact noneA (by omega)), (by first | exact tailA HM2.out m2 HC2.out | exact noneA (by omega)), hu, mrg_eq HL.out K1.out K2.out⟩); (case measure => simp [slen] <;> omega))
end Go.Proofs.Ytijbkflbklbemaa
