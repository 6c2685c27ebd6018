/- Walks: put, Encode, step. -/
import Derived.Test.YtijbkflbklbemaaRef
import Derived.Test.YtijbkflbklbemaaEnc
namespace Go.Proofs.Ytijbkflbklbemaa
open Go.RowKit

theorem strCells_bs (l : List UInt8) : Lib.strCells (bs l) = Lib.byteCells l := rfl
theorem vi_num (n : Nat) : Vi.eNum (n : Int) = Vi.vi n := by unfold Vi.eNum; rw [if_neg (by omega)]; simp
theorem builder_below {T e : TypeId} {B b : Nat} {bs : List Value} {w w' : World} (h : Lib.IsBuilderF T e B b bs w) (hb : Below w.heap.size w w') : Lib.IsBuilderF T e B b bs w' := by
  have key : ∀ p, Lib.BuilderAtF T e B b p bs w → Lib.BuilderAtF T e B b p bs w' := by
    rintro p ⟨hB, v, hbk, hown, hne⟩
    have hlt := blk_lt hbk
    refine ⟨hB, v, (hb.block b hlt).trans hbk, hown.kept (row := none) ⟨hb.os, hb.tape, hb.output, hb.size, fun k hk _ => hb.block k hk⟩ ?_, hne⟩
    cases v.ownBlock <;> simp
  rcases h with h | h
  · exact .inl (key _ h)
  · exact .inr (key _ h)
def encI : Int → List Int → List UInt8
  | _, [] => []
  | a, n :: r => Vi.eNum (n - a) ++ encI n r
def encB : Int → List Po.P → List UInt8
  | _, [] => []
  | d, p :: r => Vi.eNum (p.doc - d) ++ Vi.vi p.places.length ++ encI 0 p.places ++ encB p.doc r
def encL (l : List Po.P) : List UInt8 := if Po.rightB l then Vi.vi l.length ++ encB 0 l else []
theorem encI_drop {a : Int} {l : List Int} {k : Nat} {acc T : List UInt8} (hk : k < l.length) (h : acc ++ encI a (l.drop k) = T) : (acc ++ Vi.eNum (l[k] - a)) ++ encI l[k] (l.drop (k + 1)) = T := by
  rw [List.drop_eq_getElem_cons hk, encI] at h
  simpa using h
theorem encB_drop {d : Int} {l : List Po.P} {k : Nat} {acc T : List UInt8} (hk : k < l.length) (h : acc ++ encB d (l.drop k) = T) : ((acc ++ Vi.eNum (l[k].doc - d)) ++ Vi.vi l[k].places.length ++ encI 0 l[k].places) ++ encB l[k].doc (l.drop (k + 1)) = T := by
  rw [List.drop_eq_getElem_cons hk, encB] at h
  simpa using h

set_option maxHeartbeats 2000000 in
theorem put_c (B b : Nat) (acc : List UInt8) (n : Int) (w : World) (h : Lib.IsBuilderF 58 5 B b (Lib.byteCells acc) w) (hlen : acc.length ≤ 70368744177664) (hBw : B ≤ w.heap.size) (hlo : -9223372036854775808 ≤ n) (hhi : n ≤ 9223372036854775807) :
    Calls Try.prog 42 #[.int .i64 n, .pointer (some ⟨b, 0, none⟩)] w fun e w' => e = .returned (.tuple #[]) ∧ Lib.IsBuilderF 58 5 B b (Lib.byteCells (acc ++ Vi.eNum n)) w' ∧ Below B w w' ∧ Lib.OthersKept 5 (some b) w w' := by
  have hbn : (bs (Vi.eNum n)).size ≤ 9 := by rw [bs_size]; exact Vi.eNum_le _
  go_enter Try.func42, Try.ntmps42
  go_wp2_with fail
  refine (enc_c _ _ hlo hhi).mono ?_
  rintro e w1 ⟨rfl, h1⟩
  have hI1 := builder_below h h1
  go_wp2_with fail
  refine (WriteString_k B b _ _ w1 hI1 (by rw [Lib.byteCells_length]; omega) (by have := h1.size; omega)).mono ?_
  rintro e w2 ⟨rfl, h2, b2, k2⟩
  rw [strCells_bs, ← Lib.byteCells_append] at h2
  go_wp2_with fail
  go_end0
  exact ⟨rfl, .inr h2, (h1.mono hBw).trans b2, Lib.OthersKept.trans (show Lib.OthersKept 5 (some b) w w1 from fun k o hk _ _ => (h1.block k (blk_lt hk)).trans hk) k2⟩

theorem step_c (n m : Int) (w : World) (h0 : 0 ≤ n) (h1 : n ≤ 1099511627777) (g0 : 0 ≤ m) :
    Calls Try.prog 36 #[.int .i64 n, .int .i64 m] w fun e w' => e = .returned (.int .i64 (if m > 1099511627776 then 1099511627777 else min (n + m) 1099511627777)) ∧ w' = w := by
  by_cases k : m > 1099511627776
  · rw [if_pos k]
    have k' : 1099511627776 < m := k
    clear k
    go_enter Try.func36, Try.ntmps36
    go_wp2_with fail
    go_ret
    exact ⟨rfl, rfl⟩
  · rw [if_neg k]
    have k' : m ≤ 1099511627776 := Int.not_lt.1 k
    clear k
    go_enter Try.func36, Try.ntmps36
    go_wp2_with fail
    go_ret
    exact ⟨rfl, rfl⟩

theorem builder_lt {T e : TypeId} {B b : Nat} {bs : List Value} {w : World} (h : Lib.IsBuilderF T e B b bs w) : b < w.heap.size := by
  rcases h with ⟨_, v, hbk, _⟩ | ⟨_, v, hbk, _⟩
  · exact blk_lt hbk
  · exact blk_lt hbk
theorem srt_len : ∀ (l : List Int) (lo hi : Int), Po.Srt id l → (∀ n ∈ l, lo ≤ n ∧ n ≤ hi) → (l.length : Int) ≤ max 0 (hi - lo + 1)
  | [], lo, hi, _, _ => by simp; omega
  | n :: r, lo, hi, hs, hr => by
    obtain ⟨h1, h2⟩ := List.pairwise_cons.1 hs
    have := srt_len r (n + 1) hi h2 fun z hz => ⟨by have := h1 z hz; simp only [id] at this; omega, (hr z (by simp [hz])).2⟩
    have := hr n (by simp)
    simp only [List.length_cons]
    omega
theorem plen {l : List Int} (h : Po.OkPl l) : l.length ≤ 1099511627777 := by
  have := srt_len l 0 Po.most h.srt h.rng
  unfold Po.most at this
  omega
theorem encI_len {acc T : List UInt8} {a : Int} {l : List Int} (h : acc ++ encI a l = T) : acc.length ≤ T.length := by rw [← h]; simp
set_option maxHeartbeats 8000000 in
theorem Encode_c (va : Value) (l : List Po.P) (w : World) (ha : SeqP w va l) (hl : l.length ≤ 4398046511104) (hb : (encL l).length ≤ 35184372088832) :
    Calls Try.prog 21 #[va] w fun e w' => e = .returned (.string (bs (encL l))) ∧ Below w.heap.size w w' := by
  have hmf : ∀ (fn : Fn) (first cap : Array Value) (w : World), (Instr.makeFunc fn first cap).run Try.prog w = .ok (.func fn first cap) w := fun _ _ _ _ => rfl
  have HQ := Lib.hid ha
  have hR := Right_c va l w ha hl
  obtain ⟨A, ca, rfl, hca, hma, ha⟩ := ha
  unfold maxLen at hma
  cases hr : Po.rightB l with
  | false =>
    have he : encL l = [] := by unfold encL; rw [hr]; rfl
    rw [he]
    rw [hr] at hR
    have HR := Lib.hid hR
    clear hR hr he ha hb
    go_enter Try.func21, Try.ntmps21
    go_wp2_with fail
    refine HR.out.mono ?_
    rintro e w1 ⟨rfl, h1⟩
    go_wp2_with fail
    go_ret
    exact ⟨rfl, h1⟩
  | true =>
    have he : encL l = Vi.vi l.length ++ encB 0 l := by unfold encL; rw [hr]; rfl
    rw [he] at hb ⊢
    have hok := (Po.right_iff l).1 hr
    rw [hr] at hR
    have HR := Lib.hid hR
    have HK := Lib.hid hok
    have HA := Lib.hid ha
    clear hR hr he hok ha
    have hvl := (Vi.vi_len l.length).2
    generalize hT : Vi.vi l.length ++ encB 0 l = T at hb ⊢
    have HT := Lib.hid hT; clear hT
    go_enter Try.func21, Try.ntmps21
    go_wp2_with fail
    refine HR.out.mono ?_
    rintro e w1 ⟨rfl, h1⟩
    have hfr := Lib.IsBuilderF.of (Lib.fresh_isBuilder 58 5 w1)
    have hb1 : Below w1.heap.size w1 (w1.alloc (.cells #[.pointer none, .slice none 0 0] 58)) := (Below.refl _ _).alloc (Nat.le_refl _) _
    go_wp2_with fail
    refine (put_c w1.heap.size w1.heap.size [] _ _ hfr (by simp) hb1.size (by omega) (by omega)).mono ?_
    rintro e w2 ⟨rfl, hI2, b2, _⟩
    rw [List.nil_append, vi_num] at hI2
    have hbe2 : Below w.heap.size w w2 := h1.trans ((hb1.trans b2).mono h1.size)
    have hs2 : w1.heap.size ≤ w2.heap.size := (hb1.trans b2).size
    have hs1 := h1.size
    clear hfr hb1 b2 h1
    go_wp2_with fail
    go_loopw [5, 21] (fun d i wr => ∃ (k : Nat) (dz : Int) (acc : List UInt8), k ≤ l.length ∧ i = .int .i64 k ∧ d = .int .i64 dz ∧ 0 ≤ dz ∧ dz ≤ 1099511627776 ∧ Lib.IsBuilderF 58 5 w1.heap.size w1.heap.size (Lib.byteCells acc) wr ∧ Below w.heap.size w wr ∧ w1.heap.size ≤ wr.heap.size ∧ Hid (acc ++ encB dz (l.drop k) = T)) (fun _ i _ => l.length - (intOf i).toNat)
    case atStart => exact ⟨0, 0, _, by omega, rfl, rfl, by omega, by omega, hI2, hbe2, hs2, HT⟩
    case round =>
      obtain ⟨k, dz, acc, hk, rfl, rfl, g0, g1, hI, hbw, hsr, heq⟩ := hrel
      clear hI2 hbe2 hs2
      have hal : acc.length ≤ T.length := by rw [← heq.out]; simp
      by_cases k1 : k < l.length
      · obtain ⟨b1, o1, rfl, hc⟩ := HA.out.resolve_left (by intro e; subst e; simp at k1)
        obtain ⟨c0w, P1, n1, m1, c1w, hs⟩ := hc k l[k] (by simp [k1])
        have c0 := cell_keep hbw.block c0w
        have c1 := cell_keep hbw.block c1w
        have hrg := HK.out.rng l[k] (by simp)
        have hpl := HK.out.pl l[k] (by simp)
        clear c0w c1w
        have hnew := encB_drop k1 heq.out
        generalize l[k] = p at c0 c1 hs hrg hpl hnew
        clear hc
        obtain ⟨P2, m2, he, hcp, hmx, hq⟩ := hs
        rw [List.length_map] at he hcp
        obtain ⟨bp, op, rfl, hc3⟩ := hq.resolve_left (by simpa using hpl.ne)
        injection he with e1 e2 e3
        subst e1 e2 e3
        unfold maxLen at hmx
        obtain ⟨d0, d1⟩ := hrg
        unfold Po.most at d1
        have HN := Lib.hid hnew
        have HP := Lib.hid hpl
        have HS := Lib.hid hc3; clear hc3 hq
        have hal1 : (acc ++ Vi.eNum (p.doc - dz)).length ≤ T.length := by rw [← hnew]; simp
        clear hnew hpl
        have i0 : (0 : Int) ≤ (k : Int) := by omega
        have i1 : (k : Int) < (l.length : Int) := by omega
        go_wp2_with fail
        have hX := heap_alloc_new wr (.cells #[.int .i64 p.doc, .slice (some ⟨bp, op, none⟩) p.places.length m1] 40)
        have hIa := builder_below hI ((Below.refl _ wr).alloc (Nat.le_refl _) (.cells #[.int .i64 p.doc, .slice (some ⟨bp, op, none⟩) p.places.length m1] 40))
        have hbwa := hbw.alloc hbw.size (.cells #[.int .i64 p.doc, .slice (some ⟨bp, op, none⟩) p.places.length m1] 40)
        have hsa : w1.heap.size ≤ (wr.alloc (.cells #[.int .i64 p.doc, .slice (some ⟨bp, op, none⟩) p.places.length m1] 40)).heap.size := by simp; omega
        have hXb : wr.heap.size ≠ w1.heap.size := fun e => by have h := builder_lt hI; omega
        refine (put_c w1.heap.size w1.heap.size acc (p.doc - dz) _ hIa (by omega) hsa (by omega) (by omega)).mono ?_
        rintro e w3 ⟨rfl, hI3, b3, k3⟩
        have hX3 := k3 _ _ hX (by simpa using hXb) (by intro c fz; simp)
        have hbw3 := hbwa.trans (b3.mono hs1)
        have hs3 := Nat.le_trans hsa b3.size
        have cx0 : w3.cell? ⟨wr.heap.size, 0, none⟩ = some (.int .i64 p.doc) := by rw [Lib.cell_of_heap hX3]; rfl
        have cx1 : w3.cell? ⟨wr.heap.size, 1, none⟩ = some (.slice (some ⟨bp, op, none⟩) p.places.length m1) := by rw [Lib.cell_of_heap hX3]; rfl
        clear hX hIa hbwa hsa b3 k3 hI
        go_wp2_with fail
        have hpn := plen HP.out
        refine (put_c w1.heap.size w1.heap.size _ (p.places.length : Int) _ hI3 (by omega) hs3 (by omega) (by omega)).mono ?_
        rintro e w4 ⟨rfl, hI4, b4, k4⟩
        rw [vi_num] at hI4
        have hX4 := k4 _ _ hX3 (by simpa using hXb) (by intro c fz; simp)
        have hbw4 := hbw3.trans (b4.mono hs1)
        have hs4 := Nat.le_trans hs3 b4.size
        have cx40 : w4.cell? ⟨wr.heap.size, 0, none⟩ = some (.int .i64 p.doc) := by rw [Lib.cell_of_heap hX4]; rfl
        have cx41 : w4.cell? ⟨wr.heap.size, 1, none⟩ = some (.slice (some ⟨bp, op, none⟩) p.places.length m1) := by rw [Lib.cell_of_heap hX4]; rfl
        have hsz4 := hbw.size
        clear hX3 hI3 b4 k4 cx0 cx1 hs3 hbw3
        go_wp2_with fail
        go_loopw [8, 41] (fun a i wq => ∃ (j : Nat) (az : Int) (ac : List UInt8), j ≤ p.places.length ∧ i = .int .i64 j ∧ a = .int .i64 az ∧ 0 ≤ az ∧ az ≤ 1099511627776 ∧ Lib.IsBuilderF 58 5 w1.heap.size w1.heap.size (Lib.byteCells ac) wq ∧ Below w.heap.size w wq ∧ w1.heap.size ≤ wq.heap.size ∧ Hid (ac ++ encI az (p.places.drop j) = ((acc ++ Vi.eNum (p.doc - dz)) ++ Vi.vi p.places.length) ++ encI 0 p.places)) (fun _ i _ => p.places.length - (intOf i).toNat)
        case atStart => exact ⟨0, 0, _, by omega, rfl, rfl, by omega, by omega, hI4, hbw4, hs4, Lib.hid rfl⟩
        case round =>
          obtain ⟨j, az, ac, hj, rfl, rfl, f0, f1, hJ, hbq, hsq, hq⟩ := hrel
          clear hI4 hbw4 hs4 cx40 cx41 hX4
          have hT2 : (((acc ++ Vi.eNum (p.doc - dz)) ++ Vi.vi p.places.length) ++ encI 0 p.places).length ≤ T.length := by rw [← HN.out]; simp
          have hq1 := encI_len hq.out
          by_cases j1 : j < p.places.length
          · have hcz := cell_keep hbq.block (HS.out j (iv p.places[j]) (by simp [j1]))
            unfold iv at hcz
            have i2 : (0 : Int) ≤ (j : Int) := by omega
            have i3 : (j : Int) < (p.places.length : Int) := by omega
            have hz := HP.out.rng p.places[j] (by simp)
            unfold Po.most at hz
            have hnx := encI_drop j1 hq.out
            generalize p.places[j] = z at hcz hz hnx
            obtain ⟨z0, z1⟩ := hz
            have HX := Lib.hid hnx; clear hnx hq
            go_wp2_with fail
            refine (put_c w1.heap.size w1.heap.size _ (z - az) _ hJ (by omega) hsq (by omega) (by omega)).mono ?_
            rintro e w5 ⟨rfl, hI5, b5, _⟩
            go_wp2_with fail
            go_roundw
            case rel => exact ⟨j + 1, z, _, by omega, by go_num, rfl, by omega, by omega, hI5, hbq.trans (b5.mono hs1), Nat.le_trans hsq b5.size, HX⟩
            case measure => simp [intOf] <;> omega
          · have hd : ac = ((acc ++ Vi.eNum (p.doc - dz)) ++ Vi.vi p.places.length) ++ encI 0 p.places := by have h := hq.out; rw [List.drop_of_length_le (by omega)] at h; simpa [encI] using h
            have HD := Lib.hid (show ac ++ encB p.doc (l.drop (k + 1)) = T from by rw [hd]; exact HN.out)
            clear hd hq HN
            go_wp2_with fail
            go_roundw
            case rel => exact ⟨k + 1, p.doc, ac, by omega, by go_num, rfl, by omega, by omega, hJ, hbq, hsq, HD⟩
            case measure => simp [intOf] <;> omega
      · have hd : acc = T := by have h := heq.out; rw [List.drop_of_length_le (by omega)] at h; simpa [encB] using h
        subst hd
        go_wp2_with fail
        refine (Try.Builder_String_any_k w1.heap.size w1.heap.size _ _ hI hsr).mono ?_
        rintro e w3 ⟨rfl, _, b3, _⟩
        go_wp2_with fail
        go_ret
        exact ⟨rfl, hbw.trans (b3.mono hs1)⟩
end Go.Proofs.Ytijbkflbklbemaa
