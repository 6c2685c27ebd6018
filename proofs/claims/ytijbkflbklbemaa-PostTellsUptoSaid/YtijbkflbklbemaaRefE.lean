/- Walk: the reference's Encode. -/
import Derived.Test.YtijbkflbklbemaaRefR
namespace Go.Proofs.Ytijbkflbklbemaa
open Go.RowKit

theorem keep3 {wr u u1 : World} {a b : Addr} {x y : Value} (h : Below wr.heap.size wr u ∧ u.cell? a = some x ∧ u.cell? b = some y) (k : Below u.heap.size u u1) : Below wr.heap.size wr u1 ∧ u1.cell? a = some x ∧ u1.cell? b = some y :=
  ⟨chain h.1 k, cell_keep k.block h.2.1, cell_keep k.block h.2.2⟩

set_option maxHeartbeats 8000000 in
theorem EncodeR_c (va : Value) (l : List Po.P) (w : World) (ha : SeqP w va l) (hl : l.length ≤ 4398046511104) (hb : (encL l).length ≤ 35184372088832) :
    Calls Try.prog 22 #[va] w fun e w' => e = .returned (.string (bs (encL l))) ∧ Below w.heap.size w w' := by
  have hR := RightR_c va l w ha
  obtain ⟨A, ca, rfl, hca, hma, ha⟩ := ha
  unfold maxLen at hma
  cases hr : Po.rightB l with
  | false =>
    have he : encL l = [] := by unfold encL; rw [hr]; rfl
    rw [he]
    rw [hr] at hR
    have HR := Lib.hid hR
    clear hR hr he ha hb
    go_enter Try.func22, Try.ntmps22
    go_wp2_with fail
    refine HR.out.mono ?_
    rintro e w1 ⟨rfl, hw1⟩
    obtain rfl := hw1.symm
    go_wp2_with fail
    go_ret
    exact ⟨rfl, Below.refl _ _⟩
  | true =>
    have he : encL l = Vi.vi l.length ++ encB 0 l := by unfold encL; rw [hr]; rfl
    rw [he] at hb ⊢
    have hok := (Po.right_iff l).1 hr
    rw [hr] at hR
    have HR := Lib.hid hR
    have HK := Lib.hid hok
    have HA := Lib.hid ha
    clear hR hr he hok ha
    have hvl := (Vi.vi_len l.length).2
    generalize hT : Vi.vi l.length ++ encB 0 l = T at hb ⊢
    have HT := Lib.hid hT; clear hT
    go_enter Try.func22, Try.ntmps22
    go_wp2_with fail
    refine HR.out.mono ?_
    rintro e w1 ⟨rfl, hw1⟩
    obtain rfl := hw1.symm
    go_wp2_with fail
    refine (encR_c _ _ (by omega) (by omega)).mono ?_
    rintro e w2 ⟨rfl, h2⟩
    rw [vi_num]
    have H2 := Lib.hid h2; clear h2
    go_wp2_with fail
    go_loopw [4, 5, 6] (fun b d i wr => ∃ (k : Nat) (dz : Int) (acc : List UInt8), k ≤ l.length ∧ i = .int .i64 k ∧ d = .int .i64 dz ∧ b = .string (bs acc) ∧ 0 ≤ dz ∧ dz ≤ 1099511627776 ∧ Hid (Below w.heap.size w wr) ∧ Hid (acc ++ encB dz (l.drop k) = T)) (fun _ _ i _ => l.length - (intOf i).toNat)
    case atStart => exact ⟨0, 0, _, by omega, rfl, rfl, rfl, by omega, by omega, H2, HT⟩
    case round =>
      obtain ⟨k, dz, acc, hk, rfl, rfl, rfl, g0, g1, HB, heq⟩ := hrel
      clear H2
      by_cases k1 : k < l.length
      · obtain ⟨b1, o1, rfl, hc⟩ := HA.out.resolve_left (by intro e; subst e; simp at k1)
        obtain ⟨c0w, P1, n1, m1, c1w, hs⟩ := hc k l[k] (by simp [k1])
        have c0 := cell_keep HB.out.block c0w
        have c1 := cell_keep HB.out.block c1w
        have hrg := HK.out.rng l[k] (by simp)
        have hpl := HK.out.pl l[k] (by simp)
        have hnew := encB_drop k1 heq.out
        generalize l[k] = p at c0 c1 hs hrg hpl hnew c0w c1w
        clear hc
        obtain ⟨P2, m2, he, hcp, hmx, hq⟩ := hs
        rw [List.length_map] at he hcp
        obtain ⟨bp, op, rfl, hc3⟩ := hq.resolve_left (by simpa using hpl.ne)
        injection he with e1 e2 e3
        subst e1 e2 e3
        unfold maxLen at hmx
        obtain ⟨d0, d1⟩ := hrg
        unfold Po.most at d1
        have hpn := plen hpl
        have HN := Lib.hid hnew
        have HP := Lib.hid hpl
        have HC3 := Lib.hid hc3
        have C0 := Lib.hid c0w
        have C1 := Lib.hid c1w
        clear hnew hpl hc3 hq c0w c1w
        have i0 : (0 : Int) ≤ (k : Int) := by omega
        have i1 : (k : Int) < (l.length : Int) := by omega
        have HW := Lib.hid (show IntKind.i64.wrap (p.doc - dz) = p.doc - dz by rw [IntKind.wrap_i64]; omega)
        obtain ⟨X, hX⟩ : ∃ X, X = bs acc := ⟨_, rfl⟩
        obtain ⟨Y, hY⟩ : ∃ Y, Y = bs (Vi.eNum (p.doc - dz)) := ⟨_, rfl⟩
        obtain ⟨Z, hZ⟩ : ∃ Z, Z = bs (Vi.vi p.places.length) := ⟨_, rfl⟩
        have hc1 : ∀ u, Calls Try.prog 46 #[.int .i64 (p.doc - dz)] u fun e w' => e = .returned (.string Y) ∧ Below u.heap.size u w' := fun u => by rw [hY]; exact encR_c (p.doc - dz) u (by omega) (by omega)
        have hc2 : ∀ u, Calls Try.prog 46 #[.int .i64 (p.places.length : Int)] u fun e w' => e = .returned (.string Z) ∧ Below u.heap.size u w' := fun u => by
          rw [hZ]
          have := encR_c (p.places.length : Int) u (by omega) (by omega)
          rwa [vi_num] at this
        have hXs : X.size ≤ 35184372088832 := by
          rw [hX, bs_size]
          have : acc.length ≤ T.length := by rw [← heq.out]; simp
          omega
        have hYs : Y.size ≤ 9 := by rw [hY, bs_size]; exact Vi.eNum_le _
        have hZs : Z.size ≤ 9 := by rw [hZ, bs_size]; exact (Vi.vi_len _).2
        have hs1 : (9223372036854775807 < X.size + Y.size) = False := eq_false (by omega)
        have hs2 : (9223372036854775807 < X.size + Y.size + Z.size) = False := eq_false (by omega)
        have HCC1 := Lib.hid hc1
        have HCC2 := Lib.hid hc2
        have HX := Lib.hid hX
        have HY := Lib.hid hY
        have HZ := Lib.hid hZ
        rw [← hX]
        clear hc1 hc2 hX hY hZ hXs hYs hZs
        go_wp2_with fail
        go_region_held3 (fun u => Below wr.heap.size wr u ∧ u.cell? ⟨b1, o1 + k * 2, none⟩ = some (.int .i64 p.doc) ∧ u.cell? ⟨b1, o1 + k * 2 + 1, none⟩ = some (.slice (some ⟨bp, op, none⟩) p.places.length m1)) (first | exact e1 | exact ⟨⟨rfl, rfl, rfl, Nat.le_refl _, fun _ _ => rfl⟩, c0, c1⟩) ((first
          | (go_at_call 46; (with_reducible show Calls _ _ #[.int .i64 (IntKind.i64.wrap (p.doc - dz))] _ _); rw [HW.out]; refine (HCC1.out _).mono ?_; rintro e u1 ⟨rfl, k1⟩; have e1 := keep3 (wr := wr) (a := ⟨b1, o1 + k * 2, none⟩) (b := ⟨b1, o1 + k * 2 + 1, none⟩) (x := .int .i64 p.doc) (y := .slice (some ⟨bp, op, none⟩) p.places.length m1) (by assumption) k1)
          | (go_at_call 46; (with_reducible show Calls _ _ #[.int .i64 (p.places.length : Int)] _ _); refine (HCC2.out _).mono ?_; rintro e u1 ⟨rfl, k1⟩; have e1 := keep3 (wr := wr) (a := ⟨b1, o1 + k * 2, none⟩) (b := ⟨b1, o1 + k * 2 + 1, none⟩) (x := .int .i64 p.doc) (y := .slice (some ⟨bp, op, none⟩) p.places.length m1) (by assumption) k1)))
        all_goals (obtain ⟨hb1, c01, c11⟩ := e1)
        all_goals
          have hbu := chain HB.out hb1
          have hX4 : X ++ Y ++ Z = bs ((acc ++ Vi.eNum (p.doc - dz)) ++ Vi.vi p.places.length) := by rw [HX.out, HY.out, HZ.out, bs_append, bs_append]
          generalize X ++ Y ++ Z = S at hX4 ⊢
          have HS4 := Lib.hid hX4
          have HBU := Lib.hid hbu
          clear hb1 hbu hX4 hs1 hs2
          go_wp2_with fail
          go_loopw [4, 7, 8] (fun b a i wq => ∃ (j : Nat) (az : Int) (ac : List UInt8), j ≤ p.places.length ∧ i = .int .i64 j ∧ a = .int .i64 az ∧ b = .string (bs ac) ∧ 0 ≤ az ∧ az ≤ 1099511627776 ∧ Hid (Below w.heap.size w wq) ∧ Hid (ac ++ encI az (p.places.drop j) = ((acc ++ Vi.eNum (p.doc - dz)) ++ Vi.vi p.places.length) ++ encI 0 p.places)) (fun _ _ i _ => p.places.length - (intOf i).toNat)
          case atStart => exact ⟨0, 0, _, by omega, rfl, rfl, by rw [HS4.out], by omega, by omega, HBU, Lib.hid rfl⟩
          case round =>
            obtain ⟨j, az, ac, hj, rfl, rfl, rfl, f0, f1, HBQ, hq⟩ := hrel
            clear c01 c11 c0 c1
            have hT2 : (((acc ++ Vi.eNum (p.doc - dz)) ++ Vi.vi p.places.length) ++ encI 0 p.places).length ≤ T.length := by rw [← HN.out]; simp
            have hq1 := encI_len hq.out
            have q0 := cell_keep HBQ.out.block C0.out
            have q1 := cell_keep HBQ.out.block C1.out
            by_cases j1 : j < p.places.length
            · have hcz := cell_keep HBQ.out.block (HC3.out j (iv p.places[j]) (by simp [j1]))
              unfold iv at hcz
              have i2 : (0 : Int) ≤ (j : Int) := by omega
              have i3 : (j : Int) < (p.places.length : Int) := by omega
              have hz := HP.out.rng p.places[j] (by simp)
              unfold Po.most at hz
              have hnx := encI_drop j1 hq.out
              generalize p.places[j] = z at hcz hz hnx
              obtain ⟨z0, z1⟩ := hz
              have HNX := Lib.hid hnx; clear hnx hq
              obtain ⟨U, hU⟩ : ∃ U, U = bs ac := ⟨_, rfl⟩
              obtain ⟨V, hV⟩ : ∃ V, V = bs (Vi.eNum (z - az)) := ⟨_, rfl⟩
              have hc4 : ∀ u, Calls Try.prog 46 #[.int .i64 (z - az)] u fun e w' => e = .returned (.string V) ∧ Below u.heap.size u w' := fun u => by rw [hV]; exact encR_c (z - az) u (by omega) (by omega)
              have hUs : U.size ≤ 35184372088832 := by rw [hU, bs_size]; omega
              have hVs : V.size ≤ 9 := by rw [hV, bs_size]; exact Vi.eNum_le _
              have hs3 : (9223372036854775807 < U.size + V.size) = False := eq_false (by omega)
              have HCC4 := Lib.hid hc4
              have HU := Lib.hid hU
              have HV := Lib.hid hV
              rw [← hU]
              clear hc4 hU hV hUs hVs hT2 hq1
              go_wp2_with fail
              refine (HCC4.out _).mono ?_
              rintro e w5 ⟨rfl, b5⟩
              have HB5 := Lib.hid (chain HBQ.out b5)
              have q05 := cell_keep b5.block q0
              have q15 := cell_keep b5.block q1
              have hcz5 := cell_keep b5.block hcz
              clear b5 q0 q1 hcz
              go_wp2_with fail
              go_roundw
              case rel =>
                exact ⟨j + 1, z, ac ++ Vi.eNum (z - az), by omega, by go_num, rfl, by rw [HU.out, HV.out, bs_append], by omega, by omega, HB5, HNX⟩
              case measure => simp [intOf] <;> omega
            · have hd : ac = ((acc ++ Vi.eNum (p.doc - dz)) ++ Vi.vi p.places.length) ++ encI 0 p.places := by have h := hq.out; rw [List.drop_of_length_le (by omega)] at h; simpa [encI] using h
              have HD := Lib.hid (show ac ++ encB p.doc (l.drop (k + 1)) = T from by rw [hd]; exact HN.out)
              clear hd hq HN
              go_wp2_with fail
              go_roundw
              case rel => exact ⟨k + 1, p.doc, ac, by omega, by go_num, rfl, rfl, by omega, by omega, HBQ, HD⟩
              case measure => simp [intOf] <;> omega
      · have hd : acc = T := by have h := heq.out; rw [List.drop_of_length_le (by omega)] at h; simpa [encB] using h
        subst hd
        go_wp2_with fail
        go_ret
        exact ⟨rfl, HB.out⟩
end Go.Proofs.Ytijbkflbklbemaa
