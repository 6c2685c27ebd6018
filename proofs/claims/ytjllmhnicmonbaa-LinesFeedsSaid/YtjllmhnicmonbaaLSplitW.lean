/- LinesSplit walked. -/
import Derived.Test.YtjllmhnicmonbaaApp
namespace Go.Proofs.Ytjllmhnicmonbaa
open Go Go.RowKit

namespace Ln
theorem wf_last : ∀ (L : List (List UInt8)), wf L → ∀ (i : Nat) (h : i < L.length), U L[i] → i + 1 = L.length
  | [], _, i, h, _ => by cases h
  | l :: r, hw, 0, _, hu => by
    rcases hw with ⟨⟨b, hb, _⟩, _⟩ | ⟨_, hr⟩
    · exact absurd (show 10 ∈ l by rw [hb]; simp) hu.2
    · rw [hr]; rfl
  | l :: r, hw, i + 1, h, hu => by
    rcases hw with ⟨_, hr⟩ | ⟨_, hr⟩
    · have := wf_last r hr i (by simpa using h) hu
      simp only [List.length_cons]
      omega
    · subst hr
      simp at h
theorem at_T {x : List UInt8} (h : T x) {k : Nat} (hk : k < x.length) : (x.getD k 0 == 10) = decide (k + 1 = x.length) := by
  obtain ⟨b, rfl, hb⟩ := h
  by_cases hkb : k < b.length
  · have h1 : (b ++ [10]).getD k 0 = b[k] := by rw [List.getD_eq_getElem?_getD, List.getElem?_append_left hkb, List.getElem?_eq_getElem hkb]; rfl
    have h2 : b[k] ≠ 10 := fun e => hb (by rw [← e]; exact List.getElem_mem hkb)
    rw [h1, beq_eq_false_iff_ne.2 h2, decide_eq_false (by simp; omega)]
  · have h0 : k = b.length := by simp at hk; omega
    subst h0
    have h1 : (b ++ [10]).getD b.length 0 = 10 := by rw [List.getD_eq_getElem?_getD, List.getElem?_append_right (Nat.le_refl _)]; simp
    rw [h1]
    simp
theorem at_U {x : List UInt8} (h : U x) {k : Nat} (hk : k < x.length) : (x.getD k 0 == 10) = false := by
  rw [List.getD_eq_getElem?_getD, List.getElem?_eq_getElem hk, beq_eq_false_iff_ne]
  exact fun e => h.2 (by rw [← e]; exact List.getElem_mem hk)
theorem flat_succ (L : List (List UInt8)) {i : Nat} (h : i < L.length) : (L.take (i + 1)).flatten = (L.take i).flatten ++ L[i] := by
  rw [List.take_succ_eq_append_getElem h, List.flatten_append]
  simp
end Ln
theorem bs_at (x : List UInt8) (k : Nat) (h : k < (bs x).size) : (bs x)[k] = x.getD k 0 := by
  have h' : k < x.length := h
  rw [List.getD_eq_getElem?_getD, List.getElem?_eq_getElem h']
  rfl
theorem extract_mid (s : ByteArray) (p q r : List UInt8) (h : s.data.toList = p ++ q ++ r) : s.extract p.length (p.length + q.length) = bs q := by
  refine bs_of ?_
  rw [Lib.extract_data, h]
  simp
theorem cat_data (a b : ByteArray) : (a ++ b).data.toList = a.data.toList ++ b.data.toList := by simp
set_option maxHeartbeats 8000000 in
set_option maxRecDepth 100000 in
theorem linesSplit_w (a : ByteArray) (ha0 : a.data.toList.length ≤ 140737488355328) (b : ByteArray) (hb0 : b.data.toList.length ≤ 140737488355328) (w : World) :
    Calls Try.prog 6 #[.string a, .string b] w fun e w' => e = .returned (.bool true) ∧ Below w.heap.size w w' := by
  have hza : a.data.toList.length = a.size := rfl
  have hzb : b.data.toList.length = b.size := rfl
  rw [hza] at ha0
  rw [hzb] at hb0
  by_cases big : 10000 < a.size ∨ 10000 < b.size
  · have big' : (10000 : Int) < (a.size : Int) ∨ (¬ (10000 : Int) < (a.size : Int)) ∧ (10000 : Int) < (b.size : Int) := by omega
    rcases big' with h | ⟨h, h'⟩
    all_goals
      go_enter Try.func6, Try.ntmps6
      go_wp2_with fail
      refine (small_c w).mono ?_
      rintro e w1 ⟨rfl, k1⟩
      have B1 := Lib.hid k1
      clear k1
      go_wp2_with fail
      go_ret
      exact ⟨rfl, B1.out⟩
  · have big1 : ¬ (10000 : Int) < (a.size : Int) := by omega
    have big2 : ¬ (10000 : Int) < (b.size : Int) := by omega
    obtain ⟨i0, hi, hz0, hz1, hz2⟩ := info_parts infoStr
    have hsa := fun u => Split_c a (by omega) u
    have hsb := fun u => Split_c b (by omega) u
    have hsab := fun u => Split_c (a ++ b) (by have h : (a ++ b).size = a.size + b.size := (by simp); omega) u
    rw [cat_data] at hsab
    have hla := Ln.lns_len a.data.toList
    have hlb := Ln.lns_len b.data.toList
    have hwf := Ln.wf_all a.data.toList
    have hfl := Ln.flat a.data.toList
    have hmem : ∀ x ∈ Ln.lns a.data.toList, Ln.T x ∨ Ln.U x := fun x hx => Ln.lns_mem hx
    have hcat := Ln.lns_append a.data.toList b.data.toList
    generalize Ln.lns a.data.toList = L at hsa hla hwf hfl hmem hcat
    generalize Ln.lns b.data.toList = M at hsb hlb hcat
    generalize Ln.lns (a.data.toList ++ b.data.toList) = N at hsab hcat
    have HSA := Lib.hid hsa
    have HSB := Lib.hid hsb
    have HSAB := Lib.hid hsab
    have HWF := Lib.hid hwf
    have HFL := Lib.hid hfl
    have HMEM := Lib.hid hmem
    have HCAT := Lib.hid hcat
    have hLl : L.length ≤ 10000 := by omega
    have hMl : M.length ≤ 10000 := by omega
    clear hsa hsb hsab hwf hfl hmem hcat hla hlb big hza hzb
    go_enter Try.func6, Try.ntmps6
    go_wp2_with fail
    refine (small_c w).mono ?_
    rintro e w1 ⟨rfl, k1⟩
    have B1 := Lib.hid k1
    clear k1
    go_wp2_with fail
    refine (HSA.out w1).mono ?_
    rintro e w3 ⟨v3, rfl, own3, k3⟩
    obtain ⟨A3, c3, rfl⟩ := own_len own3
    have HS3 := Lib.hid (row_seq own3)
    have B3 := Lib.hid (chain B1.out k3)
    clear k3 B1 own3
    go_wp2_with fail
    refine (HSB.out w3).mono ?_
    rintro e w4 ⟨v4, rfl, own4, k4⟩
    obtain ⟨A4, c4, rfl⟩ := own_len own4
    have HS4 := Lib.hid (row_seq own4)
    have B4 := Lib.hid (chain B3.out k4)
    have HT4 := Lib.hid (HS3.out.below k4)
    clear k4 B3 own4 HS3
    go_wp2_with fail
    go_loopw [8, 9, 10] (fun nv iv _ wr => ∃ i : Nat, i ≤ L.length ∧ iv = .int .i64 i ∧ nv = .int .i64 (((L.take i).flatten.length : Nat) : Int) ∧ Hid (Seq wr (.slice A3 L.length c3) (L.map sv)) ∧ Hid (Seq wr (.slice A4 M.length c4) (M.map sv)) ∧ Hid (Below w.heap.size w wr)) (fun _ iv _ _ => L.length - (intOf iv).toNat)
    case atStart => exact ⟨0, by omega, rfl, rfl, HT4, HS4, B4⟩
    case round =>
      obtain ⟨i, hik, rfl, rfl, HX, HY, HB⟩ := hrel
      clear HT4 HS4 B4
      by_cases k1 : i < L.length
      · obtain ⟨b3, o3, rfl, hc3⟩ := seq_at (k := i) HX.out (by simpa using k1)
        have hc3' : wr.cell? ⟨b3, o3 + i, none⟩ = some (.string (bs L[i])) := by rw [hc3, List.getElem_map]; rfl
        have hx := HMEM.out L[i] (List.getElem_mem k1)
        have hlast := Ln.wf_last L HWF.out i k1
        have hsucc := Ln.flat_succ L k1
        have hsplit : a.data.toList = (L.take i).flatten ++ L[i] ++ (L.drop (i + 1)).flatten := by
          have h1 := HFL.out
          rw [← List.take_append_drop (i + 1) L, List.flatten_append, hsucc] at h1
          exact h1.symm
        have hext := extract_mid a _ _ _ hsplit
        have hlen := congrArg List.length hsplit
        rw [List.length_append, List.length_append, show a.data.toList.length = a.size from rfl] at hlen
        have hsl := congrArg List.length hsucc
        rw [List.length_append] at hsl
        clear hc3 hsplit hsucc
        generalize L[i] = x at hc3' hx hlast hext hlen hsl
        generalize (L.drop (i + 1)).flatten.length = tl at hlen
        generalize (L.take i).flatten.length = n1 at hext hlen hsl ⊢
        have hxp := List.length_pos_iff.2 (Ln.ne_nil hx)
        have hby := bs_at x
        have hne : ¬ (bs x).toList = [] := by rw [Lib.toList_data, bs_data]; exact Ln.ne_nil hx
        have hne2 : ((bs x).toList == []) = false := by rw [beq_eq_false_iff_ne]; exact hne
        have hne3 : (bs x).toList.isEmpty = false := by rw [List.isEmpty_eq_false_iff]; exact hne
        rw [← bs_size x] at hlen hsl hext hxp
        generalize hXx : bs x = X at hc3' hext hlen hsl hxp hby hne hne2 hne3
        have hXs : X.size = x.length := by rw [← hXx]; rfl
        clear hXx
        have i0 : (0 : Int) ≤ (i : Int) := by omega
        have i1 : (i : Int) < (L.length : Int) := by omega
        have w1 : IntKind.i64.wrap ((n1 : Int) + (X.size : Int)) = (n1 : Int) + (X.size : Int) := by rw [IntKind.wrap_i64]; omega
        have t1 : ((n1 : Int) + (X.size : Int)).toNat = n1 + X.size := by omega
        have t2 : decide ((a.size : Int) < (n1 : Int) + (X.size : Int)) = false := by rw [decide_eq_false_iff_not]; omega
        have t3 : (0 : Int) ≤ (n1 : Int) := by omega
        have t4 : (n1 : Int) ≤ (n1 : Int) + (X.size : Int) := by omega
        have t5 : (n1 : Int) + (X.size : Int) ≤ (a.size : Int) := by omega
        have HBY := Lib.hid hby
        have HXS := Lib.hid hXs
        have HSL := Lib.hid hsl
        have HLS := Lib.hid hlast
        have HXC := Lib.hid hx
        clear hby hXs hsl hlast hx hlen
        go_wp2_with fail
        go_quiet (fail)
        go_wp2_with fail
        generalize hW : World.drewN _ _ = W1
        have HX1 := Lib.hid (show Seq W1 (.slice (some ⟨b3, o3, none⟩) L.length c3) (L.map sv) by rw [← hW]; exact HX.out.keep (fun _ _ => rfl))
        have HY1 := Lib.hid (show Seq W1 (.slice A4 M.length c4) (M.map sv) by rw [← hW]; exact HY.out.keep (fun _ _ => rfl))
        have HB1 := Lib.hid (show Below w.heap.size w W1 by rw [← hW]; exact below_drewN HB.out _)
        have hc3 : W1.cell? ⟨b3, o3 + i, none⟩ = some (.string X) := by rw [← hW]; exact hc3'
        clear hW hc3' HX HY HB
        go_loopw [10] (fun kv wq => ∃ k : Nat, k ≤ X.size ∧ kv = .int .i64 k ∧ wq.cell? ⟨b3, o3 + i, none⟩ = some (.string X) ∧ Hid (Seq wq (.slice (some ⟨b3, o3, none⟩) L.length c3) (L.map sv)) ∧ Hid (Seq wq (.slice A4 M.length c4) (M.map sv)) ∧ Hid (Below w.heap.size w wq)) (fun kv _ => X.size - (intOf kv).toNat)
        case atStart => exact ⟨0, by omega, rfl, hc3, HX1, HY1, HB1⟩
        case round =>
          clear hc3 HX1 HY1 HB1
          obtain ⟨k, hk, rfl, hc3, HX, HY, HB⟩ := hrel
          by_cases kx : k < X.size
          · have hxk := HBY.out k kx
            have hkl : k < x.length := by rw [← HXS.out]; exact kx
            have k0 : (0 : Int) ≤ (k : Int) := by omega
            have k2 : (k : Int) < (X.size : Int) := by omega
            rcases HXC.out with ht | hu
            · have hd := Ln.at_T ht hkl
              rw [← hxk, ← HXS.out] at hd
              by_cases kl : k + 1 = X.size
              · rw [decide_eq_true kl] at hd
                have e1 := byte_ten hd
                have e2 : ((X[k].toNat : Int) != 10) = false := by rw [bne, e1]; rfl
                have e3 : ((k : Int) + 1 == (X.size : Int)) = true := by rw [beq_iff_eq]; omega
                have e4 : decide ((k : Int) + 1 < (X.size : Int)) = false := by rw [decide_eq_false_iff_not]; omega
                clear hd hxk ht kl
                go_wp2_with fail
                go_roundw
                case rel => exact ⟨k + 1, by omega, by go_num, hc3, HX, HY, HB⟩
                case measure => simp [intOf] <;> omega
              · rw [decide_eq_false kl] at hd
                have e1 := byte_ten hd
                have e3 : ((k : Int) + 1 == (X.size : Int)) = false := by rw [beq_eq_false_iff_ne]; omega
                clear hd hxk ht kl
                go_wp2_with fail
                go_roundw
                case rel => exact ⟨k + 1, by omega, by go_num, hc3, HX, HY, HB⟩
                case measure => simp [intOf] <;> omega
            · have hd := Ln.at_U hu hkl
              rw [← hxk] at hd
              have e1 := byte_ten hd
              have hl := HLS.out hu
              by_cases kl : k + 1 = X.size
              · have e2 : ((X[k].toNat : Int) != 10) = true := by rw [bne, e1]; rfl
                have e3 : ((k : Int) + 1 == (X.size : Int)) = true := by rw [beq_iff_eq]; omega
                have e5 : decide ((i : Int) + 1 < (L.length : Int)) = false := by rw [decide_eq_false_iff_not]; omega
                clear hd hxk hu kl hl
                go_wp2_with fail
                go_roundw
                case rel => exact ⟨k + 1, by omega, by go_num, hc3, HX, HY, HB⟩
                case measure => simp [intOf] <;> omega
              · have e3 : ((k : Int) + 1 == (X.size : Int)) = false := by rw [beq_eq_false_iff_ne]; omega
                clear hd hxk hu kl hl
                go_wp2_with fail
                go_roundw
                case rel => exact ⟨k + 1, by omega, by go_num, hc3, HX, HY, HB⟩
                case measure => simp [intOf] <;> omega
          · obtain rfl : k = X.size := by omega
            go_wp2_with fail
            go_roundw
            case rel => exact ⟨i + 1, by omega, by go_num, by have := HSL.out; rw [this]; go_num, HX, HY, HB⟩
            case measure => simp [intOf] <;> omega
      · obtain rfl : i = L.length := by omega
        have hfin : (L.take L.length).flatten.length = a.size := by rw [List.take_of_length_le (Nat.le_refl _), HFL.out]; rfl
        rw [hfin]
        clear hfin
        have hw3 : (a.data.toList = []) ∨ (a.data.toList ≠ [] ∧ a.data.toList.getLast? = some 10) ∨ (a.data.toList ≠ [] ∧ a.data.toList.getLast? ≠ some 10) := by
          by_cases h1 : a.data.toList = []
          · exact .inl h1
          · by_cases h2 : a.data.toList.getLast? = some 10
            · exact .inr (.inl ⟨h1, h2⟩)
            · exact .inr (.inr ⟨h1, h2⟩)
        have hlastb : a.data.toList ≠ [] → ∃ h : a.size - 1 < a.size, 0 < a.size ∧ a.data.toList.getLast? = some a[a.size - 1] := fun h => by
          have hl : a.data.toList.length = a.size := rfl
          have hp := List.length_pos_iff.2 h
          refine ⟨by omega, by omega, ?_⟩
          rw [List.getLast?_eq_getElem?, hl, List.getElem?_eq_getElem (by omega)]
          rfl
        have hsz2 : ¬ 9223372036854775807 < a.size + b.size := by omega
        have HLB := Lib.hid hlastb
        clear hlastb
        rcases hw3 with h | ⟨h, h2⟩ | ⟨h, h2⟩
        rotate_left 2
        · obtain ⟨hq, hp, hg⟩ := HLB.out h
          have hne : ¬ a.toList = [] := by rw [Lib.toList_data]; exact h
          have hne2 : (a.toList == []) = false := by rw [beq_eq_false_iff_ne]; exact hne
          have e1 : (a[a.size - 1] == 10) = false := by
            rw [beq_eq_false_iff_ne]
            intro e
            rw [hg, e] at h2
            exact h2 rfl
          have e2 := byte_ten e1
          have q0 : (0 : Int) ≤ (a.size : Int) - 1 := by omega
          have q1 : (a.size : Int) - 1 < (a.size : Int) := by omega
          have q2 : ((a.size : Int) - 1).toNat = a.size - 1 := by omega
          clear h h2 hg e1
          go_wp2_with fail
          go_ret
          exact ⟨rfl, HB.out⟩
        · have HN := Lib.hid (HCAT.out (.inl h))
          have hne : a.toList = [] := by rw [Lib.toList_data]; exact h
          clear h HLB
          go_wp2_with fail
          refine (HSAB.out wr).mono ?_
          rintro e w5 ⟨v5, rfl, own5, k5⟩
          have HS5 := Lib.hid (row_seq own5)
          obtain ⟨A5, c5, rfl⟩ := own_len own5
          have HX5 := Lib.hid ((HX.out.below k5).below ((Below.refl _ w5).alloc (Nat.le_refl _) (.cells #[] 9)))
          have HY5 := Lib.hid (HY.out.below k5)
          have B5 := Lib.hid (chain HB.out k5)
          have hz5 := B5.out.size
          clear own5 k5 HX HY HB
          go_wp2_with (first
            | (at_builtin
               go_must (refine wpList_append_seq (by rfl) (.tmp 150) (.tmp 151) 24 rfl w5.heap.size 9 i0 _ 16 Try.underlying24 hi hz0 hz1 hz2 rfl _ 0 [] rfl (World.ownsRow_lit w5 #[] 0 (Nat.le_refl _) (by decide) rfl) _ (L.map sv) rfl HX5.out (sv_one L) (by rw [List.length_map]; unfold maxLen; omega) (by rw [List.length_map]; omega) (by simp) ?_)))
          intro v6 w6 own6 g6
          have k6 : Below w5.heap.size w5 w6 := ((Below.refl _ w5).alloc (Nat.le_refl _) _).grown g6 (by simp) (fun b e => by cases e; exact Nat.le_refl _)
          have own6' : w6.ownsRow w5.heap.size 9 1 v6 L.length (L.map sv) := by simpa using own6
          obtain ⟨A6, c6, rfl⟩ := own_len own6'
          have O6 := Lib.hid own6'
          have K6 := Lib.hid k6
          have HY6 := Lib.hid (HY5.out.below k6)
          have B6 := Lib.hid (chain B5.out k6)
          have hz6 := k6.size
          clear own6 own6' g6 k6 HX5 HY5 B5
          go_wp2_with (first
            | (at_builtin
               go_must (refine wpList_append_seq (by rfl) (.tmp 152) (.tmp 153) 24 rfl w5.heap.size 9 i0 _ 16 Try.underlying24 hi hz0 hz1 hz2 rfl _ L.length (L.map sv) rfl O6.out _ (M.map sv) rfl HY6.out (sv_one M) (by rw [List.length_map]; unfold maxLen; omega) (by rw [List.length_map]; omega) hz6 ?_)))
          intro v7 w7 own7 g7
          have k7 : Below w.heap.size w w7 := own_grown O6.out g7 B6.out hz5
          have hs7 : Seq w7 v7 ((L ++ M).map sv) := by
            rw [List.map_append]
            exact Seq.of_own (by simpa using own7)
          have hs5 : Seq w7 (.slice A5 N.length c5) (N.map sv) := HS5.out.keep (fun b hb => (g7.block b (by omega) (fun e => by have := (O6.out.lt b e.symm).1; omega)).trans (K6.out.block b hb))
          obtain ⟨A7, c7, rfl⟩ := own_len own7
          have hsm := SameTexts_c _ _ N (L ++ M) w7 hs5 hs7
          rw [decide_eq_true HN.out] at hsm
          have HSM := Lib.hid hsm
          have B7 := Lib.hid k7
          clear own7 g7 k7 hs7 hs5 hsm HS5 K6 HY6 O6 B6
          go_wp2_with fail
          refine HSM.out.mono ?_
          rintro e w8 ⟨rfl, q8, hw8⟩
          have B8 := Lib.hid (show Below w.heap.size w w8 by rw [hw8]; exact below_drewN B7.out _)
          clear hw8 HSM
          go_wp2_with fail
          go_ret
          exact ⟨rfl, B8.out⟩
        · have HN := Lib.hid (HCAT.out (.inr h2))
          obtain ⟨hq, hp, hg⟩ := HLB.out h
          have hne : ¬ a.toList = [] := by rw [Lib.toList_data]; exact h
          have hne2 : (a.toList == []) = false := by rw [beq_eq_false_iff_ne]; exact hne
          have e1 : (a[a.size - 1] == 10) = true := by
            rw [hg] at h2
            rw [beq_iff_eq]
            exact Option.some.inj h2
          have e2 := byte_ten e1
          have q0 : (0 : Int) ≤ (a.size : Int) - 1 := by omega
          have q1 : (a.size : Int) - 1 < (a.size : Int) := by omega
          have q2 : ((a.size : Int) - 1).toNat = a.size - 1 := by omega
          clear h h2 hg e1
          go_wp2_with fail
          refine (HSAB.out wr).mono ?_
          rintro e w5 ⟨v5, rfl, own5, k5⟩
          have HS5 := Lib.hid (row_seq own5)
          obtain ⟨A5, c5, rfl⟩ := own_len own5
          have HX5 := Lib.hid ((HX.out.below k5).below ((Below.refl _ w5).alloc (Nat.le_refl _) (.cells #[] 9)))
          have HY5 := Lib.hid (HY.out.below k5)
          have B5 := Lib.hid (chain HB.out k5)
          have hz5 := B5.out.size
          clear own5 k5 HX HY HB
          go_wp2_with (first
            | (at_builtin
               go_must (refine wpList_append_seq (by rfl) (.tmp 150) (.tmp 151) 24 rfl w5.heap.size 9 i0 _ 16 Try.underlying24 hi hz0 hz1 hz2 rfl _ 0 [] rfl (World.ownsRow_lit w5 #[] 0 (Nat.le_refl _) (by decide) rfl) _ (L.map sv) rfl HX5.out (sv_one L) (by rw [List.length_map]; unfold maxLen; omega) (by rw [List.length_map]; omega) (by simp) ?_)))
          intro v6 w6 own6 g6
          have k6 : Below w5.heap.size w5 w6 := ((Below.refl _ w5).alloc (Nat.le_refl _) _).grown g6 (by simp) (fun b e => by cases e; exact Nat.le_refl _)
          have own6' : w6.ownsRow w5.heap.size 9 1 v6 L.length (L.map sv) := by simpa using own6
          obtain ⟨A6, c6, rfl⟩ := own_len own6'
          have O6 := Lib.hid own6'
          have K6 := Lib.hid k6
          have HY6 := Lib.hid (HY5.out.below k6)
          have B6 := Lib.hid (chain B5.out k6)
          have hz6 := k6.size
          clear own6 own6' g6 k6 HX5 HY5 B5
          go_wp2_with (first
            | (at_builtin
               go_must (refine wpList_append_seq (by rfl) (.tmp 152) (.tmp 153) 24 rfl w5.heap.size 9 i0 _ 16 Try.underlying24 hi hz0 hz1 hz2 rfl _ L.length (L.map sv) rfl O6.out _ (M.map sv) rfl HY6.out (sv_one M) (by rw [List.length_map]; unfold maxLen; omega) (by rw [List.length_map]; omega) hz6 ?_)))
          intro v7 w7 own7 g7
          have k7 : Below w.heap.size w w7 := own_grown O6.out g7 B6.out hz5
          have hs7 : Seq w7 v7 ((L ++ M).map sv) := by
            rw [List.map_append]
            exact Seq.of_own (by simpa using own7)
          have hs5 : Seq w7 (.slice A5 N.length c5) (N.map sv) := HS5.out.keep (fun b hb => (g7.block b (by omega) (fun e => by have := (O6.out.lt b e.symm).1; omega)).trans (K6.out.block b hb))
          obtain ⟨A7, c7, rfl⟩ := own_len own7
          have hsm := SameTexts_c _ _ N (L ++ M) w7 hs5 hs7
          rw [decide_eq_true HN.out] at hsm
          have HSM := Lib.hid hsm
          have B7 := Lib.hid k7
          clear own7 g7 k7 hs7 hs5 hsm HS5 K6 HY6 O6 B6
          go_wp2_with fail
          refine HSM.out.mono ?_
          rintro e w8 ⟨rfl, q8, hw8⟩
          have B8 := Lib.hid (show Below w.heap.size w w8 by rw [hw8]; exact below_drewN B7.out _)
          clear hw8 HSM
          go_wp2_with fail
          go_ret
          exact ⟨rfl, B8.out⟩
end Go.Proofs.Ytjllmhnicmonbaa
