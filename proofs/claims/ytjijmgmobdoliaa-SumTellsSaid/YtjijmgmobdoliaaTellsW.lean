/- SumTells walked. -/
import Derived.Test.YtjijmgmobdoliaaRSha
namespace Go.Proofs.Ytjijmgmobdoliaa
open Go.RowKit

/-- the blocks that the statement reads -/
def Quad (w : World) (a b : List Nat) (D E : Nat) (d : List Nat) (u : World) : Prop := Dg u w.heap.size a ∧ Dg u (w.heap.size + 1) b ∧ Dg u D d ∧ Dg u E d ∧ Below w.heap.size w u
theorem Quad.step {w : World} {a b d : List Nat} {D E : Nat} {u u' : World} (h : Quad w a b D E d u) (k : Below u.heap.size u u') : Quad w a b D E d u' := ⟨h.1.step k, h.2.1.step k, h.2.2.1.step k, h.2.2.2.1.step k, chain h.2.2.2.2 k⟩
set_option maxHeartbeats 16000000 in
set_option maxRecDepth 100000 in
theorem sumTells_yes (a b : List Nat) (la : a.length = 32) (lb : b.length = 32) (ha : ∀ x ∈ a, x < 256) (hb : ∀ x ∈ b, x < 256) (s t : ByteArray) (hs : s.data.toList.length ≤ 140737488355328) (ht : t.data.toList.length ≤ 140737488355328) (w : World) :
    Calls Try.prog 3 #[.string s, .string t, .agg (a.map yv).toArray, .agg (b.map yv).toArray] w fun e w' => e = .returned (.bool true) ∧ Below w.heap.size w w' := by
  have hiA : (Try.prog.info? 23).map (·.size) = some (a.map yv).length := by rw [List.length_map, la]; kernel_rfl
  have hiB : (Try.prog.info? 23).map (·.size) = some (b.map yv).length := by rw [List.length_map, lb]; kernel_rfl
  have HIA := Lib.hid hiA
  have HIB := Lib.hid hiB
  clear hiA hiB
  have hss : s.data.toList.length = s.size := rfl
  rw [hss] at hs
  clear hss
  by_cases big : 100000 < s.size
  · have big' : (100000 : Int) < (s.size : Int) := by omega
    go_enter Try.func3, Try.ntmps3
    go_wp2_with fail
    generalize hW : World.alloc (World.alloc w _) _ = W
    obtain ⟨h1, h2, hbw, hz⟩ := two_boxes _ _ _ _ hW
    clear hW
    refine (small_c W).mono ?_
    rintro e w1 ⟨rfl, k1⟩
    have B1 := Lib.hid (chain hbw k1)
    clear h1 h2 hbw k1
    go_wp2_with fail
    go_ret
    exact ⟨rfl, B1.out⟩
  · have big' : ¬ (100000 : Int) < (s.size : Int) := by omega
    obtain ⟨d, is, hrd⟩ : ∃ d is, Hx.rd t.data.toList = (d, is) := ⟨_, _, rfl⟩
    have ld : d.length = 32 := by have h1 := Hx.rd_len t.data.toList; rw [hrd] at h1; exact h1
    have hdl : ∀ x ∈ d, x < 256 := by
      cases is with
      | true =>
        have h2 := Hx.rd_true (l := t.data.toList) (by rw [hrd])
        rw [hrd] at h2
        exact h2.2.2
      | false =>
        have h2 := Hx.rd_false (l := t.data.toList) (by rw [hrd])
        rw [hrd] at h2
        simp only at h2
        subst h2
        exact fun x hx => by have := List.eq_of_mem_replicate hx; omega
    have hiD : (Try.prog.info? 23).map (·.size) = some (d.map yv).length := by rw [List.length_map, ld]; kernel_rfl
    have hiD2 : (Try.prog.info? 23).map (·.size) = some (d.map yv).toArray.size := by rw [List.size_toArray]; exact hiD
    have HID := Lib.hid hiD
    have HID2 := Lib.hid hiD2
    have hread := fun u => Read_c t u ht
    have hrread := fun u => RRead_c t u
    rw [hrd] at hread hrread
    have R1 := Lib.hid hread
    have R2 := Lib.hid hrread
    have C1 := Lib.hid (fun u => Crc_c s u (by unfold maxLen; omega))
    have C2 := Lib.hid (fun u => CrcR_c s u (by unfold maxLen; omega))
    have hsh1 := fun u => Sha_c s u hs
    have hsh2 := fun u => RSha_c s u (by omega)
    have hH : (Sm.sha (s.data.toList.map UInt8.toNat)).length = 32 ∧ ∀ x ∈ Sm.sha (s.data.toList.map UInt8.toNat), x < 256 := ⟨Sm.sha_len _, Sm.dig_lt _⟩
    generalize Sm.sha (s.data.toList.map UInt8.toNat) = H at hsh1 hsh2 hH
    have S1 := Lib.hid hsh1
    have S2 := Lib.hid hsh2
    have X1 := Lib.hid (fun u => DigHex_c a u la ha)
    have X2 := Lib.hid (fun u => RHex_c a u la ha)
    have L1 := Lib.hid (fun u => Less_c a b u la lb ha hb)
    have L2 := Lib.hid (fun u => RLess_c a b u la lb)
    have q1 := fun u => eql_dig H H hH.1 hH.1 hH.2 hH.2 u
    have q2 := fun u => eql_dig d d ld ld hdl hdl u
    simp only [decide_true] at q1 q2
    clear hiD hiD2 hread hrread hsh1 hsh2 hH hdl hrd
    go_enter Try.func3, Try.ntmps3
    go_wp2_with fail
    generalize hW : World.alloc (World.alloc w _) _ = W
    obtain ⟨h1, h2, hbw, hz⟩ := two_boxes _ _ _ _ hW
    clear hW
    refine (small_c W).mono ?_
    rintro e w1 ⟨rfl, k1⟩
    have A1 := Lib.hid (Dg.step (show Dg W w.heap.size a from h1) k1)
    have B1 := Lib.hid (Dg.step (show Dg W (w.heap.size + 1) b from h2) k1)
    have K1 := Lib.hid (chain hbw k1)
    clear h1 h2 hbw k1 hz
    go_wp2_with fail
    refine (R1.out _).mono ?_
    rintro e w3 ⟨rfl, k3⟩
    have ST := Lib.hid (st_dig w3 d ld)
    have A3 := Lib.hid (A1.out.step k3)
    have B3 := Lib.hid (B1.out.step k3)
    have K3 := Lib.hid (chain K1.out k3)
    clear k3 A1 B1 K1
    go_wp2_with (first
      | (refine wpList_store_mid rfl 23 (.tmp 10) (.tmp 22) rfl w3.heap.size 0 (d.map yv).toArray rfl rfl ST.out.1 HID2.out (all_oneY d) ?_
         generalize hV : World.setCells _ _ _ _ = V
         have h4 := ST.out.2 V hV
         clear hV))
    obtain ⟨h4, k4⟩ := h4
    have A4 := Lib.hid (A3.out.step k4)
    have B4 := Lib.hid (B3.out.step k4)
    have K4 := Lib.hid (chain K3.out k4)
    have D4 := Lib.hid (show Dg V w3.heap.size d from h4)
    clear h4 k4 A3 B3 K3 ST
    refine (R2.out _).mono ?_
    rintro e w5 ⟨rfl, k5⟩
    have A5 := Lib.hid (A4.out.step k5)
    have B5 := Lib.hid (B4.out.step k5)
    have K5 := Lib.hid (chain K4.out k5)
    have D5 := Lib.hid (D4.out.step k5)
    have ST := Lib.hid (st_dig w5 d ld)
    clear k5 A4 B4 K4 D4
    go_wp2_with (first
      | (refine wpList_store_mid rfl 23 (.tmp 12) (.tmp 27) rfl w5.heap.size 0 (d.map yv).toArray rfl rfl ST.out.1 HID2.out (all_oneY d) ?_
         generalize hV : World.setCells _ _ _ _ = V6
         have h6 := ST.out.2 V6 hV
         clear hV))
    obtain ⟨h6, k6⟩ := h6
    have s0 : Quad w a b w3.heap.size w5.heap.size d V6 := ⟨A5.out.step k6, B5.out.step k6, D5.out.step k6, h6, chain K5.out k6⟩
    have s1 : Quad w a b w3.heap.size w5.heap.size d V6.drew := ⟨s0.1, s0.2.1, s0.2.2.1, s0.2.2.2.1, s0.2.2.2.2.drew⟩
    clear h6 k6 A5 B5 K5 D5 ST s0
    refine wp_region_held_drew (S := Quad w a b w3.heap.size w5.heap.size d) (by kernel_rfl) s1 (fun _ => ?_)
    refine take_at (i := 0) (d := (some 29)) (v := ?_) rfl rfl (by kernel_rfl) (by kernel_rfl) (by kernel_rfl) (fun _ _ _ h => h) (Or.inl ⟨by rfl, ?_⟩) (by assumption) ?_
    rotate_left
    · (intro u hSu; go_simp; with_reducible rfl)
    simp only [Act.put, List.setIfInBounds_toArray, List.set_cons_zero, List.set_cons_succ]
    refine take_at (i := 1) (d := (some 30)) (v := ?_) rfl rfl (by kernel_rfl) (by kernel_rfl) (by kernel_rfl) (fun _ _ _ h => h) (Or.inl ⟨by rfl, ?_⟩) (by assumption) ?_
    rotate_left
    · (intro u hSu; go_simp; with_reducible rfl)
    simp only [Act.put, List.setIfInBounds_toArray, List.set_cons_zero, List.set_cons_succ]
    refine take_at (i := 2) (d := (some 31)) (v := ?_) rfl rfl (by kernel_rfl) (by kernel_rfl) (by kernel_rfl) (fun _ _ _ h => h) (Or.inl ⟨by rfl, ?_⟩) (by assumption) ?_
    rotate_left
    · (intro u hSu; go_simp; with_reducible rfl)
    simp only [Act.put, List.setIfInBounds_toArray, List.set_cons_zero, List.set_cons_succ]
    refine take_at (i := 4) (d := (some 33)) (v := ?_) rfl rfl (by kernel_rfl) (by kernel_rfl) (by kernel_rfl) (fun _ _ _ h => h) (Or.inl ⟨by rfl, ?_⟩) (by assumption) ?_
    rotate_left
    · (intro u hSu; go_simp; with_reducible rfl)
    simp only [Act.put, List.setIfInBounds_toArray, List.set_cons_zero, List.set_cons_succ]
    refine wpAnyH_ready (rs := [3]) (by kernel_rfl) (by simp) ?_
    refine AllReadyH.cons rfl (fun K hK => ?_) AllReadyH.nil
    go_simp
    refine (C1.out _).mono ?_
    rintro e u1 ⟨rfl, rfl⟩
    go_wp2_with fail
    refine hK.out _ _ (by assumption) (fun _ => ?_)
    clear hK K
    try simp only [Act.put, List.setIfInBounds_toArray, List.set_cons_zero, List.set_cons_succ]
    refine wpAnyH_ready (rs := [5]) (by kernel_rfl) (by simp) ?_
    refine AllReadyH.cons rfl (fun K hK => ?_) AllReadyH.nil
    go_simp
    refine (C2.out _).mono ?_
    rintro e u1 ⟨rfl, rfl⟩
    go_wp2_with fail
    refine hK.out _ _ (by assumption) (fun _ => ?_)
    clear hK K
    try simp only [Act.put, List.setIfInBounds_toArray, List.set_cons_zero, List.set_cons_succ]
    refine take_at (i := 6) (d := (some 35)) (v := ?_) rfl rfl (by kernel_rfl) (by kernel_rfl) (by kernel_rfl) (fun _ _ _ h => h) (Or.inl ⟨by rfl, ?_⟩) (by assumption) ?_
    rotate_left
    · (intro u hSu; go_simp; with_reducible rfl)
    simp only [Act.put, List.setIfInBounds_toArray, List.set_cons_zero, List.set_cons_succ]
    refine take_at (i := 7) (d := (some 36)) (v := ?_) rfl rfl (by kernel_rfl) (by kernel_rfl) (by kernel_rfl) (fun _ _ _ h => h) (Or.inl ⟨by rfl, ?_⟩) (by assumption) ?_
    rotate_left
    · (intro u hSu; go_simp; with_reducible rfl)
    simp only [Act.put, List.setIfInBounds_toArray, List.set_cons_zero, List.set_cons_succ]
    refine take_at (i := 8) (d := (some 37)) (v := ?_) rfl rfl (by kernel_rfl) (by kernel_rfl) (by kernel_rfl) (fun _ _ _ h => h) (Or.inl ⟨by rfl, ?_⟩) (by assumption) ?_
    rotate_left
    · (intro u hSu; go_simp; with_reducible rfl)
    simp only [Act.put, List.setIfInBounds_toArray, List.set_cons_zero, List.set_cons_succ]
    refine take_at (i := 9) (d := (some 38)) (v := ?_) rfl rfl (by kernel_rfl) (by kernel_rfl) (by kernel_rfl) (fun _ _ _ h => h) (Or.inl ⟨by rfl, ?_⟩) (by assumption) ?_
    rotate_left
    · (intro u hSu; go_simp; with_reducible rfl)
    simp only [Act.put, List.setIfInBounds_toArray, List.set_cons_zero, List.set_cons_succ]
    refine take_at (i := 11) (d := (some 40)) (v := ?_) rfl rfl (by kernel_rfl) (by kernel_rfl) (by kernel_rfl) (fun _ _ _ h => h) (Or.inl ⟨by rfl, ?_⟩) (by assumption) ?_
    rotate_left
    · (intro u hSu; go_simp; with_reducible rfl)
    simp only [Act.put, List.setIfInBounds_toArray, List.set_cons_zero, List.set_cons_succ]
    refine wpAnyH_ready (rs := [10]) (by kernel_rfl) (by simp) ?_
    refine AllReadyH.cons rfl (fun K hK => ?_) AllReadyH.nil
    go_simp
    refine (S1.out _).mono ?_
    rintro e u1 ⟨rfl, k1⟩
    have e1 := Quad.step (by assumption) k1
    clear k1
    go_wp2_with fail
    refine hK.out _ _ (by assumption) (fun _ => ?_)
    clear hK K
    try simp only [Act.put, List.setIfInBounds_toArray, List.set_cons_zero, List.set_cons_succ]
    refine wpAnyH_ready (rs := [12]) (by kernel_rfl) (by simp) ?_
    refine AllReadyH.cons rfl (fun K hK => ?_) AllReadyH.nil
    go_simp
    refine (S2.out _).mono ?_
    rintro e u1 ⟨rfl, k1⟩
    have e1 := Quad.step (by assumption) k1
    clear k1
    go_wp2_with fail
    refine hK.out _ _ (by assumption) (fun _ => ?_)
    clear hK K
    try simp only [Act.put, List.setIfInBounds_toArray, List.set_cons_zero, List.set_cons_succ]
    refine take_at (i := 13) (d := (some 42)) (v := ?_) rfl rfl (by kernel_rfl) (by kernel_rfl) (by kernel_rfl) (fun _ _ _ h => h) (Or.inl ⟨by rfl, ?_⟩) (by assumption) ?_
    rotate_left
    · (intro u hSu; go_simp; with_reducible rfl)
    simp only [Act.put, List.setIfInBounds_toArray, List.set_cons_zero, List.set_cons_succ]
    refine take_at (i := 14) (d := (some 43)) (v := ?_) rfl rfl (by kernel_rfl) (by kernel_rfl) (by kernel_rfl) (fun _ _ _ h => h) (Or.inl ⟨by rfl, ?_⟩) (by assumption) ?_
    rotate_left
    · (intro u hSu; go_simp; with_reducible rfl)
    simp only [Act.put, List.setIfInBounds_toArray, List.set_cons_zero, List.set_cons_succ]
    refine take_at (i := 15) (d := (some 44)) (v := ?_) rfl rfl (by kernel_rfl) (by kernel_rfl) (by kernel_rfl) (fun _ _ _ h => h) (Or.inl ⟨by rfl, ?_⟩) (by assumption) ?_
    rotate_left
    · (intro u hSu; go_simp; with_reducible rfl)
    simp only [Act.put, List.setIfInBounds_toArray, List.set_cons_zero, List.set_cons_succ]
    refine take_load (i := 16) (d := (some 45)) 23 (.tmp 6) (w.heap.size) (a.map yv) _ rfl rfl rfl (by kernel_rfl) (by kernel_rfl) (by kernel_rfl) (fun _ _ _ h => h) (by rfl) rfl (fun _ h => range_of h.1) Try.underlying23 rfl HIA.out (by assumption) ?_
    simp only [Act.put, List.setIfInBounds_toArray, List.set_cons_zero, List.set_cons_succ]
    refine take_load (i := 18) (d := (some 47)) 23 (.tmp 6) (w.heap.size) (a.map yv) _ rfl rfl rfl (by kernel_rfl) (by kernel_rfl) (by kernel_rfl) (fun _ _ _ h => h) (by rfl) rfl (fun _ h => range_of h.1) Try.underlying23 rfl HIA.out (by assumption) ?_
    simp only [Act.put, List.setIfInBounds_toArray, List.set_cons_zero, List.set_cons_succ]
    refine wpAnyH_ready (rs := [17]) (by kernel_rfl) (by simp) ?_
    refine AllReadyH.cons rfl (fun K hK => ?_) AllReadyH.nil
    go_simp
    refine (X1.out _).mono ?_
    rintro e u1 ⟨rfl, k1⟩
    have e1 := Quad.step (by assumption) k1
    clear k1
    go_wp2_with fail
    refine hK.out _ _ (by assumption) (fun _ => ?_)
    clear hK K
    try simp only [Act.put, List.setIfInBounds_toArray, List.set_cons_zero, List.set_cons_succ]
    refine wpAnyH_ready (rs := [19]) (by kernel_rfl) (by simp) ?_
    refine AllReadyH.cons rfl (fun K hK => ?_) AllReadyH.nil
    go_simp
    refine (X2.out _).mono ?_
    rintro e u1 ⟨rfl, k1⟩
    have e1 := Quad.step (by assumption) k1
    clear k1
    go_wp2_with fail
    refine hK.out _ _ (by assumption) (fun _ => ?_)
    clear hK K
    try simp only [Act.put, List.setIfInBounds_toArray, List.set_cons_zero, List.set_cons_succ]
    refine take_at (i := 20) (d := (some 49)) (v := ?_) rfl rfl (by kernel_rfl) (by kernel_rfl) (by kernel_rfl) (fun _ _ _ h => h) (Or.inl ⟨by rfl, ?_⟩) (by assumption) ?_
    rotate_left
    · (intro u hSu; go_simp; with_reducible rfl)
    simp only [Act.put, List.setIfInBounds_toArray, List.set_cons_zero, List.set_cons_succ]
    refine take_at (i := 21) (d := (some 50)) (v := ?_) rfl rfl (by kernel_rfl) (by kernel_rfl) (by kernel_rfl) (fun _ _ _ h => h) (Or.inl ⟨by rfl, ?_⟩) (by assumption) ?_
    rotate_left
    · (intro u hSu; go_simp; with_reducible rfl)
    simp only [Act.put, List.setIfInBounds_toArray, List.set_cons_zero, List.set_cons_succ]
    refine take_at (i := 22) (d := (some 51)) (v := ?_) rfl rfl (by kernel_rfl) (by kernel_rfl) (by kernel_rfl) (fun _ _ _ h => h) (Or.inl ⟨by rfl, ?_⟩) (by assumption) ?_
    rotate_left
    · (intro u hSu; go_simp; with_reducible rfl)
    simp only [Act.put, List.setIfInBounds_toArray, List.set_cons_zero, List.set_cons_succ]
    refine take_load (i := 23) (d := (some 52)) 23 (.tmp 10) (w3.heap.size) (d.map yv) _ rfl rfl rfl (by kernel_rfl) (by kernel_rfl) (by kernel_rfl) (fun _ _ _ h => h) (by rfl) rfl (fun _ h => range_of h.2.2.1) Try.underlying23 rfl HID.out (by assumption) ?_
    simp only [Act.put, List.setIfInBounds_toArray, List.set_cons_zero, List.set_cons_succ]
    refine take_load (i := 24) (d := (some 53)) 23 (.tmp 12) (w5.heap.size) (d.map yv) _ rfl rfl rfl (by kernel_rfl) (by kernel_rfl) (by kernel_rfl) (fun _ _ _ h => h) (by rfl) rfl (fun _ h => range_of h.2.2.2.1) Try.underlying23 rfl HID.out (by assumption) ?_
    simp only [Act.put, List.setIfInBounds_toArray, List.set_cons_zero, List.set_cons_succ]
    refine take_at (i := 25) (d := (some 54)) (v := ?_) rfl rfl (by kernel_rfl) (by kernel_rfl) (by kernel_rfl) (fun _ _ _ h => h) (Or.inl ⟨by rfl, ?_⟩) (by assumption) ?_
    rotate_left
    · (intro u hSu; go_simp; with_reducible rfl)
    simp only [Act.put, List.setIfInBounds_toArray, List.set_cons_zero, List.set_cons_succ]
    refine take_at (i := 26) (d := (some 55)) (v := ?_) rfl rfl (by kernel_rfl) (by kernel_rfl) (by kernel_rfl) (fun _ _ _ h => h) (Or.inl ⟨by rfl, ?_⟩) (by assumption) ?_
    rotate_left
    · (intro u hSu; go_simp; with_reducible rfl)
    simp only [Act.put, List.setIfInBounds_toArray, List.set_cons_zero, List.set_cons_succ]
    refine take_at (i := 27) (d := (some 56)) (v := ?_) rfl rfl (by kernel_rfl) (by kernel_rfl) (by kernel_rfl) (fun _ _ _ h => h) (Or.inl ⟨by rfl, ?_⟩) (by assumption) ?_
    rotate_left
    · (intro u hSu; go_simp; with_reducible rfl)
    simp only [Act.put, List.setIfInBounds_toArray, List.set_cons_zero, List.set_cons_succ]
    refine take_at (i := 28) (d := (some 57)) (v := ?_) rfl rfl (by kernel_rfl) (by kernel_rfl) (by kernel_rfl) (fun _ _ _ h => h) (Or.inl ⟨by rfl, ?_⟩) (by assumption) ?_
    rotate_left
    · (intro u hSu; go_simp; with_reducible rfl)
    simp only [Act.put, List.setIfInBounds_toArray, List.set_cons_zero, List.set_cons_succ]
    refine take_at (i := 29) (d := (some 58)) (v := ?_) rfl rfl (by kernel_rfl) (by kernel_rfl) (by kernel_rfl) (fun _ _ _ h => h) (Or.inl ⟨by rfl, ?_⟩) (by assumption) ?_
    rotate_left
    · (intro u hSu; go_simp; with_reducible rfl)
    simp only [Act.put, List.setIfInBounds_toArray, List.set_cons_zero, List.set_cons_succ]
    refine take_at (i := 30) (d := (some 59)) (v := ?_) rfl rfl (by kernel_rfl) (by kernel_rfl) (by kernel_rfl) (fun _ _ _ h => h) (Or.inl ⟨by rfl, ?_⟩) (by assumption) ?_
    rotate_left
    · (intro u hSu; go_simp; with_reducible rfl)
    simp only [Act.put, List.setIfInBounds_toArray, List.set_cons_zero, List.set_cons_succ]
    refine take_at (i := 31) (d := (some 60)) (v := ?_) rfl rfl (by kernel_rfl) (by kernel_rfl) (by kernel_rfl) (fun _ _ _ h => h) (Or.inl ⟨by rfl, ?_⟩) (by assumption) ?_
    rotate_left
    · (intro u hSu; go_simp; with_reducible rfl)
    simp only [Act.put, List.setIfInBounds_toArray, List.set_cons_zero, List.set_cons_succ]
    refine take_at (i := 32) (d := (some 61)) (v := ?_) rfl rfl (by kernel_rfl) (by kernel_rfl) (by kernel_rfl) (fun _ _ _ h => h) (Or.inl ⟨by rfl, ?_⟩) (by assumption) ?_
    rotate_left
    · (intro u hSu; go_simp; with_reducible rfl)
    simp only [Act.put, List.setIfInBounds_toArray, List.set_cons_zero, List.set_cons_succ]
    refine take_load (i := 33) (d := (some 62)) 23 (.tmp 6) (w.heap.size) (a.map yv) _ rfl rfl rfl (by kernel_rfl) (by kernel_rfl) (by kernel_rfl) (fun _ _ _ h => h) (by rfl) rfl (fun _ h => range_of h.1) Try.underlying23 rfl HIA.out (by assumption) ?_
    simp only [Act.put, List.setIfInBounds_toArray, List.set_cons_zero, List.set_cons_succ]
    refine take_load (i := 34) (d := (some 63)) 23 (.tmp 7) (w.heap.size + 1) (b.map yv) _ rfl rfl rfl (by kernel_rfl) (by kernel_rfl) (by kernel_rfl) (fun _ _ _ h => h) (by rfl) rfl (fun _ h => range_of h.2.1) Try.underlying23 rfl HIB.out (by assumption) ?_
    simp only [Act.put, List.setIfInBounds_toArray, List.set_cons_zero, List.set_cons_succ]
    refine take_load (i := 36) (d := (some 65)) 23 (.tmp 6) (w.heap.size) (a.map yv) _ rfl rfl rfl (by kernel_rfl) (by kernel_rfl) (by kernel_rfl) (fun _ _ _ h => h) (by rfl) rfl (fun _ h => range_of h.1) Try.underlying23 rfl HIA.out (by assumption) ?_
    simp only [Act.put, List.setIfInBounds_toArray, List.set_cons_zero, List.set_cons_succ]
    refine take_load (i := 37) (d := (some 66)) 23 (.tmp 7) (w.heap.size + 1) (b.map yv) _ rfl rfl rfl (by kernel_rfl) (by kernel_rfl) (by kernel_rfl) (fun _ _ _ h => h) (by rfl) rfl (fun _ h => range_of h.2.1) Try.underlying23 rfl HIB.out (by assumption) ?_
    simp only [Act.put, List.setIfInBounds_toArray, List.set_cons_zero, List.set_cons_succ]
    refine wpAnyH_ready (rs := [35]) (by kernel_rfl) (by simp) ?_
    refine AllReadyH.cons rfl (fun K hK => ?_) AllReadyH.nil
    go_simp
    refine (L1.out _).mono ?_
    rintro e u1 ⟨rfl, k1⟩
    have e1 := Quad.step (by assumption) k1
    clear k1
    go_wp2_with fail
    refine hK.out _ _ (by assumption) (fun _ => ?_)
    clear hK K
    try simp only [Act.put, List.setIfInBounds_toArray, List.set_cons_zero, List.set_cons_succ]
    refine wpAnyH_ready (rs := [38]) (by kernel_rfl) (by simp) ?_
    refine AllReadyH.cons rfl (fun K hK => ?_) AllReadyH.nil
    go_simp
    refine (L2.out _).mono ?_
    rintro e u1 ⟨rfl, k1⟩
    have e1 := Quad.step (by assumption) k1
    clear k1
    go_wp2_with fail
    refine hK.out _ _ (by assumption) (fun _ => ?_)
    clear hK K
    try simp only [Act.put, List.setIfInBounds_toArray, List.set_cons_zero, List.set_cons_succ]
    refine take_at (i := 39) (d := (some 68)) (v := ?_) rfl rfl (by kernel_rfl) (by kernel_rfl) (by kernel_rfl) (fun _ _ _ h => h) (Or.inl ⟨by rfl, ?_⟩) (by assumption) ?_
    rotate_left
    · (intro u hSu; go_simp; with_reducible rfl)
    simp only [Act.put, List.setIfInBounds_toArray, List.set_cons_zero, List.set_cons_succ]
    refine take_at (i := 40) (d := (some 69)) (v := ?_) rfl rfl (by kernel_rfl) (by kernel_rfl) (by kernel_rfl) (fun _ _ _ h => h) (Or.inl ⟨by rfl, ?_⟩) (by assumption) ?_
    rotate_left
    · (intro u hSu; go_simp; with_reducible rfl)
    simp only [Act.put, List.setIfInBounds_toArray, List.set_cons_zero, List.set_cons_succ]
    refine take_at (i := 41) (d := (some 8)) (v := ?_) rfl rfl (by kernel_rfl) (by kernel_rfl) (by kernel_rfl) (fun _ _ _ h => h) (Or.inl ⟨by rfl, ?_⟩) (by assumption) ?_
    rotate_left
    · (intro u hSu; go_simp; with_reducible rfl)
    simp only [Act.put, List.setIfInBounds_toArray, List.set_cons_zero, List.set_cons_succ]
    refine wpAnyH_done (by kernel_rfl) ?_ _
    go_wp2_with fail
    go_ret
    exact ⟨rfl, (show Quad _ _ _ _ _ _ _ by assumption).2.2.2.2⟩
theorem sumTells_w {x y : Value} (s : ByteArray) (hs : s.data.toList.length ≤ 140737488355328) (t : ByteArray) (ht : t.data.toList.length ≤ 140737488355328) (hx : ∃ l : List Nat, l.length = 32 ∧ (∀ x ∈ l, x < 256) ∧ x = .agg (l.map yv).toArray) (hy : ∃ l : List Nat, l.length = 32 ∧ (∀ x ∈ l, x < 256) ∧ y = .agg (l.map yv).toArray) (w : World) :
    Calls Try.prog 3 #[.string s, .string t, x, y] w fun e w' => e = .returned (.bool true) ∧ Below w.heap.size w w' := by
  obtain ⟨a, la, ha, rfl⟩ := hx
  obtain ⟨b, lb, hb, rfl⟩ := hy
  exact sumTells_yes a b la lb ha hb s t hs ht w
end Go.Proofs.Ytjijmgmobdoliaa
