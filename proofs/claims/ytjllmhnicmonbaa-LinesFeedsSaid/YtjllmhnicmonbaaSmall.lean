/- Walk: the fixed examples that every statement checks first. -/
import Derived.Test.YtjllmhnicmonbaaNew
namespace Go.Proofs.Ytjllmhnicmonbaa
open Go Go.RowKit

theorem seq_str (w : World) (l : List (List UInt8)) (hl : l.length ≤ 100) : Seq (w.alloc (.cells (l.map sv).toArray 9)) (.slice (some ⟨w.heap.size, 0, none⟩) l.length l.length) (l.map sv) := by
  have h := World.ownsRow_lit (base := w.heap.size) (e := 9) (size := 1) w (l.map sv).toArray l.length (Nat.le_refl _) (by unfold maxLen; omega) (by simp)
  have h2 := Seq.of_own (w := w.alloc (.cells (l.map sv).toArray 9)) (base := w.heap.size) (e := 9) (v := .slice (some ⟨w.heap.size, 0, none⟩) l.length l.length) (xs := l.map sv) (by simpa using h)
  exact h2
set_option maxHeartbeats 8000000 in
set_option maxRecDepth 100000 in
theorem small_c (w : World) : Calls Try.prog 9 #[] w fun e w' => e = .returned (.bool true) ∧ Below w.heap.size w w' := by
  go_enter Try.func9, Try.ntmps9
  go_wp2_with fail
  refine (New_c 4 w).mono ?_
  rintro e w1 ⟨rfl, hw1⟩
  have F1 := fd_new w w.heap.size 4
  have B1 : Below w.heap.size w (w.alloc (.cells #[.int .i64 ((4 : Nat) : Int), .slice none 0 0] 45)) := (Below.refl _ w).alloc (Nat.le_refl _) _
  have hz1 : (w.alloc (.cells #[.int .i64 ((4 : Nat) : Int), .slice none 0 0] 45)).heap.size = w.heap.size + 1 := by simp
  have hw1' : w1 = w.alloc (.cells #[.int .i64 ((4 : Nat) : Int), .slice none 0 0] 45) := hw1
  rw [← hw1'] at F1 B1 hz1
  clear hw1 hw1'
  have HF1 := Lib.hid F1
  have HB1 := Lib.hid B1
  have hp2 := Push_c w.heap.size w.heap.size 4 [] ⟨#[97, 98]⟩ (by decide) (by decide) (by decide) w1 (by decide) F1 (by omega)
  have e2 : Ln.pushF 4 [] (Ln.lns (⟨#[97, 98]⟩ : ByteArray).data.toList) = ([], [97, 98]) := by decide
  rw [e2] at hp2
  have HP2 := Lib.hid hp2
  have HZ1 := Lib.hid hz1
  clear F1 B1 hp2 e2 hz1
  go_wp2_with fail
  refine HP2.out.mono ?_
  rintro e w2 ⟨v2, rfl, own2, F2, P2⟩
  obtain ⟨A2, c2, rfl⟩ := own_len own2
  have hB2 := HB1.out.trans (P2.below (Nat.le_refl _) (by have := HZ1.out; omega))
  have HB2 := Lib.hid hB2
  have hz2 := P2.1.2.2.2
  have hp3 := Push_c w.heap.size w.heap.size 4 [97, 98] ⟨#[99, 100, 101, 102, 10, 103, 13, 10, 104]⟩ (by decide) (by decide) (by decide) w2 (by decide) F2 (by have := HZ1.out; omega)
  have e3 : Ln.pushF 4 [97, 98] (Ln.lns (⟨#[99, 100, 101, 102, 10, 103, 13, 10, 104]⟩ : ByteArray).data.toList) = ([[97, 98, 99, 100], [103, 13, 10]], [104]) := by decide
  rw [e3] at hp3
  have HP3 := Lib.hid hp3
  clear hp3 e3 own2 F2 P2 hB2 HP2 HF1
  go_wp2_with fail
  refine HP3.out.mono ?_
  rintro e w3 ⟨v3, rfl, own3, F3, P3⟩
  have HB3 := Lib.hid (HB2.out.trans (P3.below (Nat.le_refl _) (by have := HZ1.out; omega)))
  have HS3 := Lib.hid (Seq.of_own (xs := [[97, 98, 99, 100], [103, 13, 10]].map sv) (by simpa using own3))
  have hr3 := Rest_c _ _ _ _ w3 F3
  rw [show bs [104] = (⟨#[104]⟩ : ByteArray) from rfl] at hr3
  have HR := Lib.hid hr3
  clear hr3
  have hz3 := P3.1.2.2.2
  clear own3 F3 P3 HP3 HB1 HB2
  go_wp2_with fail
  refine HR.out.mono ?_
  rintro e w4 ⟨rfl, hw⟩
  obtain rfl := hw.symm
  clear HR
  have hsp := Split_c ⟨#[97, 13, 10, 10, 98]⟩ (by decide) w3
  have e4 : Ln.lns (⟨#[97, 13, 10, 10, 98]⟩ : ByteArray).data.toList = [[97, 13, 10], [10], [98]] := by decide
  rw [e4] at hsp
  have HSP := Lib.hid hsp
  clear hsp e4
  go_wp2_with fail
  refine HSP.out.mono ?_
  rintro e w5 ⟨v5, rfl, own5, B5⟩
  have S5 : Seq w5 v5 ([[97, 13, 10], [10], [98]].map sv) := Seq.of_own (by simpa using own5)
  have HB5 := Lib.hid (HB3.out.trans (B5.mono (by have := HB3.out.size; omega)))
  have HS5 := Lib.hid (HS3.out.below B5)
  have hb5 : Below w5.heap.size w5 (w5.alloc (.cells ([[97, 13, 10], [10], [98]].map sv).toArray 9)) := (Below.refl _ w5).alloc (Nat.le_refl _) _
  have hsm := SameTexts_c v5 _ [[97, 13, 10], [10], [98]] [[97, 13, 10], [10], [98]] _ (S5.below hb5) (seq_str w5 [[97, 13, 10], [10], [98]] (by decide))
  rw [show decide (([[97, 13, 10], [10], [98]] : List (List UInt8)) = [[97, 13, 10], [10], [98]]) = true from by decide] at hsm
  have HSM := Lib.hid hsm
  have HB6 := Lib.hid (HB5.out.trans (hb5.mono (by have := HB5.out.size; omega)))
  have HS6 := Lib.hid (HS5.out.below hb5)
  obtain ⟨A5, c5, rfl⟩ := own_len own5
  clear own5 B5 S5 hb5 hsm HB5 HS5 HSP HB3 HS3
  go_wp2_with fail
  refine HSM.out.mono ?_
  rintro e w7 ⟨rfl, q7, hw7⟩
  have HB7 := Lib.hid (show Below w.heap.size w w7 by rw [hw7]; exact HB6.out.trans ⟨rfl, rfl, rfl, Nat.le_refl _, fun _ _ => rfl⟩)
  have HS7 := Lib.hid (show Seq w7 v3 ([[97, 98, 99, 100], [103, 13, 10]].map sv) by rw [hw7]; exact HS6.out.keep (fun _ _ => rfl))
  clear hw7 HSM HB6 HS6
  have hba0 := Bare_c ⟨#[97, 13, 10]⟩ w7 (by decide)
  rw [show bs (Ln.bare (⟨#[97, 13, 10]⟩ : ByteArray).data.toList) = ⟨#[97]⟩ from by rw [show Ln.bare (⟨#[97, 13, 10]⟩ : ByteArray).data.toList = [97] from by decide]; rfl] at hba0
  have HBA0 := Lib.hid hba0
  clear hba0
  go_wp2_with fail
  refine HBA0.out.mono ?_
  rintro e w8 ⟨rfl, hw8⟩
  obtain rfl := hw8.symm
  have hba1 := Bare_c ⟨#[13, 13, 10]⟩ w7 (by decide)
  rw [show bs (Ln.bare (⟨#[13, 13, 10]⟩ : ByteArray).data.toList) = ⟨#[13]⟩ from by rw [show Ln.bare (⟨#[13, 13, 10]⟩ : ByteArray).data.toList = [13] from by decide]; rfl] at hba1
  have HBA1 := Lib.hid hba1
  clear hba1
  go_wp2_with fail
  refine HBA1.out.mono ?_
  rintro e w8 ⟨rfl, hw8⟩
  obtain rfl := hw8.symm
  have hba2 := Bare_c ⟨#[97, 13]⟩ w7 (by decide)
  rw [show bs (Ln.bare (⟨#[97, 13]⟩ : ByteArray).data.toList) = ⟨#[97, 13]⟩ from by rw [show Ln.bare (⟨#[97, 13]⟩ : ByteArray).data.toList = [97, 13] from by decide]; rfl] at hba2
  have HBA2 := Lib.hid hba2
  clear hba2
  go_wp2_with fail
  refine HBA2.out.mono ?_
  rintro e w8 ⟨rfl, hw8⟩
  obtain rfl := hw8.symm
  have hmp0 := Crlf_c ⟨#[97, 10, 98, 13, 10, 13, 99]⟩ (by decide) w7
  rw [show bs (Ln.crlf (⟨#[97, 10, 98, 13, 10, 13, 99]⟩ : ByteArray).data.toList) = ⟨#[97, 13, 10, 98, 13, 10, 13, 99]⟩ from by rw [show Ln.crlf (⟨#[97, 10, 98, 13, 10, 13, 99]⟩ : ByteArray).data.toList = [97, 13, 10, 98, 13, 10, 13, 99] from by decide]; rfl] at hmp0
  have HMP0 := Lib.hid hmp0
  clear hmp0
  go_wp2_with fail
  refine HMP0.out.mono ?_
  rintro e w8 ⟨rfl, b8⟩
  have HB8 := Lib.hid (chain HB7.out b8)
  have HS8 := Lib.hid (HS7.out.below b8)
  clear b8 HB7 HS7 HMP0
  have hmp1 := Stuff_c ⟨#[46, 10, 97, 10, 46, 46, 98]⟩ (by decide) w8
  rw [show bs (Ln.stuff (⟨#[46, 10, 97, 10, 46, 46, 98]⟩ : ByteArray).data.toList) = ⟨#[46, 46, 10, 97, 10, 46, 46, 46, 98]⟩ from by rw [show Ln.stuff (⟨#[46, 10, 97, 10, 46, 46, 98]⟩ : ByteArray).data.toList = [46, 46, 10, 97, 10, 46, 46, 46, 98] from by decide]; rfl] at hmp1
  have HMP1 := Lib.hid hmp1
  clear hmp1
  go_wp2_with fail
  refine HMP1.out.mono ?_
  rintro e w9 ⟨rfl, b9⟩
  have HB9 := Lib.hid (chain HB8.out b9)
  have HS9 := Lib.hid (HS8.out.below b9)
  clear b9 HB8 HS8 HMP1
  have hmp2 := Unstuff_c ⟨#[46, 46, 10, 46, 97, 10, 98]⟩ (by decide) w9
  rw [show bs (Ln.unst (⟨#[46, 46, 10, 46, 97, 10, 98]⟩ : ByteArray).data.toList) = ⟨#[46, 10, 97, 10, 98]⟩ from by rw [show Ln.unst (⟨#[46, 46, 10, 46, 97, 10, 98]⟩ : ByteArray).data.toList = [46, 10, 97, 10, 98] from by decide]; rfl] at hmp2
  have HMP2 := Lib.hid hmp2
  clear hmp2
  go_wp2_with fail
  refine HMP2.out.mono ?_
  rintro e w10 ⟨rfl, b10⟩
  have HB10 := Lib.hid (chain HB9.out b10)
  have HS10 := Lib.hid (HS9.out.below b10)
  clear b10 HB9 HS9 HMP2
  have hb11 : Below w10.heap.size w10 (w10.alloc (.cells ([[97, 98, 99, 100], [103, 13, 10]].map sv).toArray 9)) := (Below.refl _ w10).alloc (Nat.le_refl _) _
  have hsm := SameTexts_c v3 _ [[97, 98, 99, 100], [103, 13, 10]] [[97, 98, 99, 100], [103, 13, 10]] _ (HS10.out.below hb11) (seq_str w10 [[97, 98, 99, 100], [103, 13, 10]] (by decide))
  rw [show decide (([[97, 98, 99, 100], [103, 13, 10]] : List (List UInt8)) = [[97, 98, 99, 100], [103, 13, 10]]) = true from by decide] at hsm
  have HSM := Lib.hid hsm
  have HB11 := Lib.hid (chain HB10.out hb11)
  clear hb11 hsm
  go_wp2_with fail
  refine HSM.out.mono ?_
  rintro e w12 ⟨rfl, q12, hw12⟩
  have HB12 := Lib.hid (show Below w.heap.size w w12 by rw [hw12]; exact HB11.out.trans ⟨rfl, rfl, rfl, Nat.le_refl _, fun _ _ => rfl⟩)
  clear hw12 HSM HB11 HB10 HS10
  have hsp := Split_c ⟨#[]⟩ (by decide) w12
  rw [show Ln.lns (⟨#[]⟩ : ByteArray).data.toList = [] from rfl] at hsp
  have HSP := Lib.hid hsp
  clear hsp
  go_wp2_with fail
  refine HSP.out.mono ?_
  rintro e w13 ⟨v13, rfl, own13, b13⟩
  have HB13 := Lib.hid (chain HB12.out b13)
  obtain ⟨A13, c13, rfl⟩ := own_len own13
  clear own13 b13
  go_wp2_with fail
  go_ret
  exact ⟨rfl, HB13.out⟩
end Go.Proofs.Ytjllmhnicmonbaa
