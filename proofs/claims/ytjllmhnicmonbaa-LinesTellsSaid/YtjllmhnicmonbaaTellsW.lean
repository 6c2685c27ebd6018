/- LinesTells walked. -/
import Derived.Test.YtjllmhnicmonbaaEndsW
import Derived.Test.YtjllmhnicmonbaaRefD
namespace Go.Proofs.Ytjllmhnicmonbaa
open Go Go.RowKit

set_option maxHeartbeats 8000000 in
set_option maxRecDepth 100000 in
theorem linesTells_w (s : ByteArray) (hs0 : s.data.toList.length ≤ 140737488355328) (w : World) :
    Calls Try.prog 3 #[.string s] w fun e w' => e = .returned (.bool true) ∧ Below w.heap.size w w' := by
  have hsz : s.data.toList.length = s.size := rfl
  rw [hsz] at hs0
  by_cases big : 10000 < s.size
  · have big' : (10000 : Int) < (s.size : Int) := by omega
    go_enter Try.func3, Try.ntmps3
    go_wp2_with fail
    refine (small_c w).mono ?_
    rintro e w1 ⟨rfl, k1⟩
    have B1 := Lib.hid k1
    clear k1
    go_wp2_with fail
    go_ret
    exact ⟨rfl, B1.out⟩
  · have big' : ¬ (10000 : Int) < (s.size : Int) := by omega
    have hsp := fun u => Split_c s (by omega) u
    have hrs := fun u => RSplit_c s (by omega) u
    have hba := fun u => Bare_c s u (by omega)
    have hrb := fun u => RBare_c s u (by omega)
    have hcr := fun u => Crlf_c s (by omega) u
    have hrc := fun u => RCrlf_c s (by omega) u
    have hst := fun u => Stuff_c s (by omega) u
    have hrt := fun u => RStuff_c s (by omega) u
    have hun := fun u => Unstuff_c s (by omega) u
    have hru := fun u => RUnstuff_c s (by omega) u
    generalize Ln.lns s.data.toList = L at hsp hrs
    generalize bs (Ln.bare s.data.toList) = x1 at hba hrb
    generalize bs (Ln.crlf s.data.toList) = x2 at hcr hrc
    generalize bs (Ln.stuff s.data.toList) = x3 at hst hrt
    generalize bs (Ln.unst s.data.toList) = x4 at hun hru
    have HSP := Lib.hid hsp
    have HRS := Lib.hid hrs
    have HBA := Lib.hid hba
    have HRB := Lib.hid hrb
    have HCR := Lib.hid hcr
    have HRC := Lib.hid hrc
    have HST := Lib.hid hst
    have HRT := Lib.hid hrt
    have HUN := Lib.hid hun
    have HRU := Lib.hid hru
    clear hsp hrs hba hrb hcr hrc hst hrt hun hru hsz big
    go_enter Try.func3, Try.ntmps3
    go_wp2_with fail
    refine (small_c w).mono ?_
    rintro e w1 ⟨rfl, k1⟩
    have B1 := Lib.hid k1
    clear k1
    go_wp2_with fail
    refine (HSP.out w1).mono ?_
    rintro e w3 ⟨v3, rfl, own3, k3⟩
    obtain ⟨A3, c3, rfl⟩ := own_len own3
    have HS3 := Lib.hid (row_seq own3)
    have B3 := Lib.hid (chain B1.out k3)
    clear k3 B1 own3
    go_wp2_with fail
    refine (HRS.out w3).mono ?_
    rintro e w4 ⟨v4, rfl, own4, k4⟩
    obtain ⟨A4, c4, rfl⟩ := own_len own4
    have hsm := SameTexts_c _ _ L L w4 (HS3.out.below k4) (row_seq own4)
    rw [decide_eq_true rfl] at hsm
    have HSM := Lib.hid hsm
    have B4 := Lib.hid (chain B3.out k4)
    clear k4 B3 own4 HS3 hsm
    go_wp2_with fail
    refine HSM.out.mono ?_
    rintro e w5 ⟨rfl, q5, hw5⟩
    have B5 := Lib.hid (show Below w.heap.size w w5 by rw [hw5]; exact below_drewN B4.out _)
    clear hw5 HSM B4
    go_wp2_with (first
      | (go_at_call 13; refine (HBA.out _).mono ?_; rintro e w6 ⟨rfl, hw⟩; obtain rfl := hw.symm)
      | (go_at_call 14; refine (HRB.out _).mono ?_; rintro e w7 ⟨rfl, hw⟩; obtain rfl := hw.symm))
    refine (HCR.out _).mono ?_
    rintro e w8 ⟨rfl, k8⟩
    have B8 := Lib.hid (chain B5.out k8)
    clear k8
    go_wp2_with fail
    refine (HRC.out _).mono ?_
    rintro e w9 ⟨rfl, k9⟩
    have B9 := Lib.hid (chain B8.out k9)
    clear k9
    go_wp2_with fail
    refine (HST.out _).mono ?_
    rintro e w10 ⟨rfl, k10⟩
    have B10 := Lib.hid (chain B9.out k10)
    clear k10
    go_wp2_with fail
    refine (HRT.out _).mono ?_
    rintro e w11 ⟨rfl, k11⟩
    have B11 := Lib.hid (chain B10.out k11)
    clear k11
    go_wp2_with fail
    refine (HUN.out _).mono ?_
    rintro e w12 ⟨rfl, k12⟩
    have B12 := Lib.hid (chain B11.out k12)
    clear k12
    go_wp2_with fail
    refine (HRU.out _).mono ?_
    rintro e w13 ⟨rfl, k13⟩
    have B13 := Lib.hid (chain B12.out k13)
    clear k13
    go_wp2_with fail
    go_ret
    exact ⟨rfl, B13.out⟩
end Go.Proofs.Ytjllmhnicmonbaa
