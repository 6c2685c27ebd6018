/- Walk: the iterator over lines. -/
import Derived.Test.YtjllmhnicmonbaaLaw
import Derived.Shelf.Abstract
import Derived.Lib.LazyBuf
import Derived.Shelf.RegionOpen
import Derived.OwnWalkIn
import Derived.TacticsInMore
import Derived.LoopNIn
import Derived.LoopIn
namespace Go.Proofs.Ytjllmhnicmonbaa
open Go Go.RowKit Go.Shelf
attribute [local go_sem] Oper.semAt_some

/-- what is left of the string -/
def left (Bn : Nat) (W : World) : Nat := match W.cell? ⟨Bn, 0, none⟩ with
  | some (.string t) => t.size
  | _ => 0
theorem left_of {Bn : Nat} {W : World} {t : ByteArray} (h : Boxed W Bn 9 (.string t)) : left Bn W = t.size := by
  unfold left
  rw [h.cell]
theorem bs_snoc (b : List UInt8) : bs b ++ ⟨#[10]⟩ = bs (b ++ [10]) := bs_of (by simp [bs])
set_option maxHeartbeats 4000000 in
theorem all1_gives (n : Nat) (hn : 1 ≤ n) (Bn : Nat) (s : ByteArray) (hs : s.size ≤ 1000000) :
    SeqC Fence.wide n Try.prog 37 #[.pointer (some ⟨Bn, 0, none⟩)] Bn (fun l => #[.string (bs l)]) (Ln.lns s.data.toList) (fun W => Boxed W Bn 9 (.string s)) := by
  intro l J W hW hset hdrew hY h0
  refine callsIn_of_wp Try.func37 rfl trivial ?_ rfl
  simp only [Try.ntmps37, List.size_toArray, List.length_cons, List.length_nil, Nat.reduceAdd, Nat.reduceSub, Array.replicate_succ, Array.replicate_zero, List.push_toArray, List.append_toArray, List.nil_append, List.cons_append]
  have HS := Lib.hid hset
  have HD := Lib.hid hdrew
  have HY := Lib.hid hY
  clear hset hdrew hY
  gi_wp2
  gi_loopw [3, 4, 5] (fun _ _ _ wr => ∃ (pre : List (List UInt8)) (t : ByteArray), t.size ≤ 1000000 ∧ Hid (Ln.lns s.data.toList = pre ++ Ln.lns t.data.toList) ∧ Hid (Boxed wr Bn 9 (.string t)) ∧ Hid (J pre wr)) (fun _ _ _ wr => left Bn wr)
  case atStart => exact ⟨[], s, hs, Lib.hid rfl, Lib.hid hW, Lib.hid h0⟩
  case round =>
    obtain ⟨pre, t, ht, HX, HB, HJ⟩ := hrel
    have hc := HB.out.cell
    rcases Ln.cases3 t.data.toList with h | ⟨b, a, h, hb⟩ | h
    · have h1 : t.toList = [] := by rw [Lib.toList_data, h]
      have hx : Ln.lns s.data.toList = pre := by rw [HX.out, h]; simp [Ln.lns]
      rw [← hx] at HJ
      clear hx h
      gi_wp2
      go_end0
      exact ⟨⟨_, rfl⟩, HJ.out⟩
    · have h1 : (!t.toList.isEmpty) = true := by rw [Lib.toList_data, h]; simp
      have h1' : ¬ t.toList = [] := by rw [Lib.toList_data, h]; simp
      have hcut := Cut_yes t b a wr h hb (by omega)
      have hx := HX.out
      rw [h, Ln.lns_found b a hb] at hx
      have hx2 : Ln.lns s.data.toList = (pre ++ [b ++ [10]]) ++ Ln.lns a := by rw [hx, List.append_assoc]; rfl
      have hYq := fun q => HY.out pre (b ++ [10]) (Ln.lns a) (wr.drewN q) hx (HD.out _ _ _ HJ.out)
      have hz : b.length + 1 + a.length = t.size := by
        have := congrArg List.length h
        simp only [List.length_append, List.length_cons] at this
        have h2 : t.data.toList.length = t.size := rfl
        omega
      have hbe := bs_snoc b
      have hsz : ¬ 9223372036854775807 < (bs b).size + 1 := by rw [bs_size]; omega
      have HC := Lib.hid hcut
      have HYQ := Lib.hid hYq
      have HX2 := Lib.hid hx2
      have HZ := Lib.hid hz
      clear hx hx2 hcut hYq hz h
      gi_wp2_with (refine ⟨trivial, ?_⟩; gi_at_call 38; refine (callsIn_wide.2 HC.out).mono ?_; rintro e w1 ⟨rfl, q, rfl⟩; obtain ⟨fn, tmps, assign, body, hy, hR⟩ := HYQ.out q)
      refine hR.mono ?_
      rintro e W' ⟨rfl, hj, hk⟩
      have hbx : Boxed W' Bn 9 (.string t) := hk.trans HB.out
      have hc1 := hbx.cell
      have hf1 := hbx.frozen
      have HJ2 := Lib.hid (HS.out _ W' (.string (bs a)) hj)
      have HB2 := Lib.hid (hbx.set (.string (bs a)))
      have HB1 := Lib.hid hbx
      clear hj hk hbx hy hR
      gi_wp2
      go_roundw
      case rel => exact ⟨pre ++ [b ++ [10]], bs a, by have := HZ.out; rw [bs_size]; omega, HX2, HB2, HJ2⟩
      case measure =>
        rw [left_of HB2.out, left_of HB.out, bs_size]
        have := HZ.out
        omega
    · have h1 : (!t.toList.isEmpty) = true := by rw [Lib.toList_data]; simpa using h.1
      have h1' : ¬ t.toList = [] := by rw [Lib.toList_data]; exact h.1
      have hcut := Cut_no t wr h.2
      have hx := HX.out
      rw [Ln.lns_last _ h] at hx
      have hx2 : Ln.lns s.data.toList = (pre ++ [t.data.toList]) ++ Ln.lns (bs []).data.toList := by rw [hx]; simp [Ln.lns, bs_data]
      have hYq := fun q => HY.out pre t.data.toList [] (wr.drewN q) hx (HD.out _ _ _ HJ.out)
      have hz : 0 < t.size := by
        have h2 : t.data.toList.length = t.size := rfl
        have := List.length_pos_iff.2 h.1
        omega
      rw [bs_self] at hYq
      have HC := Lib.hid hcut
      have HYQ := Lib.hid hYq
      have HX2 := Lib.hid hx2
      have HZ := Lib.hid hz
      clear hx hx2 hcut hYq hz h
      gi_wp2_with (refine ⟨trivial, ?_⟩; gi_at_call 38; refine (callsIn_wide.2 HC.out).mono ?_; rintro e w1 ⟨rfl, q, rfl⟩; obtain ⟨fn, tmps, assign, body, hy, hR⟩ := HYQ.out q)
      refine hR.mono ?_
      rintro e W' ⟨rfl, hj, hk⟩
      have hbx : Boxed W' Bn 9 (.string t) := hk.trans HB.out
      have hc1 := hbx.cell
      have hf1 := hbx.frozen
      have HJ2 := Lib.hid (HS.out _ W' (.string ⟨#[]⟩) hj)
      have HB2 := Lib.hid (hbx.set (.string (bs [])))
      have HB1 := Lib.hid hbx
      clear hj hk hbx hy hR
      gi_wp2
      go_roundw
      case rel => exact ⟨pre ++ [t.data.toList], bs [], by rw [bs_size]; simp, HX2, HB2, HJ2⟩
      case measure =>
        have h2 : left Bn (W'.setCell ⟨Bn, 0, none⟩ (.string ⟨#[]⟩)) = (bs []).size := left_of HB2.out
        rw [h2, left_of HB.out, bs_size]
        exact HZ.out
end Go.Proofs.Ytjllmhnicmonbaa
