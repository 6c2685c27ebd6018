/- Walks: strings.Cut at a line's end; the parts of strings that the lines need. -/
import Derived.Test.YtjllmhnicmonbaaShelf
import Derived.Test.YtjllmhnicmonbaaLn
import Derived.Test.YtjllmhnicmonbaaRead0
import Derived.Lib.IndexLaws
namespace Go.Proofs.Ytjllmhnicmonbaa
open Go.RowKit

namespace Ln
theorem idx_found (b a : List UInt8) (h : 10 ∉ b) : Lib.indexByte (b ++ 10 :: a) 10 = b.length := by
  induction b with
  | nil => simp [Lib.indexByte]
  | cons c b ih =>
    have hc : (c == 10) = false := by rw [beq_eq_false_iff_ne]; exact fun e => h (by simp [e])
    have ih := ih (fun e => h (List.mem_cons_of_mem _ e))
    have hne : ((b.length : Int) == -1) = false := by rw [beq_eq_false_iff_ne]; omega
    rw [List.cons_append, Lib.indexByte, hc, ih, hne]
    simp
theorem idx_none (b : List UInt8) (h : 10 ∉ b) : Lib.indexByte b 10 = -1 := by
  induction b with
  | nil => rfl
  | cons c b ih =>
    have hc : (c == 10) = false := by rw [beq_eq_false_iff_ne]; exact fun e => h (by simp [e])
    have ih := ih (fun e => h (List.mem_cons_of_mem _ e))
    rw [Lib.indexByte, hc, ih]
    rfl
end Ln
theorem lf : (⟨#[10]⟩ : ByteArray) = bs [10] := rfl
theorem extract_to (s : ByteArray) (b a : List UInt8) (h : s.data.toList = b ++ a) : s.extract 0 b.length = bs b := by
  refine bs_of ?_
  rw [Lib.extract_data, h]
  simp
theorem extract_from (s : ByteArray) (b a : List UInt8) (h : s.data.toList = b ++ a) : s.extract b.length s.size = bs a := by
  refine bs_of ?_
  rw [Lib.extract_to_end, h]
  simp
set_option maxHeartbeats 1000000 in
theorem SCut_yes (s : ByteArray) (b a : List UInt8) (w : World) (hs : s.data.toList = b ++ 10 :: a) (hb : 10 ∉ b) (hl : s.size ≤ 9223372036854775807) :
    Calls Try.prog 44 #[.string s, .string ⟨#[10]⟩] w fun e w' => e = .returned (.tuple #[.string (bs b), .string (bs a), .bool true]) ∧ ∃ n, w' = w.drewN n := by
  have hi := Try.stringslite_Index_one s 10 w
  rw [hs, Ln.idx_found b a hb] at hi
  have e1 := extract_to s b (10 :: a) hs
  have e2 := extract_from s (b ++ [10]) a (by rw [hs]; simp)
  have hz : s.size = b.length + 1 + a.length := by
    have := congrArg List.length hs
    simp only [List.length_append, List.length_cons] at this
    have h2 : s.data.toList.length = s.size := rfl
    omega
  rw [List.length_append, List.length_singleton] at e2
  have h1 : (b.length : Int) + 1 ≤ (s.size : Int) := by omega
  have w1 : IntKind.i64.wrap ((b.length : Int) + 1) = (b.length : Int) + 1 := by rw [IntKind.wrap_i64]; omega
  have t1 : ((b.length : Int) + 1).toNat = b.length + 1 := by omega
  have h0 : (0 : Int) ≤ (b.length : Int) + 1 := by omega
  have h00 : (0 : Int) ≤ (b.length : Int) := by omega
  have h3 : (b.length : Int) ≤ (s.size : Int) := by omega
  have HI := Lib.hid hi
  clear hi hs hb hz
  go_enter Try.func44, Try.ntmps44
  go_wp2_with (go_at_call 47; refine HI.out.mono ?_; rintro e w1 ⟨rfl, rfl⟩)
  go_quiet (fail)
  go_wp2_with fail
  go_ret3
  exact ⟨rfl, _, rfl⟩
set_option maxHeartbeats 1000000 in
theorem SCut_no (s : ByteArray) (w : World) (hb : 10 ∉ s.data.toList) :
    Calls Try.prog 44 #[.string s, .string ⟨#[10]⟩] w fun e w' => e = .returned (.tuple #[.string s, .string ⟨#[]⟩, .bool false]) ∧ ∃ n, w' = w.drewN n := by
  have hi := Try.stringslite_Index_one s 10 w
  rw [Ln.idx_none _ hb] at hi
  have HI := Lib.hid hi
  clear hi hb
  go_enter Try.func44, Try.ntmps44
  go_wp2_with (go_at_call 47; refine HI.out.mono ?_; rintro e w1 ⟨rfl, rfl⟩)
  go_ret3
  exact ⟨rfl, 0, rfl⟩
theorem Cut_yes (s : ByteArray) (b a : List UInt8) (w : World) (hs : s.data.toList = b ++ 10 :: a) (hb : 10 ∉ b) (hl : s.size ≤ 9223372036854775807) :
    Calls Try.prog 38 #[.string s, .string ⟨#[10]⟩] w fun e w' => e = .returned (.tuple #[.string (bs b), .string (bs a), .bool true]) ∧ ∃ n, w' = w.drewN n := by
  have HI := Lib.hid (SCut_yes s b a w hs hb hl)
  clear hs hb hl
  go_enter Try.func38, Try.ntmps38
  go_wp2_with fail
  refine HI.out.mono ?_
  rintro e w1 ⟨rfl, n, rfl⟩
  go_wp2_with fail
  go_ret3
  exact ⟨rfl, n, rfl⟩
theorem Cut_no (s : ByteArray) (w : World) (hb : 10 ∉ s.data.toList) :
    Calls Try.prog 38 #[.string s, .string ⟨#[10]⟩] w fun e w' => e = .returned (.tuple #[.string s, .string ⟨#[]⟩, .bool false]) ∧ ∃ n, w' = w.drewN n := by
  have HI := Lib.hid (SCut_no s w hb)
  clear hb
  go_enter Try.func38, Try.ntmps38
  go_wp2_with fail
  refine HI.out.mono ?_
  rintro e w1 ⟨rfl, n, rfl⟩
  go_wp2_with fail
  go_ret3
  exact ⟨rfl, n, rfl⟩
end Go.Proofs.Ytjllmhnicmonbaa
