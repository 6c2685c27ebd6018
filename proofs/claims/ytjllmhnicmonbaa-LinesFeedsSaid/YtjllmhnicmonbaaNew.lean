/- Walks: a feed is made and asked for its rest; the three changes of every line. -/
import Derived.Test.YtjllmhnicmonbaaSame
import Derived.Laws.BytesArg
namespace Go.Proofs.Ytjllmhnicmonbaa
open Go Go.RowKit

/-- the limit that a feed takes -/
def lim (most : Int) : Nat := (min (max most 1) 1048576).toNat
theorem lim_lo (most : Int) : 1 ≤ lim most := by unfold lim; omega
theorem lim_hi (most : Int) : lim most ≤ 1048576 := by unfold lim; omega
theorem lim_eq (most : Int) : min (max most 1) 1048576 = (lim most : Int) := by unfold lim; omega
theorem New_c (most : Int) (w : World) :
    Calls Try.prog 22 #[.int .i64 most] w fun e w' => e = .returned (.pointer (some ⟨w.heap.size, 0, none⟩)) ∧ w' = w.alloc (.cells #[.int .i64 (lim most : Int), .slice none 0 0] 45) := by
  have hl := lim_eq most
  have HL := Lib.hid hl
  clear hl
  go_enter Try.func22, Try.ntmps22
  go_wp2_with fail
  go_ret
  rw [← HL.out]
  exact ⟨rfl, rfl⟩
theorem fd_new (w : World) (B n : Nat) : Fd (w.alloc (.cells #[.int .i64 (n : Int), .slice none 0 0] 45)) B w.heap.size n [] := ⟨_, heap_alloc_new _ _, World.ownsRow_nil _ _ _ _⟩
set_option maxHeartbeats 1000000 in
theorem Rest_c (B f n : Nat) (r : List UInt8) (w : World) (hF : Fd w B f n r) :
    Calls Try.prog 25 #[.pointer (some ⟨f, 0, none⟩)] w fun e w' => e = .returned (.string (bs r)) ∧ w' = w := by
  obtain ⟨v, h1, h2⟩ := hF
  have hc := feed_cell1 h1
  rcases h2.2 with ⟨rfl, h0⟩ | ⟨g, cap, cur, rfl, _⟩
  · obtain rfl := List.eq_nil_of_length_eq_zero h0
    have hcv : (convert 43 9 (.slice none 0 0)).run Try.prog w = .ok (.string (bs [])) w := run_convert_bytes_nil w 43 5 Try.underlying43 Try.underlying5 0 0 9 Try.underlying9
    clear h1 h2
    go_enter Try.func25, Try.ntmps25
    go_wp2_with fail
    go_ret
    exact ⟨rfl, rfl⟩
  · have hcv := back_own h2 rfl
    clear h1 h2
    go_enter Try.func25, Try.ntmps25
    go_wp2_with fail
    go_ret
    exact ⟨rfl, rfl⟩
theorem Crlf_c (s : ByteArray) (hs : s.size ≤ 1000000) (w : World) :
    Calls Try.prog 15 #[.string s] w fun e w' => e = .returned (.string (bs (Ln.crlf s.data.toList))) ∧ Below w.heap.size w w' := by
  have H := Lib.hid (mapC_c s hs w)
  go_enter Try.func15, Try.ntmps15
  go_wp2_with fail
  refine H.out.mono ?_
  rintro e w1 ⟨rfl, hb⟩
  go_wp2_with fail
  go_ret
  exact ⟨rfl, hb⟩
theorem Stuff_c (s : ByteArray) (hs : s.size ≤ 1000000) (w : World) :
    Calls Try.prog 17 #[.string s] w fun e w' => e = .returned (.string (bs (Ln.stuff s.data.toList))) ∧ Below w.heap.size w w' := by
  have H := Lib.hid (mapS_c s hs w)
  go_enter Try.func17, Try.ntmps17
  go_wp2_with fail
  refine H.out.mono ?_
  rintro e w1 ⟨rfl, hb⟩
  go_wp2_with fail
  go_ret
  exact ⟨rfl, hb⟩
theorem Unstuff_c (s : ByteArray) (hs : s.size ≤ 1000000) (w : World) :
    Calls Try.prog 19 #[.string s] w fun e w' => e = .returned (.string (bs (Ln.unst s.data.toList))) ∧ Below w.heap.size w w' := by
  have H := Lib.hid (mapU_c s hs w)
  go_enter Try.func19, Try.ntmps19
  go_wp2_with fail
  refine H.out.mono ?_
  rintro e w1 ⟨rfl, hb⟩
  go_wp2_with fail
  go_ret
  exact ⟨rfl, hb⟩
end Go.Proofs.Ytjllmhnicmonbaa
