/- encoded of the statements of chapter 02: a row of values, each encoded by its kind. -/
import Derived.Test.YtipehfidphgbbaaLawA
namespace Go.Proofs.Ytipehfidphgbbaa
open Go.RowKit

structure V where
  kind : Int
  n : Int
  text : List UInt8
  texts : List (List UInt8)
  nums : List Int
def I64 (x : Int) : Prop := -9223372036854775808 ≤ x ∧ x ≤ 9223372036854775807
structure VOk (x : V) : Prop where
  kind : I64 x.kind
  n : I64 x.n
  text : x.text.length ≤ 140737488355328
  texts : ∀ y ∈ x.texts, y.length ≤ 140737488355328
  nums : ∀ y ∈ x.nums, I64 y
/-- the cells of a value from offset o of block b on -/
structure VAt (w : World) (b o : Nat) (x : V) : Prop where
  c0 : w.cell? ⟨b, o, none⟩ = some (.int .i64 x.kind)
  c1 : w.cell? ⟨b, o + 1, none⟩ = some (.int .i64 x.n)
  c2 : w.cell? ⟨b, o + 2, none⟩ = some (.string (bs x.text))
  c3 : ∃ v, w.cell? ⟨b, o + 3, none⟩ = some v ∧ Seq w v (x.texts.map sv)
  c4 : ∃ v, w.cell? ⟨b, o + 4, none⟩ = some v ∧ Seq w v (x.nums.map iv)
def SeqV (w : World) (v : Value) (l : List V) : Prop :=
  ∃ A cap, v = .slice A l.length cap ∧ l.length ≤ cap ∧ cap ≤ maxLen ∧ (l = [] ∨ ∃ b off, A = some ⟨b, off, none⟩ ∧ ∀ i x, l[i]? = some x → VAt w b (off + i * 5) x)
theorem cell_keep {w w' : World} (hk : ∀ b, b < w.heap.size → w'.heap[b]? = w.heap[b]?) {a : Addr} {v : Value} (h : w.cell? a = some v) : w'.cell? a = some v :=
  (World.cell?_of_block (w := w) (hk a.block (World.block_lt_of_cell? w _ h))).trans h
theorem VAt.keep {w w' : World} {b o : Nat} {x : V} (h : VAt w b o x) (hk : ∀ b, b < w.heap.size → w'.heap[b]? = w.heap[b]?) : VAt w' b o x := by
  obtain ⟨h0, h1, h2, ⟨v3, h3, s3⟩, ⟨v4, h4, s4⟩⟩ := h
  exact ⟨cell_keep hk h0, cell_keep hk h1, cell_keep hk h2, ⟨v3, cell_keep hk h3, s3.keep hk⟩, ⟨v4, cell_keep hk h4, s4.keep hk⟩⟩
theorem SeqV.keep {w w' : World} {v : Value} {l : List V} (h : SeqV w v l) (hk : ∀ b, b < w.heap.size → w'.heap[b]? = w.heap[b]?) : SeqV w' v l := by
  obtain ⟨A, cap, hv, hc, hm, h⟩ := h
  refine ⟨A, cap, hv, hc, hm, ?_⟩
  rcases h with h | ⟨b, off, hA, h⟩
  · exact .inl h
  · exact .inr ⟨b, off, hA, fun i x hx => (h i x hx).keep hk⟩
theorem SeqV.below {w w' : World} {v : Value} {l : List V} (h : SeqV w v l) (hb : Below w.heap.size w w') : SeqV w' v l := h.keep fun b hlt => hb.block b hlt

def encV (x : V) : List UInt8 :=
  if x.kind % 4 = 0 then Vi.eNum x.n else if x.kind % 4 = 1 then Vi.eText x.text else if x.kind % 4 = 2 then Vi.eMany Vi.eText x.texts else Vi.eMany Vi.eNum x.nums

set_option maxHeartbeats 4000000 in
set_option maxRecDepth 100000 in
theorem encoded_c (va : Value) (xs : List V) (w : World) (ha : SeqV w va xs) (hx : ∀ x ∈ xs, VOk x) (hb : (xs.flatMap encV).length ≤ 70368744177664) :
    Calls Try.prog 38 #[va] w fun e w' => e = .returned (.string (bs (xs.flatMap encV))) ∧ Below w.heap.size w w' := by
  obtain ⟨A, ca, rfl, hca, hma, ha⟩ := ha
  unfold maxLen at hma
  have HX := Lib.hid hx; clear hx
  have HA := Lib.hid ha; clear ha
  go_enter Try.func38, Try.ntmps38
  go_wp2
  go_loopw [3, 4] (fun v i wr => ∃ (k : Nat) (X : ByteArray), k ≤ xs.length ∧ i = .int .i64 k ∧ v = .string X ∧ Hid (X = bs ((xs.take k).flatMap encV)) ∧ X.size ≤ 70368744177664 ∧ Below w.heap.size w wr) (fun _ i _ => xs.length - (intOf i).toNat)
  case atStart => exact ⟨0, _, by omega, rfl, rfl, rfl, by decide, Below.refl _ _⟩
  case round =>
    obtain ⟨k, X, hk, rfl, rfl, hX, hXs, hbw⟩ := hrel
    have hwz := hbw.size
    by_cases k1 : k < xs.length
    · obtain ⟨b1, o1, rfl, hc⟩ := HA.out.resolve_left (by intro e; rw [e] at k1; simp at k1)
      have hat := (hc k xs[k] (by simp [k1])).keep (w' := wr) (fun b hb => hbw.block b hb)
      have hok := HX.out xs[k] (List.getElem_mem k1)
      have hfl := flat_le encV xs (k + 1)
      have HTF := Lib.hid (take_flat encV xs k k1)
      have hflk := congrArg List.length HTF.out
      rw [List.length_append] at hflk
      have hone := one_le encV xs k k1
      have HFLK := Lib.hid hflk; clear hflk hc
      generalize xs[k] = x at *
      have i0 : (0 : Int) ≤ (k : Int) := by omega
      have i1 : (k : Int) < (xs.length : Int) := by omega
      obtain ⟨c0, c1, c2, ⟨v3, c3, s3⟩, ⟨v4, c4, s4⟩⟩ := id hat
      go_wp2_with fail
      refine (kind_c _ _ _ _ _ wr).mono ?_
      rintro e w3 ⟨rfl, h3⟩
      have hat3 := hat.keep (w' := w3) (fun b hb => h3.block b hb)
      clear c0 c1 c2 c3 s3 c4 s4 hat
      obtain ⟨c0, c1, c2, ⟨v5, c3, s3⟩, ⟨v6, c4, s4⟩⟩ := hat3
      have hk4 : x.kind % 4 = 0 ∨ x.kind % 4 = 1 ∨ x.kind % 4 = 2 ∨ x.kind % 4 = 3 := by omega
      have hE : encV x = if x.kind % 4 = 0 then Vi.eNum x.n else if x.kind % 4 = 1 then Vi.eText x.text else if x.kind % 4 = 2 then Vi.eMany Vi.eText x.texts else Vi.eMany Vi.eNum x.nums := rfl
      obtain ⟨hok1, hok2, hok3, hok4, hok5⟩ := hok
      unfold I64 at hok2
      have HOK4 := Lib.hid hok4; clear hok4
      have HOK5 := Lib.hid hok5; clear hok5
      generalize x.kind % 4 = j at *
      rcases hk4 with rfl | rfl | rfl | rfl
      · have HE : Hid (encV x = Vi.eNum x.n) := hE.trans (if_pos rfl)
        clear hE
        go_wp2_with fail
        refine (enc_c x.n w3 hok2.1 hok2.2).mono ?_
        rintro e w4 ⟨rfl, h4⟩
        have hYs : (bs (Vi.eNum x.n)).size ≤ 70368744177664 := by rw [bs_size, ← HE.out]; omega
        go_wp2
        go_roundw
        case rel =>
          refine ⟨k + 1, _, by omega, by go_num, rfl, ?_, ?_, (hbw.trans (h3.mono hwz)).trans (h4.mono (Nat.le_trans hwz h3.size))⟩
          · show _ = _
            rw [hX.out, HTF.out, HE.out, ← bs_append]
          · show (X ++ bs (Vi.eNum x.n)).size ≤ _
            have hXs2 := congrArg ByteArray.size hX.out
            rw [bs_size] at hXs2
            have := HFLK.out
            rw [HE.out] at this
            rw [ByteArray.size_append, bs_size]
            omega
        case measure => simp [intOf] <;> omega
      · have HE : Hid (encV x = Vi.eText x.text) := hE.trans ((if_neg (by decide)).trans (if_pos rfl))
        clear hE
        go_wp2_with fail
        refine (encTextL_c x.text w3 hok3).mono ?_
        rintro e w4 ⟨rfl, h4⟩
        have hYs : (bs (Vi.eText x.text)).size ≤ 70368744177664 := by rw [bs_size, ← HE.out]; omega
        go_wp2
        go_roundw
        case rel =>
          refine ⟨k + 1, _, by omega, by go_num, rfl, ?_, ?_, (hbw.trans (h3.mono hwz)).trans (h4.mono (Nat.le_trans hwz h3.size))⟩
          · show _ = _
            rw [hX.out, HTF.out, HE.out, ← bs_append]
          · show (X ++ bs (Vi.eText x.text)).size ≤ _
            have hXs2 := congrArg ByteArray.size hX.out
            rw [bs_size] at hXs2
            have := HFLK.out
            rw [HE.out] at this
            rw [ByteArray.size_append, bs_size]
            omega
        case measure => simp [intOf] <;> omega
      · have HE : Hid (encV x = Vi.eMany Vi.eText x.texts) := hE.trans ((if_neg (by decide)).trans ((if_neg (by decide)).trans (if_pos rfl)))
        clear hE
        go_wp2_with fail
        refine (encList_c v5 x.texts w3 s3 (by rw [← HE.out]; omega)).mono ?_
        rintro e w4 ⟨rfl, h4⟩
        have hYs : (bs (Vi.eMany Vi.eText x.texts)).size ≤ 70368744177664 := by rw [bs_size, ← HE.out]; omega
        go_wp2
        go_roundw
        case rel =>
          refine ⟨k + 1, _, by omega, by go_num, rfl, ?_, ?_, (hbw.trans (h3.mono hwz)).trans (h4.mono (Nat.le_trans hwz h3.size))⟩
          · show _ = _
            rw [hX.out, HTF.out, HE.out, ← bs_append]
          · show (X ++ bs (Vi.eMany Vi.eText x.texts)).size ≤ _
            have hXs2 := congrArg ByteArray.size hX.out
            rw [bs_size] at hXs2
            have := HFLK.out
            rw [HE.out] at this
            rw [ByteArray.size_append, bs_size]
            omega
        case measure => simp [intOf] <;> omega
      · have HE : Hid (encV x = Vi.eMany Vi.eNum x.nums) := hE.trans ((if_neg (by decide)).trans ((if_neg (by decide)).trans (if_neg (by decide))))
        clear hE
        go_wp2_with fail
        refine (encNums_c v6 x.nums w3 s4 (by rw [← HE.out]; omega) HOK5.out).mono ?_
        rintro e w4 ⟨rfl, h4⟩
        have hYs : (bs (Vi.eMany Vi.eNum x.nums)).size ≤ 70368744177664 := by rw [bs_size, ← HE.out]; omega
        go_wp2
        go_roundw
        case rel =>
          refine ⟨k + 1, _, by omega, by go_num, rfl, ?_, ?_, (hbw.trans (h3.mono hwz)).trans (h4.mono (Nat.le_trans hwz h3.size))⟩
          · show _ = _
            rw [hX.out, HTF.out, HE.out, ← bs_append]
          · show (X ++ bs (Vi.eMany Vi.eNum x.nums)).size ≤ _
            have hXs2 := congrArg ByteArray.size hX.out
            rw [bs_size] at hXs2
            have := HFLK.out
            rw [HE.out] at this
            rw [ByteArray.size_append, bs_size]
            omega
        case measure => simp [intOf] <;> omega
    · obtain rfl : k = xs.length := by omega
      go_wp2_with fail
      go_ret
      refine ⟨?_, hbw⟩
      have h2 := hX.out
      rw [List.take_of_length_le (Nat.le_refl _)] at h2
      show Ending.returned (.string X) = _
      rw [h2]
end Go.Proofs.Ytipehfidphgbbaa
