/- Walks: docs, And, Or, Less. -/
import Derived.Test.YtijbkflbklbemaaSee
import Derived.Test.YtijbkflbklbemaaBothA
import Derived.Test.YtijbkflbklbemaaBothO
import Derived.Test.YtijbkflbklbemaaBothL
namespace Go.Proofs.Ytijbkflbklbemaa
open Go.RowKit

theorem docs_c (va vb f : Value) (w : World) (Q : World → Prop) (h : Calls Try.prog 47 #[va, vb, .func (.func 48) #[] #[], f] w fun e w' => e = .returned (.tuple #[]) ∧ Q w') :
    Calls Try.prog 24 #[va, vb, f] w fun e w' => e = .returned (.tuple #[]) ∧ Q w' := by
  have H := Lib.hid h; clear h
  go_enter Try.func24, Try.ntmps24
  go_wp2_with fail
  refine H.out.mono ?_
  rintro e u ⟨rfl, hq⟩
  go_wp2_with fail
  go_end0
  exact ⟨rfl, hq⟩
theorem mrg_mem {α : Type} {key : α → Int} : ∀ (a b : List α), ∀ q ∈ Po.mrg key a b, (∀ p, q.1 = some p → p ∈ a) ∧ (∀ p, q.2 = some p → p ∈ b)
  | [], [] => by intro q hq; simp [Po.mrg] at hq
  | x :: a, [] => by
    intro q hq
    rw [Po.mrg] at hq
    rcases List.mem_cons.1 hq with rfl | hq
    · exact ⟨fun p h => by cases h; simp, fun p h => by cases h⟩
    · exact ⟨fun p h => List.mem_cons_of_mem _ ((mrg_mem a [] q hq).1 p h), (mrg_mem a [] q hq).2⟩
  | [], y :: b => by
    intro q hq
    rw [Po.mrg] at hq
    rcases List.mem_cons.1 hq with rfl | hq
    · exact ⟨fun p h => by (cases h), fun p h => by cases h; simp⟩
    · exact ⟨(mrg_mem [] b q hq).1, fun p h => List.mem_cons_of_mem _ ((mrg_mem [] b q hq).2 p h)⟩
  | x :: a, y :: b => by
    intro q hq
    rw [Po.mrg] at hq
    split at hq
    · rcases List.mem_cons.1 hq with rfl | hq
      · exact ⟨fun p h => by cases h; simp, fun p h => by cases h⟩
      · exact ⟨fun p h => List.mem_cons_of_mem _ ((mrg_mem a (y :: b) q hq).1 p h), (mrg_mem a (y :: b) q hq).2⟩
    · split at hq
      · rcases List.mem_cons.1 hq with rfl | hq
        · exact ⟨fun p h => by (cases h), fun p h => by cases h; simp⟩
        · exact ⟨(mrg_mem (x :: a) b q hq).1, fun p h => List.mem_cons_of_mem _ ((mrg_mem (x :: a) b q hq).2 p h)⟩
      · rcases List.mem_cons.1 hq with rfl | hq
        · exact ⟨fun p h => by cases h; simp, fun p h => by cases h; simp⟩
        · exact ⟨fun p h => List.mem_cons_of_mem _ ((mrg_mem a b q hq).1 p h), fun p h => List.mem_cons_of_mem _ ((mrg_mem a b q hq).2 p h)⟩
termination_by a b => a.length + b.length
structure Sz (l : List Po.P) : Prop where
  len : l.length ≤ 1099511627776
  each : ∀ p ∈ l, Fine p
theorem outI_start (w : World) : OutI w w.heap.size [] (w.alloc (.cells #[.slice none 0 0] 22)) :=
  ⟨⟨.slice none 0 0, [], rfl, heap_alloc_new _ _, World.ownsRow_nil _ _ _ _, by simp⟩, (Below.refl _ _).alloc (Nat.le_refl _) _, Nat.le_refl _⟩
theorem seeF_snoc {β : Type} (f : Option Po.P → Option Po.P → Option β) (l : List (Option Po.P × Option Po.P)) (x y : Option Po.P) : (l ++ [(x, y)]).filterMap (fun q => f q.1 q.2) = l.filterMap (fun q => f q.1 q.2) ++ (f x y).toList := by
  rw [List.filterMap_append]
  cases h : f x y <;> simp [h]

theorem And_c (va vb : Value) (xs ys : List Po.P) (w : World) (ha : SeqP w va xs) (hb : SeqP w vb ys) (hx : Sz xs) (hy : Sz ys) :
    Calls Try.prog 10 #[va, vb] w fun e w' => ∃ v, e = .returned v ∧ SeqP w' v (Po.andL xs ys) ∧ Below w.heap.size w w' := by
  have hin := docs_c va vb (.func (.func 25) #[] #[.pointer (some ⟨w.heap.size, 0, none⟩)]) (w.alloc (.cells #[.slice none 0 0] 22)) _
    (bothAnd_c va vb xs ys (.pointer (some ⟨w.heap.size, 0, none⟩)) w (w.alloc (.cells #[.slice none 0 0] 22)) ha hb
      (fun l u => OutI w w.heap.size (l.filterMap fun q : Option Po.P × Option Po.P => Po.andF q.1 q.2) u) (outI_start w) (fun l u h => h.below) (fun l u u' h k => h.keep k)
      (fun l x y px py u h hx' hy' hp => by
        have hlm := mrg_len (key := Po.P.doc) xs ys
        obtain ⟨hn, hq⟩ := filter_pre (fun q : Option Po.P × Option Po.P => Po.andF q.1 q.2) hp
        have hm := mrg_mem xs ys _ hq
        have hs := mrg_some xs ys _ hq
        have := hx.len
        have := hy.len
        rw [seeF_snoc]
        exact and1_c w u _ _ x y px py h hx' hy' (fun p e => hx.each p (hm.1 p e)) (fun p e => hy.each p (hm.2 p e)) (by omega)))
  have HIN := Lib.hid hin; clear hin
  go_enter Try.func10, Try.ntmps10
  go_wp2_with fail
  refine HIN.out.mono ?_
  rintro e u ⟨rfl, hu⟩
  obtain ⟨⟨v, vs, hl, hB, hr⟩, hbe, _⟩ := hu
  have c1 : u.cell? ⟨w.heap.size, 0, none⟩ = some v := by rw [Lib.cell_of_heap hB]; rfl
  have HR := Lib.hid hr; clear hr hB
  have HL := Lib.hid hl; clear hl
  go_wp2_with fail
  go_ret
  refine ⟨_, rfl, ?_, hbe⟩
  have h := HR.out.seqP
  rw [← HL.out] at h
  exact h

theorem Or_c (va vb : Value) (xs ys : List Po.P) (w : World) (ha : SeqP w va xs) (hb : SeqP w vb ys) (hx : Sz xs) (hy : Sz ys) :
    Calls Try.prog 11 #[va, vb] w fun e w' => ∃ v, e = .returned v ∧ SeqP w' v (Po.orL xs ys) ∧ Below w.heap.size w w' := by
  have hin := docs_c va vb (.func (.func 27) #[] #[.pointer (some ⟨w.heap.size, 0, none⟩)]) (w.alloc (.cells #[.slice none 0 0] 22)) _
    (bothOr_c va vb xs ys (.pointer (some ⟨w.heap.size, 0, none⟩)) w (w.alloc (.cells #[.slice none 0 0] 22)) ha hb
      (fun l u => OutI w w.heap.size (l.filterMap fun q : Option Po.P × Option Po.P => Po.orF q.1 q.2) u) (outI_start w) (fun l u h => h.below) (fun l u u' h k => h.keep k)
      (fun l x y px py u h hx' hy' hp => by
        have hlm := mrg_len (key := Po.P.doc) xs ys
        obtain ⟨hn, hq⟩ := filter_pre (fun q : Option Po.P × Option Po.P => Po.orF q.1 q.2) hp
        have hm := mrg_mem xs ys _ hq
        have hs := mrg_some xs ys _ hq
        have := hx.len
        have := hy.len
        rw [seeF_snoc]
        exact or1_c w u _ _ x y px py h hx' hy' (fun p e => hx.each p (hm.1 p e)) (fun p e => hy.each p (hm.2 p e)) (by omega) hs))
  have HIN := Lib.hid hin; clear hin
  go_enter Try.func11, Try.ntmps11
  go_wp2_with fail
  refine HIN.out.mono ?_
  rintro e u ⟨rfl, hu⟩
  obtain ⟨⟨v, vs, hl, hB, hr⟩, hbe, _⟩ := hu
  have c1 : u.cell? ⟨w.heap.size, 0, none⟩ = some v := by rw [Lib.cell_of_heap hB]; rfl
  have HR := Lib.hid hr; clear hr hB
  have HL := Lib.hid hl; clear hl
  go_wp2_with fail
  go_ret
  refine ⟨_, rfl, ?_, hbe⟩
  have h := HR.out.seqP
  rw [← HL.out] at h
  exact h

theorem Less_c (va vb : Value) (xs ys : List Po.P) (w : World) (ha : SeqP w va xs) (hb : SeqP w vb ys) (hx : Sz xs) (hy : Sz ys) :
    Calls Try.prog 12 #[va, vb] w fun e w' => ∃ v, e = .returned v ∧ SeqP w' v (Po.lessL xs ys) ∧ Below w.heap.size w w' := by
  have hin := docs_c va vb (.func (.func 29) #[] #[.pointer (some ⟨w.heap.size, 0, none⟩)]) (w.alloc (.cells #[.slice none 0 0] 22)) _
    (bothLess_c va vb xs ys (.pointer (some ⟨w.heap.size, 0, none⟩)) w (w.alloc (.cells #[.slice none 0 0] 22)) ha hb
      (fun l u => OutI w w.heap.size (l.filterMap fun q : Option Po.P × Option Po.P => Po.lessF q.1 q.2) u) (outI_start w) (fun l u h => h.below) (fun l u u' h k => h.keep k)
      (fun l x y px py u h hx' hy' hp => by
        have hlm := mrg_len (key := Po.P.doc) xs ys
        obtain ⟨hn, hq⟩ := filter_pre (fun q : Option Po.P × Option Po.P => Po.lessF q.1 q.2) hp
        have hm := mrg_mem xs ys _ hq
        have hs := mrg_some xs ys _ hq
        have := hx.len
        have := hy.len
        rw [seeF_snoc]
        exact less1_c w u _ _ x y px py h hx' hy' (fun p e => hx.each p (hm.1 p e)) (fun p e => hy.each p (hm.2 p e)) (by omega) (fun h => by rcases hs with k | k; exact k; exact absurd h k)))
  have HIN := Lib.hid hin; clear hin
  go_enter Try.func12, Try.ntmps12
  go_wp2_with fail
  refine HIN.out.mono ?_
  rintro e u ⟨rfl, hu⟩
  obtain ⟨⟨v, vs, hl, hB, hr⟩, hbe, _⟩ := hu
  have c1 : u.cell? ⟨w.heap.size, 0, none⟩ = some v := by rw [Lib.cell_of_heap hB]; rfl
  have HR := Lib.hid hr; clear hr hB
  have HL := Lib.hid hl; clear hl
  go_wp2_with fail
  go_ret
  refine ⟨_, rfl, ?_, hbe⟩
  have h := HR.out.seqP
  rw [← HL.out] at h
  exact h

end Go.Proofs.Ytijbkflbklbemaa
