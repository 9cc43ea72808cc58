/- stops: of no disk nothing is told. -/
import Derived.Test.YtmkjejngnahpeaaJz
import Derived.RangeFuncCalls
namespace Go.Proofs.Ytmkjejngnahpeaa
open Go Go.Maps Go.RowKit Go.Shelf
attribute [local go_sem] Oper.semAt_some

set_option maxRecDepth 100000 in
set_option maxHeartbeats 400000 in
theorem sCount_nil {w : World} {pp : Option Addr} (h : IsNone w pp) : Calls Try.prog 74 #[.pointer pp] w fun e w' => e = .returned (.tuple #[.int .i64 0, .int .i64 1]) ∧ w' = w := by
  go_enter Try.func74, Try.ntmps74
  go_wp2_with fail
  refine (snone_nil h).mono ?_
  rintro e w1 ⟨rfl, rfl⟩
  go_wp2_with fail
  go_ret2
  exact ⟨rfl, rfl⟩
set_option maxRecDepth 100000 in
set_option maxHeartbeats 400000 in
theorem sLeast_nil {w : World} {pp : Option Addr} (h : IsNone w pp) : Calls Try.prog 82 #[.pointer pp] w fun e w' => e = .returned (.tuple #[.pointer none, .int .i64 1]) ∧ w' = w := by
  go_enter Try.func82, Try.ntmps82
  go_wp2_with fail
  refine (snone_nil h).mono ?_
  rintro e w1 ⟨rfl, rfl⟩
  go_wp2_with fail
  go_ret2
  exact ⟨rfl, rfl⟩
set_option maxRecDepth 100000 in
set_option maxHeartbeats 400000 in
theorem sMost_nil {w : World} {pp : Option Addr} (h : IsNone w pp) : Calls Try.prog 83 #[.pointer pp] w fun e w' => e = .returned (.tuple #[.pointer none, .int .i64 1]) ∧ w' = w := by
  go_enter Try.func83, Try.ntmps83
  go_wp2_with fail
  refine (snone_nil h).mono ?_
  rintro e w1 ⟨rfl, rfl⟩
  go_wp2_with fail
  go_ret2
  exact ⟨rfl, rfl⟩
set_option maxRecDepth 100000 in
set_option maxHeartbeats 400000 in
theorem sNumber_nil {w : World} {pp : Option Addr} (h : IsNone w pp) {oa : Option Addr} {n c : Nat} : Calls Try.prog 76 #[.pointer pp, .agg #[.slice oa n c]] w fun e w' => e = .returned (.tuple #[.int .i64 0, .int .i64 1]) ∧ Below w.heap.size w w' := by
  obtain ⟨w1, hw1⟩ : ∃ W : World, W = w.alloc (.cells #[.slice oa n c] 72) := ⟨_, rfl⟩
  have hb1 : Below w.heap.size w w1 := by rw [hw1]; exact (Below.refl _ _).alloc (Nat.le_refl _) _
  have h1 : w1.heap[w.heap.size]? = some (.cells #[.slice oa n c] 72 (0, 0)) := by rw [hw1]; exact alloc_cells _ _ _
  have c1 : w1.cell? ⟨w.heap.size, 0, none⟩ = some (.slice oa n c) := cell_of h1 rfl
  have H := Lib.hid (And.intro (h.below hb1) hb1)
  clear h hb1 h1
  go_enter Try.func76, Try.ntmps76
  go_upto_region 1 with fail
  rw [← hw1]
  clear hw1
  go_wp2_with fail
  refine (sright_nil H.out.1 _ ⟨oa, n, c, rfl⟩).mono ?_
  rintro e w2 ⟨rfl, hb2⟩
  go_wp2_with fail
  go_ret2
  exact ⟨rfl, H.out.2.trans (hb2.mono H.out.2.size)⟩
set_option maxRecDepth 100000 in
set_option maxHeartbeats 400000 in
theorem sPlain_nil {w : World} {pp : Option Addr} (h : IsNone w pp) {oa : Option Addr} {n c : Nat} : Calls Try.prog 75 #[.pointer pp, .agg #[.slice oa n c]] w fun e w' => e = .returned (.tuple #[.agg #[.slice none 0 0], .int .i64 1]) ∧ Below w.heap.size w w' := by
  obtain ⟨w1, hw1⟩ : ∃ W : World, W = (w.alloc (.cells #[.slice oa n c] 72)).alloc (.cells #[.slice none 0 0] 72) := ⟨_, rfl⟩
  obtain ⟨b3, hb3⟩ : ∃ b, b = w.heap.size := ⟨_, rfl⟩
  obtain ⟨b4, hb4⟩ : ∃ b, b = w.heap.size + 1 := ⟨_, rfl⟩
  have hb1 : Below w.heap.size w w1 := by rw [hw1]; exact ((Below.refl _ _).alloc (Nat.le_refl _) _).alloc (by simp) _
  have h3 : w1.heap[b3]? = some (.cells #[.slice oa n c] 72 (0, 0)) := by
    rw [hw1, hb3]
    exact (Below.heap_alloc _ _ _ (by simp)).trans (alloc_cells _ _ _)
  have h4 : w1.heap[b4]? = some (.cells #[.slice none 0 0] 72 (0, 0)) := by
    rw [hw1, hb4]
    have := alloc_cells (w.alloc (.cells #[.slice oa n c] 72)) #[.slice none 0 0] 72
    rwa [World.size_alloc] at this
  have c3 : w1.cell? ⟨b3, 0, none⟩ = some (.slice oa n c) := cell_of h3 rfl
  have H := Lib.hid (And.intro (h.below hb1) (And.intro hb1 (And.intro h4 (show w.heap.size ≤ b4 by omega))))
  clear h hb1 h3 h4
  go_enter Try.func75, Try.ntmps75
  go_upto_region 1 with fail
  rw [← hw1, ← hb4, ← hb3]
  clear hw1 hb3 hb4
  go_wp2_with fail
  refine (sright_nil H.out.1 _ ⟨oa, n, c, rfl⟩).mono ?_
  rintro e w2 ⟨rfl, hb2⟩
  have h42 := (hb2.block b4 (Array.getElem?_eq_some_iff.1 H.out.2.2.1).1).trans H.out.2.2.1
  have c4 : w2.cell? ⟨b4, 0, none⟩ = some (.slice none 0 0) := cell_of h42 rfl
  have z4 : w2.frozen? ⟨b4, 0, none⟩ = false := free_of h42 _
  have HB := Lib.hid (And.intro (H.out.2.1.trans (hb2.mono H.out.2.1.size)) h42)
  clear hb2 h42
  go_wp2_with fail
  have hrr := cell_of (i := 0) (v := .slice none 0 0) (heap_setCell_here (i := 0) (.slice none 0 0) HB.out.2) rfl
  exact bodyPost_ret (v := .tuple #[.agg #[.slice none 0 0], .int .i64 1]) (by simp [results, Try.results75, go_sem, hrr]) rfl ⟨rfl, HB.out.1.setCell (p := ⟨b4, 0, none⟩) H.out.2.2.2 _⟩
set_option maxRecDepth 100000 in
set_option maxHeartbeats 400000 in
theorem sAt_nil {w : World} {pp : Option Addr} (h : IsNone w pp) (x : Int) : Calls Try.prog 77 #[.pointer pp, .int .i64 x] w fun e w' => e = .returned (.tuple #[.agg #[.slice none 0 0], .int .i64 1]) ∧ Below w.heap.size w w' := by
  obtain ⟨w1, hw1⟩ : ∃ W : World, W = (w.alloc (.cells #[.int .i64 x] 2)).alloc (.cells #[.slice none 0 0] 72) := ⟨_, rfl⟩
  obtain ⟨b3, hb3⟩ : ∃ b, b = w.heap.size := ⟨_, rfl⟩
  obtain ⟨b4, hb4⟩ : ∃ b, b = w.heap.size + 1 := ⟨_, rfl⟩
  have hb1 : Below w.heap.size w w1 := by rw [hw1]; exact ((Below.refl _ _).alloc (Nat.le_refl _) _).alloc (by simp) _
  have h4 : w1.heap[b4]? = some (.cells #[.slice none 0 0] 72 (0, 0)) := by
    rw [hw1, hb4]
    have := alloc_cells (w.alloc (.cells #[.int .i64 x] 2)) #[.slice none 0 0] 72
    rwa [World.size_alloc] at this
  have c4 : w1.cell? ⟨b4, 0, none⟩ = some (.slice none 0 0) := cell_of h4 rfl
  have z4 : w1.frozen? ⟨b4, 0, none⟩ = false := free_of h4 _
  have H := Lib.hid (And.intro (h.below hb1) (And.intro hb1 (And.intro h4 (show w.heap.size ≤ b4 by omega))))
  clear h hb1 h4
  refine (callsIn_wide (n := 8)).1 ?_
  have f1 : Fence.wide.fn 133 := trivial
  refine callsIn_of_wp_marks Try.func77 rfl trivial ?_ rfl
  simp only [Try.ntmps77, List.size_toArray, List.length_cons, List.length_nil, Nat.reduceAdd, Nat.reduceSub, Array.replicate_succ, Array.replicate_zero, List.push_toArray, List.append_toArray, List.nil_append, List.cons_append]
  gi_upto_region 1 with fail
  rw [← hw1, ← hb4, ← hb3]
  clear hw1 hb3 hb4
  gi_wp2_with fail
  refine (callsIn_wide.2 (snone_nil H.out.1)).mono ?_
  rintro e w2 ⟨rfl, hw2⟩
  obtain rfl := hw2.symm
  gi_wp2_with fail
  have hrr := cell_of (i := 0) (v := .slice none 0 0) (heap_setCell_here (i := 0) (.slice none 0 0) H.out.2.2.1) rfl
  exact ⟨.tuple #[.agg #[.slice none 0 0], .int .i64 1], by simp [results, Try.results77, go_sem, hrr], rfl, H.out.2.1.setCell (p := ⟨b4, 0, none⟩) H.out.2.2.2 _⟩
end Go.Proofs.Ytmkjejngnahpeaa
