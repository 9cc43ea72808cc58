/- The texts Kitd, Pzi, Pzj, Pzk, Pzn, Pzo, Pzy in one. -/
import Derived.ScopeJumps
import Derived.Test.YtlgcoaeddeiegaaGreatV21
import Derived.Test.YtlgcoaeddeiegaaGreatV10
import Derived.RangeFuncLeaves
import Derived.RangeFuncFrom
import Derived.OwnWalkIn
import Derived.LoopNIn
import Derived.LoopIn
import Derived.Test.YtlgcoaeddeiegaaGreatV6
import Derived.Test.YtlgcoaeddeiegaaGreatV23
import Derived.Deep.Slices
import Derived.Deep.FieldsWide
import Derived.ChangeArms
import Derived.WideShapes
import Derived.ProofKit
import Derived.OpenShut
import Derived.Lib.SmallJoins
import Derived.Test.YtlgcoaeddeiegaaGreatV29
/- Kit: a scope in which the run jumps to several labels, as often as a measure falls. -/
namespace Go

/-- As Q; by a goto to label l: J l. -/
def Exit.jumps (J : Nat → Act → World → Prop) (Q : Exit → Act → World → Prop) : Exit → Act → World → Prop
  | .goto l, a, w => J l a w
  | e, a, w => Q e a w

section
variable {P : Program} {a : Act} {w : World} {Q : Exit → Act → World → Prop}

theorem wp_scope_labels {c : Code} (J : Nat → Act → World → Prop) (m : Nat → Act → World → Nat)
    (first : c.wp P (Exit.jumps J Q) a w)
    (pass : ∀ l a w, J l a w → ∃ rest, findLabel c l = some rest ∧ rest.wp P (Exit.jumps (fun l' a' w' => J l' a' w' ∧ m l' a' w' < m l a w) Q) a w) : (Code.scope c).wp P Q a w := by
  intro b k cs
  have key : ∀ n l a w, m l a w = n → J l a w → ∃ rest, findLabel c l = some rest ∧ ∃ e a' w', Q e a' w' ∧ Arrives P (lone (b.at a (.code rest :: .inScope c :: k)) cs w) b k cs e a' w' := by
    intro n
    induction n using Nat.strongRecOn with
    | _ n ih =>
      intro l a w hn hJ
      obtain ⟨rest, hf, hp⟩ := pass l a w hJ
      refine ⟨rest, hf, ?_⟩
      obtain ⟨e, a₁, w₁, hq, harr⟩ := hp b (.inScope c :: k) cs
      cases e with
      | normal => exact ⟨.normal, a₁, w₁, hq, Steps.trans harr (.one step_inScope)⟩
      | exit id => exact ⟨.exit id, a₁, w₁, hq, fun k' hk => harr k' (by simp [exitTo, hk])⟩
      | goto l' =>
        obtain ⟨hJ', hlt⟩ := hq
        obtain ⟨rest', hf', e₂, a₂, w₂, hq₂, harr₂⟩ := ih _ (by omega) l' a₁ w₁ rfl hJ'
        have hg : gotoIn l' (.inScope c :: k) = some (.code rest' :: .inScope c :: k) := by simp [gotoIn, hf']
        exact ⟨e₂, a₂, w₂, hq₂, .of_steps (harr _ hg) harr₂⟩
      | ret => exact ⟨_, a₁, w₁, hq, harr⟩
      | panic ch => exact ⟨_, a₁, w₁, hq, harr⟩
      | outgrown => exact ⟨_, a₁, w₁, hq, harr⟩
  obtain ⟨e, a₁, w₁, hq, harr⟩ := first b (.inScope c :: k) cs
  cases e with
  | normal => exact ⟨.normal, a₁, w₁, hq, .head step_scope (Steps.trans harr (.one step_inScope))⟩
  | exit id => exact ⟨.exit id, a₁, w₁, hq, fun k' hk => .head step_scope (harr k' (by simp [exitTo, hk]))⟩
  | goto l' =>
    obtain ⟨rest', hf', e₂, a₂, w₂, hq₂, harr₂⟩ := key _ l' a₁ w₁ rfl hq
    have hg : gotoIn l' (.inScope c :: k) = some (.code rest' :: .inScope c :: k) := by simp [gotoIn, hf']
    exact ⟨e₂, a₂, w₂, hq₂, .of_steps (.head step_scope (harr _ hg)) harr₂⟩
  | ret => exact ⟨_, a₁, w₁, hq, .of_steps (.one step_scope) harr⟩
  | panic ch => exact ⟨_, a₁, w₁, hq, .of_steps (.one step_scope) harr⟩
  | outgrown => exact ⟨_, a₁, w₁, hq, .of_steps (.one step_scope) harr⟩
end
end Go
/- partlog: a log that is not there. -/
namespace Go.Proofs.YtlgcoaeddeiegaaGreat
open Go Go.Maps Go.RowKit Go.Shelf
attribute [local go_sem] Oper.semAt_some

/-- there is no log: a nil pointer, or one without a disk -/
def NoLog (w : World) (pp : Option Addr) : Prop := pp = none ∨ ∃ b, pp = some ⟨b, 0, none⟩ ∧ w.cell? ⟨b, 5, none⟩ = some (.pointer none)
theorem NoLog.below {w w' : World} {pp : Option Addr} (h : NoLog w pp) (hb : Below w.heap.size w w') : NoLog w' pp := by
  rcases h with h | ⟨b, h, hc⟩
  · exact .inl h
  · exact .inr ⟨b, h, (hb.cell (p := ⟨b, 5, none⟩) (World.block_lt_of_cell? w _ hc)).trans hc⟩
set_option maxHeartbeats 400000 in
theorem noneN_b {w : World} {pp : Option Addr} (h : NoLog w pp) : Calls Tryz.prog 71 #[.pointer pp] w fun e w' => e = .returned (.bool true) ∧ w' = w := by
  rcases h with rfl | ⟨b, rfl, hc⟩
  · go_enter Tryz.func71, Tryz.ntmps71
    go_wp2_with fail
    go_ret
    exact ⟨rfl, rfl⟩
  · go_enter Tryz.func71, Tryz.ntmps71
    go_wp2_with fail
    go_ret
    exact ⟨rfl, rfl⟩
/-- an error's own cell, new -/
theorem errCell (w : World) : ∃ w1 b, w1 = w.alloc (.cells #[.int .i64 0] 28) ∧ b = w.heap.size ∧ w1.heap[b]? = some (.cells #[.int .i64 0] 28 (0, 0)) ∧ Below w.heap.size w w1 :=
  ⟨_, _, rfl, rfl, alloc_cells _ _ _, (Below.refl _ _).alloc (Nat.le_refl _) _⟩
set_option maxRecDepth 100000 in
set_option maxHeartbeats 1000000 in
theorem appendN_b {w : World} {pp : Option Addr} (h : NoLog w pp) (oa : Option Addr) (n c : Nat) : Calls Tryz.prog 16 #[.pointer pp, .slice oa n c] w fun e w' => e = .returned (.tuple #[.int .i64 0, .int .i64 1]) ∧ Below w.heap.size w w' := by
  obtain ⟨w1, b, hw1, hb, gb, hbl⟩ := errCell w
  have HN := Lib.hid (noneN_b (h.below hbl))
  have kb : w1.cell? ⟨b, 0, none⟩ = some (.int .i64 0) := cell_of gb rfl
  have zb : w1.frozen? ⟨b, 0, none⟩ = false := free_of gb _
  have H := Lib.hid (And.intro gb (And.intro hbl hb))
  clear gb hbl h
  go_enter_defers Tryz.func16, Tryz.ntmps16
  go_upto_region 1 with fail
  rw [← hw1, ← hb]
  clear hw1 hb
  go_wp2_with fail
  refine HN.out.mono ?_
  rintro e w2 ⟨rfl, hw2⟩
  obtain rfl := hw2.symm
  clear hw2
  go_wp2_with fail
  have g2 : (w1.setCell ⟨b, 0, none⟩ (.int .i64 1)).heap[b]? = some (.cells #[.int .i64 1] 28 (0, 0)) := heap_setCell_here _ H.out.1
  have c2 := cell_of (i := 0) g2 rfl
  exact ⟨.tuple #[.int .i64 0, .int .i64 1], by simp [results, Tryz.results16, go_sem, c2], rfl, H.out.2.1.setCell (p := ⟨b, 0, none⟩) (Nat.le_of_eq H.out.2.2.symm) _⟩
set_option maxRecDepth 100000 in
set_option maxHeartbeats 1000000 in
theorem syncN_b {w : World} {pp : Option Addr} (h : NoLog w pp) : Calls Tryz.prog 27 #[.pointer pp] w fun e w' => e = .returned (.int .i64 1) ∧ Below w.heap.size w w' := by
  obtain ⟨w1, b, hw1, hb, gb, hbl⟩ := errCell w
  have HN := Lib.hid (noneN_b (h.below hbl))
  have kb : w1.cell? ⟨b, 0, none⟩ = some (.int .i64 0) := cell_of gb rfl
  have zb : w1.frozen? ⟨b, 0, none⟩ = false := free_of gb _
  have H := Lib.hid (And.intro gb (And.intro hbl hb))
  clear gb hbl h
  go_enter_defers Tryz.func27, Tryz.ntmps27
  go_upto_region 1 with fail
  rw [← hw1, ← hb]
  clear hw1 hb
  go_wp2_with fail
  refine HN.out.mono ?_
  rintro e w2 ⟨rfl, hw2⟩
  obtain rfl := hw2.symm
  clear hw2
  go_wp2_with fail
  have g2 : (w1.setCell ⟨b, 0, none⟩ (.int .i64 1)).heap[b]? = some (.cells #[.int .i64 1] 28 (0, 0)) := heap_setCell_here _ H.out.1
  have c2 := cell_of (i := 0) g2 rfl
  exact ⟨.int .i64 1, by simp [results, Tryz.results27, go_sem, c2], rfl, H.out.2.1.setCell (p := ⟨b, 0, none⟩) (Nat.le_of_eq H.out.2.2.symm) _⟩
set_option maxRecDepth 100000 in
set_option maxHeartbeats 1000000 in
theorem segmentsN_b {w : World} {pp : Option Addr} (h : NoLog w pp) : Calls Tryz.prog 18 #[.pointer pp] w fun e w' => e = .returned (.slice none 0 0) ∧ w' = w := by
  have HN := Lib.hid (noneN_b h)
  go_enter Tryz.func18, Tryz.ntmps18
  go_wp2_with fail
  refine HN.out.mono ?_
  rintro e w2 ⟨rfl, hw2⟩
  obtain rfl := hw2.symm
  go_wp2_with fail
  go_ret
  exact ⟨rfl, rfl⟩
set_option maxRecDepth 100000 in
set_option maxHeartbeats 1000000 in
theorem dropN_b {w : World} {pp : Option Addr} (h : NoLog w pp) (x : Int) : Calls Tryz.prog 28 #[.pointer pp, .int .i64 x] w fun e w' => e = .returned (.tuple #[.int .i64 0, .int .i64 1]) ∧ Below w.heap.size w w' := by
  obtain ⟨w1, hw1⟩ : ∃ W : World, W = (w.alloc (.cells #[.int .i64 0] 3)).alloc (.cells #[.int .i64 0] 28) := ⟨_, rfl⟩
  obtain ⟨b4, hb4⟩ : ∃ b, b = w.heap.size := ⟨_, rfl⟩
  obtain ⟨b5, hb5⟩ : ∃ b, b = w.heap.size + 1 := ⟨_, rfl⟩
  have hbl : Below w.heap.size w w1 := by rw [hw1]; exact ((Below.refl _ _).alloc (Nat.le_refl _) _).alloc (by simp) _
  have g4 : w1.heap[b4]? = some (.cells #[.int .i64 0] 3 (0, 0)) := by
    rw [hw1, hb4]
    exact (Below.heap_alloc _ _ _ (by simp)).trans (alloc_cells _ _ _)
  have g5 : w1.heap[b5]? = some (.cells #[.int .i64 0] 28 (0, 0)) := by
    rw [hw1, hb5]
    have := alloc_cells (w.alloc (.cells #[.int .i64 0] 3)) #[.int .i64 0] 28
    rwa [World.size_alloc] at this
  have HN := Lib.hid (noneN_b (h.below hbl))
  have k4 : w1.cell? ⟨b4, 0, none⟩ = some (.int .i64 0) := cell_of g4 rfl
  have z4 : w1.frozen? ⟨b4, 0, none⟩ = false := free_of g4 _
  have k5 : w1.cell? ⟨b5, 0, none⟩ = some (.int .i64 0) := cell_of g5 rfl
  have z5 : w1.frozen? ⟨b5, 0, none⟩ = false := free_of g5 _
  have n45 : b4 ≠ b5 := by omega
  have n54 := n45.symm
  have H := Lib.hid (And.intro g4 (And.intro g5 (And.intro hbl (And.intro hb4 hb5))))
  clear g4 g5 hbl h
  go_enter_defers Tryz.func28, Tryz.ntmps28
  go_upto_region 1 with fail
  rw [← hw1, ← hb5, ← hb4]
  clear hw1 hb4 hb5
  go_wp2_with fail
  refine HN.out.mono ?_
  rintro e w2 ⟨rfl, hw2⟩
  obtain rfl := hw2.symm
  clear hw2
  go_wp2_with fail
  have r4 : ((w1.setCell ⟨b4, 0, none⟩ (.int .i64 0)).setCell ⟨b5, 0, none⟩ (.int .i64 1)).heap[b4]? = some (.cells #[.int .i64 0] 3 (0, 0)) := (Below.heap_setCell _ _ _ _ n45).trans (heap_setCell_here _ H.out.1)
  have r5 : ((w1.setCell ⟨b4, 0, none⟩ (.int .i64 0)).setCell ⟨b5, 0, none⟩ (.int .i64 1)).heap[b5]? = some (.cells #[.int .i64 1] 28 (0, 0)) := heap_setCell_here _ ((Below.heap_setCell _ _ _ _ n54).trans H.out.2.1)
  have c4 := cell_of (i := 0) r4 rfl
  have c5 := cell_of (i := 0) r5 rfl
  have l4 : w.heap.size ≤ b4 := Nat.le_of_eq H.out.2.2.2.1.symm
  have l5 : w.heap.size ≤ b5 := by have := H.out.2.2.2.2; omega
  exact ⟨.tuple #[.int .i64 0, .int .i64 1], by simp [results, Tryz.results28, go_sem, c4, c5], rfl, (H.out.2.2.1.setCell (p := ⟨b4, 0, none⟩) l4 _).setCell (p := ⟨b5, 0, none⟩) l5 _⟩
set_option maxRecDepth 100000 in
set_option maxHeartbeats 1000000 in
theorem stateN_b {w : World} {pp : Option Addr} (h : NoLog w pp) : Calls Tryz.prog 25 #[.pointer pp] w fun e w' => e = .returned (.agg #[.int .i64 0, .int .i64 0, .int .i64 0, .int .i64 0, .bool false]) ∧ Below w.heap.size w w' := by
  obtain ⟨w1, hw1⟩ : ∃ W : World, W = w.alloc (.cells #[.int .i64 0, .int .i64 0, .int .i64 0, .int .i64 0, .bool false] 60) := ⟨_, rfl⟩
  obtain ⟨b, hb⟩ : ∃ b, b = w.heap.size := ⟨_, rfl⟩
  have gb : w1.heap[b]? = some (.cells #[.int .i64 0, .int .i64 0, .int .i64 0, .int .i64 0, .bool false] 60 (0, 0)) := by rw [hw1, hb]; exact alloc_cells _ _ _
  have hb1 : Below w.heap.size w w1 := by rw [hw1]; exact (Below.refl _ _).alloc (Nat.le_refl _) _
  have HN := Lib.hid (noneN_b (h.below hb1))
  have b0 : w1.cell? ⟨b, 0, none⟩ = some (.int .i64 0) := cell_of gb rfl
  have b1 : w1.cell? ⟨b, 1, none⟩ = some (.int .i64 0) := cell_of gb rfl
  have b2 : w1.cell? ⟨b, 2, none⟩ = some (.int .i64 0) := cell_of gb rfl
  have b3 : w1.cell? ⟨b, 3, none⟩ = some (.int .i64 0) := cell_of gb rfl
  have b4 : w1.cell? ⟨b, 4, none⟩ = some (.bool false) := cell_of gb rfl
  have z0 : w1.frozen? ⟨b, 0, none⟩ = false := free_of gb _
  have z1 : w1.frozen? ⟨b, 1, none⟩ = false := free_of gb _
  have z2 : w1.frozen? ⟨b, 2, none⟩ = false := free_of gb _
  have z3 : w1.frozen? ⟨b, 3, none⟩ = false := free_of gb _
  have z4 : w1.frozen? ⟨b, 4, none⟩ = false := free_of gb _
  have H := Lib.hid (And.intro gb (And.intro hb1 hb))
  clear gb hb1 h
  go_enter Tryz.func25, Tryz.ntmps25
  go_upto_region 1 with fail
  rw [← hw1, ← hb]
  clear hw1 hb
  go_wp2_with fail
  refine HN.out.mono ?_
  rintro e w2 ⟨rfl, hw2⟩
  obtain rfl := hw2.symm
  clear hw2
  go_wp2_with fail
  obtain ⟨w3, hw3⟩ : ∃ W : World, W = ((((w1.setCell ⟨b, 0, none⟩ (.int .i64 0)).setCell ⟨b, 1, none⟩ (.int .i64 0)).setCell ⟨b, 2, none⟩ (.int .i64 0)).setCell ⟨b, 3, none⟩ (.int .i64 0)).setCell ⟨b, 4, none⟩ (.bool false) := ⟨_, rfl⟩
  rw [← hw3]
  have g3 : w3.heap[b]? = some (.cells #[.int .i64 0, .int .i64 0, .int .i64 0, .int .i64 0, .bool false] 60 (0, 0)) := by
    rw [hw3]
    exact heap_setCell_here _ (heap_setCell_here _ (heap_setCell_here _ (heap_setCell_here _ (heap_setCell_here _ H.out.1))))
  have r0 := cell_of (i := 0) g3 rfl
  have r1 := cell_of (i := 1) g3 rfl
  have r2 := cell_of (i := 2) g3 rfl
  have r3 := cell_of (i := 3) g3 rfl
  have r4 := cell_of (i := 4) g3 rfl
  have hl : w.heap.size ≤ b := Nat.le_of_eq H.out.2.2.symm
  refine bodyPost_ret (v := .agg #[.int .i64 0, .int .i64 0, .int .i64 0, .int .i64 0, .bool false]) (by simp [results, Tryz.results25, go_sem, r0, r1, r2, r3, r4]) rfl ⟨rfl, ?_⟩
  rw [hw3]
  exact ((((H.out.2.1.setCell (p := ⟨b, 0, none⟩) hl _).setCell (p := ⟨b, 1, none⟩) hl _).setCell (p := ⟨b, 2, none⟩) hl _).setCell (p := ⟨b, 3, none⟩) hl _).setCell (p := ⟨b, 4, none⟩) hl _
set_option maxRecDepth 100000 in
set_option maxHeartbeats 2000000 in
theorem readN_b {w : World} {pp : Option Addr} (h : NoLog w pp) (x y z : Int) : Calls Tryz.prog 23 #[.pointer pp, .int .i64 x, .int .i64 y, .int .i64 z] w fun e w' => e = .returned (.tuple #[.slice none 0 0, .int .i64 1]) ∧ Below w.heap.size w w' := by
  obtain ⟨w1, hw1⟩ : ∃ W : World, W = ((((w.alloc (.cells #[.int .i64 x] 2)).alloc (.cells #[.int .i64 y] 2)).alloc (.cells #[.int .i64 z] 3)).alloc (.cells #[.slice none 0 0] 34)).alloc (.cells #[.int .i64 0] 28) := ⟨_, rfl⟩
  obtain ⟨b8, hb8⟩ : ∃ b, b = w.heap.size + 1 + 1 + 1 := ⟨_, rfl⟩
  obtain ⟨b9, hb9⟩ : ∃ b, b = w.heap.size + 1 + 1 + 1 + 1 := ⟨_, rfl⟩
  have hbl : Below w.heap.size w w1 := by rw [hw1]; exact (((((Below.refl _ _).alloc (Nat.le_refl _) _).alloc (by simp) _).alloc (by simp; omega) _).alloc (by simp; omega) _).alloc (by simp; omega) _
  have g8 : w1.heap[b8]? = some (.cells #[.slice none 0 0] 34 (0, 0)) := by
    rw [hw1, hb8]
    have := alloc_cells (((w.alloc (.cells #[.int .i64 x] 2)).alloc (.cells #[.int .i64 y] 2)).alloc (.cells #[.int .i64 z] 3)) #[.slice none 0 0] 34
    rw [World.size_alloc, World.size_alloc, World.size_alloc] at this
    exact (Below.heap_alloc _ _ _ (by simp)).trans this
  have g9 : w1.heap[b9]? = some (.cells #[.int .i64 0] 28 (0, 0)) := by
    rw [hw1, hb9]
    have := alloc_cells ((((w.alloc (.cells #[.int .i64 x] 2)).alloc (.cells #[.int .i64 y] 2)).alloc (.cells #[.int .i64 z] 3)).alloc (.cells #[.slice none 0 0] 34)) #[.int .i64 0] 28
    rwa [World.size_alloc, World.size_alloc, World.size_alloc, World.size_alloc] at this
  have HN := Lib.hid (noneN_b (h.below hbl))
  have k8 : w1.cell? ⟨b8, 0, none⟩ = some (.slice none 0 0) := cell_of g8 rfl
  have z8 : w1.frozen? ⟨b8, 0, none⟩ = false := free_of g8 _
  have k9 : w1.cell? ⟨b9, 0, none⟩ = some (.int .i64 0) := cell_of g9 rfl
  have z9 : w1.frozen? ⟨b9, 0, none⟩ = false := free_of g9 _
  have n89 : b8 ≠ b9 := by omega
  have n98 := n89.symm
  have H := Lib.hid (And.intro g8 (And.intro g9 (And.intro hbl (And.intro hb8 hb9))))
  clear g8 g9 hbl h
  refine (callsIn_wide (n := 8)).1 ?_
  have f1 : Fence.wide.fn 71 := trivial
  refine callsIn_of_wp_marks Tryz.func23 rfl trivial ?_ rfl
  simp only [Tryz.ntmps23, List.size_toArray, List.length_cons, List.length_nil, Nat.reduceAdd, Nat.reduceSub, Array.replicate_succ, Array.replicate_zero, List.push_toArray, List.append_toArray, List.nil_append, List.cons_append]
  gi_upto_region 1 with fail
  rw [← hw1, ← hb9, ← hb8]
  clear hw1 hb8 hb9
  refine wpIn_scope ?_
  gi_wp2_with fail
  refine (callsIn_wide.2 HN.out).mono ?_
  rintro e w2 ⟨rfl, hw2⟩
  obtain rfl := hw2.symm
  clear hw2
  gi_wp2_with fail
  have r8 : ((w1.setCell ⟨b8, 0, none⟩ (.slice none 0 0)).setCell ⟨b9, 0, none⟩ (.int .i64 1)).heap[b8]? = some (.cells #[.slice none 0 0] 34 (0, 0)) := (Below.heap_setCell _ _ _ _ n89).trans (heap_setCell_here _ H.out.1)
  have r9 : ((w1.setCell ⟨b8, 0, none⟩ (.slice none 0 0)).setCell ⟨b9, 0, none⟩ (.int .i64 1)).heap[b9]? = some (.cells #[.int .i64 1] 28 (0, 0)) := heap_setCell_here _ ((Below.heap_setCell _ _ _ _ n98).trans H.out.2.1)
  have c8 := cell_of (i := 0) r8 rfl
  have c9 := cell_of (i := 0) r9 rfl
  have l8 : w.heap.size ≤ b8 := by have := H.out.2.2.2.1; omega
  have l9 : w.heap.size ≤ b9 := by have := H.out.2.2.2.2; omega
  rw [Exit.noGoto_ret]
  exact ⟨.tuple #[.slice none 0 0, .int .i64 1], by simp [results, Tryz.results23, go_sem, c8, c9], rfl, (H.out.2.2.1.setCell (p := ⟨b8, 0, none⟩) l8 _).setCell (p := ⟨b9, 0, none⟩) l9 _⟩
set_option maxRecDepth 100000 in
set_option maxHeartbeats 1000000 in
theorem allN_b {w : World} {pp : Option Addr} (h : NoLog w pp) : Calls Tryz.prog 99 #[.pointer pp] w fun e w' => ∃ b3 b4, e = .returned (.func (.func 160) #[] #[.pointer (some ⟨b4, 0, none⟩), .pointer (some ⟨b3, 0, none⟩)]) ∧ w'.heap[b4]? = some (.cells #[.slice none 0 0] 34 (0, 0)) ∧ Below w.heap.size w w' := by
  have hmf : ∀ (fn : Fn) (first cap : Array Value) (W : World), (Instr.makeFunc fn first cap).run Tryz.prog W = .ok (.func fn first cap) W := fun _ _ _ _ => rfl
  have HS := Lib.hid (stateN_b h)
  have hfd : ∀ W : World, (Instr.field 60 (.agg #[.int .i64 0, .int .i64 0, .int .i64 0, .int .i64 0, .bool false]) 0).run Tryz.prog W = .ok (.int .i64 0) W := fun W => by kernel_rfl
  have H := Lib.hid h
  clear h
  go_enter Tryz.func99, Tryz.ntmps99
  go_wp2_with fail
  refine HS.out.mono ?_
  rintro e w1 ⟨rfl, hb1⟩
  have HB1 := Lib.hid hb1
  clear hb1
  go_upto_region 3 with fail
  obtain ⟨w2, hw2⟩ : ∃ W : World, W = (w1.alloc (.cells #[.int .i64 0] 2)).alloc (.cells #[.slice none 0 0] 34) := ⟨_, rfl⟩
  obtain ⟨b3, hb3⟩ : ∃ b, b = w1.heap.size := ⟨_, rfl⟩
  obtain ⟨b4, hb4⟩ : ∃ b, b = w1.heap.size + 1 := ⟨_, rfl⟩
  have hbl : Below w.heap.size w w2 := by
    rw [hw2]
    have h0 := HB1.out
    exact (h0.alloc h0.size _).alloc (by simp; have := h0.size; omega) _
  have g4 : w2.heap[b4]? = some (.cells #[.slice none 0 0] 34 (0, 0)) := by
    rw [hw2, hb4]
    have := alloc_cells (w1.alloc (.cells #[.int .i64 0] 2)) #[.slice none 0 0] 34
    rwa [World.size_alloc] at this
  have HN := Lib.hid (noneN_b (H.out.below hbl))
  have H2 := Lib.hid (And.intro g4 hbl)
  rw [← hw2, ← hb4, ← hb3]
  clear hw2 hb3 hb4 hbl g4 hfd HS
  go_wp2_with fail
  refine HN.out.mono ?_
  rintro e w3 ⟨rfl, hw3⟩
  obtain rfl := hw3.symm
  clear hw3
  go_wp2_with fail
  go_ret
  exact ⟨b3, b4, rfl, H2.out.1, H2.out.2⟩
set_option maxRecDepth 100000 in
set_option maxHeartbeats 1000000 in
theorem openN_b (w : World) (nm : ByteArray) (roll step : Int) : Calls Tryz.prog 15 #[.pointer none, .string nm, .agg #[.int .i64 roll, .int .i64 step]] w fun e w' => e = .returned (.tuple #[.pointer none, .int .i64 1]) ∧ Below w.heap.size w w' := by
  obtain ⟨w1, hw1⟩ : ∃ W : World, W = ((w.alloc (.cells #[.int .i64 roll, .int .i64 step] 23)).alloc (.cells #[.pointer none] 31)).alloc (.cells #[.int .i64 0] 28) := ⟨_, rfl⟩
  obtain ⟨b6, hb6⟩ : ∃ b, b = w.heap.size + 1 := ⟨_, rfl⟩
  obtain ⟨b7, hb7⟩ : ∃ b, b = w.heap.size + 1 + 1 := ⟨_, rfl⟩
  have hbl : Below w.heap.size w w1 := by rw [hw1]; exact (((Below.refl _ _).alloc (Nat.le_refl _) _).alloc (by simp) _).alloc (by simp; omega) _
  have g6 : w1.heap[b6]? = some (.cells #[.pointer none] 31 (0, 0)) := by
    rw [hw1, hb6]
    have := alloc_cells (w.alloc (.cells #[.int .i64 roll, .int .i64 step] 23)) #[.pointer none] 31
    rw [World.size_alloc] at this
    exact (Below.heap_alloc _ _ _ (by simp)).trans this
  have g7 : w1.heap[b7]? = some (.cells #[.int .i64 0] 28 (0, 0)) := by
    rw [hw1, hb7]
    have := alloc_cells ((w.alloc (.cells #[.int .i64 roll, .int .i64 step] 23)).alloc (.cells #[.pointer none] 31)) #[.int .i64 0] 28
    rwa [World.size_alloc, World.size_alloc] at this
  have n67 : b6 ≠ b7 := by omega
  have n76 := n67.symm
  have k6 : w1.cell? ⟨b6, 0, none⟩ = some (.pointer none) := cell_of g6 rfl
  have z6 : w1.frozen? ⟨b6, 0, none⟩ = false := free_of g6 _
  have k7 : w1.cell? ⟨b7, 0, none⟩ = some (.int .i64 0) := cell_of g7 rfl
  have z7 : w1.frozen? ⟨b7, 0, none⟩ = false := free_of g7 _
  have H := Lib.hid (And.intro g6 (And.intro g7 (And.intro hbl (And.intro hb6 hb7))))
  clear hbl g6 g7
  go_enter_defers Tryz.func15, Tryz.ntmps15
  go_upto_region 1 with fail
  rw [← hw1, ← hb7, ← hb6]
  clear hw1 hb6 hb7
  go_wp2_with fail
  have r6 : ((w1.setCell ⟨b6, 0, none⟩ (.pointer none)).setCell ⟨b7, 0, none⟩ (.int .i64 1)).heap[b6]? = some (.cells #[.pointer none] 31 (0, 0)) := (Below.heap_setCell _ _ _ _ n67).trans (heap_setCell_here _ H.out.1)
  have r7 : ((w1.setCell ⟨b6, 0, none⟩ (.pointer none)).setCell ⟨b7, 0, none⟩ (.int .i64 1)).heap[b7]? = some (.cells #[.int .i64 1] 28 (0, 0)) := heap_setCell_here _ ((Below.heap_setCell _ _ _ _ n76).trans H.out.2.1)
  have c6 := cell_of (i := 0) r6 rfl
  have c7 := cell_of (i := 0) r7 rfl
  have l6 : w.heap.size ≤ b6 := by have := H.out.2.2.2.1; omega
  have l7 : w.heap.size ≤ b7 := by have := H.out.2.2.2.2; omega
  exact ⟨.tuple #[.pointer none, .int .i64 1], by simp [results, Tryz.results15, go_sem, c6, c7], rfl, (H.out.2.2.1.setCell (p := ⟨b6, 0, none⟩) l6 _).setCell (p := ⟨b7, 0, none⟩) l7 _⟩
set_option maxRecDepth 100000 in
set_option maxHeartbeats 1000000 in
theorem checkN_b (w : World) (nm : ByteArray) : Calls Tryz.prog 31 #[.pointer none, .string nm] w fun e w' => e = .returned (.tuple #[.agg #[.int .i64 0, .int .i64 0, .int .i64 0, .int .i64 0, .bool false], .int .i64 1]) ∧ Below w.heap.size w w' := by
  obtain ⟨w1, hw1⟩ : ∃ W : World, W = w.alloc (.cells #[.int .i64 0, .int .i64 0, .int .i64 0, .int .i64 0, .bool false] 60) := ⟨_, rfl⟩
  obtain ⟨b, hb⟩ : ∃ b, b = w.heap.size := ⟨_, rfl⟩
  have gb : w1.heap[b]? = some (.cells #[.int .i64 0, .int .i64 0, .int .i64 0, .int .i64 0, .bool false] 60 (0, 0)) := by rw [hw1, hb]; exact alloc_cells _ _ _
  have hb1 : Below w.heap.size w w1 := by rw [hw1]; exact (Below.refl _ _).alloc (Nat.le_refl _) _
  have b0 : w1.cell? ⟨b, 0, none⟩ = some (.int .i64 0) := cell_of gb rfl
  have b1 : w1.cell? ⟨b, 1, none⟩ = some (.int .i64 0) := cell_of gb rfl
  have b2 : w1.cell? ⟨b, 2, none⟩ = some (.int .i64 0) := cell_of gb rfl
  have b3 : w1.cell? ⟨b, 3, none⟩ = some (.int .i64 0) := cell_of gb rfl
  have b4 : w1.cell? ⟨b, 4, none⟩ = some (.bool false) := cell_of gb rfl
  have z0 : w1.frozen? ⟨b, 0, none⟩ = false := free_of gb _
  have z1 : w1.frozen? ⟨b, 1, none⟩ = false := free_of gb _
  have z2 : w1.frozen? ⟨b, 2, none⟩ = false := free_of gb _
  have z3 : w1.frozen? ⟨b, 3, none⟩ = false := free_of gb _
  have z4 : w1.frozen? ⟨b, 4, none⟩ = false := free_of gb _
  have H := Lib.hid (And.intro gb (And.intro hb1 hb))
  clear gb hb1
  go_enter Tryz.func31, Tryz.ntmps31
  go_upto_region 1 with fail
  rw [← hw1, ← hb]
  clear hw1 hb
  go_wp2_with fail
  obtain ⟨w3, hw3⟩ : ∃ W : World, W = ((((w1.setCell ⟨b, 0, none⟩ (.int .i64 0)).setCell ⟨b, 1, none⟩ (.int .i64 0)).setCell ⟨b, 2, none⟩ (.int .i64 0)).setCell ⟨b, 3, none⟩ (.int .i64 0)).setCell ⟨b, 4, none⟩ (.bool false) := ⟨_, rfl⟩
  rw [← hw3]
  have g3 : w3.heap[b]? = some (.cells #[.int .i64 0, .int .i64 0, .int .i64 0, .int .i64 0, .bool false] 60 (0, 0)) := by
    rw [hw3]
    exact heap_setCell_here _ (heap_setCell_here _ (heap_setCell_here _ (heap_setCell_here _ (heap_setCell_here _ H.out.1))))
  have r0 := cell_of (i := 0) g3 rfl
  have r1 := cell_of (i := 1) g3 rfl
  have r2 := cell_of (i := 2) g3 rfl
  have r3 := cell_of (i := 3) g3 rfl
  have r4 := cell_of (i := 4) g3 rfl
  have hl : w.heap.size ≤ b := Nat.le_of_eq H.out.2.2.symm
  refine bodyPost_ret (v := .tuple #[.agg #[.int .i64 0, .int .i64 0, .int .i64 0, .int .i64 0, .bool false], .int .i64 1]) (by simp [results, Tryz.results31, go_sem, r0, r1, r2, r3, r4]) rfl ⟨rfl, ?_⟩
  rw [hw3]
  exact ((((H.out.2.1.setCell (p := ⟨b, 0, none⟩) hl _).setCell (p := ⟨b, 1, none⟩) hl _).setCell (p := ⟨b, 2, none⟩) hl _).setCell (p := ⟨b, 3, none⟩) hl _).setCell (p := ⟨b, 4, none⟩) hl _
end Go.Proofs.YtlgcoaeddeiegaaGreat
/- partlog: nothing comes of a log that is not there. -/
namespace Go.Proofs.YtlgcoaeddeiegaaGreat
open Go Go.Maps Go.RowKit Go.Shelf
attribute [local go_sem] Oper.semAt_some

set_option maxHeartbeats 400000 in
theorem valuesR_b (w : World) (oa : Option Addr) (n c : Nat) : Calls Tryz.prog 110 #[.slice oa n c] w fun e w' => e = .returned (.func (.func 166) #[] #[.pointer (some ⟨w.heap.size, 0, none⟩)]) ∧ w' = w.alloc (.cells #[.slice oa n c] 34) := by
  go_enter Tryz.func110, Tryz.ntmps110
  go_wp2_with fail
  go_ret
  exact ⟨rfl, rfl⟩
set_option maxRecDepth 100000 in
set_option maxHeartbeats 1000000 in
theorem values1RN_told (n : Nat) (vb c : Nat) (oa : Option Addr) (w : World) (hv : w.heap[vb]? = some (.cells #[.slice oa 0 c] 34 (0, 0))) :
    SeqTold Fence.wide n Tryz.prog 166 #[.pointer (some ⟨vb, 0, none⟩)] (fun _ : Unit => #[undef]) (fun _ _ _ _ _ => False) (fun ys => ys = []) (fun _ => False) 0 w := fun l J Jx W hW hs hJ hJx hY => by
  have hBs : W.cell? ⟨vb, 0, none⟩ = some (.slice oa 0 c) := cell_of ((hW.block vb (Array.getElem?_eq_some_iff.1 hv).1).trans hv) rfl
  have h0 : J (fun _ => False) [] W := hs (fun _ => False) W (Below.refl _ _) (fun _ hf => hf.elim)
  have H0 := Lib.hid h0
  clear hs hJ hJx hY hW hv h0
  refine callsIn_of_wp Tryz.func166 rfl trivial ?_ rfl
  simp only [Tryz.ntmps166, List.size_toArray, List.length_cons, List.length_nil, Nat.reduceAdd, Nat.reduceSub, Array.replicate_succ, Array.replicate_zero, List.push_toArray, List.append_toArray, List.nil_append, List.cons_append]
  gi_wp2
  gi_loopw [7] (fun i wr => i = .int .i64 0 ∧ wr = W) (fun _ _ => 0)
  case atStart => exact ⟨rfl, rfl⟩
  case round =>
    obtain ⟨rfl, rfl⟩ := hrel
    gi_wp2
    go_end0
    exact ⟨⟨_, rfl⟩, .inl ⟨fun _ => False, [], rfl, H0.out⟩⟩
set_option maxRecDepth 100000 in
set_option maxHeartbeats 2000000 in
theorem copyN_b (w : World) (oa : Option Addr) (c : Nat) : Calls Tryz.prog 38 #[.slice oa 0 c] w fun e w' => e = .returned (.slice none 0 0) ∧ Below w.heap.size w w' := by
  obtain ⟨w1, hw1⟩ : ∃ W : World, W = w.alloc (.cells #[.slice none 0 0] 34) := ⟨_, rfl⟩
  obtain ⟨b3, hb3⟩ : ∃ b, b = w.heap.size := ⟨_, rfl⟩
  have hbl : Below w.heap.size w w1 := by rw [hw1]; exact (Below.refl _ _).alloc (Nat.le_refl _) _
  have g3 : w1.heap[b3]? = some (.cells #[.slice none 0 0] 34 (0, 0)) := by rw [hw1, hb3]; exact alloc_cells _ _ _
  have H1 := Lib.hid (And.intro hbl (And.intro g3 hb3))
  clear hbl g3
  refine (callsIn_wide (n := 8)).1 ?_
  have f1 : Fence.wide.fn 110 := trivial
  refine callsIn_of_wp_marks Tryz.func38 rfl trivial ?_ rfl
  simp only [Tryz.ntmps38, List.size_toArray, List.length_cons, List.length_nil, Nat.reduceAdd, Nat.reduceSub, Array.replicate_succ, Array.replicate_zero, List.push_toArray, List.append_toArray, List.nil_append, List.cons_append]
  gi_upto_region 2 with fail
  rw [← hw1, ← hb3]
  clear hw1 hb3
  gi_wp2_with fail
  refine (callsIn_wide.2 (valuesR_b w1 oa 0 c)).mono ?_
  rintro e w2 ⟨rfl, hw2⟩
  obtain ⟨vb, hvb⟩ : ∃ b, b = w1.heap.size := ⟨_, rfl⟩
  rw [← hvb]
  have gv : w2.heap[vb]? = some (.cells #[.slice oa 0 c] 34 (0, 0)) := by rw [hw2, hvb]; exact alloc_cells _ _ _
  have hb2 : Below w1.heap.size w1 w2 := by rw [hw2]; exact (Below.refl _ _).alloc (Nat.le_refl _) _
  have hst := values1RN_told 7 vb c oa w2 gv
  have H2 := Lib.hid hb2
  clear hw2 gv hb2 hvb
  gi_wp2_with fail
  refine wpIn_rangeFunc_told (n := 8) (α := Unit) rfl (by omega) (gf := 166) (lb := #[.pointer (some ⟨vb, 0, none⟩)]) rfl trivial (enters_of Tryz.func166 (by kernel_rfl) rfl) hst (Below.refl _ _) (fun _ => rfl)
    (fun T pre V => Below w2.heap.size w2 V ∧ ∀ k, T k → w2.heap.size ≤ k) (fun _ _ _ _ => False) ?I ?Ix ?h0 ?round ?done ?stop
  case I =>
    rintro T pre A B ⟨hi, hT⟩ ho
    exact ⟨hi.trans (ho.below (fun i hi' e => by
      rcases e with e | e | e
      · have := hT i e; omega
      · omega
      · omega) hi.size), hT⟩
  case Ix =>
    rintro c T pre A B hf ho
    exact hf
  case h0 =>
    intro T W1 hb hsz hT
    exact ⟨hb, fun k hk => by have := (hT k hk).1; omega⟩
  case stop =>
    rintro T c0 pre V hS hf hD
    exact hf.elim
  case round =>
    rintro T pre x Wp V hT hrec hdef hip hop hszp hgv hlt K hK
    exact hgv.elim
  case done =>
    rintro T xs V hS ⟨hi, -⟩ hD
    have g3V := (hi.block b3 (Nat.lt_of_lt_of_le (Array.getElem?_eq_some_iff.1 H1.out.2.1).1 H2.out.size)).trans ((H2.out.block b3 (Array.getElem?_eq_some_iff.1 H1.out.2.1).1).trans H1.out.2.1)
    have k3 : V.cell? ⟨b3, 0, none⟩ = some (.slice none 0 0) := cell_of g3V rfl
    have hb0V : Below w.heap.size w V := H1.out.1.trans ((H2.out.trans (hi.mono H2.out.size)).mono H1.out.1.size)
    have HV := Lib.hid (And.intro hD hb0V)
    have HS2 : Hid (w.heap.size ≤ w2.heap.size) := Lib.hid (Nat.le_trans H1.out.1.size H2.out.size)
    clear hS hi hD g3V hb0V hst
    gi_wp2_with fail
    have hg := grownBy_putObj' V w2.heap.size (.deferred none)
    refine ⟨by simp, .inl ⟨_, _, rfl, run_takeDeferred HV.out.1, ?_⟩⟩
    exact ⟨.slice none 0 0, by simp [results, Tryz.results38, go_sem], rfl, HV.out.2.grown hg HV.out.2.size (fun k e => by
      simp only [Option.some.injEq] at e
      have := HS2.out
      omega)⟩
set_option maxRecDepth 100000 in
set_option maxHeartbeats 2000000 in
/-- no record comes -/
theorem all1N_told (n : Nat) (b4 b3 : Nat) (w : World) (hv : w.heap[b4]? = some (.cells #[.slice none 0 0] 34 (0, 0))) :
    SeqTold Fence.wide n Tryz.prog 160 #[.pointer (some ⟨b4, 0, none⟩), .pointer (some ⟨b3, 0, none⟩)] (fun _ : Unit => #[undef, undef]) (fun _ _ _ _ _ => False) (fun ys => ys = []) (fun _ => False) 0 w := fun l J Jx W hW hs hJ hJx hY => by
  have hBs : W.cell? ⟨b4, 0, none⟩ = some (.slice none 0 0) := cell_of ((hW.block b4 (Array.getElem?_eq_some_iff.1 hv).1).trans hv) rfl
  have h0 : ∀ V, Below W.heap.size W V → J (fun _ => False) [] V := fun V hV => hs (fun _ => False) V hV (fun _ hf => hf.elim)
  have H0 := Lib.hid h0
  clear hs hJ hJx hY hW hv h0
  refine callsIn_of_wp Tryz.func160 rfl trivial ?_ rfl
  have f1 : Fence.wide.fn 38 := trivial
  simp only [Tryz.ntmps160, List.size_toArray, List.length_cons, List.length_nil, Nat.reduceAdd, Nat.reduceSub, Array.replicate_succ, Array.replicate_zero, List.push_toArray, List.append_toArray, List.nil_append, List.cons_append]
  gi_wp2_with fail
  refine ⟨fun hf => (by cases hf), (callsIn_wide.2 (copyN_b W none 0)).mono ?_⟩
  rintro e W2 ⟨rfl, hb2⟩
  have H2 := Lib.hid (H0.out W2 hb2)
  clear hb2
  gi_wp2_with fail
  gi_loopw [9] (fun i wr => i = .int .i64 0 ∧ wr = W2) (fun _ _ => 0)
  case atStart => exact ⟨rfl, rfl⟩
  case round =>
    obtain ⟨rfl, rfl⟩ := hrel
    gi_wp2
    go_end0
    exact ⟨⟨_, rfl⟩, .inl ⟨fun _ => False, [], rfl, H2.out⟩⟩
end Go.Proofs.YtlgcoaeddeiegaaGreat
/- law11: none. -/
namespace Go.Proofs.YtlgcoaeddeiegaaGreat
open Go Go.Maps Go.RowKit Go.Shelf
attribute [local go_sem] Oper.semAt_some

/-- nothing is kept -/
theorem zeroSt (W : World) : (Op.equalIn 10000 60 (.agg #[.int .i64 0, .int .i64 0, .int .i64 0, .int .i64 0, .bool false]) (.agg #[.int .i64 0, .int .i64 0, .int .i64 0, .int .i64 0, .bool false])).run Tryz.prog W = .ok true W := by kernel_rfl
set_option maxRecDepth 100000 in
set_option maxHeartbeats 4000000 in
theorem none11_b {w : World} {pp : Option Addr} (h : NoLog w pp) (x : Int) (oa : Option Addr) (m c : Nat) :
    Calls Tryz.prog 32 #[.pointer pp, .int .i64 x, .slice oa m c] w fun e w' => e = .returned (.bool true) ∧ Below w.heap.size w w' := by
  refine (callsIn_wide (n := 8)).1 ?_
  have f1 : Fence.wide.fn 16 := trivial
  have f2 : Fence.wide.fn 23 := trivial
  have f3 : Fence.wide.fn 28 := trivial
  have f4 : Fence.wide.fn 99 := trivial
  have f5 : Fence.wide.fn 27 := trivial
  have f6 : Fence.wide.fn 25 := trivial
  have f7 : Fence.wide.fn 18 := trivial
  refine callsIn_of_wp_marks Tryz.func32 rfl trivial ?_ rfl
  simp only [Tryz.ntmps32, List.size_toArray, List.length_cons, List.length_nil, Nat.reduceAdd, Nat.reduceSub, Array.replicate_succ, Array.replicate_zero, List.push_toArray, List.append_toArray, List.nil_append, List.cons_append]
  obtain ⟨w1, hw1⟩ : ∃ w1 : World, w1 = w.alloc (.cells #[.bool false] 4) := ⟨_, rfl⟩
  obtain ⟨r, hr⟩ : ∃ r, r = w.heap.size := ⟨_, rfl⟩
  have hr1 : w1.heap[r]? = some (.cells #[.bool false] 4 (0, 0)) := by rw [hw1, hr]; exact alloc_cells _ _ _
  have hb1 : Below w.heap.size w w1 := by rw [hw1]; exact (Below.refl _ _).alloc (Nat.le_refl _) _
  have HI := Lib.hid (h.below hb1)
  have HB1 := Lib.hid (And.intro hb1 hr1)
  clear h hb1 hr1
  gi_wp2_with (gi_at_call 16; rw [← hw1, ← hr]; have HR := Lib.hid (Nat.le_of_eq hr.symm); clear hw1 hr; refine (callsIn_wide.2 (appendN_b HI.out oa m c)).mono ?_; rintro e w2 ⟨rfl, hb2⟩)
  have HI2 := Lib.hid (HI.out.below hb2)
  have HB2 : Hid (Below w.heap.size w w2 ∧ w2.heap[r]? = some (.cells #[.bool false] 4 (0, 0))) := Lib.hid ⟨HB1.out.1.trans (hb2.mono HB1.out.1.size), (hb2.block r (Array.getElem?_eq_some_iff.1 HB1.out.2).1).trans HB1.out.2⟩
  clear hb2 HI HB1
  refine (callsIn_wide.2 (readN_b HI2.out x x 1)).mono ?_
  rintro e w3 ⟨rfl, hb3⟩
  have HI3 := Lib.hid (HI2.out.below hb3)
  have HB3 : Hid (Below w.heap.size w w3 ∧ w3.heap[r]? = some (.cells #[.bool false] 4 (0, 0))) := Lib.hid ⟨HB2.out.1.trans (hb3.mono HB2.out.1.size), (hb3.block r (Array.getElem?_eq_some_iff.1 HB2.out.2).1).trans HB2.out.2⟩
  clear hb3 HI2 HB2
  gi_wp2_with fail
  refine (callsIn_wide.2 (dropN_b HI3.out x)).mono ?_
  rintro e w4 ⟨rfl, hb4⟩
  have HI4 := Lib.hid (HI3.out.below hb4)
  have HB4 : Hid (Below w.heap.size w w4 ∧ w4.heap[r]? = some (.cells #[.bool false] 4 (0, 0))) := Lib.hid ⟨HB3.out.1.trans (hb4.mono HB3.out.1.size), (hb4.block r (Array.getElem?_eq_some_iff.1 HB3.out.2).1).trans HB3.out.2⟩
  clear hb4 HI3 HB3
  gi_wp2_with fail
  refine (callsIn_wide.2 (allN_b HI4.out)).mono ?_
  rintro e w5 ⟨b3, b4, rfl, hv5, hb5⟩
  have HI5 := Lib.hid (HI4.out.below hb5)
  have HB5 : Hid (Below w.heap.size w w5 ∧ w5.heap[r]? = some (.cells #[.bool false] 4 (0, 0))) := Lib.hid ⟨HB4.out.1.trans (hb5.mono HB4.out.1.size), (hb5.block r (Array.getElem?_eq_some_iff.1 HB4.out.2).1).trans HB4.out.2⟩
  have hst := all1N_told 7 b4 b3 w5 hv5
  clear hb5 HI4 HB4 hv5
  have hnf : ∀ W : World, (binOp .eql 193 (.func (.func 160) #[] #[.pointer (some ⟨b4, 0, none⟩), .pointer (some ⟨b3, 0, none⟩)]) .nilFunc).run Tryz.prog W = .ok (.bool false) W := fun W => by kernel_rfl
  gi_wp2_with fail
  refine wpIn_rangeFunc_told (n := 8) (α := Unit) rfl (by omega) (gf := 160) (lb := #[.pointer (some ⟨b4, 0, none⟩), .pointer (some ⟨b3, 0, none⟩)]) rfl trivial (enters_of Tryz.func160 (by kernel_rfl) rfl) hst (Below.refl _ _) (fun _ => rfl)
    (fun T pre V => Below w5.heap.size w5 V ∧ ∀ k, T k → w5.heap.size ≤ k) (fun _ _ _ _ => False) ?I ?Ix ?h0 ?round ?done ?stop
  case I =>
    rintro T pre A B ⟨hi, hT⟩ ho
    exact ⟨hi.trans (ho.below (fun i hi' e => by
      rcases e with e | e | e
      · have := hT i e; omega
      · omega
      · omega) hi.size), hT⟩
  case Ix =>
    rintro c T pre A B hf ho
    exact hf
  case h0 =>
    intro T W1 hb hsz hT
    exact ⟨hb, fun k hk => by have := (hT k hk).1; omega⟩
  case stop =>
    rintro T c0 pre V hS hf hD
    exact hf.elim
  case round =>
    rintro T pre x Wp V hT hrec hdef hip hop hszp hgv hlt K hK
    exact hgv.elim
  case done =>
    rintro T xs V hS ⟨hi, -⟩ hD
    have HIV := Lib.hid (HI5.out.below hi)
    have HBV : Hid (Below w.heap.size w V ∧ V.heap[r]? = some (.cells #[.bool false] 4 (0, 0))) := Lib.hid ⟨HB5.out.1.trans (hi.mono HB5.out.1.size), (hi.block r (Array.getElem?_eq_some_iff.1 HB5.out.2).1).trans HB5.out.2⟩
    have HD := Lib.hid hD
    have HL : Hid (w.heap.size ≤ w5.heap.size) := Lib.hid HB5.out.1.size
    clear hS hi hD hst hnf HI5 HB5
    have heq := zeroSt
    gi_wp2_with fail
    refine (callsIn_wide.2 (syncN_b HIV.out)).mono ?_
    rintro e w6 ⟨rfl, hb6⟩
    have HI6 := Lib.hid (HIV.out.below hb6)
    have HB6 : Hid (Below w.heap.size w w6 ∧ w6.heap[r]? = some (.cells #[.bool false] 4 (0, 0))) := Lib.hid ⟨HBV.out.1.trans (hb6.mono HBV.out.1.size), (hb6.block r (Array.getElem?_eq_some_iff.1 HBV.out.2).1).trans HBV.out.2⟩
    have HD6 := Lib.hid ((hb6.block _ (Array.getElem?_eq_some_iff.1 HD.out).1).trans HD.out)
    clear hb6 HIV HBV HD
    gi_wp2_with fail
    refine (callsIn_wide.2 (stateN_b HI6.out)).mono ?_
    rintro e w7 ⟨rfl, hb7⟩
    have HI7 := Lib.hid (HI6.out.below hb7)
    have hr7 := (hb7.block r (Array.getElem?_eq_some_iff.1 HB6.out.2).1).trans HB6.out.2
    have HB7 : Hid (Below w.heap.size w w7) := Lib.hid (HB6.out.1.trans (hb7.mono HB6.out.1.size))
    have HD7 := Lib.hid ((hb7.block _ (Array.getElem?_eq_some_iff.1 HD6.out).1).trans HD6.out)
    have rc : w7.cell? ⟨r, 0, none⟩ = some (.bool false) := cell_of hr7 rfl
    have rz : w7.frozen? ⟨r, 0, none⟩ = false := free_of hr7 _
    have HR7 := Lib.hid hr7
    clear hb7 HI6 HB6 HD6 hr7
    gi_wp2_with fail
    refine (callsIn_wide.2 (segmentsN_b HI7.out)).mono ?_
    rintro e w8 ⟨rfl, hw8⟩
    obtain rfl := hw8.symm
    clear hw8
    gi_wp2_with fail
    have hK9 := (KeepsOthers.setCell w7 ⟨r, 0, none⟩ (.bool true)).same _ _ HD7.out rfl
    refine ⟨by simp, .inl ⟨_, _, rfl, run_takeDeferred hK9, ?_⟩⟩
    have hc9 : (w7.setCell ⟨r, 0, none⟩ (.bool true)).heap[r]? = some (.cells #[.bool true] 4 (0, 0)) := heap_setCell_here _ HR7.out
    have hcr := cell_kept (cell_of hc9 rfl : (w7.setCell ⟨r, 0, none⟩ (.bool true)).cell? ⟨r, 0, none⟩ = some (.bool true)) (grownBy_putObj' _ w5.heap.size (.deferred none)) (fun r e => by cases e; exact ⟨_, hK9, rfl⟩)
    have hb9 : Below w.heap.size w (w7.setCell ⟨r, 0, none⟩ (.bool true)) := HB7.out.setCell (p := ⟨r, 0, none⟩) HR.out _
    have hb10 : Below w.heap.size w ((w7.setCell ⟨r, 0, none⟩ (.bool true)).putObj w5.heap.size (.deferred none)) := hb9.grown (grownBy_putObj' _ w5.heap.size (.deferred none)) hb9.size (fun k e => by cases e; exact HL.out)
    refine ⟨.bool true, ?_, rfl, hb10⟩
    simp [results, Tryz.results32, go_sem, hcr]
end Go.Proofs.YtlgcoaeddeiegaaGreat
/- law11: PartlogNil, the walk. -/
namespace Go.Proofs.YtlgcoaeddeiegaaGreat
open Go Go.Maps Go.RowKit
attribute [local go_sem] Oper.semAt_some

set_option maxRecDepth 100000 in
set_option maxHeartbeats 8000000 in
theorem partlogNil_walk (w : World) (n roll step : Int) (nm : ByteArray) (oa : Option Addr) (m c : Nat) :
    Calls Tryz.prog 5 #[.agg #[.int .i64 n, .string nm, .int .i64 roll, .int .i64 step, .slice oa m c]] w fun e w' => e = .returned (.bool true) ∧ Below w.heap.size w w' := by
  obtain ⟨w1, hw1⟩ : ∃ W : World, W = w.alloc (.cells #[.int .i64 n, .string nm, .int .i64 roll, .int .i64 step, .slice oa m c] 76) := ⟨_, rfl⟩
  obtain ⟨b1, hb1⟩ : ∃ b, b = w.heap.size := ⟨_, rfl⟩
  have g1 : w1.heap[b1]? = some (.cells #[.int .i64 n, .string nm, .int .i64 roll, .int .i64 step, .slice oa m c] 76 (0, 0)) := by rw [hw1, hb1]; exact alloc_cells _ _ _
  have hbl : Below w.heap.size w w1 := by rw [hw1]; exact (Below.refl _ _).alloc (Nat.le_refl _) _
  have c0 : w1.cell? ⟨b1, 0, none⟩ = some (.int .i64 n) := cell_of g1 rfl
  have c1 : w1.cell? ⟨b1, 1, none⟩ = some (.string nm) := cell_of g1 rfl
  have c2 : w1.cell? ⟨b1, 2, none⟩ = some (.int .i64 roll) := cell_of g1 rfl
  have c3 : w1.cell? ⟨b1, 3, none⟩ = some (.int .i64 step) := cell_of g1 rfl
  have c4 : w1.cell? ⟨b1, 4, none⟩ = some (.slice oa m c) := cell_of g1 rfl
  have H1 := Lib.hid hbl
  have hlt : b1 < w1.heap.size := (Array.getElem?_eq_some_iff.1 g1).1
  have n1 : b1 ≠ w1.heap.size := Nat.ne_of_lt hlt
  have n2 : w1.heap.size ≠ b1 := n1.symm
  have hba : Below w1.heap.size w1 (w1.alloc (.cells #[.int .i64 0, .int .i64 0] 23)) := (Below.refl _ _).alloc (Nat.le_refl _) _
  have gA := (hba.block b1 hlt).trans g1
  have d0 : (w1.alloc (.cells #[.int .i64 0, .int .i64 0] 23)).cell? ⟨b1, 0, none⟩ = some (.int .i64 n) := cell_of gA rfl
  have d1 : (w1.alloc (.cells #[.int .i64 0, .int .i64 0] 23)).cell? ⟨b1, 1, none⟩ = some (.string nm) := cell_of gA rfl
  have d2 : (w1.alloc (.cells #[.int .i64 0, .int .i64 0] 23)).cell? ⟨b1, 2, none⟩ = some (.int .i64 roll) := cell_of gA rfl
  have d3 : (w1.alloc (.cells #[.int .i64 0, .int .i64 0] 23)).cell? ⟨b1, 3, none⟩ = some (.int .i64 step) := cell_of gA rfl
  have d4 : (w1.alloc (.cells #[.int .i64 0, .int .i64 0] 23)).cell? ⟨b1, 4, none⟩ = some (.slice oa m c) := cell_of gA rfl
  have hbe : Below w1.heap.size w1 (w1.alloc (.cells #[.int .i64 roll, .int .i64 step] 23)) := (Below.refl _ _).alloc (Nat.le_refl _) _
  have gE := (hbe.block b1 hlt).trans g1
  have e0 : (w1.alloc (.cells #[.int .i64 roll, .int .i64 step] 23)).cell? ⟨b1, 0, none⟩ = some (.int .i64 n) := cell_of gE rfl
  have e1 : (w1.alloc (.cells #[.int .i64 roll, .int .i64 step] 23)).cell? ⟨b1, 1, none⟩ = some (.string nm) := cell_of gE rfl
  have e2 : (w1.alloc (.cells #[.int .i64 roll, .int .i64 step] 23)).cell? ⟨b1, 2, none⟩ = some (.int .i64 roll) := cell_of gE rfl
  have e3 : (w1.alloc (.cells #[.int .i64 roll, .int .i64 step] 23)).cell? ⟨b1, 3, none⟩ = some (.int .i64 step) := cell_of gE rfl
  have e4 : (w1.alloc (.cells #[.int .i64 roll, .int .i64 step] 23)).cell? ⟨b1, 4, none⟩ = some (.slice oa m c) := cell_of gE rfl
  have gL : (w1.alloc (.cells #[.int .i64 roll, .int .i64 step] 23)).heap[w1.heap.size]? = some (.cells #[.int .i64 roll, .int .i64 step] 23 (0, 0)) := alloc_cells _ _ _
  have HG := Lib.hid (And.intro hbe gL)
  clear g1 hbl hba gA hbe gE gL hlt
  go_enter Tryz.func5, Tryz.ntmps5
  go_upto_region 1 with fail
  rw [← hw1, ← hb1]
  clear hw1 hb1
  go_cut [3, 4, 5, 6] from 20 (fun s3 s4 s5 s6 wx => s3 = .int .i64 n ∧ s4 = .string nm ∧ s6 = .slice oa m c ∧ ∃ b, s5 = .pointer (some ⟨b, 0, none⟩) ∧ Hid (Below w1.heap.size w1 wx ∧ wx.heap[b]? = some (.cells #[.int .i64 roll, .int .i64 step] 23 (0, 0))))
  case first =>
    go_region
    all_goals
      go_wp2_with fail
      go_meet
      exact ⟨rfl, rfl, rfl, _, rfl, Lib.hid ⟨HG.out.1.trans ((bdrew _).mono HG.out.1.size), HG.out.2⟩⟩
  case rest =>
  obtain ⟨rfl, rfl, rfl, bc, rfl, HC⟩ := hcut
  clear c0 c1 c2 c3 c4 d0 d1 d2 d3 d4 e0 e1 e2 e3 e4 n1 n2 HG
  obtain ⟨w2, hw2⟩ : ∃ W : World, W = wc := ⟨_, rfl⟩
  rw [← hw2] at HC ⊢
  clear hw2
  have k0 : w2.cell? ⟨bc, 0, none⟩ = some (.int .i64 roll) := cell_of HC.out.2 rfl
  have k1 : w2.cell? ⟨bc, 1, none⟩ = some (.int .i64 step) := cell_of HC.out.2 rfl
  have H2 : Hid (Below w.heap.size w w2) := Lib.hid (H1.out.trans (HC.out.1.mono H1.out.size))
  clear HC H1
  go_wp2_with fail
  refine (openN_b w2 nm roll step).mono ?_
  rintro e w3 ⟨rfl, hb3⟩
  have H3 : Hid (Below w.heap.size w w3) := Lib.hid (H2.out.trans (hb3.mono H2.out.size))
  clear hb3 H2 k0 k1
  go_wp2_with fail
  refine (checkN_b w3 nm).mono ?_
  rintro e w4 ⟨rfl, hb4⟩
  have H4 : Hid (Below w.heap.size w w4) := Lib.hid (H3.out.trans (hb4.mono H3.out.size))
  clear hb4 H3
  obtain ⟨w5, hw5⟩ : ∃ W : World, W = w4.alloc (.cells #[.int .i64 0, .int .i64 0, .int .i64 0, .int .i64 0, .bool false] 60) := ⟨_, rfl⟩
  obtain ⟨bs, hbs⟩ : ∃ b, b = w4.heap.size := ⟨_, rfl⟩
  have g5 : w5.heap[bs]? = some (.cells #[.int .i64 0, .int .i64 0, .int .i64 0, .int .i64 0, .bool false] 60 (0, 0)) := by rw [hw5, hbs]; exact alloc_cells _ _ _
  have hb5 : Below w4.heap.size w4 w5 := by rw [hw5]; exact (Below.refl _ _).alloc (Nat.le_refl _) _
  have H5 : Hid (Below w.heap.size w w5 ∧ w5.heap[bs]? = some (.cells #[.int .i64 0, .int .i64 0, .int .i64 0, .int .i64 0, .bool false] 60 (0, 0))) := Lib.hid ⟨H4.out.trans (hb5.mono H4.out.size), g5⟩
  clear g5 hb5 H4
  go_upto_region 5 with fail
  rw [← hw5, ← hbs]
  clear hw5 hbs
  go_wp2_with fail
  refine (none11_b (pp := none) (.inl rfl) n oa m c).mono ?_
  rintro e w6 ⟨rfl, hb6⟩
  have H6 : Hid (Below w.heap.size w w6 ∧ w6.heap[bs]? = some (.cells #[.int .i64 0, .int .i64 0, .int .i64 0, .int .i64 0, .bool false] 60 (0, 0))) := Lib.hid ⟨H5.out.1.trans (hb6.mono H5.out.1.size), (hb6.block bs (Array.getElem?_eq_some_iff.1 H5.out.2).1).trans H5.out.2⟩
  clear hb6 H5
  obtain ⟨w7, hw7⟩ : ∃ W : World, W = w6.alloc (.cells #[.int .i64 0, .int .i64 0, .int .i64 0, .int .i64 0, .bool false, .pointer none, .string ⟨#[]⟩, .int .i64 0, .int .i64 0, .slice none 0 0] 82) := ⟨_, rfl⟩
  obtain ⟨bx, hbx⟩ : ∃ b, b = w6.heap.size := ⟨_, rfl⟩
  have g7 : w7.heap[bx]? = some (.cells #[.int .i64 0, .int .i64 0, .int .i64 0, .int .i64 0, .bool false, .pointer none, .string ⟨#[]⟩, .int .i64 0, .int .i64 0, .slice none 0 0] 82 (0, 0)) := by rw [hw7, hbx]; exact alloc_cells _ _ _
  have hb7 : Below w6.heap.size w6 w7 := by rw [hw7]; exact (Below.refl _ _).alloc (Nat.le_refl _) _
  have hn7 : NoLog w7 (some ⟨bx, 0, none⟩) := .inr ⟨bx, rfl, cell_of g7 rfl⟩
  have H7 : Hid (Below w.heap.size w w7 ∧ w7.heap[bs]? = some (.cells #[.int .i64 0, .int .i64 0, .int .i64 0, .int .i64 0, .bool false] 60 (0, 0))) := Lib.hid ⟨H6.out.1.trans (hb7.mono H6.out.1.size), (hb7.block bs (Array.getElem?_eq_some_iff.1 H6.out.2).1).trans H6.out.2⟩
  clear g7 hb7 H6
  go_wp2_with fail
  rw [← hw7, ← hbx]
  clear hw7 hbx
  refine (none11_b hn7 n oa m c).mono ?_
  rintro e w8 ⟨rfl, hb8⟩
  have g8 : w8.heap[bs]? = some (.cells #[.int .i64 0, .int .i64 0, .int .i64 0, .int .i64 0, .bool false] 60 (0, 0)) := (hb8.block bs (Array.getElem?_eq_some_iff.1 H7.out.2).1).trans H7.out.2
  have H8 : Hid (Below w.heap.size w w8) := Lib.hid (H7.out.1.trans (hb8.mono H7.out.1.size))
  clear hb8 hn7 H7
  have k0 : w8.cell? ⟨bs, 0, none⟩ = some (.int .i64 0) := cell_of g8 rfl
  have k1 : w8.cell? ⟨bs, 1, none⟩ = some (.int .i64 0) := cell_of g8 rfl
  have k2 : w8.cell? ⟨bs, 2, none⟩ = some (.int .i64 0) := cell_of g8 rfl
  have k3 : w8.cell? ⟨bs, 3, none⟩ = some (.int .i64 0) := cell_of g8 rfl
  have k4 : w8.cell? ⟨bs, 4, none⟩ = some (.bool false) := cell_of g8 rfl
  clear g8
  have hq := zeroSt
  go_wp2_with fail
  refine (known11_b w8).mono ?_
  rintro e w9 ⟨rfl, hb9⟩
  have H9 : Hid (Below w.heap.size w w9) := Lib.hid (H8.out.trans (hb9.mono H8.out.size))
  clear hb9 H8
  go_wp2_with fail
  go_ret
  exact ⟨rfl, H9.out⟩
end Go.Proofs.YtlgcoaeddeiegaaGreat
/- law11: arguments opened: a Nothing. -/
namespace Go.Proofs.YtlgcoaeddeiegaaGreat
open Go Go.Maps Go.RowKit
section
open Go.ChangeShapes Go.WideShapes Go.ChangeAt Go.Joins
variable {H : Type} {enc : TypeId × Value → H} {w : World} {base b1 : Nat} {spare : Nat → Bool} {held : Bool} {rc : Reach} {v : Value} {d : DataW H} {p : List MemPlace} {fuel : Nat} {y : DataW H × List MemPlace}
theorem cells_tmN : Tryz.prog.cellsOf 2 = 1 := by kernel_rfl
theorem cells_intN : Tryz.prog.cellsOf 3 = 1 := by kernel_rfl
theorem cells_strN : Tryz.prog.cellsOf 9 = 1 := by kernel_rfl
theorem cells_rcsN : Tryz.prog.cellsOf 34 = 1 := by kernel_rfl
theorem cells_cfgN : Tryz.prog.cellsOf 23 = 2 := by kernel_rfl
theorem cells_nothN : Tryz.prog.cellsOf 76 = 5 := by kernel_rfl
theorem min_i64N : IntKind.i64.min = -9223372036854775808 := by decide +kernel
theorem max_i64N : IntKind.i64.max = 9223372036854775807 := by decide +kernel
theorem wf_i64N {k : Int} (h : (Lit.int .i64 k).wf = true) : -9223372036854775808 ≤ k ∧ k ≤ 9223372036854775807 := by
  simp only [Lit.wf, min_i64N, max_i64N, Bool.and_eq_true, decide_eq_true_eq] at h
  exact h
/-- a configuration that was handed in -/
theorem cfg_in {cs : List Value} (hcs : cs.length = 2) (hf : DataW.trod enc Tryz.prog w base spare held fuel 23 cs = some y) :
    ∃ roll step : Int, cs = [.int .i64 roll, .int .i64 step] ∧ (-9223372036854775808 ≤ roll ∧ roll ≤ 9223372036854775807) ∧ (-9223372036854775808 ≤ step ∧ step ≤ 9223372036854775807) := by
  match cs, hcs with
  | [c0, c1], _ =>
    obtain ⟨xs, m, _, _, _, hlen, hg⟩ := DataW.trod_struct Tryz.underlying23 hf
    match xs, hlen with
    | [y0, y1], _ =>
      have g0 := hg 0 { name := "Roll", type := 3, offset := 0, embedded := false, tag := "", pkgPath := "", byteOffset := 0 } rfl
      have g1 := hg 1 { name := "Step", type := 3, offset := 1, embedded := false, tag := "", pkgPath := "", byteOffset := 8 } rfl
      simp only [cells_intN, List.drop_zero, List.take_succ_cons, List.take_zero, List.drop_succ_cons, List.getElem?_cons_zero, List.getElem?_cons_succ] at g0 g1
      obtain ⟨k, hk, _, hkw⟩ := DataW.trod_int Tryz.underlying3 g0
      obtain ⟨s, hs, _, hsw⟩ := DataW.trod_int Tryz.underlying3 g1
      simp only [List.cons.injEq, and_true] at hk hs
      subst hk
      subst hs
      exact ⟨k, s, rfl, wf_i64N hkw, wf_i64N hsw⟩
set_option maxRecDepth 100000 in
set_option maxHeartbeats 1000000 in
theorem nothing_in (hv : Value.okWide Tryz.prog w rc b1 76 v) (h : DataW.Trod enc Tryz.prog w base spare held 76 v d p) :
    ∃ (n roll step : Int) (nm : ByteArray) (oa : Option Addr) (m c : Nat), v = .agg #[.int .i64 n, .string nm, .int .i64 roll, .int .i64 step, .slice oa m c] := by
  obtain ⟨cs, rfl, hsz⟩ := okWide_struct Tryz.underlying76 hv
  obtain ⟨fuel, hf⟩ := h
  obtain ⟨l⟩ := cs
  rw [cells_nothN] at hsz
  match l, hsz with
  | [c0, c1, c2, c3, c4], _ =>
    obtain ⟨xs, m, _, _, _, hlen, hg⟩ := DataW.trod_struct Tryz.underlying76 hf
    match xs, hlen with
    | [y0, y1, y2, y3], _ =>
      have g0 := hg 0 { name := "N", type := 2, offset := 0, embedded := false, tag := "", pkgPath := "", byteOffset := 0 } rfl
      have g1 := hg 1 { name := "Name", type := 9, offset := 1, embedded := false, tag := "", pkgPath := "", byteOffset := 8 } rfl
      have g2 := hg 2 { name := "Config", type := 23, offset := 2, embedded := false, tag := "", pkgPath := "", byteOffset := 24 } rfl
      have g3 := hg 3 { name := "Records", type := 34, offset := 4, embedded := false, tag := "", pkgPath := "", byteOffset := 40 } rfl
      simp only [Value.cells, cells_tmN, cells_strN, cells_cfgN, cells_rcsN, List.drop_zero, List.take_succ_cons, List.take_zero, List.drop_succ_cons, List.getElem?_cons_zero, List.getElem?_cons_succ] at g0 g1 g2 g3
      obtain ⟨k, hk, _, -⟩ := DataW.trod_int Tryz.underlying2 g0
      obtain ⟨s, hs, -, -⟩ := DataW.trod_string Tryz.underlying9 g1
      obtain ⟨roll, step, hc, -, -⟩ := cfg_in rfl g2
      have hsl : ∃ oa m c, c4 = .slice oa m c := by
        rcases Deep.open_slice Tryz.underlying34 g3 with ⟨hc, _⟩ | ⟨a, len, cap, m, k, D, Pl, hc, _⟩
        · simp only [List.cons.injEq, and_true] at hc
          exact ⟨_, _, _, hc⟩
        · simp only [List.cons.injEq, and_true] at hc
          exact ⟨_, _, _, hc⟩
      obtain ⟨oa, m', c, hsl⟩ := hsl
      simp only [List.cons.injEq, and_true] at hk hs hc
      obtain ⟨hc1, hc2⟩ := hc
      subst hk
      subst hs
      subst hc1
      subst hc2
      subst hsl
      exact ⟨k, roll, step, s, oa, m', c, rfl⟩
end
end Go.Proofs.YtlgcoaeddeiegaaGreat
/- law11: arguments opened: records, scripts. -/
namespace Go.Proofs.YtlgcoaeddeiegaaGreat
open Go Go.Maps Go.RowKit

theorem cells_getR {w : World} {base : Nat} {a : Addr} {n : Nat} {cs : List Value} (h : w.cells? base a n = some cs) : cs.length = n ∧ ∀ i, i < n → w.cell? (a.add i) = cs[i]? := by
  unfold World.cells? at h
  split at h
  · refine ⟨by rw [mapM_some_length h, List.length_range], fun i hi => ?_⟩
    exact mapM_some_get h i i (by rw [List.getElem?_range hi])
  · cases h
theorem flatMap_getR {α : Type} (enc : α → List Value) (size : Nat) (hs : ∀ x, (enc x).length = size) : ∀ (l : List α) (i k : Nat) (hi : i < l.length) (_ : k < size), (l.flatMap enc)[i * size + k]? = (enc l[i])[k]?
  | x :: r, 0, k, _, hk => by
    rw [List.flatMap_cons, List.getElem?_append_left (by rw [hs]; omega)]
    simp
  | x :: r, i + 1, k, hi, hk => by
    rw [List.flatMap_cons, List.getElem?_append_right (by rw [hs, Nat.add_mul]; omega), hs, show (i + 1) * size + k - size = i * size + k by rw [Nat.add_mul]; omega, flatMap_getR enc size hs r i k (by simpa using hi) hk]
    simp
theorem flatMap_lenR {α : Type} (enc : α → List Value) (size : Nat) (hs : ∀ x, (enc x).length = size) : ∀ l : List α, (l.flatMap enc).length = l.length * size
  | [] => by simp
  | x :: r => by
    rw [List.flatMap_cons, List.length_append, hs, flatMap_lenR enc size hs r, List.length_cons, Nat.add_mul]
    omega
/-- rows of cells that read one by one -/
theorem readAt_rowsR {α : Type} {w : World} {base : Nat} {a : Addr} {n cap size : Nat} (enc : α → List Value) (hs : ∀ x, (enc x).length = size) (h0 : 0 < size) (l : List α) (hl : l.length = n) (hc : n ≤ cap)
    (each : ∀ i (hi : i < l.length), w.cells? base (a.add (i * size)) size = some (enc l[i])) : readAt w size (.slice (some a) n cap) n (l.flatMap enc) := by
  refine ⟨by rw [flatMap_lenR enc size hs, hl], ?_⟩
  by_cases hn : n = 0
  · exact .inl ⟨hn, some a, cap, by rw [hn], fun h => by cases h⟩
  obtain ⟨b, off, spot⟩ := a
  obtain ⟨hl0, hg0⟩ := cells_getR (each 0 (by omega))
  have g0 := hg0 0 h0
  have hv : ∃ u, (enc (l[0]'(by omega)))[0]? = some u := ⟨_, List.getElem?_eq_getElem (by rw [hs]; exact h0)⟩
  obtain ⟨u, hu⟩ := hv
  rw [hu] at g0
  have hspot : spot = none := by simpa [Addr.add] using World.cell?_spot g0
  subst hspot
  have hcl : ∀ i k (hi : i < l.length), k < size → w.cell? ⟨b, off + i * size + k, none⟩ = (enc l[i])[k]? := fun i k hi hk => by
    have := (cells_getR (each i hi)).2 k hk
    rwa [Go.WideShapes.add_plain, Go.WideShapes.add_plain] at this
  refine .inr ⟨b, off, cap, rfl, by omega, ?_, hc, fun j u hj => ?_⟩
  · have := hcl 0 0 (by omega) h0
    rw [hu] at this
    exact World.block_lt_of_cell? w _ this
  · have hj1 : j < n * size := by
      have := (List.getElem?_eq_some_iff.1 hj).1
      rwa [flatMap_lenR enc size hs, hl] at this
    have hi : j / size < n := (Nat.div_lt_iff_lt_mul h0).2 hj1
    have hk : j % size < size := Nat.mod_lt _ h0
    have hjj : j / size * size + j % size = j := by rw [Nat.mul_comm]; exact Nat.div_add_mod j size
    rw [← hjj, flatMap_getR enc size hs l _ _ (by omega) hk] at hj
    have := hcl (j / size) (j % size) (by omega) hk
    rw [hj, Nat.add_assoc, hjj] at this
    exact this
section
open Go.ChangeShapes Go.WideShapes Go.ChangeAt Go.Joins
variable {H : Type} {enc : TypeId × Value → H} {w : World} {base b1 : Nat} {spare : Nat → Bool} {held : Bool} {rc : Reach} {v : Value} {d : DataW H} {p : List MemPlace} {fuel : Nat} {y : DataW H × List MemPlace}
theorem cells_u8R : Tryz.prog.cellsOf 5 = 1 := by kernel_rfl
theorem cells_intR : Tryz.prog.cellsOf 3 = 1 := by kernel_rfl
theorem cells_sl1R : Tryz.prog.cellsOf 39 = 1 := by kernel_rfl
theorem cells_sl3R : Tryz.prog.cellsOf 38 = 1 := by kernel_rfl
theorem min_u8R : IntKind.u8.min = 0 := by decide +kernel
theorem max_u8R : IntKind.u8.max = 255 := by decide +kernel
theorem min_i64R : IntKind.i64.min = -9223372036854775808 := by decide +kernel
theorem max_i64R : IntKind.i64.max = 9223372036854775807 := by decide +kernel
theorem wf_u8R {k : Int} (h : (Lit.int .u8 k).wf = true) : 0 ≤ k ∧ k < 256 := by
  simp only [Lit.wf, min_u8R, max_u8R, Bool.and_eq_true, decide_eq_true_eq] at h
  omega
theorem wf_i64R {k : Int} (h : (Lit.int .i64 k).wf = true) : -9223372036854775808 ≤ k ∧ k ≤ 9223372036854775807 := by
  simp only [Lit.wf, min_i64R, max_i64R, Bool.and_eq_true, decide_eq_true_eq] at h
  exact h
/-- a slice that reads, element by element -/
theorem open_rowR {α : Type} [Inhabited α] {t e : TypeId} (size : Nat) (hsz : Tryz.prog.cellsOf e = size) (h0 : 0 < size) (ht : Tryz.prog.underlying t = some (.slice e)) (en : α → List Value) (hs : ∀ x, (en x).length = size) (ok : α → Prop)
    (hel : ∀ (n : Nat) (cs : List Value) (y : DataW H × List MemPlace), cs.length = size → DataW.trod enc Tryz.prog w base spare held n e cs = some y → ∃ x, cs = en x ∧ ok x)
    (h : DataW.trod enc Tryz.prog w base spare held fuel t [v] = some y) : ∃ l : List α, readAt w size v l.length (l.flatMap en) ∧ (∀ x ∈ l, ok x) ∧ l.length ≤ 9223372036854775807 ∧ ∃ oa c, v = .slice oa l.length c := by
  rcases Deep.open_slice ht h with ⟨hc, _⟩ | ⟨a, len, cap, m, k, D, Pl, hc, _, hl, hm, hmm, hx, hall⟩
  · simp only [List.cons.injEq, and_true] at hc
    subst hc
    exact ⟨[], ⟨by simp, .inl ⟨rfl, none, 0, rfl, fun _ => rfl⟩⟩, (fun x hx => by cases hx), by simp, none, 0, rfl⟩
  · simp only [List.cons.injEq, and_true] at hc
    subst hc
    have hlm : len ≤ m := by rw [hmm]; split <;> omega
    rw [hsz] at hall
    obtain ⟨f, hF⟩ := Deep.choose_lt (n := len) (p := fun i x => w.cells? base (a.add (i * size)) size = some (en x) ∧ ok x) fun i hi => by
      obtain ⟨cs, h1, h2⟩ := hall i (by omega)
      obtain ⟨x, rfl, hx⟩ := hel _ cs _ (cells_getR h1).1 h2
      exact ⟨x, h1, hx⟩
    have hlen : ((List.range len).map f).length = len := by simp
    refine ⟨(List.range len).map f, ?_, fun x hx => ?_, by rw [hlen]; unfold maxLen at hm; omega, some a, cap, by rw [hlen]⟩
    · have := readAt_rowsR (w := w) (base := base) (a := a) (cap := cap) en hs h0 ((List.range len).map f) hlen hl (fun i hi => by
        rw [hlen] at hi
        simpa using (hF i hi).1)
      rw [hlen]
      exact this
    · obtain ⟨i, hi, rfl⟩ := List.mem_map.1 hx
      exact (hF i (List.mem_range.1 hi)).2
theorem flat_bytesR : ∀ l : List UInt8, (l.flatMap fun b => [Value.int .u8 (b.toNat : Int)]) = byteCells l
  | [] => rfl
  | b :: r => by
    rw [List.flatMap_cons, flat_bytesR r]
    rfl
theorem flat_intsR : ∀ l : List Int, (l.flatMap fun b => [Value.int .i64 b]) = intCells l
  | [] => rfl
  | b :: r => by
    rw [List.flatMap_cons, flat_intsR r]
    rfl
theorem open_bytesR (h : DataW.trod enc Tryz.prog w base spare held fuel 39 [v] = some y) : ∃ l : List UInt8, readAt w 1 v l.length (byteCells l) := by
  obtain ⟨l, hl, _, hlm, hv⟩ := open_rowR 1 cells_u8R (by omega) Tryz.underlying39 (fun b : UInt8 => [Value.int .u8 (b.toNat : Int)]) (fun _ => rfl) (fun _ => True) (fun n cs y hcs hy => by
    obtain ⟨k, hk, _, hw⟩ := DataW.trod_int Tryz.underlying5 hy
    have hr := wf_u8R hw
    refine ⟨UInt8.ofNat k.toNat, ?_, trivial⟩
    rw [hk]
    have : ((UInt8.ofNat k.toNat).toNat : Int) = k := by
      rw [UInt8.toNat_ofNat']
      omega
    rw [this]) h
  rw [flat_bytesR] at hl
  exact ⟨l, hl⟩
theorem open_intsR (h : DataW.trod enc Tryz.prog w base spare held fuel 38 [v] = some y) : ∃ l : List Int, readAt w 1 v l.length (intCells l) ∧ (∀ x ∈ l, -9223372036854775808 ≤ x ∧ x ≤ 9223372036854775807) ∧ l.length ≤ 9223372036854775807 ∧ ∃ oa c, v = .slice oa l.length c := by
  obtain ⟨l, hl, hok, hlm, hv⟩ := open_rowR 1 cells_intR (by omega) Tryz.underlying38 (fun b : Int => [Value.int .i64 b]) (fun _ => rfl) (fun x => -9223372036854775808 ≤ x ∧ x ≤ 9223372036854775807) (fun n cs y hcs hy => by
    obtain ⟨k, hk, _, hw⟩ := DataW.trod_int Tryz.underlying3 hy
    exact ⟨k, hk, wf_i64R hw⟩) h
  rw [flat_intsR] at hl
  exact ⟨l, hl, hok, hlm, hv⟩
theorem cells_tmR : Tryz.prog.cellsOf 2 = 1 := by kernel_rfl
theorem cells_rcR : Tryz.prog.cellsOf 150 = 3 := by kernel_rfl
theorem cells_rcsR : Tryz.prog.cellsOf 34 = 1 := by kernel_rfl
instance : Inhabited RcV := ⟨⟨⟨0, [], []⟩, .slice none 0 0, .slice none 0 0⟩⟩
set_option maxHeartbeats 1000000 in
theorem open_rec {cs : List Value} (hcs : cs.length = 3) (h : DataW.trod enc Tryz.prog w base spare held fuel 150 cs = some y) : ∃ x : RcV, cs = recCells x ∧ bytesRd w x.kv x.r.key ∧ bytesRd w x.vv x.r.val := by
  match cs, hcs with
  | [c0, c1, c2], _ =>
    obtain ⟨xs, m, _, _, _, hlen, hg⟩ := DataW.trod_struct Tryz.underlying150 h
    match xs, hlen with
    | [y0, y1, y2], _ =>
      have g0 := hg 0 { name := "Time", type := 2, offset := 0, embedded := false, tag := "", pkgPath := "", byteOffset := 0 } rfl
      have g1 := hg 1 { name := "Key", type := 39, offset := 1, embedded := false, tag := "", pkgPath := "", byteOffset := 8 } rfl
      have g2 := hg 2 { name := "Value", type := 39, offset := 2, embedded := false, tag := "", pkgPath := "", byteOffset := 32 } rfl
      simp only [cells_tmR, cells_sl1R, List.drop_zero, List.take_succ_cons, List.take_zero, List.drop_succ_cons, List.getElem?_cons_zero, List.getElem?_cons_succ] at g0 g1 g2
      obtain ⟨k, hk, _, _⟩ := DataW.trod_int Tryz.underlying2 g0
      obtain ⟨ks, hks⟩ := open_bytesR g1
      obtain ⟨vs, hvs⟩ := open_bytesR g2
      simp only [List.cons.injEq, and_true] at hk
      exact ⟨⟨⟨k, ks, vs⟩, c1, c2⟩, by rw [hk]; rfl, hks, hvs⟩
theorem open_recs (h : DataW.trod enc Tryz.prog w base spare held fuel 34 [v] = some y) : ∃ l : List Rc, RecsAt w v l ∧ l.length ≤ 9223372036854775807 ∧ ∃ oa c, v = .slice oa l.length c := by
  obtain ⟨l, hl, hok, hlm, oa, c, hv⟩ := open_rowR 3 cells_rcR (by omega) Tryz.underlying34 recCells (fun _ => rfl) (fun x => bytesRd w x.kv x.r.key ∧ bytesRd w x.vv x.r.val) (fun n cs y hcs hy => open_rec hcs hy) h
  exact ⟨l.map (·.r), ⟨l, rfl, hl, hok⟩, by rw [List.length_map]; exact hlm, oa, c, by rw [List.length_map]; exact hv⟩

theorem cells_stpR : Tryz.prog.cellsOf 41 = 9 := by kernel_rfl
theorem cells_fatR : Tryz.prog.cellsOf 37 = 1 := by kernel_rfl
theorem cells_strR2 : Tryz.prog.cellsOf 9 = 1 := by kernel_rfl
instance : Inhabited StpV := ⟨⟨0, 0, 0, 0, .slice none 0 0, [], .slice none 0 0, .slice none 0 0, ⟨#[]⟩, .slice none 0 0, 0, 0, 0⟩⟩
/-- a slice's own shape -/
theorem open_slN {t e : TypeId} (ht : Tryz.prog.underlying t = some (.slice e)) (h : DataW.trod enc Tryz.prog w base spare held fuel t [v] = some y) : ∃ oa n c, v = .slice oa n c ∧ n ≤ 9223372036854775807 := by
  rcases Deep.open_slice ht h with ⟨hc, _⟩ | ⟨a, len, cap, m, k, D, Pl, hc, _, hl, hm, hmm, hx, hall⟩
  · simp only [List.cons.injEq, and_true] at hc
    exact ⟨none, 0, 0, hc, by omega⟩
  · simp only [List.cons.injEq, and_true] at hc
    have hlm : len ≤ m := by rw [hmm]; split <;> omega
    exact ⟨some a, len, cap, hc, by unfold maxLen at hm; omega⟩
set_option maxHeartbeats 1000000 in
theorem open_step {cs : List Value} (hcs : cs.length = 9) (h : DataW.trod enc Tryz.prog w base spare held fuel 41 cs = some y) : ∃ x : StpV, cs = x.cells ∧ StpOk w x := by
  match cs, hcs with
  | [c0, c1, c2, c3, c4, c5, c6, c7, c8], _ =>
    obtain ⟨xs, m, _, _, _, hlen, hg⟩ := DataW.trod_struct Tryz.underlying41 h
    match xs, hlen with
    | [y0, y1, y2, y3, y4, y5, y6, y7, y8], _ =>
      have g0 := hg 0 { name := "Kind", type := 3, offset := 0, embedded := false, tag := "", pkgPath := "", byteOffset := 0 } rfl
      have g1 := hg 1 { name := "Most", type := 3, offset := 1, embedded := false, tag := "", pkgPath := "", byteOffset := 8 } rfl
      have g2 := hg 2 { name := "From", type := 2, offset := 2, embedded := false, tag := "", pkgPath := "", byteOffset := 16 } rfl
      have g3 := hg 3 { name := "Until", type := 2, offset := 3, embedded := false, tag := "", pkgPath := "", byteOffset := 24 } rfl
      have g4 := hg 4 { name := "Records", type := 34, offset := 4, embedded := false, tag := "", pkgPath := "", byteOffset := 32 } rfl
      have g5 := hg 5 { name := "Fates", type := 37, offset := 5, embedded := false, tag := "", pkgPath := "", byteOffset := 56 } rfl
      have g6 := hg 6 { name := "Picks", type := 38, offset := 6, embedded := false, tag := "", pkgPath := "", byteOffset := 80 } rfl
      have g7 := hg 7 { name := "Name", type := 9, offset := 7, embedded := false, tag := "", pkgPath := "", byteOffset := 104 } rfl
      have g8 := hg 8 { name := "Bytes", type := 39, offset := 8, embedded := false, tag := "", pkgPath := "", byteOffset := 120 } rfl
      simp only [cells_tmR, cells_intR, cells_rcsR, cells_fatR, cells_sl3R, cells_strR2, cells_sl1R, List.drop_zero, List.take_succ_cons, List.take_zero, List.drop_succ_cons, List.getElem?_cons_zero, List.getElem?_cons_succ] at g0 g1 g2 g3 g4 g5 g6 g7 g8
      obtain ⟨a0, e0, _, _⟩ := DataW.trod_int Tryz.underlying3 g0
      obtain ⟨a1, e1, _, _⟩ := DataW.trod_int Tryz.underlying3 g1
      obtain ⟨a2, e2, _, _⟩ := DataW.trod_int Tryz.underlying2 g2
      obtain ⟨a3, e3, _, _⟩ := DataW.trod_int Tryz.underlying2 g3
      obtain ⟨l, hl, hll, o4, k4, e4⟩ := open_recs g4
      obtain ⟨o5, n5, k5, e5, h5⟩ := open_slN Tryz.underlying37 g5
      obtain ⟨o6, n6, k6, e6, h6⟩ := open_slN Tryz.underlying38 g6
      obtain ⟨s7, e7, -, -⟩ := DataW.trod_string Tryz.underlying9 g7
      obtain ⟨o8, n8, k8, e8, h8⟩ := open_slN Tryz.underlying39 g8
      simp only [List.cons.injEq, and_true] at e0 e1 e2 e3 e7
      exact ⟨⟨a0, a1, a2, a3, c4, l, c5, c6, s7, c8, n5, n6, n8⟩, by rw [e0, e1, e2, e3, e7]; rfl, ⟨hl, ⟨o4, k4, e4⟩, ⟨o5, k5, e5⟩, ⟨o6, k6, e6⟩, ⟨o8, k8, e8⟩, ⟨hll, h5, h6, h8⟩⟩⟩
set_option maxRecDepth 100000 in
theorem steps_in (hv : Value.okWide Tryz.prog w rc b1 24 v) (h : DataW.Trod enc Tryz.prog w base spare held 24 v d p) : ∃ (oa : Option Addr) (c : Nat) (L : List StpV), v = .slice oa L.length c ∧ StepsAt w (.slice oa L.length c) L := by
  obtain ⟨ax, n, c, rfl⟩ := okWide_slice Tryz.underlying24 hv
  obtain ⟨fuel, hf⟩ := h
  obtain ⟨l, hl, hok, hlm, oa, c', hv'⟩ := open_rowR 9 cells_stpR (by omega) Tryz.underlying24 StpV.cells (fun _ => rfl) (fun x => StpOk w x) (fun n cs y hcs hy => open_step hcs hy) hf
  rw [hv'] at hl
  exact ⟨oa, c', l, hv', ⟨hl, hok, ⟨oa, c', rfl⟩, hlm⟩⟩
set_option maxRecDepth 100000 in
theorem cfg_arg (hv : Value.okWide Tryz.prog w rc b1 23 v) (h : DataW.Trod enc Tryz.prog w base spare held 23 v d p) : ∃ roll step : Int, v = .agg #[.int .i64 roll, .int .i64 step] ∧ (-9223372036854775808 ≤ roll ∧ roll ≤ 9223372036854775807) := by
  obtain ⟨cs, rfl, hsz⟩ := okWide_struct Tryz.underlying23 hv
  obtain ⟨fuel, hf⟩ := h
  obtain ⟨l⟩ := cs
  rw [cells_cfgN] at hsz
  obtain ⟨roll, step, hc, hr, -⟩ := cfg_in (cs := l) hsz hf
  subst hc
  exact ⟨roll, step, rfl, hr⟩
set_option maxRecDepth 100000 in
theorem int_arg (hv : Value.okWide Tryz.prog w rc b1 3 v) (h : DataW.Trod enc Tryz.prog w base spare held 3 v d p) : ∃ n : Int, v = .int .i64 n ∧ (-9223372036854775808 ≤ n ∧ n ≤ 9223372036854775807) := by
  obtain ⟨n, hn⟩ := okWide_int Tryz.underlying3 hv
  subst hn
  obtain ⟨fuel, hf⟩ := h
  obtain ⟨k, hk, _, hw⟩ := DataW.trod_int Tryz.underlying3 hf
  simp only [Value.cells, List.cons.injEq, and_true, Value.int.injEq, true_and] at hk
  exact ⟨n, rfl, by rw [hk]; exact wf_i64R hw⟩
end
end Go.Proofs.YtlgcoaeddeiegaaGreat
