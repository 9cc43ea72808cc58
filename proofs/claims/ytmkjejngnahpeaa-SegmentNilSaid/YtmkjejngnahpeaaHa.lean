/- Segment: a segment that is not there. -/
import Derived.Test.YtmkjejngnahpeaaSegF
import Derived.Test.YtmkjejngnahpeaaDt
import Derived.Test.YtmkjejngnahpeaaKitd
import Derived.RangeFuncLeaves
import Derived.RangeFuncFrom
import Derived.Shelf.Abstract
import Derived.Shelf.RegionOpen
import Derived.OwnWalkIn
import Derived.TacticsInMore
import Derived.LoopNIn
import Derived.LoopIn
namespace Go.Proofs.Ytmkjejngnahpeaa
open Go Go.Maps Go.RowKit Go.Shelf
attribute [local go_sem] Oper.semAt_some

/-- there is no segment: a nil pointer, or one without a disk -/
def NoSeg (w : World) (pp : Option Addr) : Prop := pp = none ∨ ∃ b, pp = some ⟨b, 0, none⟩ ∧ w.cell? ⟨b, 4, none⟩ = some (.pointer none)
theorem NoSeg.below {w w' : World} {pp : Option Addr} (h : NoSeg w pp) (hb : Below w.heap.size w w') : NoSeg w' pp := by
  rcases h with h | ⟨b, h, hc⟩
  · exact .inl h
  · exact .inr ⟨b, h, (hb.cell (p := ⟨b, 4, none⟩) (World.block_lt_of_cell? w _ hc)).trans hc⟩
set_option maxHeartbeats 400000 in
theorem noneS_b {w : World} {pp : Option Addr} (h : NoSeg w pp) : Calls Try.prog 92 #[.pointer pp] w fun e w' => e = .returned (.bool true) ∧ w' = w := by
  rcases h with rfl | ⟨b, rfl, hc⟩
  · go_enter Try.func92, Try.ntmps92
    go_wp2_with fail
    go_ret
    exact ⟨rfl, rfl⟩
  · go_enter Try.func92, Try.ntmps92
    go_wp2_with fail
    go_ret
    exact ⟨rfl, rfl⟩
theorem al3 (w : World) (o o' o'' : Obj) : Below w.heap.size w (((w.alloc o).alloc o').alloc o'') := (((Below.refl _ _).alloc (Nat.le_refl _) _).alloc (by simp) _).alloc (by simp; omega) _
set_option maxHeartbeats 400000 in
theorem readS_nil {w : World} {pp : Option Addr} (h : NoSeg w pp) (a b c : Int) : Calls Try.prog 30 #[.pointer pp, .int .i64 a, .int .i64 b, .int .i64 c] w fun e w' => e = .returned (.tuple #[.slice none 0 0, .int .i64 1]) ∧ Below w.heap.size w w' := by
  go_enter Try.func30, Try.ntmps30
  go_wp2_with fail
  refine wp_scope_labels (fun _ _ _ => False) (fun _ _ _ => 0) ?_ (fun _ _ _ h => h.elim)
  go_wp2_with (go_at_call 92; refine (noneS_b (by first | exact h | exact h.below (al3 _ _ _ _))).mono ?_; rintro e w' ⟨rfl, rfl⟩)
  simp only [Exit.jumps]
  go_step
  go_ret2
  exact ⟨rfl, al3 _ _ _ _⟩
set_option maxHeartbeats 400000 in
theorem appendS_nil {w : World} {pp : Option Addr} (h : NoSeg w pp) (b : Int) (oa : Option Addr) (n c : Nat) : Calls Try.prog 25 #[.pointer pp, .agg #[.int .i64 b, .slice oa n c]] w fun e w' => e = .returned (.int .i64 1) ∧ Below w.heap.size w w' := by
  go_enter Try.func25, Try.ntmps25
  go_wp2_with (go_at_call 92; refine (noneS_b (by first | exact h | exact h.below ((Below.refl _ _).alloc (Nat.le_refl _) _))).mono ?_; rintro e w' ⟨rfl, rfl⟩)
  go_ret
  exact ⟨rfl, by first | exact Below.refl _ _ | exact (Below.refl _ _).alloc (Nat.le_refl _) _⟩
set_option maxHeartbeats 400000 in
theorem syncS_nil {w : World} {pp : Option Addr} (h : NoSeg w pp) : Calls Try.prog 105 #[.pointer pp] w fun e w' => e = .returned (.int .i64 1) ∧ w' = w := by
  go_enter Try.func105, Try.ntmps105
  go_wp2_with (go_at_call 92; refine (noneS_b h).mono ?_; rintro e w' ⟨rfl, rfl⟩)
  go_ret
  exact ⟨rfl, rfl⟩
set_option maxHeartbeats 400000 in
theorem baseS_nil {w : World} {pp : Option Addr} (h : NoSeg w pp) : Calls Try.prog 28 #[.pointer pp] w fun e w' => e = .returned (.int .i64 0) ∧ w' = w := by
  go_enter Try.func28, Try.ntmps28
  go_wp2_with (go_at_call 92; refine (noneS_b h).mono ?_; rintro e w' ⟨rfl, rfl⟩)
  go_ret
  exact ⟨rfl, rfl⟩
set_option maxHeartbeats 400000 in
theorem endS_nil {w : World} {pp : Option Addr} (h : NoSeg w pp) : Calls Try.prog 26 #[.pointer pp] w fun e w' => e = .returned (.int .i64 0) ∧ w' = w := by
  go_enter Try.func26, Try.ntmps26
  go_wp2_with (go_at_call 92; refine (noneS_b h).mono ?_; rintro e w' ⟨rfl, rfl⟩)
  go_ret
  exact ⟨rfl, rfl⟩
set_option maxHeartbeats 400000 in
theorem sizeS_nil {w : World} {pp : Option Addr} (h : NoSeg w pp) : Calls Try.prog 106 #[.pointer pp] w fun e w' => e = .returned (.int .i64 0) ∧ w' = w := by
  go_enter Try.func106, Try.ntmps106
  go_wp2_with (go_at_call 92; refine (noneS_b h).mono ?_; rintro e w' ⟨rfl, rfl⟩)
  go_ret
  exact ⟨rfl, rfl⟩
set_option maxHeartbeats 400000 in
theorem spotsS_nil {w : World} {pp : Option Addr} (h : NoSeg w pp) : Calls Try.prog 107 #[.pointer pp] w fun e w' => e = .returned (.slice none 0 0) ∧ w' = w := by
  go_enter Try.func107, Try.ntmps107
  go_wp2_with (go_at_call 92; refine (noneS_b h).mono ?_; rintro e w' ⟨rfl, rfl⟩)
  go_ret
  exact ⟨rfl, rfl⟩
set_option maxHeartbeats 400000 in
theorem batchesS_nil {w : World} {pp : Option Addr} (h : NoSeg w pp) : Calls Try.prog 27 #[.pointer pp] w fun e w' => e = .returned (.func (.func 95) #[] #[]) ∧ w' = w := by
  go_enter Try.func27, Try.ntmps27
  go_wp2_with (go_at_call 92; refine (noneS_b h).mono ?_; rintro e w' ⟨rfl, rfl⟩)
  go_ret
  exact ⟨rfl, rfl⟩
/-- no batch comes of it -/
theorem batches1_stops (F : Fence) (n : Nat) (h7 : F.fn 95) (hro : F.round = none) (n₀ : Nat) (w : World) :
    SeqStopsK F n Try.prog 95 #[] (fun _ : Unit => #[undef, undef]) (Below n₀) (fun ys => ys = []) (fun _ => False) 0 w := fun l J _ W hW _ _ _ h0 => by
  refine (callsIn_of_wp (R := fun e W' => (∃ v, e = .returned v) ∧ J [] W') Try.func95 rfl h7 ?_ hro).mono fun _ _ ⟨he, hj⟩ => ⟨he, .inl ⟨_, rfl, hj⟩⟩
  simp only [Try.ntmps95, List.size_toArray, List.length_cons, List.length_nil, Nat.reduceAdd, Nat.reduceSub, Array.replicate_succ, Array.replicate_zero, List.push_toArray, List.append_toArray, List.nil_append, List.cons_append]
  gi_wp2
  go_end0
  exact ⟨⟨_, rfl⟩, h0⟩
def foundZ : Value := .agg #[.int .i64 0, .int .i64 0, .int .i64 0, .int .i64 0]
end Go.Proofs.Ytmkjejngnahpeaa
