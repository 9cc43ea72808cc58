/- Disk: New, without fates. -/
import Derived.Test.YtmkjejngnahpeaaDz
namespace Go.Proofs.Ytmkjejngnahpeaa
open Go Go.Maps Go.RowKit

set_option maxHeartbeats 400000 in
theorem indexFate_nil (f : Value) (w : World) : Calls Try.prog 168 #[.slice none 0 0, f] w fun e w' => e = .returned (.int .i64 (-1)) ∧ w' = w := by
  go_enter Try.func168, Try.ntmps168
  go_wp2_with fail
  go_loop [8] (fun i => i = .int .i64 0) (fun _ => 0)
  case atStart => rfl
  case round =>
    subst hrel
    go_wp2_with fail
    go_ret
    exact ⟨rfl, rfl⟩
set_option maxHeartbeats 400000 in
theorem containsFate_nil (f : Value) (w : World) : Calls Try.prog 143 #[.slice none 0 0, f] w fun e w' => e = .returned (.bool false) ∧ w' = w := by
  go_enter Try.func143, Try.ntmps143
  go_wp2_with fail
  refine (indexFate_nil f _).mono ?_
  rintro e w' ⟨rfl, rfl⟩
  go_wp2_with fail
  go_ret
  exact ⟨rfl, rfl⟩
set_option maxHeartbeats 400000 in
theorem right_nil (w : World) : Calls Try.prog 89 #[.slice none 0 0] w fun e w' => e = .returned (.bool true) ∧ w' = w := by
  go_enter Try.func89, Try.ntmps89
  go_wp2_with fail
  refine (containsFate_nil _ _).mono ?_
  rintro e w' ⟨rfl, rfl⟩
  go_wp2_with fail
  go_ret
  exact ⟨rfl, rfl⟩
set_option maxHeartbeats 400000 in
theorem cloneFate_nil (w : World) : Calls Try.prog 90 #[.slice none 0 0] w fun e w' => e = .returned (.slice none 0 0) ∧ w' = w := by
  have hnil : ∀ W : World, (binOp .eql 65 (.slice none 0 0) (.slice none 0 0)).run Try.prog W = .ok (.bool true) W := fun W => by kernel_rfl
  go_enter Try.func90, Try.ntmps90
  go_wp2_with fail
  go_ret
  exact ⟨rfl, rfl⟩
def Dk.new : Dk := ⟨[], [], 0⟩
theorem disk_new (w : World) : DiskIs ((w.alloc (.map #[] 0)).alloc (.cells #[.map (some w.heap.size), .slice none 0 0, .int .i64 0] 122)) (fun k => w.heap.size ≤ k ∧ k < w.heap.size + 2) (w.heap.size + 1) w.heap.size (.slice none 0 0) [] Dk.new where
  files := rfl
  head := by
    have := alloc_cells (w.alloc (.map #[] 0)) #[.map (some w.heap.size), .slice none 0 0, .int .i64 0] 122
    rw [World.size_alloc] at this
    exact this
  fates := ⟨by simp [fateCells, Dk.new], .inl ⟨rfl, rfl⟩⟩
  map := ⟨_, (World.ownsMap_made w Try.prog 9 ptrElem).alloc _, Dic.empty⟩
  each := fun x hx => (by cases hx)
  apart := by simp [diskBlocks, Value.ownBlock]
  foot := fun k hk => by
    simp [diskBlocks, Value.ownBlock] at hk
    omega
  low := fun k hk => by simp; omega
  sorted := by simp [Dk.new]
  names := fun f hf => by simp [Dk.new] at hf
  few := by simp [Dk.new]
set_option maxHeartbeats 400000 in
theorem new_b (w : World) : Calls Try.prog 23 #[.slice none 0 0] w fun e w' => ∃ q, e = .returned (.tuple #[.pointer (some ⟨q, 0, none⟩), .int .i64 0]) ∧ DiskAt w' (fun k => w.heap.size ≤ k ∧ k < w'.heap.size) q Dk.new ∧ Below w.heap.size w w' := by
  have hmm := @run_makeMap Try.prog
  go_enter Try.func23, Try.ntmps23
  go_wp2_with fail
  refine (right_nil _).mono ?_
  rintro e w' ⟨rfl, rfl⟩
  go_wp2_with fail
  refine (cloneFate_nil _).mono ?_
  rintro e w1 ⟨rfl, rfl⟩
  go_wp2_with fail
  go_ret2
  refine ⟨_, rfl, ⟨_, _, _, (disk_new w').wider (fun k hk => ⟨hk.1, by simp; omega⟩) (fun k hk => hk.2)⟩, ((Below.refl _ _).alloc (Nat.le_refl _) _).alloc (by simp) _⟩
end Go.Proofs.Ytmkjejngnahpeaa
