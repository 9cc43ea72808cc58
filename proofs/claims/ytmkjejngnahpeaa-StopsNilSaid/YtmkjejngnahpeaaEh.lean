/- Disk: a disk that is not there: Same, Crash, File, Names. -/
import Derived.Test.YtmkjejngnahpeaaEg
namespace Go.Proofs.Ytmkjejngnahpeaa
open Go Go.Maps Go.RowKit

set_option maxHeartbeats 400000 in
theorem same_nn {w : World} {pp qq : Option Addr} (h : IsNone w pp) (k : IsNone w qq) : Calls Try.prog 51 #[.pointer pp, .pointer qq] w fun e w' => e = .returned (.bool true) ∧ w' = w := by
  go_enter Try.func51, Try.ntmps51
  go_wp2_with fail
  refine (none_nil h).mono ?_
  rintro e w' ⟨rfl, rfl⟩
  go_wp2_with fail
  refine (none_nil h).mono ?_
  rintro e w' ⟨rfl, rfl⟩
  go_wp2_with fail
  refine (none_nil k).mono ?_
  rintro e w' ⟨rfl, rfl⟩
  go_wp2_with fail
  go_ret
  exact ⟨rfl, rfl⟩
theorem none_at {w : World} {S : Nat → Prop} {q : Nat} {d : Dk} (h : DiskAt w S q d) :
    Calls Try.prog 108 #[.pointer (some ⟨q, 0, none⟩)] w fun e w' => e = .returned (.bool false) ∧ w' = w := by
  obtain ⟨mb, fv, L, h⟩ := h
  exact none_b h
set_option maxHeartbeats 400000 in
theorem same_nd {w : World} {pp : Option Addr} {S : Nat → Prop} {q : Nat} {d : Dk} (h : IsNone w pp) (k : DiskAt w S q d) : Calls Try.prog 51 #[.pointer pp, .pointer (some ⟨q, 0, none⟩)] w fun e w' => e = .returned (.bool false) ∧ w' = w := by
  go_enter Try.func51, Try.ntmps51
  go_wp2_with fail
  refine (none_nil h).mono ?_
  rintro e w' ⟨rfl, rfl⟩
  go_wp2_with fail
  refine (none_nil h).mono ?_
  rintro e w' ⟨rfl, rfl⟩
  go_wp2_with fail
  refine (none_at k).mono ?_
  rintro e w' ⟨rfl, rfl⟩
  go_wp2_with fail
  go_ret
  exact ⟨rfl, rfl⟩
set_option maxHeartbeats 400000 in
theorem same_dn {w : World} {pp : Option Addr} {S : Nat → Prop} {q : Nat} {d : Dk} (h : IsNone w pp) (k : DiskAt w S q d) : Calls Try.prog 51 #[.pointer (some ⟨q, 0, none⟩), .pointer pp] w fun e w' => e = .returned (.bool false) ∧ w' = w := by
  go_enter Try.func51, Try.ntmps51
  go_wp2_with fail
  refine (none_at k).mono ?_
  rintro e w' ⟨rfl, rfl⟩
  go_wp2_with fail
  refine (none_nil h).mono ?_
  rintro e w' ⟨rfl, rfl⟩
  go_wp2_with fail
  refine (none_at k).mono ?_
  rintro e w' ⟨rfl, rfl⟩
  go_wp2_with fail
  go_ret
  exact ⟨rfl, rfl⟩
set_option maxHeartbeats 400000 in
theorem crash_nil {w : World} {pp : Option Addr} (h : IsNone w pp) : Calls Try.prog 40 #[.pointer pp, .agg #[.slice none 0 0]] w fun e w' => e = .returned (.tuple #[.pointer none, .int .i64 1]) ∧ Below w.heap.size w w' := by
  go_enter Try.func40, Try.ntmps40
  go_upto_region 1 with fail
  obtain ⟨w1, hw1⟩ : ∃ w1 : World, w1 = w.alloc (.cells #[.slice none 0 0] 72) := ⟨_, rfl⟩
  have hb1 : Below w.heap.size w w1 := by rw [hw1]; exact (Below.refl _ _).alloc (Nat.le_refl _) _
  rw [← hw1]
  have HB1 := Lib.hid hb1
  have H1 := Lib.hid (h.below hb1)
  clear hw1 hb1 h
  go_wp2_with fail
  refine (none_nil H1.out).mono ?_
  rintro e w' ⟨rfl, rfl⟩
  go_wp2_with fail
  go_ret2
  exact ⟨rfl, HB1.out⟩
set_option maxHeartbeats 400000 in
theorem indexStr_nil (f : Value) (w : World) : Calls Try.prog 164 #[.slice none 0 0, f] w fun e w' => e = .returned (.int .i64 (-1)) ∧ w' = w := by
  go_enter Try.func164, Try.ntmps164
  go_wp2_with fail
  go_loop [8] (fun i => i = .int .i64 0) (fun _ => 0)
  case atStart => rfl
  case round =>
    subst hrel
    go_wp2_with fail
    go_ret
    exact ⟨rfl, rfl⟩
set_option maxHeartbeats 400000 in
theorem deleteStr_nil (f : Value) (w : World) : Calls Try.prog 125 #[.slice none 0 0, f] w fun e w' => e = .returned (.slice none 0 0) ∧ w' = w := by
  go_enter Try.func125, Try.ntmps125
  go_wp2_with fail
  refine (indexStr_nil f _).mono ?_
  rintro e w' ⟨rfl, rfl⟩
  go_wp2_with fail
  go_ret
  exact ⟨rfl, rfl⟩
set_option maxHeartbeats 400000 in
theorem Names_nil {w : World} {pp : Option Addr} (h : IsNone w pp) : Calls Try.prog 52 #[.pointer pp] w fun e w' => e = .returned (.slice none 0 0) ∧ Below w.heap.size w w' := by
  go_enter Try.func52, Try.ntmps52
  go_upto_region 1 with fail
  obtain ⟨w1, hw1⟩ : ∃ w1 : World, w1 = w.alloc (.cells #[.pointer pp] 37) := ⟨_, rfl⟩
  obtain ⟨b, hb⟩ : ∃ b, b = w.heap.size := ⟨_, rfl⟩
  have hc1 : w1.heap[b]? = some (.cells #[.pointer pp] 37 (0, 0)) := by rw [hw1, hb]; exact alloc_cells _ _ _
  have hb1 : Below w.heap.size w w1 := by rw [hw1]; exact (Below.refl _ _).alloc (Nat.le_refl _) _
  rw [← hb, ← hw1]
  have HB1 := Lib.hid hb1
  have H1 := Lib.hid (h.below hb1)
  clear hw1 hb hb1 h
  have c0 : w1.cell? ⟨b, 0, none⟩ = some (.pointer pp) := cell_of hc1 rfl
  go_wp2_with fail
  refine (names_nil H1.out).mono ?_
  rintro e w' ⟨rfl, rfl⟩
  go_wp2_with fail
  refine (deleteStr_nil _ _).mono ?_
  rintro e w' ⟨rfl, rfl⟩
  go_wp2_with fail
  go_ret
  exact ⟨rfl, HB1.out⟩
set_option maxRecDepth 100000 in
set_option maxHeartbeats 1000000 in
theorem file_nil {w : World} {pp : Option Addr} (h : IsNone w pp) (nm : ByteArray) : Calls Try.prog 62 #[.pointer pp, .string nm] w fun e w' => e = .returned (.tuple #[.agg #[.string ⟨#[]⟩, .int .i64 0, .int .i64 0, .bool false, .bool false], .int .i64 1]) ∧ Below w.heap.size w w' := by
  go_enter Try.func62, Try.ntmps62
  go_upto_region 1 with fail
  obtain ⟨w1, hw1⟩ : ∃ w1 : World, w1 = w.alloc (.cells #[.string ⟨#[]⟩, .int .i64 0, .int .i64 0, .bool false, .bool false] 78) := ⟨_, rfl⟩
  obtain ⟨r, hr⟩ : ∃ r, r = w.heap.size := ⟨_, rfl⟩
  have hr1 : w1.heap[r]? = some (.cells #[.string ⟨#[]⟩, .int .i64 0, .int .i64 0, .bool false, .bool false] 78 (0, 0)) := by rw [hw1, hr]; exact alloc_cells _ _ _
  have hb1 : Below w.heap.size w w1 := by rw [hw1]; exact (Below.refl _ _).alloc (Nat.le_refl _) _
  have HB1 : Hid (Below r w w1) := Lib.hid (by rw [hr]; exact hb1)
  have H1 := Lib.hid (h.below hb1)
  rw [← hr, ← hw1]
  have HRR := Lib.hid hr
  clear hw1 hr h hb1
  have r0 : w1.cell? ⟨r, 0, none⟩ = some (.string ⟨#[]⟩) := cell_of hr1 rfl
  have z0 : w1.frozen? ⟨r, 0, none⟩ = false := free_of hr1 _
  have r1 : w1.cell? ⟨r, 1, none⟩ = some (.int .i64 0) := cell_of hr1 rfl
  have z1 : w1.frozen? ⟨r, 1, none⟩ = false := free_of hr1 _
  have r2 : w1.cell? ⟨r, 2, none⟩ = some (.int .i64 0) := cell_of hr1 rfl
  have z2 : w1.frozen? ⟨r, 2, none⟩ = false := free_of hr1 _
  have r3 : w1.cell? ⟨r, 3, none⟩ = some (.bool false) := cell_of hr1 rfl
  have z3 : w1.frozen? ⟨r, 3, none⟩ = false := free_of hr1 _
  have r4 : w1.cell? ⟨r, 4, none⟩ = some (.bool false) := cell_of hr1 rfl
  have z4 : w1.frozen? ⟨r, 4, none⟩ = false := free_of hr1 _
  have HR1 := Lib.hid hr1
  clear hr1
  go_wp2_with fail
  refine (asked_nil H1.out nm).mono ?_
  rintro e w' ⟨rfl, rfl⟩
  go_wp2_with fail
  obtain ⟨w2, hw2⟩ : ∃ w2 : World, w2 = (((((w'.setCell ⟨r, 0, none⟩ (.string ⟨#[]⟩)).setCell ⟨r, 1, none⟩ (.int .i64 0)).setCell ⟨r, 2, none⟩ (.int .i64 0)).setCell ⟨r, 3, none⟩ (.bool false)).setCell ⟨r, 4, none⟩ (.bool false)) := ⟨_, rfl⟩
  have hr2 : w2.heap[r]? = some (.cells #[.string ⟨#[]⟩, .int .i64 0, .int .i64 0, .bool false, .bool false] 78 (0, 0)) := by
    rw [hw2]; exact heap_setCell_here _ (heap_setCell_here _ (heap_setCell_here _ (heap_setCell_here _ (heap_setCell_here _ HR1.out))))
  have hb2 : Below r w w2 := by
    rw [hw2]
    exact (((((HB1.out.setCell (p := ⟨r, 0, none⟩) (Nat.le_refl _) _).setCell (p := ⟨r, 1, none⟩) (Nat.le_refl _) _).setCell (p := ⟨r, 2, none⟩) (Nat.le_refl _) _).setCell (p := ⟨r, 3, none⟩) (Nat.le_refl _) _).setCell (p := ⟨r, 4, none⟩) (Nat.le_refl _) _)
  rw [← hw2]
  have s0 : w2.cell? ⟨r, 0, none⟩ = some (.string ⟨#[]⟩) := cell_of hr2 rfl
  have s1 : w2.cell? ⟨r, 1, none⟩ = some (.int .i64 0) := cell_of hr2 rfl
  have s2 : w2.cell? ⟨r, 2, none⟩ = some (.int .i64 0) := cell_of hr2 rfl
  have s3 : w2.cell? ⟨r, 3, none⟩ = some (.bool false) := cell_of hr2 rfl
  have s4 : w2.cell? ⟨r, 4, none⟩ = some (.bool false) := cell_of hr2 rfl
  refine bodyPost_ret (v := .tuple #[.agg #[.string ⟨#[]⟩, .int .i64 0, .int .i64 0, .bool false, .bool false], .int .i64 1]) (by simp [results, Try.results62, go_sem, s0, s1, s2, s3, s4]) rfl ⟨rfl, ?_⟩
  rw [← HRR.out]
  exact hb2
end Go.Proofs.Ytmkjejngnahpeaa
