/- The texts Eg, Eh, Ei in one. -/
import Derived.Test.YtmkjejngnahpeaaD2
import Derived.RangeFuncNested
import Derived.RangeFuncBound
import Derived.RangeFuncCalls
import Derived.RangeFuncLeaves
import Derived.RangeFuncFrom
import Derived.Shelf.Abstract
import Derived.Shelf.RegionOpen
import Derived.OwnWalkIn
import Derived.TacticsInMore
import Derived.LoopNIn
import Derived.LoopIn
/- Disk: a disk that is not there. -/
namespace Go.Proofs.Ytmkjejngnahpeaa
open Go Go.Maps Go.RowKit

/-- there is no disk: a nil pointer, or a disk without a map -/
def IsNone (w : World) (pp : Option Addr) : Prop := pp = none ∨ ∃ q, pp = some ⟨q, 0, none⟩ ∧ w.cell? ⟨q, 0, none⟩ = some (.map none)
theorem IsNone.below {w w' : World} {pp : Option Addr} (h : IsNone w pp) (hb : Below w.heap.size w w') : IsNone w' pp := by
  rcases h with h | ⟨q, h, hc⟩
  · exact .inl h
  · exact .inr ⟨q, h, (hb.cell (p := ⟨q, 0, none⟩) (World.block_lt_of_cell? w _ hc)).trans hc⟩
theorem map_nil_eq (W : World) : (binOp .eql 120 (.map none) (.map none)).run Try.prog W = .ok (.bool true) W := by kernel_rfl
set_option maxHeartbeats 400000 in
theorem none_nil {w : World} {pp : Option Addr} (h : IsNone w pp) : Calls Try.prog 108 #[.pointer pp] w fun e w' => e = .returned (.bool true) ∧ w' = w := by
  have hm := map_nil_eq
  rcases h with rfl | ⟨q, rfl, c0⟩
  · go_enter Try.func108, Try.ntmps108
    go_wp2_with fail
    go_ret
    exact ⟨rfl, rfl⟩
  · go_enter Try.func108, Try.ntmps108
    go_wp2_with fail
    go_ret
    exact ⟨rfl, rfl⟩
set_option maxHeartbeats 400000 in
theorem asked_nil {w : World} {pp : Option Addr} (h : IsNone w pp) (nm : ByteArray) : Calls Try.prog 118 #[.pointer pp, .string nm] w fun e w' => e = .returned (.int .i64 1) ∧ w' = w := by
  go_enter Try.func118, Try.ntmps118
  go_wp2_with fail
  refine (none_nil h).mono ?_
  rintro e w' ⟨rfl, rfl⟩
  go_wp2_with fail
  go_ret
  exact ⟨rfl, rfl⟩
set_option maxHeartbeats 400000 in
theorem find_nil {w : World} {pp : Option Addr} (h : IsNone w pp) (nm : ByteArray) : Calls Try.prog 116 #[.pointer pp, .string nm] w fun e w' => e = .returned (.tuple #[.pointer none, .int .i64 1]) ∧ w' = w := by
  go_enter Try.func116, Try.ntmps116
  go_wp2_with fail
  refine (asked_nil h nm).mono ?_
  rintro e w' ⟨rfl, rfl⟩
  go_wp2_with fail
  go_ret2
  exact ⟨rfl, rfl⟩
set_option maxHeartbeats 400000 in
theorem create_nil {w : World} {pp : Option Addr} (h : IsNone w pp) (nm : ByteArray) : Calls Try.prog 45 #[.pointer pp, .string nm] w fun e w' => e = .returned (.int .i64 1) ∧ w' = w := by
  go_enter Try.func45, Try.ntmps45
  go_wp2_with fail
  refine (asked_nil h nm).mono ?_
  rintro e w' ⟨rfl, rfl⟩
  go_wp2_with fail
  go_ret
  exact ⟨rfl, rfl⟩
set_option maxHeartbeats 400000 in
theorem append_nil {w : World} {pp : Option Addr} (h : IsNone w pp) (nm : ByteArray) (b : Value) : Calls Try.prog 46 #[.pointer pp, .string nm, b] w fun e w' => e = .returned (.int .i64 1) ∧ w' = w := by
  go_enter Try.func46, Try.ntmps46
  go_wp2_with fail
  refine (find_nil h nm).mono ?_
  rintro e w' ⟨rfl, rfl⟩
  go_wp2_with fail
  go_ret
  exact ⟨rfl, rfl⟩
set_option maxHeartbeats 400000 in
theorem sync_nil {w : World} {pp : Option Addr} (h : IsNone w pp) (nm : ByteArray) : Calls Try.prog 47 #[.pointer pp, .string nm] w fun e w' => e = .returned (.int .i64 1) ∧ w' = w := by
  go_enter Try.func47, Try.ntmps47
  go_wp2_with fail
  refine (find_nil h nm).mono ?_
  rintro e w' ⟨rfl, rfl⟩
  go_wp2_with fail
  go_ret
  exact ⟨rfl, rfl⟩
set_option maxHeartbeats 400000 in
theorem cut_nil {w : World} {pp : Option Addr} (h : IsNone w pp) (nm : ByteArray) (b : Value) : Calls Try.prog 49 #[.pointer pp, .string nm, b] w fun e w' => e = .returned (.int .i64 1) ∧ w' = w := by
  go_enter Try.func49, Try.ntmps49
  go_wp2_with fail
  refine (find_nil h nm).mono ?_
  rintro e w' ⟨rfl, rfl⟩
  go_wp2_with fail
  go_ret
  exact ⟨rfl, rfl⟩
set_option maxHeartbeats 400000 in
theorem remove_nil {w : World} {pp : Option Addr} (h : IsNone w pp) (nm : ByteArray) : Calls Try.prog 50 #[.pointer pp, .string nm] w fun e w' => e = .returned (.int .i64 1) ∧ w' = w := by
  go_enter Try.func50, Try.ntmps50
  go_wp2_with fail
  refine (find_nil h nm).mono ?_
  rintro e w' ⟨rfl, rfl⟩
  go_wp2_with fail
  go_ret
  exact ⟨rfl, rfl⟩
set_option maxHeartbeats 400000 in
theorem syncdir_nil {w : World} {pp : Option Addr} (h : IsNone w pp) : Calls Try.prog 48 #[.pointer pp] w fun e w' => e = .returned (.int .i64 1) ∧ w' = w := by
  go_enter Try.func48, Try.ntmps48
  go_wp2_with fail
  refine (none_nil h).mono ?_
  rintro e w' ⟨rfl, rfl⟩
  go_wp2_with fail
  go_ret
  exact ⟨rfl, rfl⟩
set_option maxHeartbeats 400000 in
theorem feed_nil {w : World} {pp : Option Addr} (h : IsNone w pp) (b : Value) : Calls Try.prog 64 #[.pointer pp, b] w fun e w' => e = .returned (.int .i64 1) ∧ w' = w := by
  go_enter Try.func64, Try.ntmps64
  go_wp2_with fail
  refine (none_nil h).mono ?_
  rintro e w' ⟨rfl, rfl⟩
  go_wp2_with fail
  go_ret
  exact ⟨rfl, rfl⟩
set_option maxHeartbeats 400000 in
theorem read_nil {w : World} {pp : Option Addr} (h : IsNone w pp) (nm : ByteArray) (a n : Value) : Calls Try.prog 42 #[.pointer pp, .string nm, a, n] w fun e w' => e = .returned (.tuple #[.slice none 0 0, .int .i64 1]) ∧ w' = w := by
  go_enter Try.func42, Try.ntmps42
  go_wp2_with fail
  refine (find_nil h nm).mono ?_
  rintro e w' ⟨rfl, rfl⟩
  go_wp2_with fail
  go_ret2
  exact ⟨rfl, rfl⟩
set_option maxHeartbeats 400000 in
theorem steps_nil {w : World} {pp : Option Addr} (h : IsNone w pp) : Calls Try.prog 44 #[.pointer pp] w fun e w' => e = .returned (.tuple #[.int .i64 0, .int .i64 0]) ∧ w' = w := by
  go_enter Try.func44, Try.ntmps44
  go_wp2_with fail
  refine (none_nil h).mono ?_
  rintro e w' ⟨rfl, rfl⟩
  go_wp2_with fail
  go_ret2
  exact ⟨rfl, rfl⟩
set_option maxHeartbeats 400000 in
theorem names_nil {w : World} {pp : Option Addr} (h : IsNone w pp) : Calls Try.prog 112 #[.pointer pp] w fun e w' => e = .returned (.slice none 0 0) ∧ w' = w := by
  go_enter Try.func112, Try.ntmps112
  go_wp2_with fail
  refine (none_nil h).mono ?_
  rintro e w' ⟨rfl, rfl⟩
  go_wp2_with fail
  go_ret
  exact ⟨rfl, rfl⟩
set_option maxHeartbeats 400000 in
theorem copy_nil {w : World} {pp : Option Addr} (h : IsNone w pp) : Calls Try.prog 43 #[.pointer pp] w fun e w' => e = .returned (.pointer none) ∧ w' = w := by
  go_enter Try.func43, Try.ntmps43
  go_wp2_with fail
  refine (none_nil h).mono ?_
  rintro e w' ⟨rfl, rfl⟩
  go_wp2_with fail
  go_ret
  exact ⟨rfl, rfl⟩
end Go.Proofs.Ytmkjejngnahpeaa
/- Disk: a disk that is not there: Same, Crash, File, Names. -/
namespace Go.Proofs.Ytmkjejngnahpeaa
open Go Go.Maps Go.RowKit

set_option maxHeartbeats 400000 in
theorem same_nn {w : World} {pp qq : Option Addr} (h : IsNone w pp) (k : IsNone w qq) : Calls Try.prog 51 #[.pointer pp, .pointer qq] w fun e w' => e = .returned (.bool true) ∧ w' = w := by
  go_enter Try.func51, Try.ntmps51
  go_wp2_with fail
  refine (none_nil h).mono ?_
  rintro e w' ⟨rfl, rfl⟩
  go_wp2_with fail
  refine (none_nil h).mono ?_
  rintro e w' ⟨rfl, rfl⟩
  go_wp2_with fail
  refine (none_nil k).mono ?_
  rintro e w' ⟨rfl, rfl⟩
  go_wp2_with fail
  go_ret
  exact ⟨rfl, rfl⟩
theorem none_at {w : World} {S : Nat → Prop} {q : Nat} {d : Dk} (h : DiskAt w S q d) :
    Calls Try.prog 108 #[.pointer (some ⟨q, 0, none⟩)] w fun e w' => e = .returned (.bool false) ∧ w' = w := by
  obtain ⟨mb, fv, L, h⟩ := h
  exact none_b h
set_option maxHeartbeats 400000 in
theorem same_nd {w : World} {pp : Option Addr} {S : Nat → Prop} {q : Nat} {d : Dk} (h : IsNone w pp) (k : DiskAt w S q d) : Calls Try.prog 51 #[.pointer pp, .pointer (some ⟨q, 0, none⟩)] w fun e w' => e = .returned (.bool false) ∧ w' = w := by
  go_enter Try.func51, Try.ntmps51
  go_wp2_with fail
  refine (none_nil h).mono ?_
  rintro e w' ⟨rfl, rfl⟩
  go_wp2_with fail
  refine (none_nil h).mono ?_
  rintro e w' ⟨rfl, rfl⟩
  go_wp2_with fail
  refine (none_at k).mono ?_
  rintro e w' ⟨rfl, rfl⟩
  go_wp2_with fail
  go_ret
  exact ⟨rfl, rfl⟩
set_option maxHeartbeats 400000 in
theorem same_dn {w : World} {pp : Option Addr} {S : Nat → Prop} {q : Nat} {d : Dk} (h : IsNone w pp) (k : DiskAt w S q d) : Calls Try.prog 51 #[.pointer (some ⟨q, 0, none⟩), .pointer pp] w fun e w' => e = .returned (.bool false) ∧ w' = w := by
  go_enter Try.func51, Try.ntmps51
  go_wp2_with fail
  refine (none_at k).mono ?_
  rintro e w' ⟨rfl, rfl⟩
  go_wp2_with fail
  refine (none_nil h).mono ?_
  rintro e w' ⟨rfl, rfl⟩
  go_wp2_with fail
  refine (none_at k).mono ?_
  rintro e w' ⟨rfl, rfl⟩
  go_wp2_with fail
  go_ret
  exact ⟨rfl, rfl⟩
set_option maxHeartbeats 400000 in
theorem crash_nil {w : World} {pp : Option Addr} (h : IsNone w pp) : Calls Try.prog 40 #[.pointer pp, .agg #[.slice none 0 0]] w fun e w' => e = .returned (.tuple #[.pointer none, .int .i64 1]) ∧ Below w.heap.size w w' := by
  go_enter Try.func40, Try.ntmps40
  go_upto_region 1 with fail
  obtain ⟨w1, hw1⟩ : ∃ w1 : World, w1 = w.alloc (.cells #[.slice none 0 0] 72) := ⟨_, rfl⟩
  have hb1 : Below w.heap.size w w1 := by rw [hw1]; exact (Below.refl _ _).alloc (Nat.le_refl _) _
  rw [← hw1]
  have HB1 := Lib.hid hb1
  have H1 := Lib.hid (h.below hb1)
  clear hw1 hb1 h
  go_wp2_with fail
  refine (none_nil H1.out).mono ?_
  rintro e w' ⟨rfl, rfl⟩
  go_wp2_with fail
  go_ret2
  exact ⟨rfl, HB1.out⟩
set_option maxHeartbeats 400000 in
theorem indexStr_nil (f : Value) (w : World) : Calls Try.prog 164 #[.slice none 0 0, f] w fun e w' => e = .returned (.int .i64 (-1)) ∧ w' = w := by
  go_enter Try.func164, Try.ntmps164
  go_wp2_with fail
  go_loop [8] (fun i => i = .int .i64 0) (fun _ => 0)
  case atStart => rfl
  case round =>
    subst hrel
    go_wp2_with fail
    go_ret
    exact ⟨rfl, rfl⟩
set_option maxHeartbeats 400000 in
theorem deleteStr_nil (f : Value) (w : World) : Calls Try.prog 125 #[.slice none 0 0, f] w fun e w' => e = .returned (.slice none 0 0) ∧ w' = w := by
  go_enter Try.func125, Try.ntmps125
  go_wp2_with fail
  refine (indexStr_nil f _).mono ?_
  rintro e w' ⟨rfl, rfl⟩
  go_wp2_with fail
  go_ret
  exact ⟨rfl, rfl⟩
set_option maxHeartbeats 400000 in
theorem Names_nil {w : World} {pp : Option Addr} (h : IsNone w pp) : Calls Try.prog 52 #[.pointer pp] w fun e w' => e = .returned (.slice none 0 0) ∧ Below w.heap.size w w' := by
  go_enter Try.func52, Try.ntmps52
  go_upto_region 1 with fail
  obtain ⟨w1, hw1⟩ : ∃ w1 : World, w1 = w.alloc (.cells #[.pointer pp] 37) := ⟨_, rfl⟩
  obtain ⟨b, hb⟩ : ∃ b, b = w.heap.size := ⟨_, rfl⟩
  have hc1 : w1.heap[b]? = some (.cells #[.pointer pp] 37 (0, 0)) := by rw [hw1, hb]; exact alloc_cells _ _ _
  have hb1 : Below w.heap.size w w1 := by rw [hw1]; exact (Below.refl _ _).alloc (Nat.le_refl _) _
  rw [← hb, ← hw1]
  have HB1 := Lib.hid hb1
  have H1 := Lib.hid (h.below hb1)
  clear hw1 hb hb1 h
  have c0 : w1.cell? ⟨b, 0, none⟩ = some (.pointer pp) := cell_of hc1 rfl
  go_wp2_with fail
  refine (names_nil H1.out).mono ?_
  rintro e w' ⟨rfl, rfl⟩
  go_wp2_with fail
  refine (deleteStr_nil _ _).mono ?_
  rintro e w' ⟨rfl, rfl⟩
  go_wp2_with fail
  go_ret
  exact ⟨rfl, HB1.out⟩
set_option maxRecDepth 100000 in
set_option maxHeartbeats 1000000 in
theorem file_nil {w : World} {pp : Option Addr} (h : IsNone w pp) (nm : ByteArray) : Calls Try.prog 62 #[.pointer pp, .string nm] w fun e w' => e = .returned (.tuple #[.agg #[.string ⟨#[]⟩, .int .i64 0, .int .i64 0, .bool false, .bool false], .int .i64 1]) ∧ Below w.heap.size w w' := by
  go_enter Try.func62, Try.ntmps62
  go_upto_region 1 with fail
  obtain ⟨w1, hw1⟩ : ∃ w1 : World, w1 = w.alloc (.cells #[.string ⟨#[]⟩, .int .i64 0, .int .i64 0, .bool false, .bool false] 78) := ⟨_, rfl⟩
  obtain ⟨r, hr⟩ : ∃ r, r = w.heap.size := ⟨_, rfl⟩
  have hr1 : w1.heap[r]? = some (.cells #[.string ⟨#[]⟩, .int .i64 0, .int .i64 0, .bool false, .bool false] 78 (0, 0)) := by rw [hw1, hr]; exact alloc_cells _ _ _
  have hb1 : Below w.heap.size w w1 := by rw [hw1]; exact (Below.refl _ _).alloc (Nat.le_refl _) _
  have HB1 : Hid (Below r w w1) := Lib.hid (by rw [hr]; exact hb1)
  have H1 := Lib.hid (h.below hb1)
  rw [← hr, ← hw1]
  have HRR := Lib.hid hr
  clear hw1 hr h hb1
  have r0 : w1.cell? ⟨r, 0, none⟩ = some (.string ⟨#[]⟩) := cell_of hr1 rfl
  have z0 : w1.frozen? ⟨r, 0, none⟩ = false := free_of hr1 _
  have r1 : w1.cell? ⟨r, 1, none⟩ = some (.int .i64 0) := cell_of hr1 rfl
  have z1 : w1.frozen? ⟨r, 1, none⟩ = false := free_of hr1 _
  have r2 : w1.cell? ⟨r, 2, none⟩ = some (.int .i64 0) := cell_of hr1 rfl
  have z2 : w1.frozen? ⟨r, 2, none⟩ = false := free_of hr1 _
  have r3 : w1.cell? ⟨r, 3, none⟩ = some (.bool false) := cell_of hr1 rfl
  have z3 : w1.frozen? ⟨r, 3, none⟩ = false := free_of hr1 _
  have r4 : w1.cell? ⟨r, 4, none⟩ = some (.bool false) := cell_of hr1 rfl
  have z4 : w1.frozen? ⟨r, 4, none⟩ = false := free_of hr1 _
  have HR1 := Lib.hid hr1
  clear hr1
  go_wp2_with fail
  refine (asked_nil H1.out nm).mono ?_
  rintro e w' ⟨rfl, rfl⟩
  go_wp2_with fail
  obtain ⟨w2, hw2⟩ : ∃ w2 : World, w2 = (((((w'.setCell ⟨r, 0, none⟩ (.string ⟨#[]⟩)).setCell ⟨r, 1, none⟩ (.int .i64 0)).setCell ⟨r, 2, none⟩ (.int .i64 0)).setCell ⟨r, 3, none⟩ (.bool false)).setCell ⟨r, 4, none⟩ (.bool false)) := ⟨_, rfl⟩
  have hr2 : w2.heap[r]? = some (.cells #[.string ⟨#[]⟩, .int .i64 0, .int .i64 0, .bool false, .bool false] 78 (0, 0)) := by
    rw [hw2]; exact heap_setCell_here _ (heap_setCell_here _ (heap_setCell_here _ (heap_setCell_here _ (heap_setCell_here _ HR1.out))))
  have hb2 : Below r w w2 := by
    rw [hw2]
    exact (((((HB1.out.setCell (p := ⟨r, 0, none⟩) (Nat.le_refl _) _).setCell (p := ⟨r, 1, none⟩) (Nat.le_refl _) _).setCell (p := ⟨r, 2, none⟩) (Nat.le_refl _) _).setCell (p := ⟨r, 3, none⟩) (Nat.le_refl _) _).setCell (p := ⟨r, 4, none⟩) (Nat.le_refl _) _)
  rw [← hw2]
  have s0 : w2.cell? ⟨r, 0, none⟩ = some (.string ⟨#[]⟩) := cell_of hr2 rfl
  have s1 : w2.cell? ⟨r, 1, none⟩ = some (.int .i64 0) := cell_of hr2 rfl
  have s2 : w2.cell? ⟨r, 2, none⟩ = some (.int .i64 0) := cell_of hr2 rfl
  have s3 : w2.cell? ⟨r, 3, none⟩ = some (.bool false) := cell_of hr2 rfl
  have s4 : w2.cell? ⟨r, 4, none⟩ = some (.bool false) := cell_of hr2 rfl
  refine bodyPost_ret (v := .tuple #[.agg #[.string ⟨#[]⟩, .int .i64 0, .int .i64 0, .bool false, .bool false], .int .i64 1]) (by simp [results, Try.results62, go_sem, s0, s1, s2, s3, s4]) rfl ⟨rfl, ?_⟩
  rw [← HRR.out]
  exact hb2
end Go.Proofs.Ytmkjejngnahpeaa
/- Disk: going over no files; law07's nothing. -/
namespace Go.Proofs.Ytmkjejngnahpeaa
open Go Go.Maps Go.RowKit Go.Shelf
attribute [local go_sem] Oper.semAt_some

set_option maxHeartbeats 400000 in
theorem values_b (w : World) : Calls Try.prog 115 #[.slice none 0 0] w fun e w' => e = .returned (.func (.func 161) #[] #[.pointer (some ⟨w.heap.size, 0, none⟩)]) ∧ w' = w.alloc (.cells #[.slice none 0 0] 76) := by
  go_enter Try.func115, Try.ntmps115
  go_wp2_with fail
  go_ret
  exact ⟨rfl, rfl⟩
set_option maxRecDepth 100000 in
set_option maxHeartbeats 400000 in
theorem all_nil {w : World} {pp : Option Addr} (h : IsNone w pp) : Calls Try.prog 41 #[.pointer pp] w fun e w' => e = .returned (.func (.func 161) #[] #[.pointer (some ⟨w.heap.size, 0, none⟩)]) ∧ w' = w.alloc (.cells #[.slice none 0 0] 76) := by
  go_enter Try.func41, Try.ntmps41
  go_wp2_with fail
  refine (names_nil h).mono ?_
  rintro e w' ⟨rfl, rfl⟩
  go_wp2_with fail
  go_loop [3, 9] (fun l i => l = .slice none 0 0 ∧ i = .int .i64 0) (fun _ _ => 0)
  case atStart => exact ⟨rfl, rfl⟩
  case round =>
    obtain ⟨rfl, rfl⟩ := hrel
    go_wp2_with fail
    refine (values_b _).mono ?_
    rintro e w' ⟨rfl, rfl⟩
    go_wp2_with fail
    go_ret
    exact ⟨rfl, rfl⟩
set_option maxRecDepth 100000 in
set_option maxHeartbeats 1000000 in
theorem values1_nil_in (F : Fence) (n : Nat) (h7 : F.fn 161) (hro : F.round = none) (l Bs : Nat) (J : List Unit → World → Prop) (W : World) (hBs : W.cell? ⟨Bs, 0, none⟩ = some (.slice none 0 0)) (h0 : J [] W) :
    CallsIn F n Try.prog 161 #[.func (.yield l) #[] #[], .pointer (some ⟨Bs, 0, none⟩)] W fun e W' => (∃ v, e = .returned v) ∧ J [] W' := by
  refine callsIn_of_wp Try.func161 rfl h7 ?_ hro
  simp only [Try.ntmps161, List.size_toArray, List.length_cons, List.length_nil, Nat.reduceAdd, Nat.reduceSub, Array.replicate_succ, Array.replicate_zero, List.push_toArray, List.append_toArray, List.nil_append, List.cons_append]
  gi_wp2
  gi_loopw [7] (fun i wr => i = .int .i64 0 ∧ J [] wr) (fun _ _ => 0)
  case atStart => exact ⟨rfl, h0⟩
  case round =>
    obtain ⟨rfl, hJs⟩ := hrel
    gi_wp2
    go_end0
    exact ⟨⟨_, rfl⟩, hJs⟩
/-- of no files none comes -/
theorem values_stops_nil (F : Fence) (n : Nat) (h7 : F.fn 161) (hro : F.round = none) (Bs n₀ : Nat) (w : World) (hBs : Bs < w.heap.size)
    (hc : w.cell? ⟨Bs, 0, none⟩ = some (.slice none 0 0)) :
    SeqStopsK F n Try.prog 161 #[.pointer (some ⟨Bs, 0, none⟩)] (fun _ : Unit => #[undef]) (Below n₀) (fun ys => ys = []) (fun _ => False) 0 w := fun l J _ W hW _ _ _ h0 =>
  (values1_nil_in F n h7 hro l Bs J W ((hW.cell (p := ⟨Bs, 0, none⟩) hBs).trans hc) h0).mono fun _ _ ⟨he, hj⟩ => ⟨he, .inl ⟨_, rfl, hj⟩⟩
end Go.Proofs.Ytmkjejngnahpeaa
