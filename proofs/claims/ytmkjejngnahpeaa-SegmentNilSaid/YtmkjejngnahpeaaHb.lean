/- Segment: no disk; law10's none. -/
import Derived.Test.YtmkjejngnahpeaaHa
namespace Go.Proofs.Ytmkjejngnahpeaa
open Go Go.Maps Go.RowKit Go.Shelf
attribute [local go_sem] Oper.semAt_some

def zeroF : Array Value := #[.int .i64 0, .int .i64 0, .int .i64 0, .int .i64 0]
/-- four noughts are written to a result's cells -/
def put4 (w : World) (r : Nat) : World := (((w.setCell ⟨r, 0, none⟩ (.int .i64 0)).setCell ⟨r, 1, none⟩ (.int .i64 0)).setCell ⟨r, 2, none⟩ (.int .i64 0)).setCell ⟨r, 3, none⟩ (.int .i64 0)
theorem put4_row {w : World} {r : Nat} (h : w.heap[r]? = some (.cells zeroF 56 (0, 0))) : (put4 w r).heap[r]? = some (.cells zeroF 56 (0, 0)) :=
  heap_setCell_here _ (heap_setCell_here _ (heap_setCell_here _ (heap_setCell_here _ h)))
theorem put4_below {w0 w : World} {r : Nat} (h : Below r w0 w) : Below r w0 (put4 w r) :=
  (((h.setCell (p := ⟨r, 0, none⟩) (Nat.le_refl _) _).setCell (p := ⟨r, 1, none⟩) (Nat.le_refl _) _).setCell (p := ⟨r, 2, none⟩) (Nat.le_refl _) _).setCell (p := ⟨r, 3, none⟩) (Nat.le_refl _) _
structure Z4 (w : World) (r : Nat) : Prop where
  c0 : w.cell? ⟨r, 0, none⟩ = some (.int .i64 0)
  c1 : w.cell? ⟨r, 1, none⟩ = some (.int .i64 0)
  c2 : w.cell? ⟨r, 2, none⟩ = some (.int .i64 0)
  c3 : w.cell? ⟨r, 3, none⟩ = some (.int .i64 0)
  z0 : w.frozen? ⟨r, 0, none⟩ = false
  z1 : w.frozen? ⟨r, 1, none⟩ = false
  z2 : w.frozen? ⟨r, 2, none⟩ = false
  z3 : w.frozen? ⟨r, 3, none⟩ = false
theorem z4_of {w : World} {r : Nat} (h : w.heap[r]? = some (.cells zeroF 56 (0, 0))) : Z4 w r :=
  ⟨cell_of h rfl, cell_of h rfl, cell_of h rfl, cell_of h rfl, free_of h _, free_of h _, free_of h _, free_of h _⟩
/-- a new result of noughts -/
theorem new4 (w : World) : (w.alloc (.cells #[.int .i64 0, .int .i64 0, .int .i64 0, .int .i64 0] 56)).heap[w.heap.size]? = some (.cells zeroF 56 (0, 0)) := alloc_cells _ _ _
set_option maxRecDepth 100000 in
set_option maxHeartbeats 1000000 in
theorem lookS_nil (w : World) (nm : ByteArray) (f : Value) : Calls Try.prog 100 #[.pointer none, .string nm, f] w fun e w' => e = .returned (.tuple #[foundZ, .int .i64 1]) ∧ Below w.heap.size w w' := by
  go_enter Try.func100, Try.ntmps100
  go_upto_region 1 with fail
  obtain ⟨w1, hw1⟩ : ∃ w1 : World, w1 = w.alloc (.cells #[.int .i64 0, .int .i64 0, .int .i64 0, .int .i64 0] 56) := ⟨_, rfl⟩
  obtain ⟨r, hr⟩ : ∃ r, r = w.heap.size := ⟨_, rfl⟩
  have hr1 : w1.heap[r]? = some (.cells zeroF 56 (0, 0)) := by rw [hw1, hr]; exact new4 w
  have hb1 : Below w.heap.size w w1 := by rw [hw1]; exact (Below.refl _ _).alloc (Nat.le_refl _) _
  rw [← hr, ← hw1]
  have HB1 := Lib.hid hb1
  have HRR := Lib.hid hr
  have HR1 := Lib.hid hr1
  clear hw1 hr hb1 hr1
  obtain ⟨r0, r1, r2, r3, z0, z1, z2, z3⟩ := z4_of HR1.out
  go_wp2_with fail
  obtain ⟨w9, hw9⟩ : ∃ w9 : World, w9 = put4 w1 r := ⟨_, rfl⟩
  have hr9 : w9.heap[r]? = some (.cells zeroF 56 (0, 0)) := by rw [hw9]; exact put4_row HR1.out
  have hb9 : Below w.heap.size w w9 := by
    rw [hw9, ← HRR.out]
    refine put4_below ?_
    rw [HRR.out]
    exact HB1.out
  change bodyPost _ _ _ _ _ (put4 w1 r)
  rw [← hw9]
  obtain ⟨s0, s1, s2, s3, _, _, _, _⟩ := z4_of hr9
  exact bodyPost_ret (v := .tuple #[foundZ, .int .i64 1]) (by simp [results, Try.results100, go_sem, s0, s1, s2, s3, foundZ]) rfl ⟨rfl, hb9⟩
set_option maxRecDepth 100000 in
set_option maxHeartbeats 1000000 in
theorem LookS_nil (w : World) (nm : ByteArray) : Calls Try.prog 32 #[.pointer none, .string nm] w fun e w' => e = .returned (.tuple #[foundZ, .int .i64 1]) ∧ Below w.heap.size w w' := by
  go_enter Try.func32, Try.ntmps32
  go_upto_region 1 with fail
  obtain ⟨w1, hw1⟩ : ∃ w1 : World, w1 = w.alloc (.cells #[.int .i64 0, .int .i64 0, .int .i64 0, .int .i64 0] 56) := ⟨_, rfl⟩
  obtain ⟨r, hr⟩ : ∃ r, r = w.heap.size := ⟨_, rfl⟩
  have hr1 : w1.heap[r]? = some (.cells zeroF 56 (0, 0)) := by rw [hw1, hr]; exact new4 w
  have hb1 : Below w.heap.size w w1 := by rw [hw1]; exact (Below.refl _ _).alloc (Nat.le_refl _) _
  rw [← hr, ← hw1]
  have HB1 := Lib.hid hb1
  have HRR := Lib.hid hr
  have HR1 := Lib.hid hr1
  clear hw1 hr hb1 hr1
  go_wp2_with fail
  refine (lookS_nil w1 nm _).mono ?_
  rintro e w2 ⟨rfl, hb2⟩
  have hr2 := (hb2.block r (Array.getElem?_eq_some_iff.1 HR1.out).1).trans HR1.out
  have HR2 := Lib.hid hr2
  have HB2 := Lib.hid (HB1.out.trans (hb2.mono HB1.out.size))
  clear hb2 hr2
  obtain ⟨r0, r1, r2, r3, z0, z1, z2, z3⟩ := z4_of HR2.out
  unfold foundZ
  go_wp2_with fail
  obtain ⟨w9, hw9⟩ : ∃ w9 : World, w9 = put4 w2 r := ⟨_, rfl⟩
  have hr9 : w9.heap[r]? = some (.cells zeroF 56 (0, 0)) := by rw [hw9]; exact put4_row HR2.out
  have hb9 : Below w.heap.size w w9 := by
    rw [hw9, ← HRR.out]
    refine put4_below ?_
    rw [HRR.out]
    exact HB2.out
  change bodyPost _ _ _ _ _ (put4 w2 r)
  rw [← hw9]
  obtain ⟨s0, s1, s2, s3, _, _, _, _⟩ := z4_of hr9
  exact bodyPost_ret (v := .tuple #[foundZ, .int .i64 1]) (by simp [results, Try.results32, go_sem, s0, s1, s2, s3, foundZ]) rfl ⟨rfl, hb9⟩
set_option maxRecDepth 100000 in
set_option maxHeartbeats 1000000 in
theorem MendS_nil (w : World) (nm : ByteArray) : Calls Try.prog 34 #[.pointer none, .string nm] w fun e w' => e = .returned (.tuple #[foundZ, .int .i64 1]) ∧ Below w.heap.size w w' := by
  go_enter Try.func34, Try.ntmps34
  go_upto_region 1 with fail
  obtain ⟨w1, hw1⟩ : ∃ w1 : World, w1 = ((w.alloc (.cells #[.pointer none] 37)).alloc (.cells #[.string nm] 9)).alloc (.cells #[.int .i64 0, .int .i64 0, .int .i64 0, .int .i64 0] 56) := ⟨_, rfl⟩
  obtain ⟨r, hr⟩ : ∃ r, r = w.heap.size + 1 + 1 := ⟨_, rfl⟩
  have hr1 : w1.heap[r]? = some (.cells zeroF 56 (0, 0)) := by
    have := new4 ((w.alloc (.cells #[.pointer none] 37)).alloc (.cells #[.string nm] 9))
    rw [hw1, hr]
    simpa using this
  have hb1 : Below w.heap.size w w1 := by rw [hw1]; exact al3 _ _ _ _
  have x0 : w1.cell? ⟨w.heap.size, 0, none⟩ = some (.pointer none) := by
    rw [hw1]
    refine cell_of (w := _) (cs := #[.pointer none]) (T := 37) (fr := (0, 0)) ?_ rfl
    exact (Below.heap_alloc _ _ _ (by simp; omega)).trans ((Below.heap_alloc _ _ _ (by simp)).trans (alloc_cells _ _ _))
  have x1 : w1.cell? ⟨w.heap.size + 1, 0, none⟩ = some (.string nm) := by
    rw [hw1]
    refine cell_of (w := _) (cs := #[.string nm]) (T := 9) (fr := (0, 0)) ?_ rfl
    refine (Below.heap_alloc _ _ _ (by simp)).trans ?_
    have := alloc_cells (w.alloc (.cells #[.pointer none] 37)) #[.string nm] 9
    simpa using this
  rw [← hr, ← hw1]
  have HB1 := Lib.hid hb1
  have HRR : Hid (w.heap.size ≤ r) := Lib.hid (by omega)
  have HR1 := Lib.hid hr1
  clear hw1 hr hb1 hr1
  go_wp2_with fail
  refine (LookS_nil w1 nm).mono ?_
  rintro e w2 ⟨rfl, hb2⟩
  have hr2 := (hb2.block r (Array.getElem?_eq_some_iff.1 HR1.out).1).trans HR1.out
  have hb2' := HB1.out.trans (hb2.mono HB1.out.size)
  unfold foundZ
  go_upto_region 2 with fail
  obtain ⟨w3, hw3⟩ : ∃ w3 : World, w3 = w2.alloc (.cells #[.int .i64 0, .int .i64 0, .int .i64 0, .int .i64 0] 56) := ⟨_, rfl⟩
  have HR3 : Hid (w3.heap[r]? = some (.cells zeroF 56 (0, 0))) := Lib.hid (by rw [hw3]; exact (Below.heap_alloc _ _ _ (Array.getElem?_eq_some_iff.1 hr2).1).trans hr2)
  have HB3 : Hid (Below w.heap.size w w3) := Lib.hid (by rw [hw3]; exact hb2'.alloc hb2'.size _)
  rw [← hw3]
  clear hw3 hb2 hr2 hb2' x0 x1
  obtain ⟨r0, r1, r2, r3, z0, z1, z2, z3⟩ := z4_of HR3.out
  go_wp2_with fail
  obtain ⟨w9, hw9⟩ : ∃ w9 : World, w9 = put4 w3 r := ⟨_, rfl⟩
  have hr9 : w9.heap[r]? = some (.cells zeroF 56 (0, 0)) := by rw [hw9]; exact put4_row HR3.out
  have hb9 : Below w.heap.size w w9 := by
    rw [hw9]
    exact (((HB3.out.setCell (p := ⟨r, 0, none⟩) HRR.out _).setCell (p := ⟨r, 1, none⟩) HRR.out _).setCell (p := ⟨r, 2, none⟩) HRR.out _).setCell (p := ⟨r, 3, none⟩) HRR.out _
  change bodyPost _ _ _ _ _ (put4 w3 r)
  rw [← hw9]
  obtain ⟨s0, s1, s2, s3, _, _, _, _⟩ := z4_of hr9
  exact bodyPost_ret (v := .tuple #[foundZ, .int .i64 1]) (by simp [results, Try.results34, go_sem, s0, s1, s2, s3, foundZ]) rfl ⟨rfl, hb9⟩
set_option maxRecDepth 100000 in
set_option maxHeartbeats 1000000 in
theorem OpenS_nil (w : World) (nm : ByteArray) (s : Int) : Calls Try.prog 33 #[.pointer none, .string nm, .int .i64 s] w fun e w' => e = .returned (.tuple #[.pointer none, .int .i64 1]) ∧ Below w.heap.size w w' := by
  go_enter Try.func33, Try.ntmps33
  go_wp2_with fail
  go_ret2
  exact ⟨rfl, Below.refl _ _⟩
end Go.Proofs.Ytmkjejngnahpeaa
