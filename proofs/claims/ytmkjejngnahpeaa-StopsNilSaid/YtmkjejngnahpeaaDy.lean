/- Disk: File, Read. -/
import Derived.Test.YtmkjejngnahpeaaDx
namespace Go.Proofs.Ytmkjejngnahpeaa
open Go Go.Maps Go.RowKit

def tellV (nm : ByteArray) (f : F0) : Value := .agg #[.string nm, .int .i64 f.bytes.length, .int .i64 f.lasts, .bool f.there, .bool f.named]
set_option maxRecDepth 100000 in
set_option maxHeartbeats 1000000 in
theorem tell_b {w : World} {x : Fl} (hx : FlAt w x) (nm : ByteArray) :
    Calls Try.prog 114 #[.string nm, .pointer (some ⟨x.blk, 0, none⟩)] w fun e w' => e = .returned (tellV nm x.f) ∧ Below w.heap.size w w' := by
  obtain ⟨oa, c, hbv, hnc⟩ := hx.row.shape
  have hxc := hx.cells
  have hlt : x.blk < w.heap.size := (Array.getElem?_eq_some_iff.1 hxc).1
  obtain ⟨n, hn⟩ : ∃ n, x.f.bytes.length = n := ⟨_, rfl⟩
  obtain ⟨l, hl⟩ : ∃ l, x.f.lasts = l := ⟨_, rfl⟩
  obtain ⟨th, hth⟩ : ∃ th, x.f.there = th := ⟨_, rfl⟩
  obtain ⟨nd, hnd⟩ : ∃ nd, x.f.named = nd := ⟨_, rfl⟩
  rw [hbv, hn, hl, hth, hnd] at hxc
  have HV : Hid (tellV nm x.f = .agg #[.string nm, .int .i64 n, .int .i64 l, .bool th, .bool nd]) := Lib.hid (by rw [tellV, hn, hl, hth, hnd])
  clear hn hl hth hnd hbv hnc hx
  go_enter Try.func114, Try.ntmps114
  go_upto_region 1 with fail
  obtain ⟨w1, hw1⟩ : ∃ w1 : World, w1 = w.alloc (.cells #[.string ⟨#[]⟩, .int .i64 0, .int .i64 0, .bool false, .bool false] 78) := ⟨_, rfl⟩
  obtain ⟨r, hr⟩ : ∃ r, r = w.heap.size := ⟨_, rfl⟩
  have hr1 : w1.heap[r]? = some (.cells #[.string ⟨#[]⟩, .int .i64 0, .int .i64 0, .bool false, .bool false] 78 (0, 0)) := by rw [hw1, hr]; exact alloc_cells _ _ _
  have hx1 : w1.heap[x.blk]? = some (.cells #[.slice oa n c, .int .i64 l, .bool th, .bool nd] 178 (0, 0)) := by rw [hw1]; exact (Below.heap_alloc _ _ _ hlt).trans hxc
  have HB1 : Hid (Below r w w1) := Lib.hid (by rw [hw1, hr]; exact (Below.refl _ _).alloc (Nat.le_refl _) _)
  rw [← hr]
  rw [← hw1]
  have HRR := Lib.hid hr
  clear hw1 hxc hr
  have k0 : w1.cell? ⟨x.blk, 0, none⟩ = some (.slice oa n c) := cell_of (w := w1) hx1 rfl
  have k1 : w1.cell? ⟨x.blk, 1, none⟩ = some (.int .i64 l) := cell_of (w := w1) hx1 rfl
  have k2 : w1.cell? ⟨x.blk, 2, none⟩ = some (.bool th) := cell_of (w := w1) hx1 rfl
  have k3 : w1.cell? ⟨x.blk, 3, none⟩ = some (.bool nd) := cell_of (w := w1) hx1 rfl
  have r0 : w1.cell? ⟨r, 0, none⟩ = some (.string ⟨#[]⟩) := cell_of (w := w1) hr1 rfl
  have z0 : w1.frozen? ⟨r, 0, none⟩ = false := free_of (w := w1) hr1 _
  have r1 : w1.cell? ⟨r, 1, none⟩ = some (.int .i64 0) := cell_of (w := w1) hr1 rfl
  have z1 : w1.frozen? ⟨r, 1, none⟩ = false := free_of (w := w1) hr1 _
  have r2 : w1.cell? ⟨r, 2, none⟩ = some (.int .i64 0) := cell_of (w := w1) hr1 rfl
  have z2 : w1.frozen? ⟨r, 2, none⟩ = false := free_of (w := w1) hr1 _
  have r3 : w1.cell? ⟨r, 3, none⟩ = some (.bool false) := cell_of (w := w1) hr1 rfl
  have z3 : w1.frozen? ⟨r, 3, none⟩ = false := free_of (w := w1) hr1 _
  have r4 : w1.cell? ⟨r, 4, none⟩ = some (.bool false) := cell_of (w := w1) hr1 rfl
  have z4 : w1.frozen? ⟨r, 4, none⟩ = false := free_of (w := w1) hr1 _
  have HR1 := Lib.hid hr1
  clear hr1 hx1
  go_region
  obtain ⟨w2, hw2⟩ : ∃ w2 : World, w2 = (((((w1.setCell ⟨r, 0, none⟩ (.string nm)).setCell ⟨r, 1, none⟩ (.int .i64 n)).setCell ⟨r, 2, none⟩ (.int .i64 l)).setCell ⟨r, 3, none⟩ (.bool th)).setCell ⟨r, 4, none⟩ (.bool nd)) := ⟨_, rfl⟩
  have hr2 : w2.heap[r]? = some (.cells #[.string nm, .int .i64 n, .int .i64 l, .bool th, .bool nd] 78 (0, 0)) := by
    rw [hw2]; exact heap_setCell_here _ (heap_setCell_here _ (heap_setCell_here _ (heap_setCell_here _ (heap_setCell_here _ HR1.out))))
  have hb2 : Below r w w2 := by
    rw [hw2]
    exact ((((HB1.out.setCell (p := ⟨r, 0, none⟩) (Nat.le_refl _) _).setCell (p := ⟨r, 1, none⟩) (Nat.le_refl _) _).setCell (p := ⟨r, 2, none⟩) (Nat.le_refl _) _).setCell (p := ⟨r, 3, none⟩) (Nat.le_refl _) _).setCell (p := ⟨r, 4, none⟩) (Nat.le_refl _) _
  try rw [← hw2]
  have HR2 := Lib.hid hr2
  have HB2 := Lib.hid hb2
  clear hw2 hr2 hb2 r0 r1 r2 r3 r4 z0 z1 z2 z3 z4 k0 k1 k2 k3
  go_wp2_with fail
  have s0 : w2.cell? ⟨r, 0, none⟩ = some (.string nm) := cell_of HR2.out rfl
  have s1 : w2.cell? ⟨r, 1, none⟩ = some (.int .i64 n) := cell_of HR2.out rfl
  have s2 : w2.cell? ⟨r, 2, none⟩ = some (.int .i64 l) := cell_of HR2.out rfl
  have s3 : w2.cell? ⟨r, 3, none⟩ = some (.bool th) := cell_of HR2.out rfl
  have s4 : w2.cell? ⟨r, 4, none⟩ = some (.bool nd) := cell_of HR2.out rfl
  refine bodyPost_ret (v := .agg #[.string nm, .int .i64 n, .int .i64 l, .bool th, .bool nd]) (by simp [results, Try.results114, go_sem, s0, s1, s2, s3, s4]) rfl ⟨by rw [HV.out], ?_⟩
  rw [← HRR.out]
  exact ⟨HB2.out.os, HB2.out.tape, HB2.out.output, HB2.out.size, HB2.out.block⟩
/-- how a file stands -/
def Dk.fileV (d : Dk) (nm : ByteArray) : Value × Int :=
  if nameOk nm.data.toList = false then (.agg #[.string ⟨#[]⟩, .int .i64 0, .int .i64 0, .bool false, .bool false], 2)
  else match d.at nm.data.toList with
    | none => (.agg #[.string ⟨#[]⟩, .int .i64 0, .int .i64 0, .bool false, .bool false], 171)
    | some f => (tellV nm f, 0)
set_option maxRecDepth 100000 in
set_option maxHeartbeats 1000000 in
theorem file_b {w : World} {S : Nat → Prop} {q : Nat} {d : Dk} (h : DiskAt w S q d) (nm : ByteArray) (hs : nm.size ≤ maxLen) :
    Calls Try.prog 62 #[.pointer (some ⟨q, 0, none⟩), .string nm] w fun e w' => e = .returned (.tuple #[(d.fileV nm).1, .int .i64 (d.fileV nm).2]) ∧ Below w.heap.size w w' := by
  obtain ⟨mb, fv, L, h⟩ := h
  go_enter Try.func62, Try.ntmps62
  go_upto_region 1 with fail
  obtain ⟨w1, hw1⟩ : ∃ w1 : World, w1 = w.alloc (.cells #[.string ⟨#[]⟩, .int .i64 0, .int .i64 0, .bool false, .bool false] 78) := ⟨_, rfl⟩
  obtain ⟨r, hr⟩ : ∃ r, r = w.heap.size := ⟨_, rfl⟩
  have hr1 : w1.heap[r]? = some (.cells #[.string ⟨#[]⟩, .int .i64 0, .int .i64 0, .bool false, .bool false] 78 (0, 0)) := by rw [hw1, hr]; exact alloc_cells _ _ _
  have HB1 : Hid (Below r w w1) := Lib.hid (by rw [hw1, hr]; exact (Below.refl _ _).alloc (Nat.le_refl _) _)
  have h1 : DiskIs w1 S q mb fv L d := h.below (by rw [← hr]; exact HB1.out)
  rw [← hr, ← hw1]
  have HRR := Lib.hid hr
  clear hw1 hr h
  have c0 : w1.cell? ⟨q, 0, none⟩ = some (.map (some mb)) := cell_of h1.head rfl
  go_wp2_with fail
  refine (asked_b h1 nm hs).mono ?_
  rintro e w' ⟨rfl, rfl⟩
  have r0 : w'.cell? ⟨r, 0, none⟩ = some (.string ⟨#[]⟩) := cell_of hr1 rfl
  have z0 : w'.frozen? ⟨r, 0, none⟩ = false := free_of hr1 _
  have r1 : w'.cell? ⟨r, 1, none⟩ = some (.int .i64 0) := cell_of hr1 rfl
  have z1 : w'.frozen? ⟨r, 1, none⟩ = false := free_of hr1 _
  have r2 : w'.cell? ⟨r, 2, none⟩ = some (.int .i64 0) := cell_of hr1 rfl
  have z2 : w'.frozen? ⟨r, 2, none⟩ = false := free_of hr1 _
  have r3 : w'.cell? ⟨r, 3, none⟩ = some (.bool false) := cell_of hr1 rfl
  have z3 : w'.frozen? ⟨r, 3, none⟩ = false := free_of hr1 _
  have r4 : w'.cell? ⟨r, 4, none⟩ = some (.bool false) := cell_of hr1 rfl
  have z4 : w'.frozen? ⟨r, 4, none⟩ = false := free_of hr1 _
  have HR1 := Lib.hid hr1
  clear hr1
  cases hn : nameOk nm.data.toList with
  | false =>
    have HV : Hid (d.fileV nm = (.agg #[.string ⟨#[]⟩, .int .i64 0, .int .i64 0, .bool false, .bool false], 2)) := Lib.hid (by simp [Dk.fileV, hn])
    rw [show askE nm.data.toList = 2 by simp [askE, hn]]
    clear h1 hn
    go_wp2_with fail
    obtain ⟨w2, hw2⟩ : ∃ w2 : World, w2 = (((((w'.setCell ⟨r, 0, none⟩ (.string ⟨#[]⟩)).setCell ⟨r, 1, none⟩ (.int .i64 0)).setCell ⟨r, 2, none⟩ (.int .i64 0)).setCell ⟨r, 3, none⟩ (.bool false)).setCell ⟨r, 4, none⟩ (.bool false)) := ⟨_, rfl⟩
    have hr2 : w2.heap[r]? = some (.cells #[.string ⟨#[]⟩, .int .i64 0, .int .i64 0, .bool false, .bool false] 78 (0, 0)) := by
      rw [hw2]; exact heap_setCell_here _ (heap_setCell_here _ (heap_setCell_here _ (heap_setCell_here _ (heap_setCell_here _ HR1.out))))
    have hb2 : Below r w w2 := by
      rw [hw2]
      exact (((((HB1.out.setCell (p := ⟨r, 0, none⟩) (Nat.le_refl _) _).setCell (p := ⟨r, 1, none⟩) (Nat.le_refl _) _).setCell (p := ⟨r, 2, none⟩) (Nat.le_refl _) _).setCell (p := ⟨r, 3, none⟩) (Nat.le_refl _) _).setCell (p := ⟨r, 4, none⟩) (Nat.le_refl _) _)
    rw [← hw2]
    have s0 : w2.cell? ⟨r, 0, none⟩ = some (.string ⟨#[]⟩) := cell_of hr2 rfl
    have s1 : w2.cell? ⟨r, 1, none⟩ = some (.int .i64 0) := cell_of hr2 rfl
    have s2 : w2.cell? ⟨r, 2, none⟩ = some (.int .i64 0) := cell_of hr2 rfl
    have s3 : w2.cell? ⟨r, 3, none⟩ = some (.bool false) := cell_of hr2 rfl
    have s4 : w2.cell? ⟨r, 4, none⟩ = some (.bool false) := cell_of hr2 rfl
    refine bodyPost_ret (v := .tuple #[.agg #[.string ⟨#[]⟩, .int .i64 0, .int .i64 0, .bool false, .bool false], .int .i64 2]) (by simp [results, Try.results62, go_sem, s0, s1, s2, s3, s4]) rfl ⟨by rw [HV.out], ?_⟩
    rw [← HRR.out]
    exact hb2
  | true =>
    rw [show askE nm.data.toList = 0 by simp [askE, hn]]
    cases ha : d.at nm.data.toList with
    | none =>
      have HV : Hid (d.fileV nm = (.agg #[.string ⟨#[]⟩, .int .i64 0, .int .i64 0, .bool false, .bool false], 171)) := Lib.hid (by simp [Dk.fileV, hn, ha])
      have hl := h1.lookup_none hs (h1.at_none ha)
      clear h1 hn ha
      go_wp2_with fail
      obtain ⟨w2, hw2⟩ : ∃ w2 : World, w2 = (((((w'.setCell ⟨r, 0, none⟩ (.string ⟨#[]⟩)).setCell ⟨r, 1, none⟩ (.int .i64 0)).setCell ⟨r, 2, none⟩ (.int .i64 0)).setCell ⟨r, 3, none⟩ (.bool false)).setCell ⟨r, 4, none⟩ (.bool false)) := ⟨_, rfl⟩
      have hr2 : w2.heap[r]? = some (.cells #[.string ⟨#[]⟩, .int .i64 0, .int .i64 0, .bool false, .bool false] 78 (0, 0)) := by
        rw [hw2]; exact heap_setCell_here _ (heap_setCell_here _ (heap_setCell_here _ (heap_setCell_here _ (heap_setCell_here _ HR1.out))))
      have hb2 : Below r w w2 := by
        rw [hw2]
        exact (((((HB1.out.setCell (p := ⟨r, 0, none⟩) (Nat.le_refl _) _).setCell (p := ⟨r, 1, none⟩) (Nat.le_refl _) _).setCell (p := ⟨r, 2, none⟩) (Nat.le_refl _) _).setCell (p := ⟨r, 3, none⟩) (Nat.le_refl _) _).setCell (p := ⟨r, 4, none⟩) (Nat.le_refl _) _)
      rw [← hw2]
      have s0 : w2.cell? ⟨r, 0, none⟩ = some (.string ⟨#[]⟩) := cell_of hr2 rfl
      have s1 : w2.cell? ⟨r, 1, none⟩ = some (.int .i64 0) := cell_of hr2 rfl
      have s2 : w2.cell? ⟨r, 2, none⟩ = some (.int .i64 0) := cell_of hr2 rfl
      have s3 : w2.cell? ⟨r, 3, none⟩ = some (.bool false) := cell_of hr2 rfl
      have s4 : w2.cell? ⟨r, 4, none⟩ = some (.bool false) := cell_of hr2 rfl
      refine bodyPost_ret (v := .tuple #[.agg #[.string ⟨#[]⟩, .int .i64 0, .int .i64 0, .bool false, .bool false], .int .i64 171]) (by simp [results, Try.results62, go_sem, s0, s1, s2, s3, s4]) rfl ⟨by rw [HV.out], ?_⟩
      rw [← HRR.out]
      exact hb2
    | some f =>
      obtain ⟨A, x, B, hL, rfl, hxn⟩ := h1.at_some ha
      have HV : Hid (d.fileV nm = (tellV nm x.f, 0)) := Lib.hid (by simp [Dk.fileV, hn, ha])
      have hl := h1.lookup_some (x := x) (by rw [hL]; simp) hs hxn
      have HX := Lib.hid (h1.each x (by rw [hL]; simp))
      clear h1 hn ha hL hxn
      go_wp2_with fail
      refine (tell_b HX.out nm).mono ?_
      rintro e w3 ⟨rfl, hb3⟩
      have hr3 : w3.heap[r]? = some (.cells #[.string ⟨#[]⟩, .int .i64 0, .int .i64 0, .bool false, .bool false] 78 (0, 0)) := (hb3.block r (Array.getElem?_eq_some_iff.1 HR1.out).1).trans HR1.out
      have HB3 : Hid (Below r w w3) := Lib.hid (HB1.out.trans (hb3.mono (Nat.le_of_lt (Array.getElem?_eq_some_iff.1 HR1.out).1)))
      obtain ⟨n, hn⟩ : ∃ n, x.f.bytes.length = n := ⟨_, rfl⟩
      obtain ⟨l, hl⟩ : ∃ l, x.f.lasts = l := ⟨_, rfl⟩
      obtain ⟨th, hth⟩ : ∃ th, x.f.there = th := ⟨_, rfl⟩
      obtain ⟨nd, hnd⟩ : ∃ nd, x.f.named = nd := ⟨_, rfl⟩
      have hT : tellV nm x.f = .agg #[.string nm, .int .i64 n, .int .i64 l, .bool th, .bool nd] := by rw [tellV, hn, hl, hth, hnd]
      rw [hT]
      have HT := Lib.hid hT
      clear hT hn hl hth hnd r0 r1 r2 r3 r4 z0 z1 z2 z3 z4 hb3
      have r0 : w3.cell? ⟨r, 0, none⟩ = some (.string ⟨#[]⟩) := cell_of hr3 rfl
      have z0 : w3.frozen? ⟨r, 0, none⟩ = false := free_of hr3 _
      have r1 : w3.cell? ⟨r, 1, none⟩ = some (.int .i64 0) := cell_of hr3 rfl
      have z1 : w3.frozen? ⟨r, 1, none⟩ = false := free_of hr3 _
      have r2 : w3.cell? ⟨r, 2, none⟩ = some (.int .i64 0) := cell_of hr3 rfl
      have z2 : w3.frozen? ⟨r, 2, none⟩ = false := free_of hr3 _
      have r3 : w3.cell? ⟨r, 3, none⟩ = some (.bool false) := cell_of hr3 rfl
      have z3 : w3.frozen? ⟨r, 3, none⟩ = false := free_of hr3 _
      have r4 : w3.cell? ⟨r, 4, none⟩ = some (.bool false) := cell_of hr3 rfl
      have z4 : w3.frozen? ⟨r, 4, none⟩ = false := free_of hr3 _
      go_wp2_with fail
      obtain ⟨w2, hw2⟩ : ∃ w2 : World, w2 = (((((w3.setCell ⟨r, 0, none⟩ (.string nm)).setCell ⟨r, 1, none⟩ (.int .i64 n)).setCell ⟨r, 2, none⟩ (.int .i64 l)).setCell ⟨r, 3, none⟩ (.bool th)).setCell ⟨r, 4, none⟩ (.bool nd)) := ⟨_, rfl⟩
      have hr2 : w2.heap[r]? = some (.cells #[.string nm, .int .i64 n, .int .i64 l, .bool th, .bool nd] 78 (0, 0)) := by
        rw [hw2]; exact heap_setCell_here _ (heap_setCell_here _ (heap_setCell_here _ (heap_setCell_here _ (heap_setCell_here _ hr3))))
      have hb2 : Below r w w2 := by
        rw [hw2]
        exact (((((HB3.out.setCell (p := ⟨r, 0, none⟩) (Nat.le_refl _) _).setCell (p := ⟨r, 1, none⟩) (Nat.le_refl _) _).setCell (p := ⟨r, 2, none⟩) (Nat.le_refl _) _).setCell (p := ⟨r, 3, none⟩) (Nat.le_refl _) _).setCell (p := ⟨r, 4, none⟩) (Nat.le_refl _) _)
      rw [← hw2]
      have s0 : w2.cell? ⟨r, 0, none⟩ = some (.string nm) := cell_of hr2 rfl
      have s1 : w2.cell? ⟨r, 1, none⟩ = some (.int .i64 n) := cell_of hr2 rfl
      have s2 : w2.cell? ⟨r, 2, none⟩ = some (.int .i64 l) := cell_of hr2 rfl
      have s3 : w2.cell? ⟨r, 3, none⟩ = some (.bool th) := cell_of hr2 rfl
      have s4 : w2.cell? ⟨r, 4, none⟩ = some (.bool nd) := cell_of hr2 rfl
      refine bodyPost_ret (v := .tuple #[.agg #[.string nm, .int .i64 n, .int .i64 l, .bool th, .bool nd], .int .i64 0]) (by simp [results, Try.results62, go_sem, s0, s1, s2, s3, s4]) rfl ⟨by rw [HV.out, HT.out], ?_⟩
      rw [← HRR.out]
      exact hb2
end Go.Proofs.Ytmkjejngnahpeaa
