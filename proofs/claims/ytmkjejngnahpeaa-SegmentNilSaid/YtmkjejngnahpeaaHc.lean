/- Segment: law10's none. -/
import Derived.Test.YtmkjejngnahpeaaHb
namespace Go.Proofs.Ytmkjejngnahpeaa
open Go Go.Maps Go.RowKit Go.Shelf
attribute [local go_sem] Oper.semAt_some

set_option maxRecDepth 100000 in
set_option maxHeartbeats 4000000 in
theorem noneL_b {w : World} {pp : Option Addr} (h : NoSeg w pp) (b : Int) (oa : Option Addr) (m c : Nat) (n : Int) :
    Calls Try.prog 35 #[.pointer pp, .agg #[.int .i64 b, .slice oa m c], .int .i64 n] w fun e w' => e = .returned (.bool true) ∧ Below w.heap.size w w' := by
  refine (callsIn_wide (n := 8)).1 ?_
  have f1 : Fence.wide.fn 30 := trivial
  have f2 : Fence.wide.fn 27 := trivial
  have f3 : Fence.wide.fn 25 := trivial
  have f4 : Fence.wide.fn 105 := trivial
  have f5 : Fence.wide.fn 28 := trivial
  have f6 : Fence.wide.fn 26 := trivial
  have f7 : Fence.wide.fn 106 := trivial
  have f8 : Fence.wide.fn 107 := trivial
  refine callsIn_of_wp_marks Try.func35 rfl trivial ?_ rfl
  simp only [Try.ntmps35, List.size_toArray, List.length_cons, List.length_nil, Nat.reduceAdd, Nat.reduceSub, Array.replicate_succ, Array.replicate_zero, List.push_toArray, List.append_toArray, List.nil_append, List.cons_append]
  obtain ⟨w1, hw1⟩ : ∃ w1 : World, w1 = (w.alloc (.cells #[.int .i64 b, .slice oa m c] 46)).alloc (.cells #[.bool false] 4) := ⟨_, rfl⟩
  obtain ⟨r, hr⟩ : ∃ r, r = w.heap.size + 1 := ⟨_, rfl⟩
  obtain ⟨b4, hb4⟩ : ∃ b4, b4 = w.heap.size := ⟨_, rfl⟩
  have hr1 : w1.heap[r]? = some (.cells #[.bool false] 4 (0, 0)) := by
    have := alloc_cells (w.alloc (.cells #[.int .i64 b, .slice oa m c] 46)) #[.bool false] 4
    rw [hw1, hr]; simpa using this
  have hx1 : w1.heap[b4]? = some (.cells #[.int .i64 b, .slice oa m c] 46 (0, 0)) := by rw [hw1, hb4]; exact (Below.heap_alloc _ _ _ (by simp)).trans (alloc_cells _ _ _)
  have hb1 : Below w.heap.size w w1 := by rw [hw1]; exact ((Below.refl _ _).alloc (Nat.le_refl _) _).alloc (by simp) _
  have HI := Lib.hid (h.below hb1)
  have HB1 := Lib.hid hb1
  clear h hb1
  gi_wp2_with (gi_at_call 30; rw [← hw1, ← hr, ← hb4]; have HW1 := Lib.hid hw1; have HR := Lib.hid (And.intro hr hb4); clear hw1 hr hb4; refine (callsIn_wide.2 (readS_nil HI.out n n 1)).mono ?_; rintro e w2 ⟨rfl, hb2⟩)
  have HI2 := Lib.hid (HI.out.below hb2)
  have HB2 : Hid (Below w.heap.size w w2) := Lib.hid (HB1.out.trans (hb2.mono HB1.out.size))
  have HG2 : Hid (w2.heap[r]? = some (.cells #[.bool false] 4 (0, 0)) ∧ w2.heap[b4]? = some (.cells #[.int .i64 b, .slice oa m c] 46 (0, 0))) := Lib.hid ⟨(hb2.block r (Array.getElem?_eq_some_iff.1 hr1).1).trans hr1, (hb2.block b4 (Array.getElem?_eq_some_iff.1 hx1).1).trans hx1⟩
  clear hb2 hr1 hx1 HI
  gi_wp2_with fail
  refine (callsIn_wide.2 (batchesS_nil HI2.out)).mono ?_
  rintro e w' ⟨rfl, rfl⟩
  have hnf : ∀ W : World, (binOp .eql 48 (.func (.func 95) #[] #[]) .nilFunc).run Try.prog W = .ok (.bool false) W := fun W => by kernel_rfl
  gi_wp2_with fail
  have hq0 : OwnFrom w'.heap.size (fun (_ : List Unit) W => Below w'.heap.size w' W) := ownFrom_below (Nat.le_refl _) (Nat.le_refl _)
  have hstp := batches1_stops Fence.wide 7 trivial rfl w'.heap.size w'
  refine wpIn_rangeFunc_ownF (n := 8) (α := Unit) rfl (by omega) (gf := 95) (lb := #[]) rfl trivial (enters_of Try.func95 (by kernel_rfl) rfl) hstp belowK_t (belowK_b (Nat.le_refl _)) (Below.refl _ _) (fun _ => rfl)
    (fun _ W => Below w'.heap.size w' W) (fun _ _ _ => False) hq0 (fun _ => fun _ _ _ _ hs _ _ => hs) (Below.refl _ _) ?a1 ?assign ?body ?done ?stop
  case assign =>
    intro l x W K hK
    gi_wp2
    exact hK
  case body =>
    rintro l pre x W _ h0
    exact absurd h0 (Nat.not_lt_zero _)
  case stop =>
    rintro D c pre W _ h0 _ _
    exact h0.elim
  case done =>
    rintro D ys W hD rfl hBW hK
    have HIW := Lib.hid (HI2.out.below hBW)
    have HGW : Hid (W.heap[r]? = some (.cells #[.bool false] 4 (0, 0)) ∧ W.heap[b4]? = some (.cells #[.int .i64 b, .slice oa m c] 46 (0, 0))) := Lib.hid ⟨(hBW.block r (Array.getElem?_eq_some_iff.1 HG2.out.1).1).trans HG2.out.1, (hBW.block b4 (Array.getElem?_eq_some_iff.1 HG2.out.2).1).trans HG2.out.2⟩
    have HBW : Hid (Below w.heap.size w W) := Lib.hid (HB2.out.trans (hBW.mono HB2.out.size))
    have HKW := Lib.hid hK
    have HDD : Hid (w.heap.size ≤ D) := Lib.hid (Nat.le_trans HB2.out.size hD)
    clear hBW hK hD HI2 HG2 HB2 hstp hnf hq0
    have x0 : W.cell? ⟨b4, 0, none⟩ = some (.int .i64 b) := cell_of HGW.out.2 rfl
    have x1 : W.cell? ⟨b4, 1, none⟩ = some (.slice oa m c) := cell_of HGW.out.2 rfl
    gi_wp2_with fail
    refine (callsIn_wide.2 (appendS_nil HIW.out b oa m c)).mono ?_
    rintro e w8 ⟨rfl, hb8⟩
    have HI8 := Lib.hid (HIW.out.below hb8)
    have HR8 : Hid (w8.heap[r]? = some (.cells #[.bool false] 4 (0, 0))) := Lib.hid ((hb8.block r (Array.getElem?_eq_some_iff.1 HGW.out.1).1).trans HGW.out.1)
    have HK8 := Lib.hid ((hb8.block D (Array.getElem?_eq_some_iff.1 HKW.out).1).trans HKW.out)
    have HB8 : Hid (Below w.heap.size w w8) := Lib.hid (HBW.out.trans (hb8.mono HBW.out.size))
    have rc : w8.cell? ⟨r, 0, none⟩ = some (.bool false) := cell_of HR8.out rfl
    have rz : w8.frozen? ⟨r, 0, none⟩ = false := free_of HR8.out _
    clear hb8 HIW HGW HKW HBW x0 x1
    gi_wp2_with fail
    refine (callsIn_wide.2 (syncS_nil HI8.out)).mono ?_
    rintro e w' ⟨rfl, rfl⟩
    gi_wp2_with fail
    refine (callsIn_wide.2 (baseS_nil HI8.out)).mono ?_
    rintro e w' ⟨rfl, rfl⟩
    gi_wp2_with fail
    refine (callsIn_wide.2 (endS_nil HI8.out)).mono ?_
    rintro e w' ⟨rfl, rfl⟩
    gi_wp2_with fail
    refine (callsIn_wide.2 (sizeS_nil HI8.out)).mono ?_
    rintro e w' ⟨rfl, rfl⟩
    gi_wp2_with fail
    refine (callsIn_wide.2 (spotsS_nil HI8.out)).mono ?_
    rintro e w' ⟨rfl, rfl⟩
    gi_wp2_with fail
    have hK9 := (KeepsOthers.setCell w' ⟨r, 0, none⟩ (.bool true)).same D _ HK8.out rfl
    refine ⟨by simp, .inl ⟨_, _, rfl, run_takeDeferred hK9, ?_⟩⟩
    have hc9 : (w'.setCell ⟨r, 0, none⟩ (.bool true)).heap[r]? = some (.cells #[.bool true] 4 (0, 0)) := heap_setCell_here _ HR8.out
    have hcr := cell_kept (cell_of hc9 rfl : (w'.setCell ⟨r, 0, none⟩ (.bool true)).cell? ⟨r, 0, none⟩ = some (.bool true)) (grownBy_putObj' _ D (.deferred none)) (fun r e => by cases e; exact ⟨_, hK9, rfl⟩)
    have hrr := HR.out.1
    have hb9 : Below w.heap.size w (w'.setCell ⟨r, 0, none⟩ (.bool true)) := HB8.out.setCell (p := ⟨r, 0, none⟩) (by show w.heap.size ≤ r; omega) _
    have hb10 : Below w.heap.size w ((w'.setCell ⟨r, 0, none⟩ (.bool true)).putObj D (.deferred none)) := hb9.grown (grownBy_putObj' _ D (.deferred none)) hb9.size (fun k e => by cases e; exact HDD.out)
    refine ⟨.bool true, ?_, rfl, hb10⟩
    simp [results, Try.results35, go_sem, hcr]
end Go.Proofs.Ytmkjejngnahpeaa
