/- Disk: law07's nothing. -/
import Derived.Test.YtmkjejngnahpeaaEi
namespace Go.Proofs.Ytmkjejngnahpeaa
open Go Go.Maps Go.RowKit Go.Shelf
attribute [local go_sem] Oper.semAt_some

set_option maxRecDepth 100000 in
set_option maxHeartbeats 4000000 in
theorem nothing_b {w : World} {pp : Option Addr} (h : IsNone w pp) (nm : ByteArray) (n : Int) (b : Value) :
    Calls Try.prog 69 #[.pointer pp, .string nm, .int .i64 n, b] w fun e w' => e = .returned (.bool true) ∧ Below w.heap.size w w' := by
  refine (callsIn_wide (n := 8)).1 ?_
  have f42 : Fence.wide.fn 42 := trivial
  have f62 : Fence.wide.fn 62 := trivial
  have f40 : Fence.wide.fn 40 := trivial
  have f44 : Fence.wide.fn 44 := trivial
  have f41 : Fence.wide.fn 41 := trivial
  have f23 : Fence.wide.fn 23 := trivial
  have f45 : Fence.wide.fn 45 := trivial
  have f46 : Fence.wide.fn 46 := trivial
  have f47 : Fence.wide.fn 47 := trivial
  have f48 : Fence.wide.fn 48 := trivial
  have f49 : Fence.wide.fn 49 := trivial
  have f50 : Fence.wide.fn 50 := trivial
  have f64 : Fence.wide.fn 64 := trivial
  have f52 : Fence.wide.fn 52 := trivial
  have f43 : Fence.wide.fn 43 := trivial
  have f51 : Fence.wide.fn 51 := trivial
  refine callsIn_of_wp_marks Try.func69 rfl trivial ?_ rfl
  simp only [Try.ntmps69, List.size_toArray, List.length_cons, List.length_nil, Nat.reduceAdd, Nat.reduceSub, Array.replicate_succ, Array.replicate_zero, List.push_toArray, List.append_toArray, List.nil_append, List.cons_append]
  obtain ⟨w1, hw1⟩ : ∃ w1 : World, w1 = w.alloc (.cells #[.bool false] 4) := ⟨_, rfl⟩
  obtain ⟨r, hr⟩ : ∃ r, r = w.heap.size := ⟨_, rfl⟩
  have hr1 : w1.heap[r]? = some (.cells #[.bool false] 4 (0, 0)) := by rw [hw1, hr]; exact alloc_cells _ _ _
  have hb1 : Below w.heap.size w w1 := by rw [hw1]; exact (Below.refl _ _).alloc (Nat.le_refl _) _
  have HI := Lib.hid (h.below hb1)
  have HB1 := Lib.hid hb1
  clear h hb1
  gi_wp2_with (gi_at_call 42; rw [← hw1, ← hr]; have HW1 := Lib.hid hw1; have HR := Lib.hid hr; clear hw1 hr; refine (callsIn_wide.2 (read_nil HI.out nm (.int .i64 n) (.int .i64 n))).mono ?_; rintro e w' ⟨rfl, rfl⟩)
  refine (callsIn_wide.2 (file_nil HI.out nm)).mono ?_
  rintro e w2 ⟨rfl, hb2⟩
  obtain ⟨w3, hw3⟩ : ∃ w3 : World, w3 = w2.alloc (.cells #[.string ⟨#[]⟩, .int .i64 0, .int .i64 0, .bool false, .bool false] 78) := ⟨_, rfl⟩
  obtain ⟨g, hg⟩ : ∃ g, g = w2.heap.size := ⟨_, rfl⟩
  have hg3 : w3.heap[g]? = some (.cells #[.string ⟨#[]⟩, .int .i64 0, .int .i64 0, .bool false, .bool false] 78 (0, 0)) := by rw [hw3, hg]; exact alloc_cells _ _ _
  have hb23 : Below w2.heap.size w2 w3 := by rw [hw3]; exact (Below.refl _ _).alloc (Nat.le_refl _) _
  have hr3 : w3.heap[r]? = some (.cells #[.bool false] 4 (0, 0)) := (hb23.block r (Array.getElem?_eq_some_iff.1 ((hb2.block r (Array.getElem?_eq_some_iff.1 hr1).1).trans hr1)).1).trans ((hb2.block r (Array.getElem?_eq_some_iff.1 hr1).1).trans hr1)
  have HI3 := Lib.hid ((HI.out.below hb2).below hb23)
  have HB3 : Hid (Below w.heap.size w w3) := Lib.hid (HB1.out.trans ((hb2.trans (hb23.mono hb2.size)).mono HB1.out.size))
  have HG3 := Lib.hid (And.intro hg3 hr3)
  clear hg3 hb23 hr3 hb2 hr1 HI HB1
  gi_wp2_with (gi_at_call 40; rw [← hw3, ← hg]; have HW3 := Lib.hid hw3; have HGG := Lib.hid hg; clear hw3 hg; refine (callsIn_wide.2 (crash_nil HI3.out)).mono ?_; rintro e w4 ⟨rfl, hb4⟩)
  have HI4 := Lib.hid (HI3.out.below hb4)
  have HG4 : Hid (w4.heap[g]? = some (.cells #[.string ⟨#[]⟩, .int .i64 0, .int .i64 0, .bool false, .bool false] 78 (0, 0)) ∧ w4.heap[r]? = some (.cells #[.bool false] 4 (0, 0))) := Lib.hid ⟨(hb4.block g (Array.getElem?_eq_some_iff.1 HG3.out.1).1).trans HG3.out.1, (hb4.block r (Array.getElem?_eq_some_iff.1 HG3.out.2).1).trans HG3.out.2⟩
  have HB4 : Hid (Below w.heap.size w w4) := Lib.hid (HB3.out.trans (hb4.mono HB3.out.size))
  clear hb4 HI3 HG3 HB3
  refine (callsIn_wide.2 (steps_nil HI4.out)).mono ?_
  rintro e w5 ⟨rfl, rfl⟩
  gi_wp2_with fail
  refine (callsIn_wide.2 (all_nil HI4.out)).mono ?_
  rintro e w6 ⟨rfl, hw6⟩
  have hv6 : w6.heap[w5.heap.size]? = some (.cells #[.slice none 0 0] 76 (0, 0)) := by rw [hw6]; exact alloc_cells _ _ _
  have hb6 : Below w5.heap.size w5 w6 := by rw [hw6]; exact (Below.refl _ _).alloc (Nat.le_refl _) _
  have hs6 : w5.heap.size < w6.heap.size := by rw [hw6]; simp
  obtain ⟨vb, hvb⟩ : ∃ vb, vb = w5.heap.size := ⟨_, rfl⟩
  rw [← hvb]
  rw [← hvb] at hv6 hs6
  have HI6 := Lib.hid (HI4.out.below hb6)
  have HG6 : Hid (w6.heap[g]? = some (.cells #[.string ⟨#[]⟩, .int .i64 0, .int .i64 0, .bool false, .bool false] 78 (0, 0)) ∧ w6.heap[r]? = some (.cells #[.bool false] 4 (0, 0))) := Lib.hid ⟨(hb6.block g (Array.getElem?_eq_some_iff.1 HG4.out.1).1).trans HG4.out.1, (hb6.block r (Array.getElem?_eq_some_iff.1 HG4.out.2).1).trans HG4.out.2⟩
  have HB6 : Hid (Below w.heap.size w w6) := Lib.hid (HB4.out.trans (hb6.mono HB4.out.size))
  have HV6 := Lib.hid (And.intro hv6 hs6)
  clear hw6 hv6 hb6 hs6 hvb HI4 HG4 HB4
  have hnf : ∀ W : World, (binOp .eql 74 (.func (.func 161) #[] #[.pointer (some ⟨vb, 0, none⟩)]) .nilFunc).run Try.prog W = .ok (.bool false) W := fun W => by kernel_rfl
  gi_wp2_with fail
  have hvc : w6.cell? ⟨vb, 0, none⟩ = some (.slice none 0 0) := cell_of HV6.out.1 rfl
  have hq0 : OwnFrom w6.heap.size (fun (_ : List Unit) W => Below w6.heap.size w6 W) := ownFrom_below (Nat.le_refl _) (Nat.le_refl _)
  have hstp := values_stops_nil Fence.wide 7 trivial rfl vb w6.heap.size w6 HV6.out.2 hvc
  refine wpIn_rangeFunc_ownF (n := 8) (α := Unit) rfl (by omega) (gf := 161) (lb := #[.pointer (some ⟨vb, 0, none⟩)]) rfl trivial (enters_of Try.func161 (by kernel_rfl) rfl) hstp belowK_t (belowK_b (Nat.le_refl _)) (Below.refl _ _) (fun _ => rfl)
    (fun _ W => Below w6.heap.size w6 W) (fun _ _ _ => False) hq0 (fun _ => fun _ _ _ _ hs _ _ => hs) (Below.refl _ _) ?a1 ?assign ?body ?done ?stop
  case assign =>
    intro l x W K hK
    gi_wp2
    exact hK
  case body =>
    rintro l pre x W _ h0
    exact absurd h0 (Nat.not_lt_zero _)
  case stop =>
    rintro D c pre W _ h0 _ _
    exact h0.elim
  case done =>
    rintro D ys W hD rfl hBW hK
    have hI := HI6.out.below hBW
    have hgW := (hBW.block g (Array.getElem?_eq_some_iff.1 HG6.out.1).1).trans HG6.out.1
    have hrW := (hBW.block r (Array.getElem?_eq_some_iff.1 HG6.out.2).1).trans HG6.out.2
    have HIW := Lib.hid hI
    have HGW := Lib.hid (And.intro hgW hrW)
    have HB6S : Hid (w.heap.size ≤ w6.heap.size) := Lib.hid HB6.out.size
    have HBW : Hid (Below w.heap.size w W) := Lib.hid (HB6.out.trans (hBW.mono HB6.out.size))
    have HKW := Lib.hid hK
    clear hI hgW hrW hBW hK HI6 HG6 HB6 HV6 hvc hstp hnf hq0
    gi_wp2_with fail
    refine (callsIn_wide.2 (new_b _)).mono ?_
    rintro e w7 ⟨q, rfl, hd7, hb7⟩
    have HD7 := Lib.hid hd7
    have HI7 := Lib.hid (HIW.out.below hb7)
    have hg7 := (hb7.block g (Array.getElem?_eq_some_iff.1 HGW.out.1).1).trans HGW.out.1
    have hr7 := (hb7.block r (Array.getElem?_eq_some_iff.1 HGW.out.2).1).trans HGW.out.2
    have HK7 := Lib.hid ((hb7.block D (Array.getElem?_eq_some_iff.1 HKW.out).1).trans HKW.out)
    have HB7 : Hid (Below w.heap.size w w7) := Lib.hid (HBW.out.trans (hb7.mono HBW.out.size))
    have HR7 := Lib.hid hr7
    clear hd7 hb7 HIW HGW HKW HBW hr7
    have g0 : w7.cell? ⟨g, 0, none⟩ = some (.string ⟨#[]⟩) := cell_of hg7 rfl
    have g1 : w7.cell? ⟨g, 1, none⟩ = some (.int .i64 0) := cell_of hg7 rfl
    have g2 : w7.cell? ⟨g, 2, none⟩ = some (.int .i64 0) := cell_of hg7 rfl
    have g3 : w7.cell? ⟨g, 3, none⟩ = some (.bool false) := cell_of hg7 rfl
    have g4 : w7.cell? ⟨g, 4, none⟩ = some (.bool false) := cell_of hg7 rfl
    clear hg7
    have heq : ∀ W : World, (Op.equalIn 10000 78 (.agg #[.string ⟨#[]⟩, .int .i64 0, .int .i64 0, .bool false, .bool false]) (.agg #[.string ⟨#[]⟩, .int .i64 0, .int .i64 0, .bool false, .bool false])).run Try.prog W = .ok true W := fun W => by kernel_rfl
    gi_wp2_with fail
    refine (callsIn_wide.2 (create_nil HI7.out nm)).mono ?_
    rintro e w' ⟨rfl, rfl⟩
    gi_wp2_with fail
    refine (callsIn_wide.2 (append_nil HI7.out nm b)).mono ?_
    rintro e w' ⟨rfl, rfl⟩
    gi_wp2_with fail
    refine (callsIn_wide.2 (sync_nil HI7.out nm)).mono ?_
    rintro e w' ⟨rfl, rfl⟩
    gi_wp2_with fail
    refine (callsIn_wide.2 (syncdir_nil HI7.out )).mono ?_
    rintro e w' ⟨rfl, rfl⟩
    gi_wp2_with fail
    refine (callsIn_wide.2 (cut_nil HI7.out nm (.int .i64 n))).mono ?_
    rintro e w' ⟨rfl, rfl⟩
    gi_wp2_with fail
    refine (callsIn_wide.2 (remove_nil HI7.out nm)).mono ?_
    rintro e w' ⟨rfl, rfl⟩
    gi_wp2_with fail
    refine (callsIn_wide.2 (feed_nil HI7.out (.slice none 0 0))).mono ?_
    rintro e w' ⟨rfl, rfl⟩
    gi_wp2_with fail
    refine (callsIn_wide.2 (Names_nil HI7.out)).mono ?_
    rintro e w8 ⟨rfl, hb8⟩
    have HI8 := Lib.hid (HI7.out.below hb8)
    have HD8 := Lib.hid (DiskAt.below HD7.out hb8)
    have hr8 := (hb8.block r (Array.getElem?_eq_some_iff.1 HR7.out).1).trans HR7.out
    have HK8 := Lib.hid ((hb8.block D (Array.getElem?_eq_some_iff.1 HK7.out).1).trans HK7.out)
    have HB8 : Hid (Below w.heap.size w w8) := Lib.hid (HB7.out.trans (hb8.mono HB7.out.size))
    have HDD : Hid (w.heap.size ≤ D) := Lib.hid (by
      have h1 := hD
      have h2 := HB6S.out
      omega)
    have rc : w8.cell? ⟨r, 0, none⟩ = some (.bool false) := cell_of hr8 rfl
    have rz : w8.frozen? ⟨r, 0, none⟩ = false := free_of hr8 _
    have HR8 := Lib.hid hr8
    clear hb8 hr8 HI7 HD7 HK7 HB7 HR7 hD g0 g1 g2 g3 g4 heq
    gi_wp2_with fail
    refine (callsIn_wide.2 (copy_nil HI8.out)).mono ?_
    rintro e w' ⟨rfl, rfl⟩
    gi_wp2_with fail
    refine (callsIn_wide.2 (same_nn HI8.out (.inl rfl))).mono ?_
    rintro e w' ⟨rfl, rfl⟩
    gi_wp2_with fail
    refine (callsIn_wide.2 (same_nd HI8.out HD8.out)).mono ?_
    rintro e w' ⟨rfl, rfl⟩
    gi_wp2_with fail
    refine (callsIn_wide.2 (same_dn HI8.out HD8.out)).mono ?_
    rintro e w' ⟨rfl, rfl⟩
    gi_wp2_with fail
    have hK9 := (KeepsOthers.setCell w' ⟨r, 0, none⟩ (.bool true)).same D _ HK8.out rfl
    refine ⟨by simp, .inl ⟨_, _, rfl, run_takeDeferred hK9, ?_⟩⟩
    have hc9 : (w'.setCell ⟨r, 0, none⟩ (.bool true)).heap[r]? = some (.cells #[.bool true] 4 (0, 0)) := heap_setCell_here _ HR8.out
    have hcr := cell_kept (cell_of hc9 rfl : (w'.setCell ⟨r, 0, none⟩ (.bool true)).cell? ⟨r, 0, none⟩ = some (.bool true)) (grownBy_putObj' _ D (.deferred none)) (fun r e => by cases e; exact ⟨_, hK9, rfl⟩)
    have hrr := HR.out
    have hb9 : Below w.heap.size w (w'.setCell ⟨r, 0, none⟩ (.bool true)) := HB8.out.setCell (p := ⟨r, 0, none⟩) (by show w.heap.size ≤ r; omega) _
    have hb10 : Below w.heap.size w ((w'.setCell ⟨r, 0, none⟩ (.bool true)).putObj D (.deferred none)) := hb9.grown (grownBy_putObj' _ D (.deferred none)) hb9.size (fun k e => by cases e; exact HDD.out)
    refine ⟨.bool true, ?_, rfl, hb10⟩
    simp [results, Try.results69, go_sem, hcr]
end Go.Proofs.Ytmkjejngnahpeaa
