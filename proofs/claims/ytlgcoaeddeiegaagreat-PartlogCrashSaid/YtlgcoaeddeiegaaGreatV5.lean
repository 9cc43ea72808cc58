/- The texts Mm, Ka, Mn, Ms, SegA, SegP, SegB, SegC0, Mt, Mu, SegD, Po, Pl in one. -/
import Derived.Test.YtlgcoaeddeiegaaGreatV4
import Derived.BigQuiet
import Derived.Test.YtlgcoaeddeiegaaGreatV1
import Derived.RangeFuncNested
import Derived.RangeFuncWrites
import Derived.RangeFuncBound
import Derived.OwnWalkIn
import Derived.TacticsInMore
import Derived.LoopIn
import Derived.Sort.LoopGhostIn
import Derived.Sort.CutIn
import Derived.RangeFuncCalls
import Derived.RangeFuncFrom
import Derived.Test.YtlgcoaeddeiegaaGreatV3
import Derived.Test.YtlgcoaeddeiegaaGreatProg
import Derived.WalkKit
import Derived.WalkSpells
import Derived.WalkLawsBesides
import Derived.Lib.Hide
import Derived.Deep.Cut
/- record: Read, Look. -/
namespace Go.Proofs.YtlgcoaeddeiegaaGreat
open Go Go.RowKit
attribute [local go_sem] Oper.semAt_some

def TornL (L : List UInt8) : Prop := L ≠ [] ∧ (L.length < 4 ∨ (4 ≤ L.length ∧ 28 ≤ getT (L.take 4) ∧ getT (L.take 4) ≤ 65532 ∧ L.length < getT (L.take 4) + 4))
theorem readAt.from' {w : World} {oa : Option Addr} {n c k : Nat} {D : List UInt8} (hn : D.length = n) (h : readAt w 1 (.slice oa n c) n (byteCells D)) (hk : k ≤ n) : readAt w 1 (.slice (if c = k then oa else oa.map (·.add k)) (n - k) (c - k)) (n - k) (byteCells (D.drop k)) := by
  have h2 := h.sub k n c hk (Nat.le_refl _) h.cap (Nat.le_refl _)
  rw [Nat.mul_one, Nat.mul_one] at h2
  have e2 : ((byteCells D).drop k).take (n - k) = byteCells (D.drop k) := by
    unfold byteCells
    rw [← List.map_drop, List.take_of_length_le]
    rw [List.length_map, List.length_drop]
    omega
  rwa [e2] at h2
theorem run_from (oa : Option Addr) (N c α : Nat) (h1 : α ≤ N) (W : World) : (Instr.slice 39 (.slice oa N c) (some (.int .i64 (α : Int))) none none).run Tryz.prog W = .ok (.slice (if c = α then oa else oa.map (·.add α)) (N - α) (c - α)) W := by
  have hs : (sizeOf 5).run Tryz.prog W = .ok 1 W := by kernel_rfl
  have he : Tryz.prog.elem 39 = 5 := by kernel_rfl
  rw [run_slice_l (P := Tryz.prog) (w := W) 39 oa N c (by rw [he]; exact Tryz.underlying39) .i64 α (by omega) (by omega), he, hs]
  simp [Result.andThen, sliced]
def readNo (er : Int) (w : World) (e : Ending) (w' : World) : Prop := e = .returned (batchNo er) ∧ Below w.heap.size w w'
set_option maxRecDepth 100000 in
set_option maxHeartbeats 1000000 in
theorem readEnd_b {w : World} {oa : Option Addr} {n c at0 : Nat} {D : List UInt8} (hn : D.length = n) (h : readAt w 1 (.slice oa n c) n (byteCells D)) (hat : at0 ≤ n) (hnm : n ≤ 1000000000) (hD : D.drop at0 = []) :
    Calls Tryz.prog 85 #[.slice oa n c, .int .i64 (at0 : Int)] w fun e w' => readNo 150 w e w' := by
  obtain ⟨w1, hw1⟩ : ∃ W : World, W = w.alloc (.cells #[.int .i64 0, .slice none 0 0] 168) := ⟨_, rfl⟩
  obtain ⟨b4, hb4⟩ : ∃ b, b = w.heap.size := ⟨_, rfl⟩
  have h14 : w1.heap[b4]? = some (.cells #[.int .i64 0, .slice none 0 0] 168 (0, 0)) := by rw [hw1, hb4]; exact alloc_cells _ _ _
  have hb1 : Below w.heap.size w w1 := by rw [hw1]; exact (Below.refl _ _).alloc (Nat.le_refl _) _
  have hdl : (D.drop at0).length = n - at0 := by rw [List.length_drop, hn]
  have hrf := (readAt.from' hn h hat).kept (fun k hk _ _ => hb1.block k hk)
  have hrs : ∀ W : World, (Instr.slice 39 (.slice oa n c) (some (.int .i64 (at0 : Int))) none none).run Tryz.prog W = .ok (.slice (if c = at0 then oa else oa.map (·.add at0)) (n - at0) (c - at0)) W := fun W => run_from oa n c at0 hat W
  obtain ⟨ob, hob⟩ : ∃ x, (if c = at0 then oa else oa.map (·.add at0)) = x := ⟨_, rfl⟩
  obtain ⟨m, hm⟩ : ∃ x, n - at0 = x := ⟨_, rfl⟩
  obtain ⟨d, hd⟩ : ∃ x, c - at0 = x := ⟨_, rfl⟩
  rw [hob, hm, hd] at hrf
  simp only [hob, hm, hd] at hrs
  rw [hm] at hdl
  have hml : m ≤ 1000000000 := by omega
  have hm0 : m = 0 := by rw [← hdl, hD]; rfl
  have hbt : Calls Tryz.prog 154 #[.slice ob m d] w1 fun e w' => readNo 150 w1 e w' := by
    rw [hm0]
    exact batchEnd_b
  have HB := Lib.hid hbt
  have H1 := Lib.hid (And.intro h14 (And.intro hb1 hb4))
  have hat2 : at0 ≤ n := hat
  clear h h14 hb1 hdl hrf hD hbt hob hm hd hm0
  go_enter Tryz.func85, Tryz.ntmps85
  go_upto_region 3 with fail
  rw [← hw1, ← hb4]
  clear hw1 hb4
  go_wp2_with fail
  refine HB.out.mono ?_
  rintro e w2 ⟨rfl, hb2⟩
  have h24 := (hb2.block b4 (Array.getElem?_eq_some_iff.1 H1.out.1).1).trans H1.out.1
  have k0 : w2.cell? ⟨b4, 0, none⟩ = some (.int .i64 0) := cell_of h24 rfl
  have k1 : w2.cell? ⟨b4, 1, none⟩ = some (.slice none 0 0) := cell_of h24 rfl
  have z0 : w2.frozen? ⟨b4, 0, none⟩ = false := free_of h24 _
  have z1 : w2.frozen? ⟨b4, 1, none⟩ = false := free_of h24 _
  have H2 := Lib.hid (And.intro h24 (H1.out.2.1.trans (hb2.mono H1.out.2.1.size)))
  clear h24 hb2
  unfold batchNo
  go_wp2_with fail
  obtain ⟨w3, hw3⟩ : ∃ W : World, W = (w2.setCell ⟨b4, 0, none⟩ (.int .i64 0)).setCell ⟨b4, 1, none⟩ (.slice none 0 0) := ⟨_, rfl⟩
  have h34 : w3.heap[b4]? = some (.cells #[.int .i64 0, .slice none 0 0] 168 (0, 0)) := by rw [hw3]; exact heap_setCell_here _ (heap_setCell_here _ H2.out.1)
  have ho3 : Only (fun k => k = b4) w2 w3 := by rw [hw3]; exact (only_setCell (fun k => k = b4) _ b4 0 _ rfl).trans (only_setCell (fun k => k = b4) _ b4 1 _ rfl) (fun _ _ e => e)
  have j0 := cell_of (i := 0) h34 rfl
  have j1 := cell_of (i := 1) h34 rfl
  have hbw3 : Below w.heap.size w w3 := H2.out.2.trans (ho3.below (fun i hi e => by have := H1.out.2.2; omega) H2.out.2.size)
  rw [← hw3]
  refine ⟨rfl, batchNo 150, ?_, rfl, hbw3⟩
  simp [results, Tryz.results85, go_sem, j0, j1, batchNo]
set_option maxRecDepth 100000 in
set_option maxHeartbeats 1000000 in
theorem readTorn_b {w : World} {oa : Option Addr} {n c at0 : Nat} {D : List UInt8} (hn : D.length = n) (h : readAt w 1 (.slice oa n c) n (byteCells D)) (hat : at0 ≤ n) (hnm : n ≤ 1000000000) (hD : TornL (D.drop at0)) :
    Calls Tryz.prog 85 #[.slice oa n c, .int .i64 (at0 : Int)] w fun e w' => readNo 151 w e w' := by
  obtain ⟨w1, hw1⟩ : ∃ W : World, W = w.alloc (.cells #[.int .i64 0, .slice none 0 0] 168) := ⟨_, rfl⟩
  obtain ⟨b4, hb4⟩ : ∃ b, b = w.heap.size := ⟨_, rfl⟩
  have h14 : w1.heap[b4]? = some (.cells #[.int .i64 0, .slice none 0 0] 168 (0, 0)) := by rw [hw1, hb4]; exact alloc_cells _ _ _
  have hb1 : Below w.heap.size w w1 := by rw [hw1]; exact (Below.refl _ _).alloc (Nat.le_refl _) _
  have hdl : (D.drop at0).length = n - at0 := by rw [List.length_drop, hn]
  have hrf := (readAt.from' hn h hat).kept (fun k hk _ _ => hb1.block k hk)
  have hrs : ∀ W : World, (Instr.slice 39 (.slice oa n c) (some (.int .i64 (at0 : Int))) none none).run Tryz.prog W = .ok (.slice (if c = at0 then oa else oa.map (·.add at0)) (n - at0) (c - at0)) W := fun W => run_from oa n c at0 hat W
  obtain ⟨ob, hob⟩ : ∃ x, (if c = at0 then oa else oa.map (·.add at0)) = x := ⟨_, rfl⟩
  obtain ⟨m, hm⟩ : ∃ x, n - at0 = x := ⟨_, rfl⟩
  obtain ⟨d, hd⟩ : ∃ x, c - at0 = x := ⟨_, rfl⟩
  rw [hob, hm, hd] at hrf
  simp only [hob, hm, hd] at hrs
  rw [hm] at hdl
  have hml : m ≤ 1000000000 := by omega
  have hbt : Calls Tryz.prog 154 #[.slice ob m d] w1 fun e w' => readNo 151 w1 e w' := by
    obtain ⟨h1, h2⟩ := hD
    rw [hdl] at h2
    exact batchTorn_b hdl hrf (by have := List.length_pos_iff.2 h1; omega) h2
  have HB := Lib.hid hbt
  have H1 := Lib.hid (And.intro h14 (And.intro hb1 hb4))
  have hat2 : at0 ≤ n := hat
  clear h h14 hb1 hdl hrf hD hbt hob hm hd
  go_enter Tryz.func85, Tryz.ntmps85
  go_upto_region 3 with fail
  rw [← hw1, ← hb4]
  clear hw1 hb4
  go_wp2_with fail
  refine HB.out.mono ?_
  rintro e w2 ⟨rfl, hb2⟩
  have h24 := (hb2.block b4 (Array.getElem?_eq_some_iff.1 H1.out.1).1).trans H1.out.1
  have k0 : w2.cell? ⟨b4, 0, none⟩ = some (.int .i64 0) := cell_of h24 rfl
  have k1 : w2.cell? ⟨b4, 1, none⟩ = some (.slice none 0 0) := cell_of h24 rfl
  have z0 : w2.frozen? ⟨b4, 0, none⟩ = false := free_of h24 _
  have z1 : w2.frozen? ⟨b4, 1, none⟩ = false := free_of h24 _
  have H2 := Lib.hid (And.intro h24 (H1.out.2.1.trans (hb2.mono H1.out.2.1.size)))
  clear h24 hb2
  unfold batchNo
  go_wp2_with fail
  obtain ⟨w3, hw3⟩ : ∃ W : World, W = (w2.setCell ⟨b4, 0, none⟩ (.int .i64 0)).setCell ⟨b4, 1, none⟩ (.slice none 0 0) := ⟨_, rfl⟩
  have h34 : w3.heap[b4]? = some (.cells #[.int .i64 0, .slice none 0 0] 168 (0, 0)) := by rw [hw3]; exact heap_setCell_here _ (heap_setCell_here _ H2.out.1)
  have ho3 : Only (fun k => k = b4) w2 w3 := by rw [hw3]; exact (only_setCell (fun k => k = b4) _ b4 0 _ rfl).trans (only_setCell (fun k => k = b4) _ b4 1 _ rfl) (fun _ _ e => e)
  have j0 := cell_of (i := 0) h34 rfl
  have j1 := cell_of (i := 1) h34 rfl
  have hbw3 : Below w.heap.size w w3 := H2.out.2.trans (ho3.below (fun i hi e => by have := H1.out.2.2; omega) H2.out.2.size)
  rw [← hw3]
  refine ⟨rfl, batchNo 151, ?_, rfl, hbw3⟩
  simp [results, Tryz.results85, go_sem, j0, j1, batchNo]
set_option maxRecDepth 100000 in
set_option maxHeartbeats 1000000 in
theorem readOk_b {w : World} {oa : Option Addr} {n c at0 : Nat} {D : List UInt8} (hn : D.length = n) (h : readAt w 1 (.slice oa n c) n (byteCells D)) (hat : at0 ≤ n) (hnm : n ≤ 1000000000) {base : Int} {l : List Rc} {tl : List UInt8} (hD : D.drop at0 = batchT base l ++ tl) (hg : GoodB base l) :
    Calls Tryz.prog 85 #[.slice oa n c, .int .i64 (at0 : Int)] w fun e w' => BatchIs w base l e w' := by
  obtain ⟨w1, hw1⟩ : ∃ W : World, W = w.alloc (.cells #[.int .i64 0, .slice none 0 0] 168) := ⟨_, rfl⟩
  obtain ⟨b4, hb4⟩ : ∃ b, b = w.heap.size := ⟨_, rfl⟩
  have h14 : w1.heap[b4]? = some (.cells #[.int .i64 0, .slice none 0 0] 168 (0, 0)) := by rw [hw1, hb4]; exact alloc_cells _ _ _
  have hb1 : Below w.heap.size w w1 := by rw [hw1]; exact (Below.refl _ _).alloc (Nat.le_refl _) _
  have hdl : (D.drop at0).length = n - at0 := by rw [List.length_drop, hn]
  have hrf := (readAt.from' hn h hat).kept (fun k hk _ _ => hb1.block k hk)
  have hrs : ∀ W : World, (Instr.slice 39 (.slice oa n c) (some (.int .i64 (at0 : Int))) none none).run Tryz.prog W = .ok (.slice (if c = at0 then oa else oa.map (·.add at0)) (n - at0) (c - at0)) W := fun W => run_from oa n c at0 hat W
  obtain ⟨ob, hob⟩ : ∃ x, (if c = at0 then oa else oa.map (·.add at0)) = x := ⟨_, rfl⟩
  obtain ⟨m, hm⟩ : ∃ x, n - at0 = x := ⟨_, rfl⟩
  obtain ⟨d, hd⟩ : ∃ x, c - at0 = x := ⟨_, rfl⟩
  rw [hob, hm, hd] at hrf
  simp only [hob, hm, hd] at hrs
  rw [hm] at hdl
  have hml : m ≤ 1000000000 := by omega
  have hbt := batchOk_b hD hdl hrf hg hml
  have HB := Lib.hid hbt
  have H1 := Lib.hid (And.intro h14 (And.intro hb1 hb4))
  have hat2 : at0 ≤ n := hat
  clear h h14 hb1 hdl hrf hD hbt hob hm hd
  go_enter Tryz.func85, Tryz.ntmps85
  go_upto_region 3 with fail
  rw [← hw1, ← hb4]
  clear hw1 hb4
  go_wp2_with fail
  refine HB.out.mono ?_
  rintro e w2 ⟨v, xs, rfl, hxs, hnr⟩
  obtain ⟨ov, cv, hve, -⟩ := hnr.row.shape
  subst hve
  have h24 := (hnr.below.block b4 (Array.getElem?_eq_some_iff.1 H1.out.1).1).trans H1.out.1
  have k0 : w2.cell? ⟨b4, 0, none⟩ = some (.int .i64 0) := cell_of h24 rfl
  have k1 : w2.cell? ⟨b4, 1, none⟩ = some (.slice none 0 0) := cell_of h24 rfl
  have z0 : w2.frozen? ⟨b4, 0, none⟩ = false := free_of h24 _
  have z1 : w2.frozen? ⟨b4, 1, none⟩ = false := free_of h24 _
  have H2 := Lib.hid (And.intro h24 (And.intro hxs hnr))
  clear h24 hxs hnr
  unfold batchV
  go_wp2_with fail
  obtain ⟨w3, hw3⟩ : ∃ W : World, W = (w2.setCell ⟨b4, 0, none⟩ (.int .i64 base)).setCell ⟨b4, 1, none⟩ (.slice ov xs.length cv) := ⟨_, rfl⟩
  have h34 : w3.heap[b4]? = some (.cells #[.int .i64 base, .slice ov xs.length cv] 168 (0, 0)) := by rw [hw3]; exact heap_setCell_here _ (heap_setCell_here _ H2.out.1)
  have ho3 : Only (fun k => k = b4) w2 w3 := by rw [hw3]; exact (only_setCell (fun k => k = b4) _ b4 0 _ rfl).trans (only_setCell (fun k => k = b4) _ b4 1 _ rfl) (fun _ _ e => e)
  have j0 := cell_of (i := 0) h34 rfl
  have j1 := cell_of (i := 1) h34 rfl
  have hbw3 : Below w.heap.size w w3 := (H1.out.2.1.trans (H2.out.2.2.below.mono H1.out.2.1.size)).trans (ho3.below (fun i hi e => by have := H1.out.2.2; omega) (H1.out.2.1.trans (H2.out.2.2.below.mono H1.out.2.1.size)).size)
  have hn3 : NewR w w3 (.slice ov xs.length cv) xs := by
    have h2 := H2.out.2.2
    have hlw : ∀ {k : Nat}, w1.heap.size ≤ k → w.heap.size ≤ k := fun hk => Nat.le_trans H1.out.2.1.size hk
    have h2' : NewR w w2 (.slice ov xs.length cv) xs := ⟨h2.row, fun k hk => hlw (h2.own k hk), fun x hx => ⟨(h2.each x hx).1, (h2.each x hx).2.1, fun k hk => hlw ((h2.each x hx).2.2.1 k hk), fun k hk => hlw ((h2.each x hx).2.2.2 k hk)⟩, H1.out.2.1.trans (h2.below.mono H1.out.2.1.size)⟩
    exact h2'.only ho3 hbw3 (fun k e => by subst e; exact h2'.apart H2.out.1 (by decide) (by decide))
  rw [← hw3]
  refine ⟨rfl, batchV base (.slice ov xs.length cv) (rcsSize l), ?_, ⟨_, xs, rfl, H2.out.2.1, hn3⟩⟩
  simp [results, Tryz.results85, go_sem, j0, j1, batchV]
def lookNo (er : Int) : Value := .tuple #[.int .i64 0, .int .i64 0, .int .i64 0, .int .i64 er]
def lookOk (base : Int) (l : List Rc) : Value := .tuple #[.int .i64 base, .int .i64 (l.length : Int), .int .i64 (rcsSize l : Int), .int .i64 0]
set_option maxRecDepth 100000 in
set_option maxHeartbeats 1000000 in
theorem lookEnd_b {w : World} {oa : Option Addr} {n c at0 : Nat} {D : List UInt8} (hn : D.length = n) (h : readAt w 1 (.slice oa n c) n (byteCells D)) (hat : at0 ≤ n) (hnm : n ≤ 1000000000) (hD : D.drop at0 = []) :
    Calls Tryz.prog 152 #[.slice oa n c, .int .i64 (at0 : Int)] w fun e w' => e = .returned (lookNo 150) ∧ Below w.heap.size w w' := by
  have HB := Lib.hid (readEnd_b hn h hat hnm hD)
  clear hn h hat hD
  go_enter Tryz.func152, Tryz.ntmps152
  go_wp2_with fail
  refine HB.out.mono ?_
  rintro e w2 ⟨rfl, hb2⟩
  obtain ⟨w3, hw3⟩ : ∃ W : World, W = w2.alloc (.cells #[.int .i64 0, .slice none 0 0] 168) := ⟨_, rfl⟩
  obtain ⟨b8, hb8⟩ : ∃ b, b = w2.heap.size := ⟨_, rfl⟩
  have h38 : w3.heap[b8]? = some (.cells #[.int .i64 0, .slice none 0 0] 168 (0, 0)) := by rw [hw3, hb8]; exact alloc_cells _ _ _
  have hb3 : Below w.heap.size w w3 := hb2.trans ((by rw [hw3]; exact (Below.refl _ _).alloc (Nat.le_refl _) _ : Below w2.heap.size w2 w3).mono hb2.size)
  have k0 : w3.cell? ⟨b8, 0, none⟩ = some (.int .i64 0) := cell_of h38 rfl
  have k1 : w3.cell? ⟨b8, 1, none⟩ = some (.slice none 0 0) := cell_of h38 rfl
  have H3 := Lib.hid hb3
  unfold batchNo
  clear h38 hb3 hb2
  go_upto_region 2 with fail
  rw [← hw3, ← hb8]
  clear hw3 hb8
  go_quiet (fail)
  go_wp2_with fail
  refine ⟨rfl, lookNo 150, ?_, rfl, ⟨H3.out.os, H3.out.tape, H3.out.output, H3.out.size, H3.out.block⟩⟩
  simp [results, Tryz.results152, go_sem, lookNo]
set_option maxRecDepth 100000 in
set_option maxHeartbeats 1000000 in
theorem lookTorn_b {w : World} {oa : Option Addr} {n c at0 : Nat} {D : List UInt8} (hn : D.length = n) (h : readAt w 1 (.slice oa n c) n (byteCells D)) (hat : at0 ≤ n) (hnm : n ≤ 1000000000) (hD : TornL (D.drop at0)) :
    Calls Tryz.prog 152 #[.slice oa n c, .int .i64 (at0 : Int)] w fun e w' => e = .returned (lookNo 151) ∧ Below w.heap.size w w' := by
  have HB := Lib.hid (readTorn_b hn h hat hnm hD)
  clear hn h hat hD
  go_enter Tryz.func152, Tryz.ntmps152
  go_wp2_with fail
  refine HB.out.mono ?_
  rintro e w2 ⟨rfl, hb2⟩
  obtain ⟨w3, hw3⟩ : ∃ W : World, W = w2.alloc (.cells #[.int .i64 0, .slice none 0 0] 168) := ⟨_, rfl⟩
  obtain ⟨b8, hb8⟩ : ∃ b, b = w2.heap.size := ⟨_, rfl⟩
  have h38 : w3.heap[b8]? = some (.cells #[.int .i64 0, .slice none 0 0] 168 (0, 0)) := by rw [hw3, hb8]; exact alloc_cells _ _ _
  have hb3 : Below w.heap.size w w3 := hb2.trans ((by rw [hw3]; exact (Below.refl _ _).alloc (Nat.le_refl _) _ : Below w2.heap.size w2 w3).mono hb2.size)
  have k0 : w3.cell? ⟨b8, 0, none⟩ = some (.int .i64 0) := cell_of h38 rfl
  have k1 : w3.cell? ⟨b8, 1, none⟩ = some (.slice none 0 0) := cell_of h38 rfl
  have H3 := Lib.hid hb3
  unfold batchNo
  clear h38 hb3 hb2
  go_upto_region 2 with fail
  rw [← hw3, ← hb8]
  clear hw3 hb8
  go_quiet (fail)
  go_wp2_with fail
  refine ⟨rfl, lookNo 151, ?_, rfl, ⟨H3.out.os, H3.out.tape, H3.out.output, H3.out.size, H3.out.block⟩⟩
  simp [results, Tryz.results152, go_sem, lookNo]
set_option maxRecDepth 100000 in
set_option maxHeartbeats 1000000 in
theorem lookOk_b {w : World} {oa : Option Addr} {n c at0 : Nat} {D : List UInt8} (hn : D.length = n) (h : readAt w 1 (.slice oa n c) n (byteCells D)) (hat : at0 ≤ n) (hnm : n ≤ 1000000000) {base : Int} {l : List Rc} {tl : List UInt8} (hD : D.drop at0 = batchT base l ++ tl) (hg : GoodB base l) :
    Calls Tryz.prog 152 #[.slice oa n c, .int .i64 (at0 : Int)] w fun e w' => e = .returned (lookOk base l) ∧ Below w.heap.size w w' := by
  have HB := Lib.hid (readOk_b hn h hat hnm hD hg)
  clear hn h hat hD
  go_enter Tryz.func152, Tryz.ntmps152
  go_wp2_with fail
  refine HB.out.mono ?_
  rintro e w2 ⟨v, xs, rfl, hxs, hnr⟩
  obtain ⟨ov, cv, hve, -⟩ := hnr.row.shape
  have hxl : xs.length = l.length := by rw [← hxs, List.length_map]
  rw [hxl] at hve
  subst hve
  have hb2 := hnr.below
  obtain ⟨w3, hw3⟩ : ∃ W : World, W = w2.alloc (.cells #[.int .i64 base, .slice ov l.length cv] 168) := ⟨_, rfl⟩
  obtain ⟨b8, hb8⟩ : ∃ b, b = w2.heap.size := ⟨_, rfl⟩
  have h38 : w3.heap[b8]? = some (.cells #[.int .i64 base, .slice ov l.length cv] 168 (0, 0)) := by rw [hw3, hb8]; exact alloc_cells _ _ _
  have hb3 : Below w.heap.size w w3 := hb2.trans ((by rw [hw3]; exact (Below.refl _ _).alloc (Nat.le_refl _) _ : Below w2.heap.size w2 w3).mono hb2.size)
  have k0 : w3.cell? ⟨b8, 0, none⟩ = some (.int .i64 base) := cell_of h38 rfl
  have k1 : w3.cell? ⟨b8, 1, none⟩ = some (.slice ov l.length cv) := cell_of h38 rfl
  have H3 := Lib.hid hb3
  unfold batchV
  clear h38 hb3 hb2
  go_upto_region 2 with fail
  rw [← hw3, ← hb8]
  clear hw3 hb8
  go_quiet (fail)
  go_wp2_with fail
  refine ⟨rfl, lookOk base l, ?_, rfl, ⟨H3.out.os, H3.out.tape, H3.out.output, H3.out.size, H3.out.block⟩⟩
  simp [results, Tryz.results152, go_sem, lookOk]
end Go.Proofs.YtlgcoaeddeiegaaGreat
/- A range over a function that has memory of its own, and whose elements lie in memory when they come. -/
namespace Go.Proofs.YtlgcoaeddeiegaaGreat
open Go Go.RowKit

variable {F : Fence} {n : Nat} {P : Program}

abbrev KeptR (n₀ : Nat) (T : Nat → Prop) (W W' : World) : Prop := Only (fun k => n₀ ≤ k ∧ ¬ T k) W W'
theorem KeptR.join {n₀ : Nat} {T : Nat → Prop} {A B C : World} (h : KeptR n₀ T A B) (k : KeptR n₀ T B C) : KeptR n₀ T A C := Only.trans h k (fun _ _ h => h)
theorem KeptR.of {n₀ : Nat} {T : Nat → Prop} {A B : World} (h : Below A.heap.size A B) : KeptR n₀ T A B := Only.of_below h (Nat.le_refl _) _
theorem only_put (S : Nat → Prop) (W : World) (b : Nat) (o : Obj) (h : S b) : Only S W (W.putObj b o) := Only.of_grown (grownBy_putObj' W b o) (fun k e => by cases e; exact h)
def SeqTold {α : Type} (F : Fence) (n : Nat) (P : Program) (g : Nat) (lb : Array Value) (encs : α → Array Value) (Gv : Nat → (Nat → Prop) → List α → α → World → Prop) (S Sp : List α → Prop) (N : Nat) (w : World) : Prop :=
  ∀ (l : Nat) (J Jx : (Nat → Prop) → List α → World → Prop) (W : World), Below w.heap.size w W →
    (∀ T W1, Below W.heap.size W W1 → (∀ k, T k → W.heap.size ≤ k ∧ k < W1.heap.size) → J T [] W1) →
    (∀ T pre A B, J T pre A → Only T A B → J T pre B) → (∀ T pre A B, Jx T pre A → Only T A B → Jx T pre B) →
    (∀ T pre x Wp W1, (∀ k, T k → W.heap.size ≤ k ∧ k < W1.heap.size) → J T pre Wp → Only T Wp W1 → W.heap.size ≤ Wp.heap.size → Gv Wp.heap.size T pre x W1 → pre.length < N → YieldAt F (n - 1) P l (encs x) W1 fun e W' =>
      (e = .returned (.bool true) ∧ J T (pre ++ [x]) W' ∧ KeptR w.heap.size T W1 W') ∨ (e = .returned (.bool false) ∧ Jx T (pre ++ [x]) W' ∧ KeptR w.heap.size T W1 W')) →
    CallsIn F n P g (#[.func (.yield l) #[] #[]] ++ lb) W fun e W' => (∃ v, e = .returned v) ∧ ((∃ T xs, S xs ∧ J T xs W') ∨ (∃ T pre, Sp pre ∧ Jx T pre W'))
theorem SeqTold.later {α : Type} {g : Nat} {lb : Array Value} {encs : α → Array Value} {Gv : Nat → (Nat → Prop) → List α → α → World → Prop} {S Sp : List α → Prop} {N : Nat} {w w' : World}
    (h : SeqTold F n P g lb encs Gv S Sp N w) (hb : Below w.heap.size w w') : SeqTold F n P g lb encs Gv S Sp N w' :=
  fun l J Jx W hW hs hJ hJx hY => h l J Jx W (hb.trans (hW.mono hb.size)) hs hJ hJx (fun T pre x Wp W1 hT hj ho hz hg hl => (hY T pre x Wp W1 hT hj ho hz hg hl).mono (fun e W' hr => by
    rcases hr with ⟨h1, h2, h3⟩ | ⟨h1, h2, h3⟩
    · exact .inl ⟨h1, h2, h3.mono (fun k _ hk => ⟨Nat.le_trans hb.size hk.1, hk.2⟩)⟩
    · exact .inr ⟨h1, h2, h3.mono (fun k _ hk => ⟨Nat.le_trans hb.size hk.1, hk.2⟩)⟩))
abbrev KeptS (n₀ b : Nat) (T : Nat → Prop) (W W' : World) : Prop := KeptR n₀ (fun k => T k ∨ k = b ∨ k = b + 1) W W'
def toldPost {α : Type} (K : World → World → Prop) (I : List α → World → Prop) (Ix : Code → List α → World → Prop) (xs : List α) (W : World) : Exit → Act → World → Prop
  | .normal, _, W' => K W W' ∧ I xs W'
  | .ret, _, W' => K W W' ∧ Ix .ret xs W'
  | .exit id, _, W' => K W W' ∧ Ix (.exit id) xs W'
  | .goto t, _, W' => K W W' ∧ Ix (.goto t) xs W'
  | .panic _, _, _ => False
  | .outgrown, _, _ => False
theorem wpIn_rangeFunc_told {α : Type} {g : Operand} {ps : Array Tmp} {assign body : Code} {Q : Exit → Act → World → Prop} {a : Act} {w : World}
    (hro : F.round = none) (h1 : 1 ≤ n) {gf : Nat} {lb : Array Value} (hg : a.eval g = .func (.func gf) #[] lb) (hFg : F.fn gf) (eg : ∀ args w, (callFunc gf args).run P w = .ok (.enter gf args) w)
    {encs : α → Array Value} {Gv : Nat → (Nat → Prop) → List α → α → World → Prop} {S Sp : List α → Prop} {N : Nat} {w0 : World} (hseq : SeqTold F (n - 1) P gf lb encs Gv S Sp N w0) (hb0 : Below w0.heap.size w0 w) (hps : ∀ x, (encs x).size = ps.size)
    (I : (Nat → Prop) → List α → World → Prop) (Ix : Code → (Nat → Prop) → List α → World → Prop)
    (hI : ∀ T pre A B, I T pre A → Only (fun k => T k ∨ k = w.heap.size ∨ k = w.heap.size + 1) A B → I T pre B)
    (hIx : ∀ c T pre A B, Ix c T pre A → Only (fun k => T k ∨ k = w.heap.size ∨ k = w.heap.size + 1) A B → Ix c T pre B)
    (h0 : ∀ T W1, Below w.heap.size w W1 → w.heap.size + 2 ≤ W1.heap.size → (∀ k, T k → w.heap.size + 2 ≤ k ∧ k < W1.heap.size) → I T [] W1)
    (hround : ∀ T pre x Wp W, (∀ k, T k → w.heap.size + 2 ≤ k ∧ k < W.heap.size) → (∃ r, W.heap[w.heap.size + 1]? = some (.loop r)) → W.heap[w.heap.size]? = some (.deferred (some [])) → I T pre Wp → Only T Wp W → w.heap.size + 2 ≤ Wp.heap.size → Gv Wp.heap.size T pre x W → pre.length < N →
      ∀ K : Act → World → Prop, (∀ a' W', KeptS w0.heap.size w.heap.size T W W' →
        (∀ W2, Only (fun k => k = w.heap.size + 1) W' W2 → (∃ r, W2.heap[w.heap.size + 1]? = some (.loop r)) →
          body.wpIn (F.inRound (w.heap.size + 1)) (n - 1 - 1) P (toldPost (KeptS w0.heap.size w.heap.size T) (I T) (fun c => Ix c T) (pre ++ [x]) W2) a' W2) → K a' W') →
      assign.wpIn (F.inRound (w.heap.size + 1)) (n - 1 - 1) P (Exit.then K (fun _ _ _ => False)) { tmps := (ps.zip (encs x)).foldl (fun t (p, v) => t.setIfInBounds p v) a.tmps, defers := [] } W)
    (hdone : ∀ T xs W, S xs → I T xs W → W.heap[w.heap.size]? = some (.deferred (some [])) → Q .normal { a with defers := { target := .collected w.heap.size, args := #[] } :: a.defers } W)
    (hstop : ∀ T c pre W, Sp pre → Ix c T pre W → W.heap[w.heap.size]? = some (.deferred (some [])) → c.wpIn F n P Q { a with defers := { target := .collected w.heap.size, args := #[] } :: a.defers } W) :
    (Code.rangeFunc g ps assign body).wpIn F n P Q a w := by
  refine wpIn_rangeFunc fun fn hfn => ?_
  rw [hro]
  obtain ⟨rec, hrec⟩ : ∃ rec : LoopState → Option Code → Loop, rec = fun st pe => { state := st, pending := pe, fn, tmps := a.tmps, params := ps, assign, body, defers := w.heap.size } := ⟨_, rfl⟩
  obtain ⟨V, hV⟩ : ∃ V, (w.alloc (.deferred (some []))).alloc (.loop (rec .ready none)) = V := ⟨_, rfl⟩
  have hVs : V.heap.size = w.heap.size + 2 := by rw [← hV]; simp
  have hVb : Below w.heap.size w V := by rw [← hV]; exact ((Below.refl _ w).alloc (Nat.le_refl _) _).alloc (by simp) _
  have hVl : V.heap[w.heap.size + 1]? = some (.loop (rec .ready none)) := by
    rw [← hV]
    have := World.alloc_heap_new (w.alloc (.deferred (some []))) (.loop (rec .ready none))
    rwa [World.size_alloc] at this
  have hVd : V.heap[w.heap.size]? = some (.deferred (some [])) := by rw [← hV]; exact (Below.heap_alloc _ _ _ (by simp)).trans (World.alloc_heap_new w _)
  refine ⟨w.heap.size + 1, [{ target := .collected w.heap.size, args := #[] }], V, { target := .fn (.func gf) lb, args := #[.func (.yield (w.heap.size + 1)) #[] #[]] }, V, gf, #[.func (.yield (w.heap.size + 1)) #[] #[]] ++ lb, V,
    by rw [← hV, hrec]; exact run_enterLoop_outer _ _ _ _ _, ?_, ?_, by simp [invoke, go_sem, eg], fun _ => h1, ?_⟩
  · simp only [resolve, hg]
    simp [go_sem]
  · intro f' hf'
    simp [Target.leads] at hf'
    subst hf'
    exact hFg
  -- the two blocks of the statement's own, in whatever world the iterator leaves
  have book : ∀ {T : Nat → Prop} {A B : World} {o : Obj} {k : Nat}, (∀ k, T k → w.heap.size + 2 ≤ k) → Only T A B → k < w.heap.size + 2 → A.heap[k]? = some o → B.heap[k]? = some o := fun hT ho hk hA =>
    (ho.block _ (Array.getElem?_eq_some_iff.1 hA).1 (fun h => by have := hT _ h; omega)).trans hA
  have kept : ∀ {T : Nat → Prop} {A B : World} {o : Obj} {k : Nat}, KeptS w0.heap.size w.heap.size T A B → (k = w.heap.size ∨ k = w.heap.size + 1) → A.heap[k]? = some o → B.heap[k]? = some o := fun ho hk hA =>
    (ho.block _ (Array.getElem?_eq_some_iff.1 hA).1 (fun h => h.2 (.inr hk))).trans hA
  refine (hseq (w.heap.size + 1)
    (fun T pre W => (∀ k, T k → w.heap.size + 2 ≤ k) ∧ I T pre W ∧ W.heap[w.heap.size + 1]? = some (.loop (rec .ready none)) ∧ W.heap[w.heap.size]? = some (.deferred (some [])))
    (fun T pre W => (∀ k, T k → w.heap.size + 2 ≤ k) ∧ ∃ c, Ix c T pre W ∧ W.heap[w.heap.size + 1]? = some (.loop (rec .done (some c))) ∧ W.heap[w.heap.size]? = some (.deferred (some [])))
    V (hb0.trans (hVb.mono hb0.size)) ?start ?abide ?abidex ?round).mono ?behind
  case start =>
    intro T W1 hW1 hT
    rw [hVs] at hT
    have hs := hW1.size
    rw [hVs] at hs
    exact ⟨fun k hk => (hT k hk).1, h0 T W1 (hVb.trans (hW1.mono (by omega))) hs hT, (hW1.block _ (by omega)).trans hVl, (hW1.block _ (by omega)).trans hVd⟩
  case abide =>
    rintro T pre A B ⟨hT, hi, hl, hd⟩ ho
    exact ⟨hT, hI T pre A B hi (ho.mono (fun _ _ h => .inl h)), book hT ho (by omega) hl, book hT ho (by omega) hd⟩
  case abidex =>
    rintro T pre A B ⟨hT, c, hi, hl, hd⟩ ho
    exact ⟨hT, c, hIx c T pre A B hi (ho.mono (fun _ _ h => .inl h)), book hT ho (by omega) hl, book hT ho (by omega) hd⟩
  case round =>
    rintro T pre x Wp W hTW ⟨hT, hi, hlp, hdp⟩ hop hszp hgv hlen
    rw [hVs] at hszp
    have hl := book hT hop (by omega) hlp
    have hd := book hT hop (by omega) hdp
    have hy := run_yield (P := P) (args := encs x) hl (by rw [hrec]; exact hps x)
    rw [hrec] at hy
    refine ⟨fn, _, assign, body, hy, roundIn_of_wpIn hfn (wpIn_mono (hround T pre x Wp W (fun k hk => ⟨hT k hk, (hTW k hk).2⟩) ⟨_, hl⟩ hd hi hop hszp hgv hlen (fun a' W' => KeptS w0.heap.size w.heap.size T W W' ∧ ∀ W2, Only (fun k => k = w.heap.size + 1) W' W2 → (∃ r, W2.heap[w.heap.size + 1]? = some (.loop r)) → body.wpIn (F.inRound (w.heap.size + 1)) (n - 1 - 1) P (toldPost (KeptS w0.heap.size w.heap.size T) (I T) (fun c => Ix c T) (pre ++ [x]) W2) a' W2) (fun _ _ h1 h2 => ⟨h1, h2⟩)) ?_)⟩
    clear hy
    rintro e a' Wa hp
    cases e with
    | normal =>
      obtain ⟨hka, hbody⟩ := hp
      have hla := kept hka (.inr rfl) hl
      have hda := kept hka (.inl rfl) hd
      have hlta := (Array.getElem?_eq_some_iff.1 hla).1
      refine ⟨_, run_beginRound hla (by rw [hrec]), ?_⟩
      have hl2 : (Wa.putObj (w.heap.size + 1) (.loop { rec .ready none with state := .busy })).heap[w.heap.size + 1]? = some (.loop { rec .ready none with state := .busy }) := World.putObj_heap_same hlta
      have hd2 : (Wa.putObj (w.heap.size + 1) (.loop { rec .ready none with state := .busy })).heap[w.heap.size]? = some (.deferred (some [])) := (World.putObj_heap_other (by omega)).trans hda
      have hput : ∀ (W' : World) (o : Obj), KeptR w0.heap.size T W' (W'.putObj (w.heap.size + 1) o) := fun W' o => only_put _ W' _ o ⟨by have := hb0.size; omega, fun h => by have := hT _ h; omega⟩
      have hput' : ∀ (W' : World) (o : Obj), Only (fun k => T k ∨ k = w.heap.size ∨ k = w.heap.size + 1) W' (W'.putObj (w.heap.size + 1) o) := fun W' o => only_put _ W' _ o (.inr (.inr rfl))
      have less : ∀ {A B : World}, KeptS w0.heap.size w.heap.size T A B → KeptR w0.heap.size T A B := fun h => h.mono (fun _ _ hk => ⟨hk.1, fun ht => hk.2 (.inl ht)⟩)
      refine wpIn_mono (hbody _ (only_put _ _ _ _ rfl) ⟨_, hl2⟩) ?_
      have fin : ∀ (jump : Option Code) (W3 : World), KeptS w0.heap.size w.heap.size T (Wa.putObj (w.heap.size + 1) (.loop { rec .ready none with state := .busy })) W3 →
          (Instr.endRound (w.heap.size + 1) jump).run P W3 = .ok (.bool jump.isNone) (W3.putObj (w.heap.size + 1) (.loop (rec (if jump.isNone then .ready else .done) jump))) ∧
          (W3.putObj (w.heap.size + 1) (.loop (rec (if jump.isNone then .ready else .done) jump))).heap[w.heap.size + 1]? = some (.loop (rec (if jump.isNone then .ready else .done) jump)) ∧
          (W3.putObj (w.heap.size + 1) (.loop (rec (if jump.isNone then .ready else .done) jump))).heap[w.heap.size]? = some (.deferred (some [])) := fun jump W3 hk3 => by
        have hl3 := kept hk3 (.inr rfl) hl2
        have hr := run_endRound (P := P) jump hl3
        rw [hrec] at hr ⊢
        exact ⟨hr, World.putObj_heap_same (Array.getElem?_eq_some_iff.1 hl3).1, (World.putObj_heap_other (by omega)).trans (kept hk3 (.inl rfl) hd2)⟩
      rintro e a3 W3 hp3
      cases e with
      | normal =>
        obtain ⟨hk3, hi3⟩ := hp3
        obtain ⟨hr, hl4, hd4⟩ := fin none W3 hk3
        exact ⟨_, _, hr, .inl ⟨rfl, ⟨hT, hI _ _ _ _ hi3 (hput' _ _), hl4, hd4⟩, (((less hka).join (hput _ _)).join (less hk3)).join (hput _ _)⟩⟩
      | ret =>
        obtain ⟨hk3, hi3⟩ := hp3
        obtain ⟨hr, hl4, hd4⟩ := fin (some .ret) W3 hk3
        exact ⟨_, _, hr, .inr ⟨rfl, ⟨hT, .ret, hIx _ _ _ _ _ hi3 (hput' _ _), hl4, hd4⟩, (((less hka).join (hput _ _)).join (less hk3)).join (hput _ _)⟩⟩
      | exit id =>
        obtain ⟨hk3, hi3⟩ := hp3
        obtain ⟨hr, hl4, hd4⟩ := fin (some (.exit id)) W3 hk3
        exact ⟨_, _, hr, .inr ⟨rfl, ⟨hT, .exit id, hIx _ _ _ _ _ hi3 (hput' _ _), hl4, hd4⟩, (((less hka).join (hput _ _)).join (less hk3)).join (hput _ _)⟩⟩
      | goto t =>
        obtain ⟨hk3, hi3⟩ := hp3
        obtain ⟨hr, hl4, hd4⟩ := fin (some (.goto t)) W3 hk3
        exact ⟨_, _, hr, .inr ⟨rfl, ⟨hT, .goto t, hIx _ _ _ _ _ hi3 (hput' _ _), hl4, hd4⟩, (((less hka).join (hput _ _)).join (less hk3)).join (hput _ _)⟩⟩
      | panic ch => exact hp3.elim
      | outgrown => exact hp3.elim
    | ret => exact hp.elim
    | exit id => exact hp.elim
    | goto t => exact hp.elim
    | panic ch => exact hp.elim
    | outgrown => exact hp.elim
  case behind =>
    rintro e W2 ⟨⟨v, rfl⟩, (⟨T, xs, hS, hT, hi, hl, hd⟩ | ⟨T, pre, hSp, hT, c, hi, hl, hd⟩)⟩
    · exact ⟨none, _, by have := run_endLoop (P := P) hl (by rw [hrec]; simp); rw [hrec] at this; exact this, hdone T xs _ hS (hI _ _ _ _ hi (only_put _ _ _ _ (.inr (.inr rfl)))) ((World.putObj_heap_other (by omega)).trans hd)⟩
    · exact ⟨some c, _, by have := run_endLoop (P := P) hl (by rw [hrec]; simp); rw [hrec] at this; exact this, hstop T c pre _ hSp (hIx _ _ _ _ _ hi (only_put _ _ _ _ (.inr (.inr rfl)))) ((World.putObj_heap_other (by omega)).trans hd)⟩
end Go.Proofs.YtlgcoaeddeiegaaGreat
/- record: All: going over whole batches. -/
namespace Go.Proofs.YtlgcoaeddeiegaaGreat
open Go Go.RowKit
attribute [local go_sem] Oper.semAt_some

abbrev Bat := Int × List Rc
def batsT (L : List Bat) : List UInt8 := L.flatMap fun b => batchT b.1 b.2
def posT (L : List Bat) (j : Nat) : Nat := (batsT (L.take j)).length
theorem batsT_append (A B : List Bat) : batsT (A ++ B) = batsT A ++ batsT B := by unfold batsT; rw [List.flatMap_append]
theorem posT_succ {L : List Bat} {j : Nat} (h : j < L.length) : posT L (j + 1) = posT L j + rcsSize L[j].2 := by
  unfold posT
  rw [List.take_succ_eq_append_getElem h, batsT_append, List.length_append]
  congr 1
  unfold batsT
  simp [batchT_len]
theorem posT_all (L : List Bat) : posT L L.length = (batsT L).length := by unfold posT; rw [List.take_length]
theorem bats_split (L : List Bat) (j : Nat) : batsT L = batsT (L.take j) ++ batsT (L.drop j) := by rw [← batsT_append, List.take_append_drop]
theorem bats_at {L : List Bat} {j : Nat} (h : j < L.length) (tl : List UInt8) : (batsT L ++ tl).drop (posT L j) = batchT L[j].1 L[j].2 ++ (batsT (L.drop (j + 1)) ++ tl) := by
  have e : batsT L = batsT (L.take j) ++ (batchT L[j].1 L[j].2 ++ batsT (L.drop (j + 1))) := by
    rw [bats_split L j]
    congr 1
    rw [List.drop_eq_getElem_cons h]
    rfl
  rw [e, List.append_assoc, List.append_assoc]
  exact List.drop_left' rfl
theorem bats_end (L : List Bat) (tl : List UInt8) : (batsT L ++ tl).drop (posT L L.length) = tl := by
  rw [posT_all]
  exact List.drop_left' rfl
theorem posT_le {L : List Bat} {j : Nat} : posT L j ≤ (batsT L).length := by
  rw [bats_split L j, List.length_append]
  unfold posT
  omega
structure BatV where
  at' : Nat
  base : Int
  oa : Option Addr
  c : Nat
  xs : List RcV
def encB (x : BatV) : Array Value := #[.int .i64 (x.at' : Int), .agg #[.int .i64 x.base, .slice x.oa x.xs.length x.c]]
structure RNew (n₀ : Nat) (W : World) (v : Value) (xs : List RcV) : Prop where
  row : rowAt W 150 3 v xs.length (recsCells xs)
  own : ∀ k, v.ownBlock = some k → n₀ ≤ k
  each : ∀ x ∈ xs, rowAt W 5 1 x.kv x.r.key.length (byteCells x.r.key) ∧ rowAt W 5 1 x.vv x.r.val.length (byteCells x.r.val) ∧ (∀ k, x.kv.ownBlock = some k → n₀ ≤ k) ∧ (∀ k, x.vv.ownBlock = some k → n₀ ≤ k)
theorem NewR.from' {w W : World} {v : Value} {xs : List RcV} (h : NewR w W v xs) {n₀ : Nat} (hn : n₀ ≤ w.heap.size) : RNew n₀ W v xs :=
  ⟨h.row, fun k hk => Nat.le_trans hn (h.own k hk), fun x hx => ⟨(h.each x hx).1, (h.each x hx).2.1, fun k hk => Nat.le_trans hn ((h.each x hx).2.2.1 k hk), fun k hk => Nat.le_trans hn ((h.each x hx).2.2.2 k hk)⟩⟩
theorem RNew.is {n₀ : Nat} {W : World} {v : Value} {xs : List RcV} (h : RNew n₀ W v xs) : RecsIs W v xs := ⟨h.row.read, fun x hx => ⟨(h.each x hx).1.read, (h.each x hx).2.1.read⟩⟩
theorem RNew.only {n₀ : Nat} {W W' : World} {v : Value} {xs : List RcV} {X : Nat → Prop} (h : RNew n₀ W v xs) (ho : Only X W W') (hX : ∀ k, X k → k < n₀) : RNew n₀ W' v xs := by
  have no : ∀ {k : Nat}, n₀ ≤ k → ¬ X k := fun hk hx => by have := hX _ hx; omega
  exact ⟨h.row.kept (fun k hk => ho.block k (h.row.lt k hk) (no (h.own k hk))), h.own, fun x hx => by
    obtain ⟨h1, h2, h3, h4⟩ := h.each x hx
    exact ⟨h1.kept (fun k hk => ho.block k (h1.lt k hk) (no (h3 k hk))), h2.kept (fun k hk => ho.block k (h2.lt k hk) (no (h4 k hk))), h3, h4⟩⟩
theorem RNew.later {n₀ : Nat} {W W' : World} {v : Value} {xs : List RcV} (h : RNew n₀ W v xs) (hb : Below W.heap.size W W') : RNew n₀ W' v xs :=
  h.only (Only.of_below hb (Nat.le_refl _) (fun _ => False)) (fun _ hf => hf.elim)
def BatIs (L : List Bat) (n₀ j : Nat) (x : BatV) (W : World) : Prop :=
  ∃ h : j < L.length, x.at' = posT L j ∧ x.base = L[j].1 ∧ x.xs.map (·.r) = L[j].2 ∧ RNew n₀ W (.slice x.oa x.xs.length x.c) x.xs
structure BatsOk (L : List Bat) (tl : List UInt8) : Prop where
  good : ∀ b ∈ L, GoodB b.1 b.2
  rest : tl = [] ∨ TornL tl
def AllOf (w : World) (b1 : Nat) (D : List UInt8) : Prop := ∃ oa c, w.heap[b1]? = some (.cells #[.slice oa D.length c] 39 (0, 0)) ∧ rowAt w 5 1 (.slice oa D.length c) D.length (byteCells D)
set_option maxRecDepth 100000 in
set_option maxHeartbeats 1000000 in
theorem recAll_b {w : World} {oa : Option Addr} {n c : Nat} {D : List UInt8} (hn : D.length = n) (h : readAt w 1 (.slice oa n c) n (byteCells D)) (hm : n ≤ 1000000000) :
    Calls Tryz.prog 22 #[.slice oa n c] w fun e w' => ∃ b1, e = .returned (.func (.func 84) #[] #[.pointer (some ⟨b1, 0, none⟩)]) ∧ AllOf w' b1 D ∧ Below w.heap.size w w' := by
  have hmf : ∀ (fn : Fn) (first cap : Array Value) (W : World), (Instr.makeFunc fn first cap).run Tryz.prog W = .ok (.func fn first cap) W := fun _ _ _ _ => rfl
  obtain ⟨w1, hw1⟩ : ∃ W : World, W = w.alloc (.cells #[.slice oa n c] 39) := ⟨_, rfl⟩
  obtain ⟨b1, hb1⟩ : ∃ b, b = w.heap.size := ⟨_, rfl⟩
  have h11 : w1.heap[b1]? = some (.cells #[.slice oa n c] 39 (0, 0)) := by rw [hw1, hb1]; exact alloc_cells _ _ _
  have hbl : Below w.heap.size w w1 := by rw [hw1]; exact (Below.refl _ _).alloc (Nat.le_refl _) _
  have HC := Lib.hid (cloneR_b hn (h.kept (fun k hk _ _ => hbl.block k hk)) hm)
  have k1 : w1.cell? ⟨b1, 0, none⟩ = some (.slice oa n c) := cell_of h11 rfl
  have H1 := Lib.hid (And.intro h11 (And.intro hbl (And.intro hb1 hn)))
  clear hn h h11 hbl
  go_enter Tryz.func22, Tryz.ntmps22
  go_upto_region 1 with fail
  rw [← hw1, ← hb1]
  clear hw1 hb1
  go_wp2_with fail
  refine HC.out.mono ?_
  rintro e w2 ⟨v, rfl, hv⟩
  obtain ⟨ov, cv, hve⟩ := hv.shape
  rw [H1.out.2.2.2] at hve
  subst hve
  have h21 := (hv.below.block b1 (Array.getElem?_eq_some_iff.1 H1.out.1).1).trans H1.out.1
  have k2 : w2.cell? ⟨b1, 0, none⟩ = some (.slice oa n c) := cell_of h21 rfl
  have z2 : w2.frozen? ⟨b1, 0, none⟩ = false := free_of h21 _
  have H2 := Lib.hid (And.intro h21 hv)
  clear h21 hv k1 HC
  go_wp2_with fail
  go_ret
  have ho : Only (fun k => k = b1) w2 (w2.setCell ⟨b1, 0, none⟩ (.slice ov n cv)) := only_setCell (fun k => k = b1) _ b1 0 _ rfl
  have hbw := H1.out.2.1.trans (H2.out.2.below.mono H1.out.2.1.size)
  refine ⟨b1, rfl, ⟨ov, cv, by rw [H1.out.2.2.2]; exact heap_setCell_here _ H2.out.1, ?_⟩, hbw.trans (ho.below (fun i hi e => by have := H1.out.2.2.1; omega) hbw.size)⟩
  have hr := H2.out.2.row
  rw [H1.out.2.2.2] at hr ⊢
  exact hr.kept (fun k hk => ho.block k (hr.lt k hk) (fun e => by subst e; exact hr.notB H2.out.1 (by decide) hk))
end Go.Proofs.YtlgcoaeddeiegaaGreat
/- segment: how it lies; its spots. -/
namespace Go.Proofs.YtlgcoaeddeiegaaGreat
open Go Go.RowKit
attribute [local go_sem] Oper.semAt_some

def cntT (bs : List Bat) : Nat := (bs.map fun b => b.2.length).sum
theorem cntT_append (a b : List Bat) : cntT (a ++ b) = cntT a + cntT b := by unfold cntT; rw [List.map_append, List.sum_append]
theorem cntT_succ {bs : List Bat} {j : Nat} (h : j < bs.length) : cntT (bs.take (j + 1)) = cntT (bs.take j) + bs[j].2.length := by
  rw [List.take_succ_eq_append_getElem h, cntT_append]
  simp [cntT]
theorem cntT_le {bs : List Bat} (i j : Nat) (h : i ≤ j) : cntT (bs.take i) ≤ cntT (bs.take j) := by
  have e : bs.take i = (bs.take j).take i := by rw [List.take_take, Nat.min_eq_left h]
  have h2 := cntT_append ((bs.take j).take i) ((bs.take j).drop i)
  rw [List.take_append_drop] at h2
  rw [e]
  omega
theorem posT_mono {bs : List Bat} (i j : Nat) (h : i ≤ j) : posT bs i ≤ posT bs j := by
  unfold posT
  have e : bs.take i = (bs.take j).take i := by rw [List.take_take, Nat.min_eq_left h]
  have h2 := bats_split (bs.take j) i
  rw [e, h2, List.length_append]
  omega
structure Chain (bn : Nat) (bs : List Bat) : Prop where
  base : ∀ j (h : j < bs.length), bs[j].1 = ((bn + cntT (bs.take j) : Nat) : Int)
  good : ∀ b ∈ bs, GoodB b.1 b.2
theorem Chain.nil (bn : Nat) : Chain bn [] := ⟨fun j h => absurd h (Nat.not_lt_zero j), fun b hb => by cases hb⟩
theorem Chain.snoc {bn : Nat} {bs : List Bat} {l : List Rc} (h : Chain bn bs) (hg : GoodB ((bn + cntT bs : Nat) : Int) l) : Chain bn (bs ++ [(((bn + cntT bs : Nat) : Int), l)]) := by
  refine ⟨fun j hj => ?_, fun b hb => ?_⟩
  · by_cases hl : j < bs.length
    · rw [List.getElem_append_left hl, List.take_append_of_le_length (Nat.le_of_lt hl)]
      exact h.base j hl
    · rw [List.length_append] at hj
      simp only [List.length_cons, List.length_nil] at hj
      obtain rfl : j = bs.length := by omega
      rw [List.getElem_append_right (Nat.le_refl _), List.take_append_of_le_length (Nat.le_refl _), List.take_length]
      simp
  · rcases List.mem_append.1 hb with hb | hb
    · exact h.good b hb
    · rw [List.mem_singleton] at hb
      rw [hb]
      exact hg
theorem Chain.grows {bn : Nat} {bs : List Bat} (h : Chain bn bs) {i j : Nat} (hij : i < j) (hj : j ≤ bs.length) : cntT (bs.take i) < cntT (bs.take j) ∧ posT bs i < posT bs j := by
  have hi : i < bs.length := by omega
  have h1 := cntT_succ hi
  have h2 := cntT_le (bs := bs) (i + 1) j hij
  have h3 := (h.good _ (List.getElem_mem hi)).pos
  have h4 := posT_succ hi
  have h5 := posT_mono (bs := bs) (i + 1) j hij
  omega
def SpotsOk (bn : Nat) (bs : List Bat) (sp : List Sp) : Prop :=
  ∃ js : List Nat, sp = js.map (fun j => (bn + cntT (bs.take j), posT bs j)) ∧ js.Pairwise (· < ·) ∧ (∀ j ∈ js, j < bs.length) ∧ (bs ≠ [] → js.head? = some 0)
theorem SpotsOk.nil (bn : Nat) : SpotsOk bn [] [] := ⟨[], rfl, List.Pairwise.nil, (fun _ hj => nomatch hj), fun h => absurd rfl h⟩
theorem rising_short : ∀ (n : Nat) (js : List Nat), js.Pairwise (· < ·) → (∀ j ∈ js, j < n) → js.length ≤ n := by
  have key : ∀ (js : List Nat) (a n : Nat), js.Pairwise (· < ·) → (∀ j ∈ js, a ≤ j ∧ j < n) → a ≤ n → js.length + a ≤ n := by
    intro js
    induction js with
    | nil => intro a n _ _ h; simpa using h
    | cons x t ih =>
      intro a n hp hl ha
      have hx := hl x (List.mem_cons_self ..)
      rw [List.pairwise_cons] at hp
      have h1 := ih (x + 1) n hp.2 (fun j hj => ⟨hp.1 j hj, (hl j (List.mem_cons_of_mem _ hj)).2⟩) hx.2
      simp only [List.length_cons]
      omega
  intro n js hp hl
  have := key js 0 n hp (fun j hj => ⟨Nat.zero_le _, hl j hj⟩) (Nat.zero_le _)
  simpa using this
theorem SpotsOk.len {bn : Nat} {bs : List Bat} {sp : List Sp} (h : SpotsOk bn bs sp) : sp.length ≤ bs.length := by
  obtain ⟨js, rfl, hp, hl, -⟩ := h
  rw [List.length_map]
  exact rising_short bs.length js hp hl
theorem SpotsOk.rising {bn : Nat} {bs : List Bat} {sp : List Sp} (hc : Chain bn bs) (h : SpotsOk bn bs sp) : ∀ i j (hi : i < sp.length) (hj : j < sp.length), i < j → sp[i].1 < sp[j].1 := by
  obtain ⟨js, rfl, hp, hl, -⟩ := h
  intro i j hi hj hij
  rw [List.length_map] at hi hj
  rw [List.getElem_map, List.getElem_map]
  have h1 := List.pairwise_iff_getElem.1 hp i j hi hj hij
  have h2 := hc.grows h1 (Nat.le_of_lt (hl _ (List.getElem_mem hj)))
  show bn + _ < bn + _
  omega
theorem spot_found {bn : Nat} {bs : List Bat} {sp : List Sp} {off : Int} {r : Nat} (h : SpotsOk bn bs sp) (hcut : CutAt sp off r) (hoff : (bn : Int) ≤ off) : ∃ j, j ≤ bs.length ∧ (spotAt sp r).2 = posT bs j ∧ ((bn + cntT (bs.take j) : Nat) : Int) ≤ off := by
  obtain ⟨js, rfl, hp, hl, hh⟩ := h
  by_cases hr : r = 0
  · subst hr
    refine ⟨0, Nat.zero_le _, rfl, ?_⟩
    simpa [cntT] using hoff
  · have h1 := hcut.1
    rw [List.length_map] at h1
    have hrl : r - 1 < js.length := by omega
    have e : spotAt (js.map (fun j => (bn + cntT (bs.take j), posT bs j))) r = (bn + cntT (bs.take js[r - 1]), posT bs js[r - 1]) := by
      unfold spotAt
      rw [if_neg hr, List.getD_eq_getElem?_getD, List.getElem?_map, List.getElem?_eq_getElem hrl]
      rfl
    refine ⟨js[r - 1], Nat.le_of_lt (hl _ (List.getElem_mem hrl)), by rw [e], ?_⟩
    have h2 := hcut.2.1 (r - 1) (by rw [List.length_map]; exact hrl) (by omega)
    rw [List.getElem_map] at h2
    exact h2
theorem SpotsOk.snoc {bn step : Nat} {bs : List Bat} {sp : List Sp} {l : List Rc} (hc : Chain bn bs) (h : SpotsOk bn bs sp) : SpotsOk bn (bs ++ [(((bn + cntT bs : Nat) : Int), l)]) (if spNear step sp (bn + cntT bs, posT bs bs.length) = true then sp else sp ++ [(bn + cntT bs, posT bs bs.length)]) := by
  obtain ⟨js, rfl, hp, hl, hh⟩ := h
  have hpos : ∀ j, j ≤ bs.length → posT (bs ++ [(((bn + cntT bs : Nat) : Int), l)]) j = posT bs j := fun j hj => by unfold posT; rw [List.take_append_of_le_length hj]
  have hmap : ∀ ks : List Nat, (∀ j ∈ ks, j ≤ bs.length) → ks.map (fun j => (bn + cntT ((bs ++ [(((bn + cntT bs : Nat) : Int), l)]).take j), posT (bs ++ [(((bn + cntT bs : Nat) : Int), l)]) j)) = ks.map (fun j => (bn + cntT (bs.take j), posT bs j)) := fun ks hk => by
    apply List.map_congr_left
    intro j hj
    rw [hpos j (hk j hj), List.take_append_of_le_length (hk j hj)]
  have hle : ∀ j ∈ js, j ≤ bs.length := fun j hj => Nat.le_of_lt (hl j hj)
  split
  · rename_i hn
    refine ⟨js, (hmap js hle).symm, hp, fun j hj => by rw [List.length_append]; have := hl j hj; omega, fun _ => ?_⟩
    by_cases hb : bs = []
    · subst hb
      have hjs : js = [] := by
        cases js with
        | nil => rfl
        | cons a t => exact absurd (hl a (List.mem_cons_self ..)) (Nat.not_lt_zero a)
      subst hjs
      simp [spNear] at hn
    · exact hh hb
  · refine ⟨js ++ [bs.length], ?_, ?_, fun j hj => ?_, fun _ => ?_⟩
    · rw [hmap _ (fun j hj => by
        rcases List.mem_append.1 hj with hj | hj
        · exact hle j hj
        · rw [List.mem_singleton] at hj; omega), List.map_append]
      simp
    · rw [List.pairwise_append]
      exact ⟨hp, List.pairwise_singleton _ _, fun a ha b hb => by rw [List.mem_singleton] at hb; rw [hb]; exact hl a ha⟩
    · rw [List.length_append]
      rcases List.mem_append.1 hj with hj | hj
      · have := hl j hj; simp; omega
      · rw [List.mem_singleton] at hj; simp; omega
    · by_cases hb : bs = []
      · subst hb
        have hjs : js = [] := by
          cases js with
          | nil => rfl
          | cons a t => exact absurd (hl a (List.mem_cons_self ..)) (Nat.not_lt_zero a)
        subst hjs
        rfl
      · have h1 := hh hb
        cases js with
        | nil => cases h1
        | cons a t => exact h1
theorem spMay_next {bn : Nat} {bs : List Bat} {sp : List Sp} (hc : Chain bn bs) (h : SpotsOk bn bs sp) (h1 : bn + cntT bs ≤ 9007199254740992) (h2 : (batsT bs).length ≤ 16777216) : spMay sp (bn + cntT bs, posT bs bs.length) := by
  obtain ⟨js, rfl, hp, hl, hh⟩ := h
  refine ⟨h1, by rw [posT_all]; exact h2, fun y hy => ?_⟩
  rw [List.getLast?_map] at hy
  cases hg : js.getLast? with
  | none => rw [hg] at hy; cases hy
  | some j =>
    rw [hg] at hy
    simp only [Option.map_some, Option.some.injEq] at hy
    subst hy
    have hj := hl j (List.mem_of_getLast? hg)
    have h3 := hc.grows hj (Nat.le_refl _)
    rw [List.take_length] at h3
    exact ⟨by show bn + _ < bn + _; omega, h3.2⟩
end Go.Proofs.YtlgcoaeddeiegaaGreat
/- Segment names: the walks. -/
namespace Go.Proofs.YtlgcoaeddeiegaaGreat
open Go.RowKit

def lowB (l : List UInt8) : Bool := l.all fun c => 97 ≤ c && c ≤ 122
def loggedB (l : List UInt8) : Bool := lowB l && decide (1 ≤ l.length) && decide (l.length ≤ 8)

theorem take_snocS (s : ByteArray) (k : Nat) (h : k < s.size) : s.data.toList.take (k + 1) = s.data.toList.take k ++ [s[k]] := by
  rw [List.take_succ_eq_append_getElem (by simpa using h)]; rfl
theorem low_snoc (l : List UInt8) (c : UInt8) : lowB (l ++ [c]) = (lowB l && (97 ≤ c && c ≤ 122)) := by simp [lowB]
theorem low_take_false (l : List UInt8) (k : Nat) (h : lowB (l.take k) = false) : lowB l = false := by
  rw [← List.take_append_drop k l]
  unfold lowB at *
  rw [List.all_append, h, Bool.false_and]

theorem ret_boolS {a b : Bool} (h : a = b) : Ending.returned (.bool a) = .returned (.bool b) := by rw [h]

set_option maxHeartbeats 400000 in
theorem logged_any (s : ByteArray) (w : World) (hs : s.size ≤ maxLen) :
    Calls Tryz.prog 150 #[.string s] w fun e w' => e = .returned (.bool (loggedB s.data.toList)) ∧ w = w' := by
  unfold maxLen at hs
  go_enter Tryz.func150, Tryz.ntmps150
  go_wp2
  go_loop [6] (fun i => ∃ k : Nat, k ≤ s.size ∧ i = .int .i64 k ∧ lowB (s.data.toList.take k) = true) (fun i => s.size - (intOf i).toNat)
  case atStart => exact ⟨0, Nat.zero_le _, rfl, rfl⟩
  case round =>
    obtain ⟨k, hk, rfl, hlow⟩ := hrel
    have HL := Lib.hid hlow
    clear hlow
    by_cases hlt : k < s.size
    · by_cases hc : 97 ≤ (s[k].toNat : Int) ∧ (s[k].toNat : Int) ≤ 122
      · obtain ⟨hc1, hc2⟩ := hc
        go_wp2
        go_round
        case rel =>
          refine ⟨k + 1, by omega, by go_num, ?_⟩
          rw [take_snocS s k hlt, low_snoc, HL.out]
          simp [UInt8.le_iff_toNat_le]; omega
        case measure => simp [intOf]; omega
      · have hf : loggedB s.data.toList = false := by
          have h1 : lowB (s.data.toList.take (k + 1)) = false := by
            rw [take_snocS s k hlt, low_snoc, HL.out]
            simp [UInt8.le_iff_toNat_le]; omega
          simp [loggedB, low_take_false _ _ h1]
        have HF := Lib.hid hf
        clear hf
        go_wp2
        all_goals (go_ret; exact ⟨ret_boolS HF.out.symm, rfl⟩)
    · obtain rfl : k = s.size := by omega
      have hl : lowB s.data.toList = true := by
        have := HL.out
        rwa [List.take_of_length_le (by simp)] at this
      have HF : Hid (loggedB s.data.toList = (decide (1 ≤ s.size) && decide (s.size ≤ 8))) := by
        refine Lib.hid ?_
        simp [loggedB, hl]
      clear hl HL
      by_cases h1 : 1 ≤ s.size
      · go_wp2
        go_ret
        exact ⟨ret_boolS (by rw [HF.out]; simp [h1]; omega), rfl⟩
      · have hd : decide ((1 : Int) ≤ (s.size : Int)) = false := by simp; omega
        go_wp2
        go_ret
        exact ⟨ret_boolS (by rw [HF.out]; simp [h1]), rfl⟩
end Go.Proofs.YtlgcoaeddeiegaaGreat
/- Segment names: the plain laws (lists of bytes and numbers; no program). -/
namespace Go.Proofs.YtlgcoaeddeiegaaGreat

def hexd (d : Nat) : UInt8 := if d < 10 then UInt8.ofNat (48 + d) else UInt8.ofNat (87 + d)
def hex : Nat → Nat → List UInt8
  | 0, _ => []
  | n + 1, b => hex n (b / 16) ++ [hexd (b % 16)]
theorem hex_length : ∀ n b, (hex n b).length = n
  | 0, _ => rfl
  | n + 1, b => by simp [hex, hex_length n]
theorem hex_cons : ∀ n b, hex (n + 1) b = hexd (b / 16 ^ n % 16) :: hex n b
  | 0, b => by simp [hex]
  | n + 1, b => by
    rw [hex, hex_cons n, hex, List.cons_append]
    congr 2
    rw [Nat.div_div_eq_div_mul, Nat.pow_succ', Nat.mul_comm]
theorem hex_down (k b : Nat) (h : k < 14) : hex (k + 1) (b / 16 ^ (13 - k)) = hex k (b / 16 ^ (14 - k)) ++ [hexd (b / 16 ^ (13 - k) % 16)] := by
  rw [hex, Nat.div_div_eq_div_mul, ← Nat.pow_succ, show (13 - k).succ = 14 - k by omega]


theorem i64_and15 (n : Int) : bits .and .i64 n 15 = n % 16 := by
  have h15 : (BitVec.ofInt 64 15).toNat = 2 ^ 4 - 1 := by decide
  have key : (BitVec.ofInt 64 n &&& BitVec.ofInt 64 15).toNat = (n % ((2 ^ 64 : Nat) : Int)).toNat % 2 ^ 4 := by
    rw [BitVec.toNat_and, BitVec.toNat_ofInt, h15, Nat.and_two_pow_sub_one_eq_mod]
  show IntKind.i64.wrap ((BitVec.ofInt 64 n &&& BitVec.ofInt 64 15).toNat : Nat) = n % 16
  rw [key, IntKind.wrap_i64]
  omega
theorem digit_bits (b k : Nat) : bits .and .i64 ((b : Int) / 2 ^ (4 * k)) 15 = ((b / 16 ^ k % 16 : Nat) : Int) := by
  rw [i64_and15]
  have h : (2 : Int) ^ (4 * k) = ((16 ^ k : Nat) : Int) := by
    rw [show (16 : Nat) = 2 ^ 4 from rfl, ← Nat.pow_mul]
    simp
  rw [h]
  omega


def hexs : ByteArray := ⟨#[48, 49, 50, 51, 52, 53, 54, 55, 56, 57, 97, 98, 99, 100, 101, 102]⟩
theorem hexs_fin : ∀ d : Fin 16, hexs[d.val]'d.isLt = hexd d.val := by decide
theorem hexs_get (d : Nat) (h : d < 16) : hexs[d]'h = hexd d := hexs_fin ⟨d, h⟩

theorem size_dash (s : ByteArray) : (s ++ (⟨#[45]⟩ : ByteArray)).size = s.size + 1 := by simp [ByteArray.size_append]; rfl
theorem data_dash (s : ByteArray) : (s ++ (⟨#[45]⟩ : ByteArray)).data.toList = s.data.toList ++ [45] := by simp

end Go.Proofs.YtlgcoaeddeiegaaGreat
/- Segment names: segment.Name. -/
namespace Go.Proofs.YtlgcoaeddeiegaaGreat
open Go.RowKit

theorem info_u8S : (Tryz.prog.info? 5).map (fun i => (i.zero, i.size, i.bytes)) = some (some (.int .u8 0), 1, 1) := by kernel_rfl

set_option maxRecDepth 100000 in
set_option maxHeartbeats 400000 in
theorem name_ok (s : ByteArray) (b : Nat) (w : World) (hs : s.size ≤ 8) (hl : loggedB s.data.toList = true) (hb : b ≤ 9007199254740992) :
    Calls Tryz.prog 78 #[.string s, .int .i64 b] w fun e w' => e = .returned (.tuple #[.string ⟨(s.data.toList ++ 45 :: hex 14 b).toArray⟩, .int .i64 0]) ∧ Below w.heap.size w w' := by
  have hs' : s.size ≤ maxLen := by unfold maxLen; omega
  have HL := Lib.hid hl
  clear hl
  have hd : decide ((9007199254740992 : Int) < (b : Int)) = false := by rw [decide_eq_false_iff_not]; omega
  have hd0 : decide ((b : Int) < 0) = false := by simp
  have HB := Lib.hid hb
  clear hb
  obtain ⟨v0, w1, hrun, hrow, hgrow, hown, hsize⟩ := run_bytes_row (P := Tryz.prog) w w.heap.size 9 39 5 (s ++ ⟨#[45]⟩) Tryz.underlying9 Tryz.underlying39 Tryz.underlying5 (Nat.le_refl _) (by rw [size_dash]; unfold maxLen; omega)
  rw [size_dash, data_dash] at hrow
  have HX := Lib.hid hsize
  have HO := Lib.hid hown
  clear hsize hown
  go_enter Tryz.func78, Tryz.ntmps78
  go_wp2_with (go_at_call 150; refine (logged_any _ _ (by assumption)).mono ?_; rintro e w' ⟨rfl, rfl⟩; rw [HL.out])
  go_loopw [6, 7] (fun v i wr => ∃ k : Nat, k ≤ 14 ∧ i = .int .i64 ((13 : Int) - (k : Int)) ∧ hasRow wr w.heap.size 5 1 v (s.size + 1 + k) (byteCells (s.data.toList ++ 45 :: hex k (b / 16 ^ (14 - k)))) ∧ Below w.heap.size w wr)
    (fun _ i _ => (intOf i + 1).toNat)
  case atStart =>
    refine ⟨0, by omega, rfl, ?_, ?_⟩
    · exact hrow
    · exact (Below.refl _ _).grown hgrow (Nat.le_refl _) (by simp)
  case round =>
    obtain ⟨k, hk, rfl, hrw, hbl⟩ := hrel
    by_cases hlt : k < 14
    · obtain ⟨d, hd⟩ : ∃ d, d = b / 16 ^ (13 - k) % 16 := ⟨_, rfl⟩
      have hd16 : d < 16 := by omega
      have hbit : bits .and .i64 ((b : Int) / 2 ^ (4 * (13 - k))) 15 = (d : Int) := by rw [digit_bits, hd]
      have HD := Lib.hid hd
      clear hd
      have hdg : hexs[d]'hd16 = hexd d := hexs_get d hd16
      go_wp2_with (at_builtin; refine wpList_append_row _ rfl (.tmp 26) (.tmp 33) 39 39 rfl w.heap.size 5 (.int .u8 0) 1 1 Tryz.underlying39 info_u8S rfl u6 (s.size + 1 + k) _ rfl (hrw.alloc _) _ 1 [.int .u8 ((hexs[d]'hd16).toNat : Int)] rfl (Src.slice Tryz.underlying39 ⟨wr.heap.size, 0, none⟩ 1 1 _ rfl (cell_one_new _ _ _) (by simp [Value.oneCell'])) ?_ ?_ ?_ ?_)
      · unfold maxLen; omega
      · omega
      · have := hbl.size; simp; omega
      · intro v' w2 hrow2 hgrow2 _
        clear hbit
        go_wp2
        go_roundw
        case rel =>
          refine ⟨k + 1, by omega, by go_num, ?_, ?_⟩
          · have e : byteCells (s.data.toList ++ 45 :: hex k (b / 16 ^ (14 - k))) ++ [.int .u8 ((hexd d).toNat : Int)] = byteCells (s.data.toList ++ 45 :: hex (k + 1) (b / 16 ^ (14 - (k + 1)))) := by
              rw [HD.out, show 14 - (k + 1) = 13 - k by omega, hex_down k b hlt]
              simp [byteCells]
            rw [← e]
            exact hrow2
          · exact (hbl.alloc hbl.size _).grown hgrow2 (by have := hbl.size; simp; omega) (fun j hj => (hrw.lt j hj).1)
        case measure => simp [intOf]; omega
    · obtain rfl : k = 14 := by omega
      have hst := run_string_row (P := Tryz.prog) wr w.heap.size 39 9 5 u6 (s.data.toList ++ 45 :: hex 14 b) Tryz.underlying39 Tryz.underlying5 Tryz.underlying9
        (by have := hrw; simpa [hex_length] using this)
      go_wp2
      go_ret2
      exact ⟨rfl, hbl⟩
end Go.Proofs.YtlgcoaeddeiegaaGreat
/- Name refused: Segment names: the refusals of segment.Name; the reference's Logged and Name. -/
namespace Go.Proofs.YtlgcoaeddeiegaaGreat
open Go.RowKit

set_option maxRecDepth 100000 in
set_option maxHeartbeats 400000 in
theorem name_no (s : ByteArray) (b : Int) (w : World) (hs : s.size ≤ maxLen) (h : loggedB s.data.toList = false ∨ b < 0 ∨ 9007199254740992 < b) :
    Calls Tryz.prog 78 #[.string s, .int .i64 b] w fun e w' => e = .returned (.tuple #[.string ⟨#[]⟩, .int .i64 2]) ∧ w = w' := by
  cases hl : loggedB s.data.toList with
  | false =>
    have HL := Lib.hid hl
    clear hl h
    go_enter Tryz.func78, Tryz.ntmps78
    go_wp2_with (go_at_call 150; refine (logged_any _ _ (by assumption)).mono ?_; rintro e w' ⟨rfl, rfl⟩; rw [HL.out])
    go_ret2
    exact ⟨rfl, rfl⟩
  | true =>
    have HL := Lib.hid hl
    by_cases h0 : b < 0
    · have hd0 : decide (b < 0) = true := by simp [h0]
      clear hl h h0
      go_enter Tryz.func78, Tryz.ntmps78
      go_wp2_with (go_at_call 150; refine (logged_any _ _ (by assumption)).mono ?_; rintro e w' ⟨rfl, rfl⟩; rw [HL.out])
      go_ret2
      exact ⟨rfl, rfl⟩
    · have hd0 : decide (b < 0) = false := by simp; omega
      have hd : decide (9007199254740992 < b) = true := by
        rcases h with h | h | h
        · rw [hl] at h; cases h
        · omega
        · simp only [decide_eq_true_eq]; exact h
      clear hl h h0
      go_enter Tryz.func78, Tryz.ntmps78
      go_wp2_with (go_at_call 150; refine (logged_any _ _ (by assumption)).mono ?_; rintro e w' ⟨rfl, rfl⟩; rw [HL.out])
      go_ret2
      exact ⟨rfl, rfl⟩

end Go.Proofs.YtlgcoaeddeiegaaGreat
/- segment: how one lies; none, End, Base, Size; Create. -/
namespace Go.Proofs.YtlgcoaeddeiegaaGreat
open Go Go.RowKit
attribute [local go_sem] Oper.semAt_some

structure SegM (w : World) (s x q : Nat) (nm : ByteArray) (bn step : Nat) (sv : Value) (sp : List Sp) (bs : List Bat) : Prop where
  head : w.heap[s]? = some (.cells #[.int .i64 (bs.length : Int), .int .i64 ((bn + cntT bs : Nat) : Int), .int .i64 ((batsT bs).length : Int), .int .i64 0, .pointer (some ⟨q, 0, none⟩), .string nm, .int .i64 (bn : Int), .pointer (some ⟨x, 0, none⟩)] 250 (0, 0))
  idx : IdxI w x step sv sp
  spots : SpotsOk bn bs sp
  chain : Chain bn bs
  sx : s ≠ x
  sv : ∀ k, sv.ownBlock = some k → k ≠ s ∧ k ≠ x
  stp : 1 ≤ step ∧ step ≤ 16777216
  off : bn ≤ 9007199254740992
  nms : nm.size ≤ 32
structure SegQ (w : World) (S : Nat → Prop) (s x q : Nat) (nm : ByteArray) (bn step : Nat) (sv0 : Value) (sp : List Sp) (bs : List Bat) (d : Dk) : Prop extends SegM w s x q nm bn step sv0 sp bs where
  disk : DiskAt w S q d
  begins : ∃ f tl, d.find nm.data.toList = some f ∧ f.bytes = batsT bs ++ tl
structure SegI (w : World) (S : Nat → Prop) (s x q : Nat) (nm : ByteArray) (bn step : Nat) (sv0 : Value) (sp : List Sp) (bs : List Bat) (d : Dk) : Prop extends SegM w s x q nm bn step sv0 sp bs where
  disk : DiskAt w S q d
  file : ∃ f, d.find nm.data.toList = some f ∧ f.bytes = batsT bs
  sS : ¬ S s
  xS : ¬ S x
  vS : ∀ k, sv0.ownBlock = some k → ¬ S k
section
variable {w : World} {S : Nat → Prop} {s x q : Nat} {nm : ByteArray} {bn step : Nat} {sv : Value} {sp : List Sp} {bs : List Bat} {d : Dk}
theorem DiskAt.belowS {w' : World} (h : DiskAt w S q d) (hb : Below w.heap.size w w') : DiskAt w' S q d := by
  obtain ⟨mb, fv, L, h⟩ := h
  exact ⟨mb, fv, L, h.below hb⟩
theorem DiskAt.lowS (h : DiskAt w S q d) : ∀ k, S k → k < w.heap.size := by
  obtain ⟨mb, fv, L, h⟩ := h
  exact h.low
theorem SegM.later {w' : World} (h : SegM w s x q nm bn step sv sp bs) (hb : Below w.heap.size w w') : SegM w' s x q nm bn step sv sp bs :=
  { h with head := (hb.block _ (Array.getElem?_eq_some_iff.1 h.head).1).trans h.head, idx := h.idx.later hb }
theorem SegI.later {w' : World} (h : SegI w S s x q nm bn step sv sp bs d) (hb : Below w.heap.size w w') : SegI w' S s x q nm bn step sv sp bs d :=
  { h with toSegM := h.toSegM.later hb, disk := h.disk.belowS hb }
theorem SegQ.later {w' : World} (h : SegQ w S s x q nm bn step sv sp bs d) (hb : Below w.heap.size w w') : SegQ w' S s x q nm bn step sv sp bs d :=
  { h with toSegM := h.toSegM.later hb, disk := h.disk.belowS hb }
theorem SegI.toQ (h : SegI w S s x q nm bn step sv sp bs d) : SegQ w S s x q nm bn step sv sp bs d := by
  obtain ⟨f, h1, h2⟩ := h.file
  exact ⟨h.toSegM, h.disk, f, [], h1, by rw [h2, List.append_nil]⟩
set_option maxRecDepth 100000 in
set_option maxHeartbeats 400000 in
theorem noneSeg_b (hc : w.cell? ⟨s, 4, none⟩ = some (.pointer (some ⟨q, 0, none⟩))) :
    Calls Tryz.prog 147 #[.pointer (some ⟨s, 0, none⟩)] w fun e w' => e = .returned (.bool false) ∧ w' = w := by
  go_enter Tryz.func147, Tryz.ntmps147
  go_wp2_with fail
  go_ret
  exact ⟨rfl, rfl⟩
set_option maxHeartbeats 400000 in
theorem endM_b (h : SegM w s x q nm bn step sv sp bs) :
    Calls Tryz.prog 87 #[.pointer (some ⟨s, 0, none⟩)] w fun e w' => e = .returned (.int .i64 ((bn + cntT bs : Nat) : Int)) ∧ w' = w := by
  have k4 : w.cell? ⟨s, 4, none⟩ = some (.pointer (some ⟨q, 0, none⟩)) := cell_of h.head rfl
  have k1 : w.cell? ⟨s, 1, none⟩ = some (.int .i64 ((bn + cntT bs : Nat) : Int)) := cell_of h.head rfl
  clear h
  go_enter Tryz.func87, Tryz.ntmps87
  go_wp2_with (go_at_call 147; refine (noneSeg_b k4).mono ?_; rintro e w' ⟨rfl, rfl⟩)
  go_ret
  exact ⟨rfl, rfl⟩
end
theorem insF_find (f : F0) : ∀ l : List F0, (l.find? (fun g => g.name == f.name)) = none → (insF f l).find? (fun g => g.name == f.name) = some f
  | [], _ => by simp [insF]
  | g :: r, h => by
    unfold insF
    split
    · rw [List.find?_cons] at h ⊢
      cases hb : g.name == f.name with
      | true => rw [hb] at h; cases h
      | false =>
        rw [hb] at h
        exact insF_find f r h
    · simp
theorem create_find {d : Dk} {s : List UInt8} (h : (d.create s).1 = 0) : ∃ f, (d.create s).2.find s = some f ∧ f.bytes = [] := by
  unfold Dk.create at h ⊢
  split at h
  · cases h
  · split at h
    · cases h
    · split at h
      · cases h
      · split at h
        · rename_i h4
          exact absurd h h4
        · rename_i h1 h2 h3 h4
          rw [if_neg h1, if_neg h2, if_neg h3, if_neg h4]
          refine ⟨⟨s, [], 0, true, false⟩, ?_, rfl⟩
          have hn : (d.files.find? (fun g => g.name == s)) = none := by
            cases hf : d.files.find? (fun g => g.name == s) with
            | none => rfl
            | some y => exact absurd (by unfold Dk.at; rw [hf]; rfl) h2
          have := insF_find ⟨s, [], 0, true, false⟩ d.files hn
          unfold Dk.find Dk.at
          show Option.filter _ (List.find? _ (insF _ d.files)) = _
          rw [this]
          rfl
end Go.Proofs.YtlgcoaeddeiegaaGreat
/- segment: Create. -/
namespace Go.Proofs.YtlgcoaeddeiegaaGreat
open Go Go.RowKit
attribute [local go_sem] Oper.semAt_some

def segName (log : ByteArray) (b : Nat) : ByteArray := ⟨(log.data.toList ++ 45 :: hex 14 b).toArray⟩
theorem DiskAt.wider {w : World} {S S' : Nat → Prop} {q : Nat} {d : Dk} (h : DiskAt w S q d) (h1 : ∀ k, S k → S' k) (h2 : ∀ k, S' k → k < w.heap.size) : DiskAt w S' q d := by
  obtain ⟨mb, fv, L, h⟩ := h
  exact ⟨mb, fv, L, h.wider h1 h2⟩
theorem segName_size {log : ByteArray} {b : Nat} (h : log.size ≤ 8) : (segName log b).size ≤ 32 := by
  have e : log.data.toList.length = log.size := by simp
  have e2 : (segName log b).size = (log.data.toList ++ 45 :: hex 14 b).length := rfl
  rw [e2, List.length_append, List.length_cons, hex_length, e]
  omega
def CreS (w : World) (S : Nat → Prop) (q : Nat) (d : Dk) (log : ByteArray) (b st : Int) (e : Ending) (w' : World) : Prop :=
  ((b < 0 ∨ 9007199254740992 < b ∨ st < 1 ∨ 16777216 < st) ∧ e = .returned (.tuple #[.pointer none, .int .i64 2]) ∧ Below w.heap.size w w') ∨
  (∃ bn step : Nat, b = (bn : Int) ∧ st = (step : Int) ∧ bn ≤ 9007199254740992 ∧ 1 ≤ step ∧ step ≤ 16777216 ∧
    (((d.create (segName log bn).data.toList).1 ≠ 0 ∧ e = .returned (.tuple #[.pointer none, .int .i64 (d.create (segName log bn).data.toList).1]) ∧ DiskAt w' (Wid S w w') q (d.create (segName log bn).data.toList).2 ∧ Only S w w') ∨
     ((d.create (segName log bn).data.toList).1 = 0 ∧ ∃ s x S', e = .returned (.tuple #[.pointer (some ⟨s, 0, none⟩), .int .i64 0]) ∧ (∀ k, S' k → Wid S w w' k) ∧ w.heap.size ≤ s ∧ w.heap.size ≤ x ∧
      SegI w' S' s x q (segName log bn) bn step (.slice none 0 0) [] [] (d.create (segName log bn).data.toList).2 ∧ Only S w w')))
set_option maxRecDepth 100000 in
set_option maxHeartbeats 1000000 in
theorem createS_b {w : World} {S : Nat → Prop} {q : Nat} {d : Dk} (h : DiskAt w S q d) (log : ByteArray) (hl : log.size ≤ 8) (hlog : loggedB log.data.toList = true) (b st : Int) :
    Calls Tryz.prog 64 #[.pointer (some ⟨q, 0, none⟩), .string log, .int .i64 b, .int .i64 st] w fun e w' => CreS w S q d log b st e w' := by
  have hs' : log.size ≤ maxLen := by unfold maxLen; omega
  by_cases hb : b < 0 ∨ 9007199254740992 < b
  · have HR := Lib.hid hb
    go_enter Tryz.func64, Tryz.ntmps64
    go_wp2_with (go_at_call 78; refine (name_no log b _ hs' (.inr HR.out)).mono ?_; rintro e w' ⟨rfl, rfl⟩)
    refine idxNew_b.mono ?_
    rintro e w' hN
    rcases hN with ⟨hst, rfl, rfl⟩ | ⟨h1, h2, rfl, rfl⟩
    · go_wp2_with fail
      go_ret2
      exact .inl ⟨by rcases HR.out with h | h; exact .inl h; exact .inr (.inl h), rfl, Below.refl _ _⟩
    · go_wp2_with fail
      go_ret2
      exact .inl ⟨by rcases HR.out with h | h; exact .inl h; exact .inr (.inl h), rfl, (Below.refl _ _).alloc (Nat.le_refl _) _⟩
  · obtain ⟨bn, rfl⟩ : ∃ n : Nat, b = (n : Int) := ⟨b.toNat, by omega⟩
    have hbn : bn ≤ 9007199254740992 := by omega
    clear hb
    have HB := Lib.hid hbn
    obtain ⟨nm, hnm⟩ : ∃ nm, nm = segName log bn := ⟨_, rfl⟩
    have hz : nm.size ≤ 32 := by rw [hnm]; exact segName_size hl
    have HNM := Lib.hid hnm
    have hna := name_ok log bn w hl hlog hbn
    rw [show (⟨(log.data.toList ++ 45 :: hex 14 bn).toArray⟩ : ByteArray) = nm from hnm.symm] at hna
    have HNA := Lib.hid hna
    clear hna hnm hbn
    go_enter Tryz.func64, Tryz.ntmps64
    go_wp2_with (go_at_call 78; refine HNA.out.mono ?_; rintro e w1 ⟨rfl, hb1⟩; have HB1 := Lib.hid hb1; clear hb1)
    refine idxNew_b.mono ?_
    rintro e w2 hN
    rcases hN with ⟨hst, rfl, rfl⟩ | ⟨h1, h2, rfl, rfl⟩
    · have HST := Lib.hid hst
      clear hst
      go_wp2_with fail
      go_ret2
      exact .inl ⟨.inr (.inr HST.out), rfl, HB1.out⟩
    · obtain ⟨step, rfl⟩ : ∃ n : Nat, st = (n : Int) := ⟨st.toNat, by omega⟩
      have HST : Hid (1 ≤ step ∧ step ≤ 16777216) := Lib.hid ⟨by omega, by omega⟩
      clear h1 h2
      obtain ⟨x, hx⟩ : ∃ x, x = w1.heap.size := ⟨_, rfl⟩
      obtain ⟨w2, hw2⟩ : ∃ w2 : World, w2 = w1.alloc (.cells #[.int .i64 (step : Int), .slice none 0 0] 311) := ⟨_, rfl⟩
      have hx2 : w2.heap[x]? = some (.cells #[.int .i64 (step : Int), .slice none 0 0] 311 (0, 0)) := by rw [hw2, hx]; exact alloc_cells _ _ _
      have hb2 : Below w.heap.size w w2 := by rw [hw2]; exact HB1.out.alloc HB1.out.size _
      have hxw : w.heap.size ≤ x := by rw [hx]; exact HB1.out.size
      have HX := Lib.hid (And.intro hx2 (And.intro hb2 hxw))
      have hd2 : DiskAt w2 S q d := h.belowS hb2
      rw [← hw2, ← hx]
      clear hw2 hx hx2 hb2 hxw
      go_wp2_with fail
      refine (create_b hd2 nm (Nat.le_trans hz (by decide))).mono ?_
      rintro e w3 ⟨he, hd3, ho3⟩
      obtain ⟨r, hr⟩ : ∃ r, r = d.create nm.data.toList := ⟨_, rfl⟩
      rw [← hr] at he hd3
      subst he
      have HR := Lib.hid hr
      have HO := Lib.hid ho3
      have HD := Lib.hid hd3
      clear hr ho3 hd3
      cases hc : (r.1 == 0) with
      | false =>
        have HC := Lib.hid hc
        have d1 : (r.1 != 0) = true := by unfold bne; rw [hc]; rfl
        clear hc
        go_wp2_with fail
        go_ret2
        have hb2 := HX.out.2.1
        have ho : Only S w w3 := (Only.of_below hb2 (Nat.le_refl _) S).trans HO.out (fun _ _ h => h)
        refine .inr ⟨bn, step, rfl, rfl, HB.out, HST.out.1, HST.out.2, .inl ?_⟩
        rw [← HNM.out, ← HR.out]
        refine ⟨fun h0 => (by rw [beq_eq_false_iff_ne] at HC; exact HC h0), rfl, ?_, ho⟩
        refine HD.out.wider (fun k hk => ?_) (fun k hk => ?_)
        · rcases hk with hk | hk
          · exact .inl hk
          · exact .inr ⟨Nat.le_trans hb2.size hk.1, hk.2⟩
        · rcases hk with hk | hk
          · exact Nat.lt_of_lt_of_le (h.lowS k hk) ho.size
          · exact hk.2
      | true =>
        have hr0 : r.1 = 0 := beq_iff_eq.1 hc
        have HC := Lib.hid hr0
        rw [hr0]
        clear hc hr0
        go_wp2_with fail
        go_ret2
        have hb2 := HX.out.2.1
        have ho : Only S w w3 := (Only.of_below hb2 (Nat.le_refl _) S).trans HO.out (fun _ _ h => h)
        have hxn : ¬ S x := fun hk => Nat.lt_irrefl _ (Nat.lt_of_lt_of_le (h.lowS x hk) HX.out.2.2)
        have hxl : x < w2.heap.size := (Array.getElem?_eq_some_iff.1 HX.out.1).1
        have hx3 : w3.heap[x]? = some (.cells #[.int .i64 (step : Int), .slice none 0 0] 311 (0, 0)) := (HO.out.block x hxl hxn).trans HX.out.1
        refine .inr ⟨bn, step, rfl, rfl, HB.out, HST.out.1, HST.out.2, .inr ?_⟩
        rw [← HNM.out, ← HR.out]
        obtain ⟨w4, hw4⟩ : ∃ w4 : World, w4 = w3.alloc (.cells #[.int .i64 0, .int .i64 (bn : Int), .int .i64 0, .int .i64 0, .pointer (some ⟨q, 0, none⟩), .string nm, .int .i64 (bn : Int), .pointer (some ⟨x, 0, none⟩)] 250) := ⟨_, rfl⟩
        have h34 : Below w3.heap.size w3 w4 := by rw [hw4]; exact (Below.refl _ _).alloc (Nat.le_refl _) _
        have hs4 : w4.heap[w3.heap.size]? = some (.cells #[.int .i64 0, .int .i64 (bn : Int), .int .i64 0, .int .i64 0, .pointer (some ⟨q, 0, none⟩), .string nm, .int .i64 (bn : Int), .pointer (some ⟨x, 0, none⟩)] 250 (0, 0)) := by rw [hw4]; exact alloc_cells _ _ _
        have hsz4 : w3.heap.size < w4.heap.size := (Array.getElem?_eq_some_iff.1 hs4).1
        have ho4 : Only S w w4 := ho.trans (Only.of_below h34 (Nat.le_refl _) S) (fun _ _ h => h)
        rw [← hw4]
        refine ⟨HC.out, w3.heap.size, x, Wid S w2 w3, rfl, fun k hk => ?_, ho.size, HX.out.2.2, ?_, ho4⟩
        · rcases hk with hk | hk
          · exact .inl hk
          · exact .inr ⟨Nat.le_trans hb2.size hk.1, Nat.lt_trans hk.2 hsz4⟩
        · have hf := create_find (d := d) (s := nm.data.toList) (by rw [← HR.out]; exact HC.out)
          rw [← HR.out] at hf
          exact {
            head := hs4
            idx := ⟨(h34.block x (Array.getElem?_eq_some_iff.1 hx3).1).trans hx3, by simp [spsCells], .inl ⟨rfl, rfl⟩⟩
            spots := SpotsOk.nil bn
            chain := Chain.nil bn
            disk := HD.out.belowS h34
            file := hf
            sS := fun hk => by
              rcases hk with hk | hk
              · exact absurd (h.lowS _ hk) (Nat.not_lt.2 ho.size)
              · exact Nat.lt_irrefl _ hk.2
            xS := fun hk => by
              rcases hk with hk | hk
              · exact hxn hk
              · exact Nat.not_lt.2 hk.1 hxl
            vS := fun k hk => by simp [Value.ownBlock] at hk
            sx := fun he => Nat.lt_irrefl _ (by have := Nat.lt_of_lt_of_le hxl HO.out.size; rw [← he] at this; exact this)
            sv := fun k hk => by simp [Value.ownBlock] at hk
            stp := HST.out
            off := HB.out
            nms := hz }
end Go.Proofs.YtlgcoaeddeiegaaGreat
/- Segment names: segment.Parse. -/
namespace Go.Proofs.YtlgcoaeddeiegaaGreat
open Go.RowKit

def isHex (c : UInt8) : Bool := (48 ≤ c && c ≤ 57) || (97 ≤ c && c ≤ 102)
def hval (c : UInt8) : Nat := if c ≤ 57 then c.toNat - 48 else c.toNat - 87
def hnum (l : List UInt8) : Nat := l.foldl (fun v c => 16 * v + hval c) 0
theorem hnum_snoc (l : List UInt8) (c : UInt8) : hnum (l ++ [c]) = 16 * hnum l + hval c := by simp [hnum]
theorem hval_lt (c : UInt8) (h : isHex c = true) : hval c < 16 := by
  simp [isHex, UInt8.le_iff_toNat_le] at h
  unfold hval
  simp only [UInt8.le_iff_toNat_le]
  split <;> (simp at *; omega)
theorem hnum_lt (l : List UInt8) : ∀ k, k ≤ l.length → (l.take k).all isHex = true → hnum (l.take k) < 16 ^ k := by
  intro k
  induction k with
  | zero => intro _ _; simp [hnum]
  | succ k ih =>
    intro hk h
    rw [List.take_succ_eq_append_getElem (by omega)] at h ⊢
    rw [List.all_append, Bool.and_eq_true] at h
    have h1 := ih (by omega) h.1
    have h2 := hval_lt _ (by simpa using h.2)
    rw [hnum_snoc, Nat.pow_succ]
    omega

def digs (l : List UInt8) : List UInt8 := l.drop (l.length - 14)
def okName (l : List UInt8) : Bool :=
  decide (16 ≤ l.length) && (digs l).all isHex && loggedB (l.take (l.length - 15)) && (l[l.length - 15]? == some 45) && decide (hnum (digs l) ≤ 9007199254740992)

theorem or_hex (v d : Nat) (hv : v < 4503599627370496) (hd : d < 16) : bits .or .i64 (wrap64 ((v : Int) * 16)) (d : Int) = ((16 * v + d : Nat) : Int) := by
  have hw : wrap64 ((v : Int) * 16) = ((2 ^ 4 * v : Nat) : Int) := by unfold wrap64; omega
  have hlt : 2 ^ 4 * v ||| d < 2 ^ 63 := Nat.or_lt_two_pow (by omega) (by omega)
  have hj := Nat.two_pow_add_eq_or_of_lt (i := 4) (b := d) (by omega) v
  rw [hw]
  show IntKind.i64.wrap ((BitVec.ofInt 64 ((2 ^ 4 * v : Nat) : Int) ||| BitVec.ofInt 64 (d : Int)).toNat : Nat) = _
  have key : (BitVec.ofInt 64 ((2 ^ 4 * v : Nat) : Int) ||| BitVec.ofInt 64 (d : Int)).toNat = 2 ^ 4 * v ||| d := by
    rw [BitVec.toNat_or, BitVec.toNat_ofInt, BitVec.toNat_ofInt]
    congr 1 <;> omega
  rw [key, IntKind.wrap_i64, ← hj]
  omega

theorem hexd_hval (c : UInt8) (h : isHex c = true) : hexd (hval c) = c := by
  have : ∀ n : Fin 256, isHex (UInt8.ofNat n.val) = true → hexd (hval (UInt8.ofNat n.val)) = UInt8.ofNat n.val := by decide +kernel
  have hc := this ⟨c.toNat, c.toNat_lt⟩
  simp only [UInt8.ofNat_toNat] at hc
  exact hc h
theorem hex_hnum (l : List UInt8) : ∀ k, k ≤ l.length → (l.take k).all isHex = true → hex k (hnum (l.take k)) = l.take k := by
  intro k
  induction k with
  | zero => intro _ _; simp [hex]
  | succ k ih =>
    intro hk h
    rw [List.take_succ_eq_append_getElem (by omega)] at h ⊢
    rw [List.all_append, Bool.and_eq_true] at h
    have h1 := ih (by omega) h.1
    have hc : isHex (l[k]'(by omega)) = true := by simpa using h.2
    have h2 := hval_lt _ hc
    rw [hnum_snoc, hex, show (16 * hnum (l.take k) + hval l[k]) / 16 = hnum (l.take k) by omega, show (16 * hnum (l.take k) + hval l[k]) % 16 = hval l[k] by omega, h1, hexd_hval _ hc]

theorem digs_length (l : List UInt8) (h : 16 ≤ l.length) : (digs l).length = 14 := by simp [digs]; omega
theorem digs_bad (l : List UInt8) (k : Nat) (h : 16 ≤ l.length) (hk : k < 14) (hc : isHex ((digs l).getD k 0) = false) : okName l = false := by
  have hl := digs_length l h
  have : (digs l).all isHex = false := by
    rw [List.all_eq_false]
    refine ⟨(digs l)[k]'(by omega), List.getElem_mem _, ?_⟩
    simp only [List.getD_eq_getElem?_getD, List.getElem?_eq_getElem (show k < (digs l).length by omega), Option.getD_some] at hc
    simp [hc]
  simp [okName, this]
theorem name_parts (l : List UInt8) (h : 16 ≤ l.length) : l = l.take (l.length - 15) ++ (l[l.length - 15]'(by omega)) :: digs l := by
  have h1 := List.take_append_drop (l.length - 15) l
  have h2 : l.drop (l.length - 15) = (l[l.length - 15]'(by omega)) :: l.drop (l.length - 15 + 1) := List.drop_eq_getElem_cons (by omega)
  have h3 : l.length - 15 + 1 = l.length - 14 := by omega
  rw [h2, h3] at h1
  exact h1.symm
theorem back_eq (l : List UInt8) (h : 16 ≤ l.length) (hx : (digs l).all isHex = true) :
    (l.take (l.length - 15) ++ 45 :: hex 14 (hnum (digs l)) = l) ↔ l[l.length - 15]? = some 45 := by
  have hl := digs_length l h
  have hh := hex_hnum (digs l) 14 (by omega) (by rw [List.take_of_length_le (by omega)]; exact hx)
  rw [List.take_of_length_le (by omega)] at hh
  rw [hh]
  constructor
  · intro he
    have : l[l.length - 15]? = (l.take (l.length - 15) ++ 45 :: digs l)[l.length - 15]? := by rw [he]
    rw [this, List.getElem?_append_right (by simp)]
    simp
  · intro he
    have hp := name_parts l h
    rw [List.getElem?_eq_getElem (by omega)] at he
    simp only [Option.some.injEq] at he
    rw [he] at hp
    exact hp.symm

def ParsePost (s : ByteArray) (e : Ending) : Prop :=
  (okName s.data.toList = true → e = .returned (.tuple #[.string (s.extract 0 (s.size - 15)), .int .i64 ((hnum (digs s.data.toList) : Nat) : Int), .bool true])) ∧
  (okName s.data.toList = false → e = .returned (.tuple #[.string ⟨#[]⟩, .int .i64 0, .bool false]))

theorem ParsePost.bad {s : ByteArray} (h : okName s.data.toList = false) : ParsePost s (.returned (.tuple #[.string ⟨#[]⟩, .int .i64 0, .bool false])) :=
  ⟨fun h' => (by rw [h] at h'; cases h'), fun _ => rfl⟩
theorem ParsePost.good {s : ByteArray} (h : okName s.data.toList = true) {a b : Value} (ha : a = .string (s.extract 0 (s.size - 15))) (hb : b = .int .i64 ((hnum (digs s.data.toList) : Nat) : Int)) :
    ParsePost s (.returned (.tuple #[a, b, .bool true])) :=
  ⟨fun _ => by rw [ha, hb], fun h' => (by rw [h] at h'; cases h')⟩

theorem name_ok' (s bk : ByteArray) (b : Nat) (w : World) (hs : s.size ≤ 8) (hl : loggedB s.data.toList = true) (hb : b ≤ 9007199254740992) (hbk : bk = ⟨(s.data.toList ++ 45 :: hex 14 b).toArray⟩) :
    Calls Tryz.prog 78 #[.string s, .int .i64 b] w fun e w' => e = .returned (.tuple #[.string bk, .int .i64 0]) ∧ Below w.heap.size w w' := by
  subst hbk
  exact name_ok s b w hs hl hb

theorem loggedB_len (l : List UInt8) (h : loggedB l = true) : 1 ≤ l.length ∧ l.length ≤ 8 := by
  simp [loggedB] at h
  omega

set_option maxRecDepth 100000 in
set_option maxHeartbeats 1000000 in
theorem parse_long (s : ByteArray) (w : World) (hs : s.size ≤ maxLen) (h16 : 16 ≤ s.size) :
    Calls Tryz.prog 19 #[.string s] w fun e w' => ParsePost s e ∧ Below w.heap.size w w' := by
  have hs0 := hs
  unfold maxLen at hs
  have hlen : s.data.toList.length = s.size := by simp
  obtain ⟨cap, w1, hrun, hcap, hcell, hbl, hsz⟩ := run_bytes_read (P := Tryz.prog) w 9 39 5 (s.extract (s.size - 14) s.size) Tryz.underlying9 Tryz.underlying39 Tryz.underlying5
  have HX := Lib.hid hsz
  clear hsz
  have h14 : s.size - (s.size - 14) = 14 := by omega
  obtain ⟨ds, hds⟩ : ∃ ds, ds = digs s.data.toList := ⟨_, rfl⟩
  have hdl : ds.length = 14 := by rw [hds]; exact digs_length _ (by omega)
  have hcell' : ∀ j, j < 14 → w1.cell? ⟨w.heap.size, j, none⟩ = some (.int .u8 ((ds.getD j 0).toNat : Int)) := by
    intro j hj
    have hsz : (s.extract (s.size - 14) s.size).size = 14 := by simp; omega
    rw [hcell j (by omega)]
    have e : (s.extract (s.size - 14) s.size)[j]'(by omega) = ds.getD j 0 := by
      rw [hds, digs, List.getD_eq_getElem?_getD, List.getElem?_drop, hlen]
      rw [ByteArray.getElem_extract]
      rw [List.getElem?_eq_getElem (by simp; omega)]
      rfl
    rw [e]
  have HDS := Lib.hid hds
  have HDL := Lib.hid hdl
  have HLEN := Lib.hid hlen
  clear hds hcell hcap hdl hlen
  go_enter Tryz.func19, Tryz.ntmps19
  go_wp2
  go_loop [6, 23] (fun c i => ∃ k v : Nat, k ≤ 14 ∧ i = .int .i64 k ∧ c = .int .i64 v ∧ Hid ((ds.take k).all isHex = true ∧ v = hnum (ds.take k))) (fun _ i => (14 - intOf i).toNat)
  case atStart => exact ⟨0, 0, by omega, rfl, rfl, Lib.hid (by simp [hnum])⟩
  case round =>
    obtain ⟨k, v, hk, rfl, rfl, HV⟩ := hrel
    by_cases hlt : k < 14
    · obtain ⟨c, hc⟩ : ∃ c, c = ds.getD k 0 := ⟨_, rfl⟩
      have hck := hcell' k hlt
      rw [← hc] at hck
      have HC := Lib.hid hc
      clear hc hcell'
      have HT : Hid (ds.take (k + 1) = ds.take k ++ [c]) := by
        refine Lib.hid ?_
        have := HDL.out
        rw [List.take_succ_eq_append_getElem (by omega), HC.out]
        simp [List.getD_eq_getElem?_getD, List.getElem?_eq_getElem (show k < ds.length by omega)]
      have HB : Hid (v < 4503599627370496) := by
        refine Lib.hid ?_
        have h1 := hnum_lt ds k (by have := HDL.out; omega) HV.out.1
        have h2 : 16 ^ k ≤ 16 ^ 13 := Nat.pow_le_pow_right (by decide) (by omega)
        rw [HV.out.2]
        have h3 : (16 : Nat) ^ 13 = 4503599627370496 := by decide
        omega
      by_cases hc1 : 48 ≤ (c.toNat : Int) ∧ (c.toNat : Int) ≤ 57
      · obtain ⟨hc1, hc2⟩ := hc1
        have HH : Hid (isHex c = true ∧ hval c = c.toNat - 48) := Lib.hid (by simp [isHex, hval, UInt8.le_iff_toNat_le]; omega)
        go_wp2
        go_round
        case rel =>
          refine ⟨k + 1, 16 * v + hval c, by omega, by go_num, ?_, Lib.hid ⟨?_, ?_⟩⟩
          · have := or_hex v (hval c) HB.out (hval_lt c HH.out.1)
            rw [show ((hval c : Nat) : Int) = (c.toNat : Int) - 48 by rw [HH.out.2]; omega] at this
            rw [this]
          · rw [HT.out, List.all_append, HV.out.1]; simp [HH.out.1]
          · rw [HT.out, hnum_snoc, HV.out.2]
        case measure => simp [intOf]; omega
      · by_cases hc3 : 97 ≤ (c.toNat : Int) ∧ (c.toNat : Int) ≤ 102
        · obtain ⟨hc3, hc4⟩ := hc3
          have HH : Hid (isHex c = true ∧ hval c = c.toNat - 87) := Lib.hid (by simp [isHex, hval, UInt8.le_iff_toNat_le]; omega)
          clear hc1
          go_wp2
          go_round
          case rel =>
            refine ⟨k + 1, 16 * v + hval c, by omega, by go_num, ?_, Lib.hid ⟨?_, ?_⟩⟩
            · have := or_hex v (hval c) HB.out (hval_lt c HH.out.1)
              rw [show ((hval c : Nat) : Int) = (c.toNat : Int) - 97 + 10 by rw [HH.out.2]; omega] at this
              rw [this]
            · rw [HT.out, List.all_append, HV.out.1]; simp [HH.out.1]
            · rw [HT.out, hnum_snoc, HV.out.2]
          case measure => simp [intOf]; omega
        · have HF : Hid (okName s.data.toList = false) := by
            refine Lib.hid (digs_bad _ k (by rw [HLEN.out]; exact h16) hlt ?_)
            rw [← HDS.out, ← HC.out]
            simp [isHex, UInt8.le_iff_toNat_le]
            omega
          go_wp2
          all_goals (go_ret3; exact ⟨ParsePost.bad HF.out, hbl⟩)
    · obtain rfl : k = 14 := by omega
      have HP : Hid ((s.extract 0 (s.size - 14 - 1)).data.toList = s.data.toList.take (s.size - 15)) := by
        refine Lib.hid ?_
        simp
        omega
      have HALL : Hid ((digs s.data.toList).all isHex = true ∧ v = hnum (digs s.data.toList)) := by
        refine Lib.hid ?_
        have h1 := HV.out
        rw [List.take_of_length_le (by have := HDL.out; omega), HDS.out] at h1
        exact h1
      have hps : (s.extract 0 (s.size - 14 - 1)).size ≤ s.size := by simp; omega
      clear hlt hk hcell'
      by_cases hg : loggedB (s.data.toList.take (s.size - 15)) = true ∧ v ≤ 9007199254740992
      · obtain ⟨hg1, hg2⟩ := hg
        have h8 : (s.extract 0 (s.size - 14 - 1)).size ≤ 8 := by
          have := (loggedB_len _ hg1).2
          simp at this ⊢
          omega
        obtain ⟨bk, hbk⟩ : ∃ bk : ByteArray, bk = ⟨((s.extract 0 (s.size - 14 - 1)).data.toList ++ 45 :: hex 14 v).toArray⟩ := ⟨_, rfl⟩
        have hback : bk = s ↔ s.data.toList[s.data.toList.length - 15]? = some 45 := by
          rw [← back_eq _ (by rw [HLEN.out]; exact h16) HALL.out.1, ← HALL.out.2, HLEN.out, hbk, HP.out]
          constructor
          · intro h
            have := congrArg (fun b : ByteArray => b.data.toList) h
            simpa using this
          · intro h
            apply ByteArray.ext
            apply Array.ext'
            simpa using h
        have hok : okName s.data.toList = (s.data.toList[s.data.toList.length - 15]? == some 45) := by
          unfold okName
          rw [HLEN.out, HALL.out.1, hg1, ← HALL.out.2]
          simp [hg2, h16]
        have HG := Lib.hid hg1
        have HG2 := Lib.hid hg2
        have HBK := Lib.hid hbk
        by_cases hd : s.data.toList[s.data.toList.length - 15]? = some 45
        · have hbs := str_eq_true (hback.2 hd)
          have HOK : Hid (okName s.data.toList = true) := Lib.hid (by rw [hok, hd]; rfl)
          clear hback hok hd hg1 hg2 hbk
          go_wp2_with fail
          refine (name_ok' _ bk v _ h8 (by rw [HP.out]; exact HG.out) HG2.out HBK.out).mono ?_
          rintro e w' ⟨rfl, hb2⟩
          go_wp2
          go_ret3
          exact ⟨ParsePost.good (a := .string (s.extract 0 (s.size - 14 - 1))) (b := .int .i64 (v : Int)) HOK.out (by rw [show s.size - 14 - 1 = s.size - 15 by omega]) (by rw [← HALL.out.2]), hbl.trans (hb2.mono hbl.size)⟩
        · have hbs := str_eq_false (fun h => hd (hback.1 h))
          have HOK : Hid (okName s.data.toList = false) := Lib.hid (by rw [hok]; simpa using hd)
          clear hback hok hd hg1 hg2 hbk
          go_wp2_with fail
          refine (name_ok' _ bk v _ h8 (by rw [HP.out]; exact HG.out) HG2.out HBK.out).mono ?_
          rintro e w' ⟨rfl, hb2⟩
          go_wp2
          go_ret3
          exact ⟨ParsePost.bad HOK.out, hbl.trans (hb2.mono hbl.size)⟩
      · have HOK : Hid (okName s.data.toList = false) := by
          refine Lib.hid ?_
          unfold okName
          rw [HLEN.out, ← HALL.out.2]
          cases hl : loggedB (s.data.toList.take (s.size - 15)) with
          | false => simp
          | true =>
            have : ¬ v ≤ 9007199254740992 := fun h => hg ⟨hl, h⟩
            simp [this]
        have HN : Hid (loggedB (s.extract 0 (s.size - 14 - 1)).data.toList = false ∨ (v : Int) < 0 ∨ 9007199254740992 < (v : Int)) := by
          refine Lib.hid ?_
          rw [HP.out]
          cases hl : loggedB (s.data.toList.take (s.size - 15)) with
          | false => exact .inl rfl
          | true =>
            have : ¬ v ≤ 9007199254740992 := fun h => hg ⟨hl, h⟩
            exact .inr (.inr (by omega))
        clear hg
        go_wp2_with fail
        refine (name_no _ _ _ (by unfold maxLen; omega) HN.out).mono ?_
        rintro e w' ⟨rfl, rfl⟩
        go_wp2
        go_ret3
        exact ⟨ParsePost.bad HOK.out, hbl⟩

set_option maxRecDepth 100000 in
set_option maxHeartbeats 400000 in
theorem parse_any (s : ByteArray) (w : World) (hs : s.size ≤ maxLen) :
    Calls Tryz.prog 19 #[.string s] w fun e w' => ParsePost s e ∧ Below w.heap.size w w' := by
  by_cases h16 : 16 ≤ s.size
  · exact parse_long s w hs h16
  · have HOK : Hid (okName s.data.toList = false) := Lib.hid (by simp [okName]; omega)
    unfold maxLen at hs
    go_enter Tryz.func19, Tryz.ntmps19
    go_wp2
    go_ret3
    exact ⟨ParsePost.bad HOK.out, Below.refl _ _⟩
end Go.Proofs.YtlgcoaeddeiegaaGreat
/- A log of segments, plainly: its segments' names, their order. -/
namespace Go.Proofs.YtlgcoaeddeiegaaGreat
open Go Go.RowKit

theorem hexd_okL : ∀ d : Nat, d < 16 → isHex (hexd d) = true ∧ hval (hexd d) = d := by decide
theorem hex_numL : ∀ n b, (hex n b).all isHex = true ∧ hnum (hex n b) = b % 16 ^ n
  | 0, b => ⟨rfl, by simp [hex, hnum, Nat.mod_one]⟩
  | n + 1, b => by
    obtain ⟨h1, h2⟩ := hex_numL n (b / 16)
    obtain ⟨h3, h4⟩ := hexd_okL (b % 16) (by omega)
    refine ⟨?_, ?_⟩
    · rw [hex, List.all_append, h1]
      simp [h3]
    · rw [hex, hnum_snoc, h2, h4, Nat.pow_succ', Nat.mod_mul]
      omega
def sname (log : ByteArray) (b : Nat) : List UInt8 := log.data.toList ++ 45 :: hex 14 b
theorem segName_data (log : ByteArray) (b : Nat) : (segName log b).data.toList = sname log b := rfl
theorem sname_len (log : ByteArray) (b : Nat) : (sname log b).length = log.size + 15 := by
  unfold sname
  rw [List.length_append, List.length_cons, hex_length]
  simp
def ofLog (log : ByteArray) (s : List UInt8) : Bool := okName s && (s.take (s.length - 15) == log.data.toList)
theorem sname_parts (log : ByteArray) (b : Nat) : digs (sname log b) = hex 14 b ∧ (sname log b).take ((sname log b).length - 15) = log.data.toList ∧ (sname log b)[(sname log b).length - 15]? = some 45 := by
  have hz : log.data.toList.length = log.size := by simp
  refine ⟨?_, ?_, ?_⟩
  · unfold digs
    rw [sname_len, show log.size + 15 - 14 = log.data.toList.length + 1 by omega]
    unfold sname
    rw [List.drop_append, List.drop_of_length_le (by omega), Nat.add_sub_cancel_left]
    rfl
  · rw [sname_len, show log.size + 15 - 15 = log.data.toList.length by omega]
    unfold sname
    rw [List.take_append_of_le_length (Nat.le_refl _), List.take_length]
  · rw [sname_len, show log.size + 15 - 15 = log.data.toList.length by omega]
    unfold sname
    rw [List.getElem?_append_right (Nat.le_refl _), Nat.sub_self]
    rfl
theorem sname_ok {log : ByteArray} (hlog : loggedB log.data.toList = true) {b : Nat} (h : b ≤ 9007199254740992) : okName (sname log b) = true ∧ hnum (digs (sname log b)) = b := by
  obtain ⟨h1, h2, h3⟩ := sname_parts log b
  obtain ⟨g1, g2⟩ := hex_numL 14 b
  rw [Nat.mod_eq_of_lt (by omega)] at g2
  have hl := loggedB_len _ hlog
  have hz : log.data.toList.length = log.size := by simp
  rw [h1]
  refine ⟨?_, g2⟩
  unfold okName
  have h3' : (sname log b)[(sname log b).length - 15]? == some 45 := by rw [h3]; rfl
  rw [h1, g1, g2, h2, hlog, h3', sname_len, decide_eq_true (show 16 ≤ log.size + 15 by omega), decide_eq_true h]
  rfl
theorem sname_of {log : ByteArray} (hlog : loggedB log.data.toList = true) {b : Nat} (h : b ≤ 9007199254740992) : ofLog log (sname log b) = true := by
  unfold ofLog
  rw [(sname_ok hlog h).1, (sname_parts log b).2.1]
  simp
theorem sname_inj {log : ByteArray} (hlog : loggedB log.data.toList = true) {b c : Nat} (h : b ≤ 9007199254740992) (h' : c ≤ 9007199254740992) (e : sname log b = sname log c) : b = c := by
  rw [← (sname_ok hlog h).2, e, (sname_ok hlog h').2]
theorem hexd_lt : ∀ a : Fin 16, ∀ b : Fin 16, a.val < b.val → hexd a.val < hexd b.val := by decide
theorem hexd_lt' {a b : Nat} (h : a < b) (hb : b < 16) : hexd a < hexd b := hexd_lt ⟨a, by omega⟩ ⟨b, hb⟩ h
theorem hex_mod : ∀ n b, hex n (b % 16 ^ n) = hex n b
  | 0, _ => rfl
  | n + 1, b => by
    have h1 : b % 16 ^ (n + 1) / 16 = b / 16 % 16 ^ n := by rw [Nat.pow_succ, Nat.mul_comm]; exact Nat.mod_mul_right_div_self ..
    have h2 : b % 16 ^ (n + 1) % 16 = b % 16 := by rw [Nat.pow_succ]; exact Nat.mod_mul_left_mod ..
    rw [hex, hex, h1, h2, hex_mod n]
theorem hex_lt : ∀ n a b, a < b → b < 16 ^ n → hex n a < hex n b
  | 0, _, _, h, hb => by simp at hb; omega
  | n + 1, a, b, h, hb => by
    rw [hex_cons, hex_cons]
    have hp : 0 < 16 ^ n := Nat.pos_of_ne_zero (by simp)
    have hq : b / 16 ^ n < 16 := Nat.div_lt_of_lt_mul (by rw [Nat.pow_succ] at hb; exact hb)
    have hle : a / 16 ^ n ≤ b / 16 ^ n := Nat.div_le_div_right (Nat.le_of_lt h)
    rw [Nat.mod_eq_of_lt (by omega : a / 16 ^ n < 16), Nat.mod_eq_of_lt hq]
    by_cases he : a / 16 ^ n = b / 16 ^ n
    · rw [he]
      refine List.Lex.cons ?_
      have h1 := Nat.div_add_mod a (16 ^ n)
      have h2 := Nat.div_add_mod b (16 ^ n)
      rw [he] at h1
      have := hex_lt n (a % 16 ^ n) (b % 16 ^ n) (by omega) (Nat.mod_lt _ hp)
      rwa [hex_mod, hex_mod] at this
    · exact List.Lex.rel (hexd_lt' (by omega) hq)
theorem pre_lt {x y : List UInt8} (h : x < y) : ∀ l : List UInt8, l ++ x < l ++ y
  | [] => h
  | _ :: l => List.Lex.cons (pre_lt h l)
theorem sname_lt (log : ByteArray) {b c : Nat} (h : b < c) (hc : c ≤ 9007199254740992) : sname log b < sname log c := pre_lt (List.Lex.cons (hex_lt 14 b c h (by omega))) _
end Go.Proofs.YtlgcoaeddeiegaaGreat
/- A log of segments, plainly: what Read answers over segments that lie behind one another. -/
namespace Go.Proofs.YtlgcoaeddeiegaaGreat
open Go

section
variable {α : Type}
def Behind : Nat → List (Nat × List α) → Prop
  | _, [] => True
  | bn, (b, l) :: r => b = bn ∧ Behind (bn + l.length) r
def readGo (f u m : Nat) : List (Nat × List α) → List α → List α
  | [], out => out
  | (b, l) :: r, out =>
    if min u (b + l.length) ≤ max f b then readGo f u m r out
    else if m ≤ (out ++ (l.drop (max f b - b)).take (min (min u (b + l.length) - max f b) (m - out.length))).length then out ++ (l.drop (max f b - b)).take (min (min u (b + l.length) - max f b) (m - out.length))
    else readGo f u m r (out ++ (l.drop (max f b - b)).take (min (min u (b + l.length) - max f b) (m - out.length)))
theorem readGo_eq (f u m : Nat) : ∀ (segs : List (Nat × List α)) (bn : Nat) (out : List α), Behind bn segs → readGo f u m segs out = out ++ ((segs.flatMap (·.2)).drop (f - bn)).take (min (u - max f bn) (m - out.length))
  | [], bn, out, _ => by simp [readGo]
  | (b, l) :: r, bn, out, h => by
    obtain ⟨rfl, hr⟩ := h
    have ih := readGo_eq f u m r (b + l.length)
    rw [List.flatMap_cons]
    show readGo f u m ((b, l) :: r) out = out ++ ((l ++ r.flatMap (·.2)).drop (f - b)).take _
    generalize hA : r.flatMap (·.2) = A at ih ⊢
    unfold readGo
    by_cases h1 : min u (b + l.length) ≤ max f b
    · rw [if_pos h1, ih out hr]
      congr 1
      by_cases h2 : u ≤ max f b
      · rw [show u - max f b = 0 by omega, show u - max f (b + l.length) = 0 by omega]
        simp
      · have h3 : b + l.length ≤ max f b := by omega
        by_cases h4 : l.length = 0
        · have : l = [] := List.length_eq_zero_iff.1 h4
          subst this
          simp
        · have h5 : b + l.length ≤ f := by omega
          rw [List.drop_append, List.drop_of_length_le (by omega : l.length ≤ f - b), List.nil_append, show f - b - l.length = f - (b + l.length) by omega, show max f b = max f (b + l.length) by omega]
    · rw [if_neg h1]
      have hk : max f b - b = f - b := by omega
      have hkl : f - b < l.length := by omega
      obtain ⟨X, hX⟩ : ∃ X, l.drop (f - b) = X := ⟨_, rfl⟩
      obtain ⟨M, hM⟩ : ∃ M, m - out.length = M := ⟨_, rfl⟩
      have hL : X.length = b + l.length - max f b := by rw [← hX, List.length_drop]; omega
      have hdrop : (l ++ A).drop (f - b) = X ++ A := by
        rw [List.drop_append_of_le_length (by omega), hX]
      rw [hk, hX, hM, hdrop, List.take_append]
      have hn : X.take (min (min u (b + l.length) - max f b) M) = X.take (min (u - max f b) M) := by
        by_cases h6 : u ≤ b + l.length
        · rw [show min u (b + l.length) = u by omega]
        · rw [show min (min u (b + l.length) - max f b) M = min X.length M by omega]
          by_cases h7 : X.length ≤ M
          · rw [show min X.length M = X.length by omega, List.take_length, List.take_of_length_le (by omega)]
          · rw [show min X.length M = M by omega, show min (u - max f b) M = M by omega]
      rw [hn]
      have hlen : (X.take (min (u - max f b) M)).length = min (min (u - max f b) M) X.length := List.length_take
      by_cases h8 : m ≤ (out ++ X.take (min (u - max f b) M)).length
      · rw [if_pos h8]
        rw [List.length_append, hlen] at h8
        rw [show min (u - max f b) M - X.length = 0 by omega, List.take_zero, List.append_nil]
      · rw [if_neg h8, ih _ hr]
        rw [List.length_append, hlen] at h8
        rw [List.append_assoc, List.length_append, hlen]
        congr 2
        rw [show f - (b + l.length) = 0 by omega, List.drop_zero]
        congr 1
        omega
end
end Go.Proofs.YtlgcoaeddeiegaaGreat
