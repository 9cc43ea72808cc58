/- The texts Dt, Mb, Mc, Du, Dv, Dw, Md in one. -/
import Derived.Test.YtlgcoaeddeiegaaGreatV1
import Derived.OwnWalk
import Derived.Lib.Hide
import Derived.Deep.CutRange
/- Disk: the next step. -/
namespace Go.Proofs.YtlgcoaeddeiegaaGreat
open Go Go.Maps Go.RowKit

theorem heap_setCell_here {w : World} {q i : Nat} {cs : Array Value} {T : TypeId} {fr : Nat × Nat} (v : Value) (h : w.heap[q]? = some (.cells cs T fr)) : (w.setCell ⟨q, i, none⟩ v).heap[q]? = some (.cells (cs.setIfInBounds i v) T fr) := by
  rw [setCell_eq_setRow w q i cs T fr v h]
  exact setRow_heap w q cs _ T fr h
theorem only_setCell (S : Nat → Prop) (w : World) (q i : Nat) (v : Value) (h : S q) : Only S w (w.setCell ⟨q, i, none⟩ v) :=
  ⟨rfl, rfl, rfl, by simp [World.setCell], fun k _ hk => Below.heap_setCell _ _ _ _ (fun e => hk (by rw [e]; exact h))⟩
theorem only_alloc (S : Nat → Prop) (w : World) (o : Obj) : Only S w (w.alloc o) := Only.of_below ((Below.refl _ _).alloc (Nat.le_refl _) _) (Nat.le_refl _) S
theorem only_new {S : Nat → Prop} {w w' : World} (h : Only (fun k => S k ∨ w.heap.size ≤ k) w w') : Only S w w' :=
  h.mono (fun i hi hs => by
    rcases hs with hs | hs
    · exact hs
    · omega)
theorem only_drew {S : Nat → Prop} {w w' : World} (h : Only S w w') : Only S w w'.drew := ⟨h.os, h.tape, h.output, h.size, h.block⟩
theorem alloc_cells (w : World) (cs : Array Value) (T : TypeId) : (w.alloc (.cells cs T)).heap[w.heap.size]? = some (.cells cs T (0, 0)) := heap_alloc_new w _
theorem cell_of {w : World} {q i : Nat} {cs : Array Value} {T : TypeId} {fr : Nat × Nat} {v : Value} (h : w.heap[q]? = some (.cells cs T fr)) (hv : cs[i]? = some v) : w.cell? ⟨q, i, none⟩ = some v := by
  rw [cell_of_row w q i _ _ _ h, hv]
theorem free_of {w : World} {q : Nat} {cs : Array Value} {T : TypeId} (h : w.heap[q]? = some (.cells cs T (0, 0))) (i : Nat) : w.frozen? ⟨q, i, none⟩ = false := by
  simp [World.frozen?, h]
theorem rowAt.shape {w : World} {e : TypeId} {size : Nat} {v : Value} {n : Nat} {xs : List Value} (h : rowAt w e size v n xs) : ∃ oa cap, v = .slice oa n cap ∧ n ≤ cap := by
  rcases h.2 with ⟨rfl, rfl⟩ | ⟨g, off, cap, cur, fr, rfl, _, hn, _⟩
  · exact ⟨none, 0, rfl, Nat.le_refl _⟩
  · exact ⟨_, _, rfl, hn⟩
theorem rowAt.addr {w : World} {e : TypeId} {size : Nat} {oa : Option Addr} {cap n : Nat} {xs : List Value} (h : rowAt w e size (.slice oa n cap) n xs) (hn : 0 < n) : ∃ g off, oa = some ⟨g, off, none⟩ := by
  rcases h.2 with ⟨_, h0⟩ | ⟨g, off, c, cur, fr, hv, _⟩
  · omega
  · simp only [Value.slice.injEq] at hv
    exact ⟨g, off, hv.1⟩

theorem sub_own (c : Prop) [Decidable c] (g off k n cap : Nat) : (Value.slice (if c then some ⟨g, off, none⟩ else (some (⟨g, off, none⟩ : Addr)).map (·.add k)) n cap).ownBlock = some g := by
  split
  · rfl
  · simp [Value.ownBlock, Go.WideShapes.add_plain]
theorem fateCells_cons (x : Int × Int) (r : List (Int × Int)) : fateCells (x :: r) = .int .i64 x.1 :: .int .i64 x.2 :: fateCells r := rfl
theorem fateCells_length : ∀ l : List (Int × Int), (fateCells l).length = l.length * 2
  | [] => rfl
  | x :: r => by
    rw [fateCells_cons]
    simp only [List.length_cons, fateCells_length r]
    omega
theorem run_tail (g off n cap : Nat) (W : World) : (Instr.slice 37 (.slice (some ⟨g, off, none⟩) (n + 1) cap) (some (.int .i64 1)) none none).run Tryz.prog W = .ok (.slice (if cap = 1 then some ⟨g, off, none⟩ else (some (⟨g, off, none⟩ : Addr)).map (·.add (1 * 2))) n (cap - 1)) W := by
  have hs : (sizeOf 98).run Tryz.prog W = .ok 2 W := by kernel_rfl
  have he : Tryz.prog.elem 37 = 98 := by kernel_rfl
  rw [run_slice_l (P := Tryz.prog) (w := W) 37 (some ⟨g, off, none⟩) (n + 1) cap (by rw [he]; exact Tryz.underlying37) .i64 1 (by omega) (by omega), he, hs]
  simp [Result.andThen, sliced]
theorem step_end {w w3 : World} {S : Nat → Prop} {q mb : Nat} {fv fv' : Value} {L : List Fl} {d : Dk} {rest : List (Int × Int)} (h : DiskIs w S q mb fv L d) (ho : Only (fun k => k = q) w w3) (hq : w3.heap[q]? = some (.cells #[.map (some mb), fv', .int .i64 (wrap64 (d.steps + 1))] 120 (0, 0)))
    (hrest : d.fates.tail = rest) (hob : ∀ k, fv'.ownBlock = some k → fv.ownBlock = some k) (hr : rowAt w 98 2 fv' rest.length (fateCells rest)) : DiskIs w3 S q mb fv' L d.next := by
  subst hrest
  exact h.head_turn ho hq hob hr

/-- what a step makes of a disk -/
def StepIs (w : World) (S : Nat → Prop) (q mb : Nat) (L : List Fl) (d : Dk) (e : Ending) (w' : World) : Prop :=
  ∃ (kd kp : Int) (fv' : Value), e = .returned (.tuple #[.agg #[.int .i64 kd, .int .i64 kp], .int .i64 d.fate.1]) ∧ kp.toNat = d.fate.2 ∧ DiskIs w' S q mb fv' L d.next ∧ Only (fun k => k = q) w w'
set_option maxRecDepth 100000 in
set_option maxHeartbeats 1000000 in
theorem step_b {w : World} {S : Nat → Prop} {q mb : Nat} {fv : Value} {L : List Fl} {d : Dk} (h : DiskIs w S q mb fv L d) :
    Calls Tryz.prog 135 #[.pointer (some ⟨q, 0, none⟩)] w fun e w' => StepIs w S q mb L d e w' := by
  obtain ⟨oa, cap, rfl, hnc⟩ := h.fates.shape
  obtain ⟨st, hst⟩ : ∃ st, d.steps = st := ⟨_, rfl⟩
  obtain ⟨fs, hfs⟩ : ∃ fs, d.fates = fs := ⟨_, rfl⟩
  have hqlt : q < w.heap.size := h.low q (h.foot q (by simp [diskBlocks]))
  go_enter Tryz.func135, Tryz.ntmps135
  go_upto_region 1 with fail
  obtain ⟨w1, hw1⟩ : ∃ w1 : World, w1 = w.alloc (.cells #[.int .i64 0, .int .i64 0] 98) := ⟨_, rfl⟩
  have hr1 : w1.heap[w.heap.size]? = some (.cells #[.int .i64 0, .int .i64 0] 98 (0, 0)) := by rw [hw1]; exact alloc_cells _ _ _
  have hq1 : w1.heap[q]? = some (.cells #[.map (some mb), .slice oa fs.length cap, .int .i64 st] 120 (0, 0)) := by
    rw [hw1, ← hst, ← hfs]
    exact (Below.heap_alloc _ _ q hqlt).trans h.head
  have ho1 : Only (fun k => k = q) w w1 := by rw [hw1]; exact only_alloc _ _ _
  have hrq : w.heap.size ≠ q := by omega
  rw [← hw1]
  clear hw1
  obtain ⟨r, hr⟩ : ∃ r, r = w.heap.size := ⟨_, rfl⟩
  have hrw : w.heap.size ≤ r := by omega
  rw [← hr] at hr1 hrq ⊢
  clear hr
  have H := Lib.hid h
  have HO1 := Lib.hid ho1
  clear h ho1
  have c2 : w1.cell? ⟨q, 2, none⟩ = some (.int .i64 st) := cell_of hq1 rfl
  have z2 : w1.frozen? ⟨q, 2, none⟩ = false := free_of hq1 _
  go_upto_region 2 with fail
  obtain ⟨st', hst'⟩ : ∃ st', wrap64 (st + 1) = st' := ⟨_, rfl⟩
  rw [hst']
  obtain ⟨w2, hw2⟩ : ∃ w2 : World, w2 = w1.setCell ⟨q, 2, none⟩ (.int .i64 st') := ⟨_, rfl⟩
  have hq2 : w2.heap[q]? = some (.cells #[.map (some mb), .slice oa fs.length cap, .int .i64 st'] 120 (0, 0)) := by rw [hw2]; exact heap_setCell_here _ hq1
  have hr2 : w2.heap[r]? = some (.cells #[.int .i64 0, .int .i64 0] 98 (0, 0)) := by
    rw [hw2]; exact (Below.heap_setCell _ _ _ _ hrq).trans hr1
  have ho2 : Only (fun k => k = q) w w2 := by rw [hw2]; exact HO1.out.trans (only_setCell (fun k => k = q) _ _ _ _ rfl) (fun _ _ h => h)
  rw [← hw2]
  clear hw2 hq1 hr1 c2 z2 HO1
  have HO2 := Lib.hid ho2
  have HST := Lib.hid hst'
  clear ho2 hst'
  have c1 : w2.cell? ⟨q, 1, none⟩ = some (.slice oa fs.length cap) := cell_of hq2 rfl
  have z1 : w2.frozen? ⟨q, 1, none⟩ = false := free_of hq2 _
  have r0 : w2.cell? ⟨r, 0, none⟩ = some (.int .i64 0) := cell_of hr2 rfl
  have r1 : w2.cell? ⟨r, 1, none⟩ = some (.int .i64 0) := cell_of hr2 rfl
  have y0 : w2.frozen? ⟨r, 0, none⟩ = false := free_of hr2 _
  have y1 : w2.frozen? ⟨r, 1, none⟩ = false := free_of hr2 _
  cases fs with
  | nil =>
    have HF : Hid (d.fates = []) := Lib.hid hfs
    have HR : Hid (rowAt w 98 2 (.slice oa 0 cap) 0 (fateCells [])) := Lib.hid (by have := H.out.fates; rw [hfs] at this; exact this)
    clear hfs
    go_wp2_with fail
    obtain ⟨w3, hw3⟩ : ∃ w3 : World, w3 = (w2.setCell ⟨r, 0, none⟩ (.int .i64 0)).setCell ⟨r, 1, none⟩ (.int .i64 0) := ⟨_, rfl⟩
    have hr3 : w3.heap[r]? = some (.cells #[.int .i64 0, .int .i64 0] 98 (0, 0)) := by rw [hw3]; exact heap_setCell_here _ (heap_setCell_here _ hr2)
    have hq3 : w3.heap[q]? = w2.heap[q]? := by rw [hw3]; exact (Below.heap_setCell _ _ _ _ (fun e => hrq e.symm)).trans (Below.heap_setCell _ _ _ _ (fun e => hrq e.symm))
    have ho3 : Only (fun k => k = r) w2 w3 := by rw [hw3]; exact (only_setCell (fun k => k = r) _ _ _ _ rfl).trans (only_setCell (fun k => k = r) _ _ _ _ rfl) (fun _ _ h => h)
    rw [← hw3]
    have s0 : w3.cell? ⟨r, 0, none⟩ = some (.int .i64 0) := cell_of hr3 rfl
    have s1 : w3.cell? ⟨r, 1, none⟩ = some (.int .i64 0) := cell_of hr3 rfl
    refine bodyPost_ret (v := .tuple #[.agg #[.int .i64 0, .int .i64 0], .int .i64 0]) (by simp [results, Tryz.results135, go_sem, s0, s1]) rfl ?_
    have ho : Only (fun k => k = q) w w3 := HO2.out.trans ho3 (fun i hi he => by omega)
    refine ⟨0, 0, .slice oa 0 cap, by simp [Dk.fate, HF.out], by simp [Dk.fate, HF.out], step_end (rest := []) H.out ho (hq3.trans ?_) (by rw [HF.out]; rfl) (fun k hk => by rw [HF.out]; exact hk) HR.out, ho⟩
    rw [hq2, hst, HST.out]
    rfl
  | cons f rest =>
    obtain ⟨k0, n0⟩ := f
    have hrow := H.out.fates
    have hlen : d.fates.length = rest.length + 1 := by rw [hfs]; rfl
    rw [hfs] at hrow
    obtain ⟨g, off, rfl⟩ := hrow.addr (by simp)
    have hgq : g ≠ q := fun e => by
      have := H.out.apart
      simp only [diskBlocks, List.nodup_cons] at this
      exact this.1 (by rw [← e]; simp [Value.ownBlock])
    have hglt : g < w.heap.size := hrow.lt g rfl
    have hgw : w2.heap[g]? = w.heap[g]? := HO2.out.block g hglt hgq
    have hrow2 : rowAt w2 98 2 (.slice (some ⟨g, off, none⟩) (rest.length + 1) cap) (rest.length + 1) (fateCells ((k0, n0) :: rest)) := hrow.kept (fun k hk => by
      simp only [Value.ownBlock, Option.some.injEq] at hk
      rw [← hk]; exact hgw)
    have f0 : w2.cell? ⟨g, off, none⟩ = some (.int .i64 k0) := by
      have := hrow2.cells (g := g) (off := off) rfl 0 (.int .i64 k0) rfl
      simpa [Go.WideShapes.add_plain] using this
    have f1 : w2.cell? ⟨g, off + 1, none⟩ = some (.int .i64 n0) := by
      have := hrow2.cells (g := g) (off := off) rfl 1 (.int .i64 n0) rfl
      simpa [Go.WideShapes.add_plain] using this
    have hsub := hrow.sub 1 (rest.length + 1) cap (by omega) (Nat.le_refl _) (by rw [← hlen]; exact hnc) (Nat.le_refl _)
    obtain ⟨oa', hfv⟩ : ∃ oa' : Option Addr, oa' = if cap = 1 then some ⟨g, off, none⟩ else (some (⟨g, off, none⟩ : Addr)).map (·.add (1 * 2)) := ⟨_, rfl⟩
    obtain ⟨c', hc'⟩ : ∃ c', c' = cap - 1 := ⟨_, rfl⟩
    have hown : (Value.slice oa' rest.length c').ownBlock = some g := by rw [hfv]; exact sub_own _ _ _ _ _ _
    obtain ⟨n1, hn1⟩ : ∃ n1, n1 = rest.length + 1 := ⟨_, rfl⟩
    have hsl : ∀ W : World, (Instr.slice 37 (.slice (some ⟨g, off, none⟩) n1 cap) (some (.int .i64 1)) none none).run Tryz.prog W = .ok (.slice oa' rest.length c') W := fun W => by rw [hfv, hn1, hc']; exact run_tail g off rest.length cap W
    have hn0 : ((n1 : Int) == 0) = false := by simp; omega
    have hn2 : (0 : Int) < (n1 : Int) := by omega
    have hn3 : (1 : Int) ≤ (n1 : Int) := by omega
    rw [List.length_cons, ← hn1] at c1 hq2
    have HSUB : Hid (rowAt w 98 2 (.slice oa' rest.length c') rest.length (fateCells rest)) := Lib.hid (by
      rw [hfv, hc']
      have e : (((fateCells ((k0, n0) :: rest)).drop (1 * 2)).take ((rest.length + 1 - 1) * 2)) = fateCells rest := by
        rw [fateCells_cons]
        show (fateCells rest).take (rest.length * 2) = fateCells rest
        exact List.take_of_length_le (Nat.le_of_eq (fateCells_length rest))
      rw [e] at hsub
      simpa using hsub)
    have HOWN := Lib.hid hown
    have HG : Hid (g ≠ q ∧ g < w.heap.size) := Lib.hid ⟨hgq, hglt⟩
    have HFS := Lib.hid hfs
    have HQ2 := Lib.hid hq2
    clear hrow hrow2 hsub hfv hown hfs hgw hlen hnc hglt hgq hn1 hq2 hc'
    go_upto_region 5 with fail
    obtain ⟨w3, hw3⟩ : ∃ w3 : World, w3 = w2.alloc (.cells #[.int .i64 k0, .int .i64 n0] 98) := ⟨_, rfl⟩
    obtain ⟨r', hr'⟩ : ∃ r', r' = w2.heap.size := ⟨_, rfl⟩
    have hx3 : w3.heap[r']? = some (.cells #[.int .i64 k0, .int .i64 n0] 98 (0, 0)) := by rw [hw3, hr']; exact alloc_cells _ _ _
    have hq3 : w3.heap[q]? = some (.cells #[.map (some mb), .slice (some ⟨g, off, none⟩) n1 cap, .int .i64 st'] 120 (0, 0)) := by
      rw [hw3]
      exact (Below.heap_alloc _ _ q (Nat.lt_of_lt_of_le hqlt HO2.out.size)).trans HQ2.out
    have hr3 : w3.heap[r]? = some (.cells #[.int .i64 0, .int .i64 0] 98 (0, 0)) := by rw [hw3]; exact (Below.heap_alloc _ _ r (Array.getElem?_eq_some_iff.1 hr2).1).trans hr2
    have ho3 : Only (fun k => k = q) w w3 := by rw [hw3]; exact HO2.out.trans (only_alloc (fun k => k = q) _ _) (fun _ _ h => h)
    have hrr : r' ≠ r ∧ r' ≠ q ∧ w.heap.size ≤ r' := by
      have h1 := (Array.getElem?_eq_some_iff.1 hr2).1
      have h2 := HO2.out.size
      omega
    rw [← hw3, ← hr']
    clear hw3 hr' hr2 HQ2 HO2 c1 z1 r0 r1 y0 y1 f0 f1
    have c1 : w3.cell? ⟨q, 1, none⟩ = some (.slice (some ⟨g, off, none⟩) n1 cap) := cell_of hq3 rfl
    have z1 : w3.frozen? ⟨q, 1, none⟩ = false := free_of hq3 _
    go_upto_region 6 with fail
    obtain ⟨w4, hw4⟩ : ∃ w4 : World, w4 = w3.setCell ⟨q, 1, none⟩ (.slice oa' rest.length c') := ⟨_, rfl⟩
    have hx4 : w4.heap[r']? = some (.cells #[.int .i64 k0, .int .i64 n0] 98 (0, 0)) := by rw [hw4]; exact (Below.heap_setCell _ _ _ _ hrr.2.1).trans hx3
    have hr4 : w4.heap[r]? = some (.cells #[.int .i64 0, .int .i64 0] 98 (0, 0)) := by rw [hw4]; exact (Below.heap_setCell _ _ _ _ hrq).trans hr3
    have hq4 : w4.heap[q]? = some (.cells #[.map (some mb), .slice oa' rest.length c', .int .i64 st'] 120 (0, 0)) := by rw [hw4]; exact heap_setCell_here _ hq3
    have ho4 : Only (fun k => k = q) w w4 := by rw [hw4]; exact ho3.trans (only_setCell (fun k => k = q) _ _ _ _ rfl) (fun _ _ h => h)
    rw [← hw4]
    clear hw4 hx3 hq3 hr3 ho3 c1 z1
    have HO4 := Lib.hid ho4
    have HQ4 := Lib.hid hq4
    have HRR := Lib.hid hrr
    clear ho4 hq4 hrr hsl
    have x0 : w4.cell? ⟨r', 0, none⟩ = some (.int .i64 k0) := cell_of hx4 rfl
    have x1 : w4.cell? ⟨r', 1, none⟩ = some (.int .i64 n0) := cell_of hx4 rfl
    have r0 : w4.cell? ⟨r, 0, none⟩ = some (.int .i64 0) := cell_of hr4 rfl
    have r1 : w4.cell? ⟨r, 1, none⟩ = some (.int .i64 0) := cell_of hr4 rfl
    have y0 : w4.frozen? ⟨r, 0, none⟩ = false := free_of hr4 _
    have y1 : w4.frozen? ⟨r, 1, none⟩ = false := free_of hr4 _
    obtain ⟨b1, hb1⟩ : ∃ b, ((k0 == 1) : Bool) = b := ⟨_, rfl⟩
    obtain ⟨b2, hb2⟩ : ∃ b, ((k0 == 2) : Bool) = b := ⟨_, rfl⟩
    have HB : Hid ((k0 = 1 ↔ b1 = true) ∧ (k0 = 2 ↔ b2 = true)) := Lib.hid ⟨by rw [← hb1]; simp, by rw [← hb2]; simp⟩
    have hend : ∀ (w5 : World) (er : Int), w5 = (w4.setCell ⟨r, 0, none⟩ (.int .i64 k0)).setCell ⟨r, 1, none⟩ (.int .i64 n0) → er = d.fate.1 →
        w5.cell? ⟨r, 0, none⟩ = some (.int .i64 k0) ∧ w5.cell? ⟨r, 1, none⟩ = some (.int .i64 n0) ∧ StepIs w S q mb L d (.returned (.tuple #[.agg #[.int .i64 k0, .int .i64 n0], .int .i64 er])) w5 := fun w5 er hw5 her => by
      have hr5 : w5.heap[r]? = some (.cells #[.int .i64 k0, .int .i64 n0] 98 (0, 0)) := by rw [hw5]; exact heap_setCell_here _ (heap_setCell_here _ hr4)
      have hq5 : w5.heap[q]? = w4.heap[q]? := by rw [hw5]; exact (Below.heap_setCell _ _ _ _ (fun e => hrq e.symm)).trans (Below.heap_setCell _ _ _ _ (fun e => hrq e.symm))
      have ho5 : Only (fun k => k = r) w4 w5 := by rw [hw5]; exact (only_setCell (fun k => k = r) _ _ _ _ rfl).trans (only_setCell (fun k => k = r) _ _ _ _ rfl) (fun _ _ h => h)
      have ho : Only (fun k => k = q) w w5 := HO4.out.trans ho5 (fun i hi he => by omega)
      refine ⟨cell_of hr5 rfl, cell_of hr5 rfl, k0, n0, .slice oa' rest.length c', by rw [her], ?_, step_end (rest := rest) H.out ho (hq5.trans ?_) (by rw [HFS.out]; rfl) (fun k hk => by rw [HOWN.out] at hk; exact hk) HSUB.out, ho⟩
      · simp only [Dk.fate, HFS.out]
        split
        · rfl
        · split <;> rfl
      · rw [HQ4.out, hst, HST.out]
    have HEND := Lib.hid hend
    clear hend
    cases b1
    · cases b2
      · have he : (0 : Int) = d.fate.1 := by
          have h1 : ¬ k0 = 1 := fun h => by cases HB.out.1.1 h
          have h2 : ¬ k0 = 2 := fun h => by cases HB.out.2.1 h
          simp [Dk.fate, HFS.out, h1, h2]
        have HE := Lib.hid he
        clear he
        go_wp2_with fail
        obtain ⟨s0, s1, hx⟩ := HEND.out _ 0 rfl HE.out
        exact bodyPost_ret (v := .tuple #[.agg #[.int .i64 k0, .int .i64 n0], .int .i64 0]) (by simp [results, Tryz.results135, go_sem, s0, s1]) rfl hx
      · have he : (6 : Int) = d.fate.1 := by
          have h2 : k0 = 2 := HB.out.2.2 rfl
          simp [Dk.fate, HFS.out, h2]
        have HE := Lib.hid he
        clear he
        go_wp2_with fail
        obtain ⟨s0, s1, hx⟩ := HEND.out _ 6 rfl HE.out
        exact bodyPost_ret (v := .tuple #[.agg #[.int .i64 k0, .int .i64 n0], .int .i64 6]) (by simp [results, Tryz.results135, go_sem, s0, s1]) rfl hx
    · have he : (5 : Int) = d.fate.1 := by
        have h1 : k0 = 1 := HB.out.1.2 rfl
        simp [Dk.fate, HFS.out, h1]
      have HE := Lib.hid he
      clear he
      go_wp2_with fail
      obtain ⟨s0, s1, hx⟩ := HEND.out _ 5 rfl HE.out
      exact bodyPost_ret (v := .tuple #[.agg #[.int .i64 k0, .int .i64 n0], .int .i64 5]) (by simp [results, Tryz.results135, go_sem, s0, s1]) rfl hx
end Go.Proofs.YtlgcoaeddeiegaaGreat
/- crc: the table of fours, bytes that go in, the sum of one text. -/
namespace Go.Proofs.YtlgcoaeddeiegaaGreat
open Go Go.RowKit
attribute [local go_sem] Oper.semAt_some

def crcIt : Nat → Int → Int
  | 0, x => x
  | j + 1, x => crcBit (crcIt j x)
/-- the table's first i cells are made -/
def crcTab (i : Nat) : List Value := (List.range 16).map fun k => if k < i then .int .u32 (crcFour k) else .int .u32 0
theorem crcTab_set {i : Nat} : (crcTab i).toArray.setIfInBounds i (.int .u32 (crcFour i)) = (crcTab (i + 1)).toArray := by
  have e : (crcTab i).set i (.int .u32 (crcFour i)) = crcTab (i + 1) := by
    apply List.ext_getElem
    · simp [crcTab]
    · intro k h1 h2
      rw [List.getElem_set]
      have hk : k < 16 := by simpa [crcTab] using h2
      simp only [crcTab, List.getElem_map, List.getElem_range]
      by_cases he : i = k
      · subst he
        simp
      · rw [if_neg he]
        by_cases hl : k < i
        · rw [if_pos hl, if_pos (by omega)]
        · rw [if_neg hl, if_neg (by omega)]
  rw [← e]
  simp
set_option maxRecDepth 100000 in
set_option maxHeartbeats 1000000 in
theorem crcFours_b {w : World} :
    Calls Tryz.prog 227 #[] w fun e w' => e = .returned (.agg (crcTab 16).toArray) ∧ Below w.heap.size w w' := by
  obtain ⟨w1, hw1⟩ : ∃ W : World, W = (w.alloc (.cells (crcTab 0).toArray 351)).alloc (.cells (crcTab 0).toArray 351) := ⟨_, rfl⟩
  obtain ⟨b0, hb0⟩ : ∃ b, b = w.heap.size := ⟨_, rfl⟩
  obtain ⟨b1, hb1⟩ : ∃ b, b = w.heap.size + 1 := ⟨_, rfl⟩
  have h0 : w1.heap[b0]? = some (.cells (crcTab 0).toArray 351 (0, 0)) := by rw [hw1, hb0]; exact (Below.heap_alloc _ _ _ (by simp)).trans (alloc_cells _ _ _)
  have h1 : w1.heap[b1]? = some (.cells (crcTab 0).toArray 351 (0, 0)) := by
    rw [hw1, hb1]
    have := alloc_cells (w.alloc (.cells (crcTab 0).toArray 351)) (crcTab 0).toArray 351
    rwa [World.size_alloc] at this
  have hb : Below w.heap.size w w1 := by rw [hw1]; exact ((Below.refl _ _).alloc (Nat.le_refl _) _).alloc (by simp) _
  have H1 := Lib.hid (And.intro h0 (And.intro h1 (And.intro hb (And.intro hb0 hb1))))
  clear h0 h1 hb
  go_enter Tryz.func227, Tryz.ntmps227
  go_upto_region 2 with fail
  have e0 : ∀ W : World, W.alloc (.cells #[.int .u32 0, .int .u32 0, .int .u32 0, .int .u32 0, .int .u32 0, .int .u32 0, .int .u32 0, .int .u32 0, .int .u32 0, .int .u32 0, .int .u32 0, .int .u32 0, .int .u32 0, .int .u32 0, .int .u32 0, .int .u32 0] 351) = W.alloc (.cells (crcTab 0).toArray 351) := fun W => rfl
  rw [e0, e0, ← hw1, ← hb1, ← hb0]
  clear hw1 hb1 hb0 e0
  go_wp2_with fail
  go_loopw [4] (fun i wr => ∃ k : Nat, i = .int .i64 (k : Int) ∧ k ≤ 16 ∧ Hid (wr.heap[b0]? = some (.cells (crcTab 0).toArray 351 (0, 0)) ∧ wr.heap[b1]? = some (.cells (crcTab k).toArray 351 (0, 0)) ∧ Below w.heap.size w wr)) (fun i _ => 16 - (intOf i).toNat)
  case atStart => exact ⟨0, rfl, by omega, Lib.hid ⟨H1.out.1, H1.out.2.1, H1.out.2.2.1⟩⟩
  case round =>
    obtain ⟨k, rfl, hk, HR⟩ := hrel
    by_cases hlt : k < 16
    · go_wp2_with fail
      go_loopw [3, 9] (fun x j wi => ∃ m : Nat, x = .int .u32 (crcIt m (k : Int)) ∧ j = .int .i64 (m : Int) ∧ m ≤ 4 ∧ wi = wr) (fun _ j _ => 4 - (intOf j).toNat)
      case atStart => exact ⟨0, rfl, rfl, by omega, rfl⟩
      case round =>
        obtain ⟨m, rfl, rfl, hm, rfl⟩ := hrel
        by_cases hlt4 : m < 4
        · obtain ⟨x, hx⟩ : ∃ x, crcIt m (k : Int) = x := ⟨_, rfl⟩
          have HX : Hid (crcIt (m + 1) (k : Int) = bits .xor .u32 (x / 2) (bits .and .u32 2197175160 (-bits .and .u32 x 1 % 4294967296))) := Lib.hid (by rw [← hx]; rfl)
          rw [hx]
          clear hx
          go_wp2_with fail
          exact ⟨⟨m + 1, by rw [HX.out], by simp, by omega, trivial⟩, by simp [intOf]; omega⟩
        · obtain rfl : m = 4 := by omega
          have hb1 := HR.out.2.1
          have z1 : ∀ j, wr.frozen? ⟨b1, j, none⟩ = false := fun j => free_of hb1 _
          have hcf : crcIt 4 (k : Int) = crcFour k := rfl
          have hy : wr.cell? ⟨b1, k, none⟩ = some (.int .u32 0) := cell_of hb1 (by simp [crcTab, hlt])
          clear hb1
          rw [hcf]
          clear hcf
          go_wp2_with fail
          refine ⟨⟨k + 1, by simp, by omega, Lib.hid ⟨?_, ?_, ?_⟩⟩, by simp [intOf]; omega⟩
          · exact (Below.heap_setCell _ _ _ _ (by show b0 ≠ b1; have := H1.out; omega)).trans HR.out.1
          · rw [heap_setCell_here _ HR.out.2.1, crcTab_set]
          · exact HR.out.2.2.setCell (p := ⟨b1, k, none⟩) (by show w.heap.size ≤ b1; have := H1.out; omega) _
    · obtain rfl : k = 16 := by omega
      have hb0 := HR.out.1
      have hb1 := HR.out.2.1
      have c0 : wr.cell? ⟨b1, 0, none⟩ = some (.int .u32 (crcFour 0)) := cell_of hb1 rfl
      have z0 : wr.frozen? ⟨b0, 0, none⟩ = false := free_of hb0 _
      have y0 : wr.cell? ⟨b0, 0, none⟩ = some (.int .u32 0) := cell_of hb0 rfl
      have c1 : wr.cell? ⟨b1, 1, none⟩ = some (.int .u32 (crcFour 1)) := cell_of hb1 rfl
      have z1 : wr.frozen? ⟨b0, 1, none⟩ = false := free_of hb0 _
      have y1 : wr.cell? ⟨b0, 1, none⟩ = some (.int .u32 0) := cell_of hb0 rfl
      have c2 : wr.cell? ⟨b1, 2, none⟩ = some (.int .u32 (crcFour 2)) := cell_of hb1 rfl
      have z2 : wr.frozen? ⟨b0, 2, none⟩ = false := free_of hb0 _
      have y2 : wr.cell? ⟨b0, 2, none⟩ = some (.int .u32 0) := cell_of hb0 rfl
      have c3 : wr.cell? ⟨b1, 3, none⟩ = some (.int .u32 (crcFour 3)) := cell_of hb1 rfl
      have z3 : wr.frozen? ⟨b0, 3, none⟩ = false := free_of hb0 _
      have y3 : wr.cell? ⟨b0, 3, none⟩ = some (.int .u32 0) := cell_of hb0 rfl
      have c4 : wr.cell? ⟨b1, 4, none⟩ = some (.int .u32 (crcFour 4)) := cell_of hb1 rfl
      have z4 : wr.frozen? ⟨b0, 4, none⟩ = false := free_of hb0 _
      have y4 : wr.cell? ⟨b0, 4, none⟩ = some (.int .u32 0) := cell_of hb0 rfl
      have c5 : wr.cell? ⟨b1, 5, none⟩ = some (.int .u32 (crcFour 5)) := cell_of hb1 rfl
      have z5 : wr.frozen? ⟨b0, 5, none⟩ = false := free_of hb0 _
      have y5 : wr.cell? ⟨b0, 5, none⟩ = some (.int .u32 0) := cell_of hb0 rfl
      have c6 : wr.cell? ⟨b1, 6, none⟩ = some (.int .u32 (crcFour 6)) := cell_of hb1 rfl
      have z6 : wr.frozen? ⟨b0, 6, none⟩ = false := free_of hb0 _
      have y6 : wr.cell? ⟨b0, 6, none⟩ = some (.int .u32 0) := cell_of hb0 rfl
      have c7 : wr.cell? ⟨b1, 7, none⟩ = some (.int .u32 (crcFour 7)) := cell_of hb1 rfl
      have z7 : wr.frozen? ⟨b0, 7, none⟩ = false := free_of hb0 _
      have y7 : wr.cell? ⟨b0, 7, none⟩ = some (.int .u32 0) := cell_of hb0 rfl
      have c8 : wr.cell? ⟨b1, 8, none⟩ = some (.int .u32 (crcFour 8)) := cell_of hb1 rfl
      have z8 : wr.frozen? ⟨b0, 8, none⟩ = false := free_of hb0 _
      have y8 : wr.cell? ⟨b0, 8, none⟩ = some (.int .u32 0) := cell_of hb0 rfl
      have c9 : wr.cell? ⟨b1, 9, none⟩ = some (.int .u32 (crcFour 9)) := cell_of hb1 rfl
      have z9 : wr.frozen? ⟨b0, 9, none⟩ = false := free_of hb0 _
      have y9 : wr.cell? ⟨b0, 9, none⟩ = some (.int .u32 0) := cell_of hb0 rfl
      have c10 : wr.cell? ⟨b1, 10, none⟩ = some (.int .u32 (crcFour 10)) := cell_of hb1 rfl
      have z10 : wr.frozen? ⟨b0, 10, none⟩ = false := free_of hb0 _
      have y10 : wr.cell? ⟨b0, 10, none⟩ = some (.int .u32 0) := cell_of hb0 rfl
      have c11 : wr.cell? ⟨b1, 11, none⟩ = some (.int .u32 (crcFour 11)) := cell_of hb1 rfl
      have z11 : wr.frozen? ⟨b0, 11, none⟩ = false := free_of hb0 _
      have y11 : wr.cell? ⟨b0, 11, none⟩ = some (.int .u32 0) := cell_of hb0 rfl
      have c12 : wr.cell? ⟨b1, 12, none⟩ = some (.int .u32 (crcFour 12)) := cell_of hb1 rfl
      have z12 : wr.frozen? ⟨b0, 12, none⟩ = false := free_of hb0 _
      have y12 : wr.cell? ⟨b0, 12, none⟩ = some (.int .u32 0) := cell_of hb0 rfl
      have c13 : wr.cell? ⟨b1, 13, none⟩ = some (.int .u32 (crcFour 13)) := cell_of hb1 rfl
      have z13 : wr.frozen? ⟨b0, 13, none⟩ = false := free_of hb0 _
      have y13 : wr.cell? ⟨b0, 13, none⟩ = some (.int .u32 0) := cell_of hb0 rfl
      have c14 : wr.cell? ⟨b1, 14, none⟩ = some (.int .u32 (crcFour 14)) := cell_of hb1 rfl
      have z14 : wr.frozen? ⟨b0, 14, none⟩ = false := free_of hb0 _
      have y14 : wr.cell? ⟨b0, 14, none⟩ = some (.int .u32 0) := cell_of hb0 rfl
      have c15 : wr.cell? ⟨b1, 15, none⟩ = some (.int .u32 (crcFour 15)) := cell_of hb1 rfl
      have z15 : wr.frozen? ⟨b0, 15, none⟩ = false := free_of hb0 _
      have y15 : wr.cell? ⟨b0, 15, none⟩ = some (.int .u32 0) := cell_of hb0 rfl
      clear hb0 hb1
      go_wp2_with fail
      have f0 := heap_setCell_here (i := 0) (.int .u32 (crcFour 0)) HR.out.1
      have f1 := heap_setCell_here (i := 1) (.int .u32 (crcFour 1)) f0
      have f2 := heap_setCell_here (i := 2) (.int .u32 (crcFour 2)) f1
      have f3 := heap_setCell_here (i := 3) (.int .u32 (crcFour 3)) f2
      have f4 := heap_setCell_here (i := 4) (.int .u32 (crcFour 4)) f3
      have f5 := heap_setCell_here (i := 5) (.int .u32 (crcFour 5)) f4
      have f6 := heap_setCell_here (i := 6) (.int .u32 (crcFour 6)) f5
      have f7 := heap_setCell_here (i := 7) (.int .u32 (crcFour 7)) f6
      have f8 := heap_setCell_here (i := 8) (.int .u32 (crcFour 8)) f7
      have f9 := heap_setCell_here (i := 9) (.int .u32 (crcFour 9)) f8
      have f10 := heap_setCell_here (i := 10) (.int .u32 (crcFour 10)) f9
      have f11 := heap_setCell_here (i := 11) (.int .u32 (crcFour 11)) f10
      have f12 := heap_setCell_here (i := 12) (.int .u32 (crcFour 12)) f11
      have f13 := heap_setCell_here (i := 13) (.int .u32 (crcFour 13)) f12
      have f14 := heap_setCell_here (i := 14) (.int .u32 (crcFour 14)) f13
      have f15 := heap_setCell_here (i := 15) (.int .u32 (crcFour 15)) f14
      have hfin := f15.trans (congrArg (fun c => some (Obj.cells c 351 (0, 0))) (show _ = (crcTab 16).toArray by kernel_rfl))
      have hb0 : w.heap.size ≤ b0 := by have := H1.out; omega
      clear f0 f1 f2 f3 f4 f5 f6 f7 f8 f9 f10 f11 f12 f13 f14 f15
      have d0 := cell_of (i := 0) (v := .int .u32 (crcFour 0)) hfin rfl
      have d1 := cell_of (i := 1) (v := .int .u32 (crcFour 1)) hfin rfl
      have d2 := cell_of (i := 2) (v := .int .u32 (crcFour 2)) hfin rfl
      have d3 := cell_of (i := 3) (v := .int .u32 (crcFour 3)) hfin rfl
      have d4 := cell_of (i := 4) (v := .int .u32 (crcFour 4)) hfin rfl
      have d5 := cell_of (i := 5) (v := .int .u32 (crcFour 5)) hfin rfl
      have d6 := cell_of (i := 6) (v := .int .u32 (crcFour 6)) hfin rfl
      have d7 := cell_of (i := 7) (v := .int .u32 (crcFour 7)) hfin rfl
      have d8 := cell_of (i := 8) (v := .int .u32 (crcFour 8)) hfin rfl
      have d9 := cell_of (i := 9) (v := .int .u32 (crcFour 9)) hfin rfl
      have d10 := cell_of (i := 10) (v := .int .u32 (crcFour 10)) hfin rfl
      have d11 := cell_of (i := 11) (v := .int .u32 (crcFour 11)) hfin rfl
      have d12 := cell_of (i := 12) (v := .int .u32 (crcFour 12)) hfin rfl
      have d13 := cell_of (i := 13) (v := .int .u32 (crcFour 13)) hfin rfl
      have d14 := cell_of (i := 14) (v := .int .u32 (crcFour 14)) hfin rfl
      have d15 := cell_of (i := 15) (v := .int .u32 (crcFour 15)) hfin rfl
      refine ⟨rfl, .agg (crcTab 16).toArray, ?_, rfl, ((((((((((((((((((((((((((((((((HR.out.2.2).setCell (p := ⟨b0, 0, none⟩) hb0 _)).setCell (p := ⟨b0, 1, none⟩) hb0 _)).setCell (p := ⟨b0, 2, none⟩) hb0 _)).setCell (p := ⟨b0, 3, none⟩) hb0 _)).setCell (p := ⟨b0, 4, none⟩) hb0 _)).setCell (p := ⟨b0, 5, none⟩) hb0 _)).setCell (p := ⟨b0, 6, none⟩) hb0 _)).setCell (p := ⟨b0, 7, none⟩) hb0 _)).setCell (p := ⟨b0, 8, none⟩) hb0 _)).setCell (p := ⟨b0, 9, none⟩) hb0 _)).setCell (p := ⟨b0, 10, none⟩) hb0 _)).setCell (p := ⟨b0, 11, none⟩) hb0 _)).setCell (p := ⟨b0, 12, none⟩) hb0 _)).setCell (p := ⟨b0, 13, none⟩) hb0 _)).setCell (p := ⟨b0, 14, none⟩) hb0 _)).setCell (p := ⟨b0, 15, none⟩) hb0 _)⟩
      have he : (.agg (crcTab 16).toArray : Value) = .agg #[.int .u32 (crcFour 0), .int .u32 (crcFour 1), .int .u32 (crcFour 2), .int .u32 (crcFour 3), .int .u32 (crcFour 4), .int .u32 (crcFour 5), .int .u32 (crcFour 6), .int .u32 (crcFour 7), .int .u32 (crcFour 8), .int .u32 (crcFour 9), .int .u32 (crcFour 10), .int .u32 (crcFour 11), .int .u32 (crcFour 12), .int .u32 (crcFour 13), .int .u32 (crcFour 14), .int .u32 (crcFour 15)] := by rfl
      rw [he]
      clear he hfin c0 z0 y0 c1 z1 y1 c2 z2 y2 c3 z3 y3 c4 z4 y4 c5 z5 y5 c6 z6 y6 c7 z7 y7 c8 z8 y8 c9 z9 y9 c10 z10 y10 c11 z11 y11 c12 z12 y12 c13 z13 y13 c14 z14 y14 c15 z15 y15
      simp [results, Tryz.results227, go_sem, d0, d1, d2, d3, d4, d5, d6, d7, d8, d9, d10, d11, d12, d13, d14, d15]
end Go.Proofs.YtlgcoaeddeiegaaGreat
/- crc: bytes that go into a sum; the sum of one text. -/
namespace Go.Proofs.YtlgcoaeddeiegaaGreat
open Go Go.RowKit
attribute [local go_sem] Oper.semAt_some

theorem rdCell {w : World} {size n c g off : Nat} {xs : List Value} (h : readAt w size (.slice (some ⟨g, off, none⟩) n c) n xs) {i : Nat} {u : Value} (hu : xs[i]? = some u) : w.cell? ⟨g, off + i, none⟩ = some u := by
  have := h.cells (g := g) (off := off) rfl i u hu
  simpa [Go.WideShapes.add_plain] using this
/-- a part of what may be read: v[l:k:m] -/
theorem readAt.sub {w : World} {size : Nat} {oa : Option Addr} {n cap : Nat} {xs : List Value} (h : readAt w size (.slice oa n cap) n xs) (l k m : Nat) (hl : l ≤ k) (hk : k ≤ n) (hkm : k ≤ m) (hm : m ≤ cap) :
    readAt w size (.slice (if m = l then oa else oa.map (·.add (l * size))) (k - l) (m - l)) (k - l) ((xs.drop (l * size)).take ((k - l) * size)) := by
  have hlen : ((xs.drop (l * size)).take ((k - l) * size)).length = (k - l) * size := by
    rw [List.length_take, List.length_drop, h.1]
    have h1 : k * size ≤ n * size := Nat.mul_le_mul_right _ hk
    have h2 : (k - l) * size = k * size - l * size := Nat.sub_mul _ _ _
    omega
  refine ⟨hlen, ?_⟩
  by_cases h0 : k - l = 0
  · refine .inl ⟨h0, _, _, by rw [h0], fun he => ?_⟩
    split at he
    · omega
    · cases oa with
      | none =>
        rcases h.2 with ⟨rfl, oa, c, hv, hc⟩ | ⟨g, off, c, hv, _⟩
        · simp only [Value.slice.injEq] at hv
          have := hc hv.1.symm
          omega
        · cases hv
      | some a => simp at he
  · rcases h.2 with ⟨h1, _⟩ | ⟨g, off, c, hv, hn0, hg, hn, hc⟩
    · omega
    · simp only [Value.slice.injEq] at hv
      obtain ⟨rfl, -, rfl⟩ := hv
      have hml : ¬ m = l := by omega
      rw [if_neg hml]
      refine .inr ⟨g, off + l * size, m - l, by simp [Go.WideShapes.add_plain], by omega, hg, by omega, fun j u hu => ?_⟩
      rw [List.getElem?_take] at hu
      split at hu
      · rw [List.getElem?_drop] at hu
        have := hc (l * size + j) u hu
        rwa [← Nat.add_assoc] at this
      · cases hu
theorem crcAgg : (.agg (crcTab 16).toArray : Value) = .agg #[.int .u32 (crcFour 0), .int .u32 (crcFour 1), .int .u32 (crcFour 2), .int .u32 (crcFour 3), .int .u32 (crcFour 4), .int .u32 (crcFour 5), .int .u32 (crcFour 6), .int .u32 (crcFour 7), .int .u32 (crcFour 8), .int .u32 (crcFour 9), .int .u32 (crcFour 10), .int .u32 (crcFour 11), .int .u32 (crcFour 12), .int .u32 (crcFour 13), .int .u32 (crcFour 14), .int .u32 (crcFour 15)] := by rfl
theorem crcTab_get {n : Nat} (h : n < 16) : (crcTab 16).toArray[n]? = some (.int .u32 (crcFour n)) := by
  simp [crcTab, h]
theorem crcInto_succ {l : List UInt8} {k : Nat} (h : k < l.length) (x : Int) : crcInto x (l.take (k + 1)) = crcByte (crcInto x (l.take k)) l[k] := by
  unfold crcInto
  rw [List.take_succ_eq_append_getElem h, List.foldl_append]
  rfl
set_option maxRecDepth 100000 in
set_option maxHeartbeats 1000000 in
theorem crcInto_b {w : World} {x : Int} {oa : Option Addr} {n c : Nat} {l : List UInt8} (hx : 0 ≤ x ∧ x < 4294967296) (hn : l.length = n) (hl : readAt w 1 (.slice oa n c) n (byteCells l)) (hm : n ≤ 1000000000) :
    Calls Tryz.prog 212 #[.int .u32 x, .slice oa n c] w fun e w' => e = .returned (.int .u32 (crcInto x l)) ∧ Below w.heap.size w w' := by
  have HF := Lib.hid (crcFours_b (w := w))
  rw [crcAgg] at HF
  have HX := Lib.hid hx
  have HN := Lib.hid hn
  have HL := Lib.hid hl
  clear hx hn hl
  go_enter Tryz.func212, Tryz.ntmps212
  go_wp2_with fail
  refine HF.out.mono ?_
  rintro e w1 ⟨rfl, hb1⟩
  obtain ⟨w2, hw2⟩ : ∃ W : World, W = w1.alloc (.cells (crcTab 16).toArray 351) := ⟨_, rfl⟩
  obtain ⟨b5, hb5⟩ : ∃ b, b = w1.heap.size := ⟨_, rfl⟩
  have h5 : w2.heap[b5]? = some (.cells (crcTab 16).toArray 351 (0, 0)) := by rw [hw2, hb5]; exact alloc_cells _ _ _
  have hb2 : Below w.heap.size w w2 := hb1.trans ((by rw [hw2]; exact (Below.refl _ _).alloc (Nat.le_refl _) _ : Below w1.heap.size w1 w2).mono hb1.size)
  have hc5 : ∀ j, j < 16 → w2.cell? ⟨b5, j, none⟩ = some (.int .u32 (crcFour j)) := fun j hj => cell_of h5 (crcTab_get hj)
  have ea : (crcTab 16).toArray = #[.int .u32 (crcFour 0), .int .u32 (crcFour 1), .int .u32 (crcFour 2), .int .u32 (crcFour 3), .int .u32 (crcFour 4), .int .u32 (crcFour 5), .int .u32 (crcFour 6), .int .u32 (crcFour 7), .int .u32 (crcFour 8), .int .u32 (crcFour 9), .int .u32 (crcFour 10), .int .u32 (crcFour 11), .int .u32 (crcFour 12), .int .u32 (crcFour 13), .int .u32 (crcFour 14), .int .u32 (crcFour 15)] := rfl
  rw [ea] at hw2
  have HR := Lib.hid (HL.out.kept (fun k hk _ _ => hb2.block k hk))
  have HC := Lib.hid (And.intro hc5 hb2)
  clear hb1 h5 hb2 hc5 ea HF HL
  go_wp2_with fail
  rw [← hw2, ← hb5]
  clear hw2 hb5
  go_loopw [0, 11] (fun s i wr => ∃ k : Nat, s = .int .u32 (crcInto x (l.take k)) ∧ i = .int .i64 (k : Int) ∧ k ≤ n ∧ wr = w2) (fun _ i _ => n - (intOf i).toNat)
  case atStart => exact ⟨0, rfl, rfl, by omega, rfl⟩
  case round =>
    obtain ⟨k, rfl, rfl, hk, rfl⟩ := hrel
    by_cases hlt : k < n
    · have hkl : k < l.length := by rw [HN.out]; exact hlt
      have hs := crcInto_succ hkl x
      obtain ⟨y, hy⟩ : ∃ y, crcInto x (l.take k) = y := ⟨_, rfl⟩
      obtain ⟨ch, hch⟩ : ∃ ch, l[k] = ch := ⟨_, rfl⟩
      rw [hy, hch] at hs
      rw [hy]
      obtain ⟨g, off, rfl⟩ := HR.out.addr (by omega)
      have kc : wr.cell? ⟨g, off + k, none⟩ = some (.int .u8 (ch.toNat : Int)) := rdCell HR.out (i := k) (by unfold byteCells; rw [List.getElem?_map, List.getElem?_eq_getElem hkl, hch]; rfl)
      obtain ⟨c8, hc8⟩ : ∃ z : Int, (ch.toNat : Int) = z := ⟨_, rfl⟩
      have hc8b : 0 ≤ c8 ∧ c8 < 256 := by have := ch.toNat_lt; omega
      rw [hc8] at kc
      obtain ⟨x1, hx1⟩ : ∃ z, bits .xor .u32 y c8 = z := ⟨_, rfl⟩
      have hb1 : 0 ≤ x1 ∧ x1 < 4294967296 := by rw [← hx1]; exact u32_bits _ _ _
      obtain ⟨n1, hn1⟩ : ∃ m : Nat, (x1 % 16).toNat = m := ⟨_, rfl⟩
      have hn1l : n1 < 16 := by omega
      have ha1 : bits .and .u32 x1 15 = (n1 : Int) := by rw [u32_and15]; omega
      obtain ⟨t1, ht1⟩ : ∃ z, crcFour n1 = z := ⟨_, rfl⟩
      have k1 := HC.out.1 n1 hn1l
      rw [ht1] at k1
      obtain ⟨x2, hx2⟩ : ∃ z, bits .xor .u32 t1 (x1 / 16) = z := ⟨_, rfl⟩
      have hb2 : 0 ≤ x2 ∧ x2 < 4294967296 := by rw [← hx2]; exact u32_bits _ _ _
      obtain ⟨n2, hn2⟩ : ∃ m : Nat, (x2 % 16).toNat = m := ⟨_, rfl⟩
      have hn2l : n2 < 16 := by omega
      have ha2 : bits .and .u32 x2 15 = (n2 : Int) := by rw [u32_and15]; omega
      obtain ⟨t2, ht2⟩ : ∃ z, crcFour n2 = z := ⟨_, rfl⟩
      have k2 := HC.out.1 n2 hn2l
      rw [ht2] at k2
      have HS : Hid (crcInto x (l.take (k + 1)) = bits .xor .u32 t2 (x2 / 16)) := Lib.hid (by
        rw [hs]
        unfold crcByte crcHalf
        rw [hc8, hx1, hn1, ht1, hx2, hn2, ht2])
      clear hs hy hch hc8 hkl hn1 ht1 hn2 ht2
      go_wp2_with fail
      exact ⟨⟨k + 1, by rw [HS.out], by simp, by omega, trivial⟩, by simp [intOf]; omega⟩
    · obtain rfl : k = n := by omega
      have HT : Hid (l.take k = l) := Lib.hid (List.take_of_length_le (by rw [HN.out]; exact Nat.le_refl _))
      rw [HT.out]
      go_wp2_with fail
      go_ret
      exact ⟨rfl, HC.out.2⟩
/-- the sum of one text -/
theorem crcSum_b {w : World} {ob : Nat} {oa : Option Addr} {n c : Nat} {l : List UInt8} (hs : w.cell? ⟨ob, 0, none⟩ = some (.slice oa n c)) (hn : l.length = n) (hl : readAt w 1 (.slice oa n c) n (byteCells l)) (hm : n ≤ 1000000000) :
    Calls Tryz.prog 188 #[.slice (some ⟨ob, 0, none⟩) 1 1] w fun e w' => e = .returned (.int .u32 (crcSum l)) ∧ Below w.heap.size w w' := by
  have HI := Lib.hid (crcInto_b (x := 4294967295) (by decide) hn hl hm)
  clear hn hl
  go_enter Tryz.func188, Tryz.ntmps188
  go_wp2_with fail
  go_loopw [3, 8] (fun s i wr => (s = .int .u32 4294967295 ∧ i = .int .i64 0 ∧ wr = w) ∨ (s = .int .u32 (crcInto 4294967295 l) ∧ i = .int .i64 1 ∧ Hid (Below w.heap.size w wr))) (fun _ i _ => 1 - (intOf i).toNat)
  case atStart => exact .inl ⟨rfl, rfl, rfl⟩
  case round =>
    rcases hrel with ⟨rfl, rfl, rfl⟩ | ⟨rfl, rfl, HB⟩
    · go_wp2_with fail
      refine HI.out.mono ?_
      rintro e w2 ⟨rfl, hb2⟩
      have HB := Lib.hid hb2
      clear hb2
      go_wp2_with fail
      exact ⟨.inr ⟨rfl, rfl, HB⟩, by simp [intOf]⟩
    · have HX := Lib.hid (crcInto_u32 l 4294967295 (by decide))
      have HS : Hid (crcSum l = bits .xor .u32 4294967295 (crcInto 4294967295 l)) := Lib.hid rfl
      obtain ⟨y, hy⟩ : ∃ y, crcInto 4294967295 l = y := ⟨_, rfl⟩
      rw [hy] at HS ⊢
      clear hy HI
      go_wp2_with fail
      go_ret
      exact ⟨by rw [HS.out]; rfl, HB.out⟩
end Go.Proofs.YtlgcoaeddeiegaaGreat
/- Disk: a name is asked for; a file is found. -/
namespace Go.Proofs.YtlgcoaeddeiegaaGreat
open Go Go.Maps Go.RowKit

section
variable {w : World} {S : Nat → Prop} {q mb : Nat} {fv : Value} {L : List Fl} {d : Dk}
theorem DiskIs.at_some (h : DiskIs w S q mb fv L d) {s : List UInt8} {f : F0} (ha : d.at s = some f) : ∃ A x B, L = A ++ x :: B ∧ x.f = f ∧ x.f.name = s := by
  have hm : f ∈ L.map (·.f) := by rw [h.files]; exact List.mem_of_find?_eq_some ha
  obtain ⟨x, hx, rfl⟩ := List.mem_map.1 hm
  obtain ⟨A, B, rfl⟩ := List.append_of_mem hx
  exact ⟨A, x, B, rfl, rfl, by have := List.find?_some ha; simpa using this⟩
theorem DiskIs.at_none (h : DiskIs w S q mb fv L d) {s : List UInt8} (ha : d.at s = none) : ∀ x ∈ L, x.f.name ≠ s := fun x hx he => by
  have hm : x.f ∈ d.files := by rw [← h.files]; exact List.mem_map_of_mem hx
  have := List.find?_eq_none.1 ha x.f hm
  simp [he] at this
theorem DiskIs.lookup_some (h : DiskIs w S q mb fv L d) {x : Fl} (hx : x ∈ L) {nm : ByteArray} (hs : nm.size ≤ maxLen) (hn : x.f.name = nm.data.toList) :
    (Instr.lookup 118 (.map (some mb)) (.string nm) true).run Tryz.prog w = .ok (.tuple #[.pointer (some ⟨x.blk, 0, none⟩), .bool true]) w := by
  obtain ⟨D, ho, hsz, hd⟩ := h.look
  have hz : (zeroValue 175).run Tryz.prog w = .ok (.pointer none) w := by kernel_rfl
  obtain ⟨v, ps, hrun, hv⟩ := ho.look_ok (t := 118) (string_keyed Tryz.underlying9) Tryz.underlying118 hz ptrElem_nil (WideMaps.keyOf_string_mk (P := Tryz.prog) Tryz.underlying9 hs)
  have hm : (x.f.name, x.blk) ∈ L.map fun x => (x.f.name, x.blk) := List.mem_map_of_mem (f := fun x => (x.f.name, x.blk)) hx
  have hg := hd.get _ hm .nil
  have hh := (hd.has nm.data.toList).2 ⟨_, hm, hn⟩
  rw [← hn] at hv hrun hh
  rw [hg] at hv
  obtain rfl := ptrElem_inv hv
  rw [hh] at hrun
  exact hrun
theorem DiskIs.lookup_none (h : DiskIs w S q mb fv L d) {nm : ByteArray} (hs : nm.size ≤ maxLen) (hn : ∀ x ∈ L, x.f.name ≠ nm.data.toList) :
    (Instr.lookup 118 (.map (some mb)) (.string nm) true).run Tryz.prog w = .ok (.tuple #[.pointer none, .bool false]) w := by
  obtain ⟨D, ho, hsz, hd⟩ := h.look
  have hz : (zeroValue 175).run Tryz.prog w = .ok (.pointer none) w := by kernel_rfl
  obtain ⟨v, ps, hrun, hv⟩ := ho.look_ok (t := 118) (string_keyed Tryz.underlying9) Tryz.underlying118 hz ptrElem_nil (WideMaps.keyOf_string_mk (P := Tryz.prog) Tryz.underlying9 hs)
  have hh : Maps.has D (.string nm.data.toList) = false := by
    cases hb : Maps.has D (.string nm.data.toList) with
    | false => rfl
    | true =>
      obtain ⟨f, hf, he⟩ := (hd.has _).1 hb
      obtain ⟨x, hx, rfl⟩ := List.mem_map.1 hf
      exact absurd he (hn x hx)
  rw [hh] at hrun
  rw [atKey_of_not_has hh] at hv
  obtain rfl := ptrElem_inv_nil hv
  exact hrun
end
theorem map_nil_ne (mb : Nat) (W : World) : (binOp .eql 118 (.map (some mb)) (.map none)).run Tryz.prog W = .ok (.bool false) W := by kernel_rfl
set_option maxHeartbeats 400000 in
theorem none_b {w : World} {S : Nat → Prop} {q mb : Nat} {fv : Value} {L : List Fl} {d : Dk} (h : DiskIs w S q mb fv L d) :
    Calls Tryz.prog 94 #[.pointer (some ⟨q, 0, none⟩)] w fun e w' => e = .returned (.bool false) ∧ w' = w := by
  have c0 : w.cell? ⟨q, 0, none⟩ = some (.map (some mb)) := cell_of h.head rfl
  have hm := map_nil_ne mb
  clear h
  go_enter Tryz.func94, Tryz.ntmps94
  go_wp2_with fail
  go_ret
  exact ⟨rfl, rfl⟩
def askE (s : List UInt8) : Int := if nameOk s = true then 0 else 2
set_option maxHeartbeats 400000 in
theorem asked_b {w : World} {S : Nat → Prop} {q mb : Nat} {fv : Value} {L : List Fl} {d : Dk} (h : DiskIs w S q mb fv L d) (nm : ByteArray) (hs : nm.size ≤ maxLen) :
    Calls Tryz.prog 153 #[.pointer (some ⟨q, 0, none⟩), .string nm] w fun e w' => e = .returned (.int .i64 (askE nm.data.toList)) ∧ w' = w := by
  go_enter Tryz.func153, Tryz.ntmps153
  go_wp2_with fail
  refine (none_b h).mono ?_
  rintro e w' ⟨rfl, rfl⟩
  go_wp2_with fail
  refine (named_any nm _ hs).mono ?_
  rintro e w' ⟨rfl, rfl⟩
  obtain ⟨b, hb⟩ : ∃ b, nameOk nm.data.toList = b := ⟨_, rfl⟩
  have HE : Hid (askE nm.data.toList = if b = true then 0 else 2) := Lib.hid (by rw [askE, hb])
  rw [hb]
  clear hb
  cases b
  · go_wp2_with fail
    go_ret
    exact ⟨by rw [HE.out]; rfl, rfl⟩
  · go_wp2_with fail
    go_ret
    exact ⟨by rw [HE.out]; rfl, rfl⟩
def FindIs (L : List Fl) (d : Dk) (s : List UInt8) (e : Ending) : Prop :=
  (nameOk s = false ∧ e = .returned (.tuple #[.pointer none, .int .i64 2])) ∨ (nameOk s = true ∧ d.find s = none ∧ e = .returned (.tuple #[.pointer none, .int .i64 171])) ∨
  (nameOk s = true ∧ ∃ A x B, L = A ++ x :: B ∧ x.f.name = s ∧ x.f.there = true ∧ d.find s = some x.f ∧ e = .returned (.tuple #[.pointer (some ⟨x.blk, 0, none⟩), .int .i64 0]))
set_option maxHeartbeats 400000 in
theorem find_b {w : World} {S : Nat → Prop} {q mb : Nat} {fv : Value} {L : List Fl} {d : Dk} (h : DiskIs w S q mb fv L d) (nm : ByteArray) (hs : nm.size ≤ maxLen) :
    Calls Tryz.prog 82 #[.pointer (some ⟨q, 0, none⟩), .string nm] w fun e w' => FindIs L d nm.data.toList e ∧ w' = w := by
  have c0 : w.cell? ⟨q, 0, none⟩ = some (.map (some mb)) := cell_of h.head rfl
  go_enter Tryz.func82, Tryz.ntmps82
  go_wp2_with fail
  refine (asked_b h nm hs).mono ?_
  rintro e w' ⟨rfl, rfl⟩
  obtain ⟨s, hss⟩ : ∃ s, nm.data.toList = s := ⟨_, rfl⟩
  cases hn : nameOk s with
  | false =>
    have hF : FindIs L d nm.data.toList (.returned (.tuple #[.pointer none, .int .i64 2])) := by rw [hss]; exact (.inl ⟨hn, rfl⟩)
    have HF := Lib.hid hF
    rw [hss, show askE s = 2 by simp [askE, hn]]
    clear h hF hn hss
    go_wp2_with fail
    go_ret2
    exact ⟨HF.out, rfl⟩
  | true =>
    rw [hss, show askE s = 0 by simp [askE, hn]]
    cases ha : d.at s with
    | none =>
      have hl := h.lookup_none hs (by rw [hss]; exact h.at_none ha)
      have hF : FindIs L d nm.data.toList (.returned (.tuple #[.pointer none, .int .i64 171])) := by rw [hss]; exact (.inr (.inl ⟨hn, by simp [Dk.find, ha], rfl⟩))
      have HF := Lib.hid hF
      clear h hF hn hss ha
      go_wp2_with fail
      go_ret2
      exact ⟨HF.out, rfl⟩
    | some f =>
      obtain ⟨A, x, B, hL, rfl, hxn⟩ := h.at_some ha
      have hl := h.lookup_some (x := x) (by rw [hL]; simp) hs (by rw [hss]; exact hxn)
      have c2 : w'.cell? ⟨x.blk, 2, none⟩ = some (.bool x.f.there) := cell_of (h.each x (by rw [hL]; simp)).cells rfl
      cases ht : x.f.there with
      | false =>
        have hF : FindIs L d nm.data.toList (.returned (.tuple #[.pointer none, .int .i64 171])) := by rw [hss]; exact (.inr (.inl ⟨hn, by simp [Dk.find, ha, ht], rfl⟩))
        have HF := Lib.hid hF
        rw [ht] at c2
        clear h hF hn hss ha hL hxn ht
        go_wp2_with fail
        go_ret2
        exact ⟨HF.out, rfl⟩
      | true =>
        have hF : FindIs L d nm.data.toList (.returned (.tuple #[.pointer (some ⟨x.blk, 0, none⟩), .int .i64 0])) := by rw [hss]; exact (.inr (.inr ⟨hn, A, x, B, hL, hxn, ht, by simp [Dk.find, ha, ht], rfl⟩))
        have HF := Lib.hid hF
        rw [ht] at c2
        clear h hF hn hss ha hL hxn ht
        go_wp2_with fail
        go_ret2
        exact ⟨HF.out, rfl⟩
end Go.Proofs.YtlgcoaeddeiegaaGreat
/- Disk: Sync. -/
namespace Go.Proofs.YtlgcoaeddeiegaaGreat
open Go Go.Maps Go.RowKit

/-- S and what is new -/
def Wid (S : Nat → Prop) (w w' : World) : Nat → Prop := fun k => S k ∨ (w.heap.size ≤ k ∧ k < w'.heap.size)
/-- what a call leaves: its error, the disk as it stands then; what is not the disk's has not turned -/
def OpIs (w : World) (S : Nat → Prop) (q : Nat) (r : Int × Dk) (e : Ending) (w' : World) : Prop :=
  e = .returned (.int .i64 r.1) ∧ DiskAt w' (Wid S w w') q r.2 ∧ Only S w w'
section
variable {w : World} {S : Nat → Prop} {q mb : Nat} {fv : Value} {L : List Fl} {d : Dk}
theorem DiskIs.q_mem (h : DiskIs w S q mb fv L d) : S q := h.foot q (by simp [diskBlocks])
theorem DiskIs.x_mem {A B : List Fl} {x : Fl} (h : DiskIs w S q mb fv (A ++ x :: B) d) : ∀ k ∈ x.blocks, S k := fun k hk =>
  h.foot k ((blocks_perm q mb fv A x B).mem_iff.2 (List.mem_append_left _ hk))
theorem DiskIs.x_ne {A B : List Fl} {x : Fl} (h : DiskIs w S q mb fv (A ++ x :: B) d) : ∀ k ∈ x.blocks, k ≠ q := fun k hk he => by
  have hp := (blocks_perm q mb fv A x B).nodup_iff.1 h.apart
  exact not_mem_of_nodup_append hp hk (by rw [he]; simp [diskBlocks])
theorem OpIs.same (h : DiskIs w S q mb fv L d) (n : Int) : OpIs w S q (n, d) (.returned (.int .i64 n)) w :=
  ⟨rfl, ⟨mb, fv, L, h.wider (fun k hk => .inl hk) (fun k hk => by
    rcases hk with hk | hk
    · exact h.low k hk
    · omega)⟩, Only.refl _ _⟩
theorem turn_list {A B : List Fl} {x x' : Fl} {d : Dk} {s : List UInt8} (t : F0 → F0) (hf : (A ++ x :: B).map (·.f) = d.files) (hs : (d.files.map (·.name)).Pairwise (· < ·)) (hx : x.f.name = s) (ht : x'.f = t x.f) :
    (d.turn s t).files = A.map (·.f) ++ x'.f :: B.map (·.f) := by
  have hnd : (d.files.map (·.name)).Nodup := hs.imp (fun {a b} hab he => by rw [he] at hab; exact List.lt_irrefl _ hab)
  rw [← hf, List.map_append, List.map_cons, List.map_append, List.map_cons] at hnd
  have h2 := List.nodup_append.1 hnd
  have hA : ∀ y ∈ A, y.f.name ≠ s := fun y hy he => h2.2.2 y.f.name (List.mem_map_of_mem (List.mem_map_of_mem hy)) x.f.name (by simp) (by rw [he, hx])
  have hB : ∀ y ∈ B, y.f.name ≠ s := fun y hy he => (List.nodup_cons.1 h2.2.1).1 (by rw [hx, ← he]; exact List.mem_map_of_mem (List.mem_map_of_mem hy))
  show d.files.map _ = _
  rw [← hf, List.map_append, List.map_cons, List.map_append, List.map_cons, List.map_map, List.map_map, if_pos hx, ht]
  congr 1
  · exact List.map_congr_left fun y hy => by simp [hA y hy]
  · congr 1
    exact List.map_congr_left fun y hy => by simp [hB y hy]
end
theorem file_done {w w2 W : World} {S : Nat → Prop} {q mb : Nat} {fv' : Value} {A B : List Fl} {x x' : Fl} {d1 : Dk} (ho : Only (fun k => k = q) w w2) (h2 : DiskIs w2 S q mb fv' (A ++ x :: B) d1) (hw : Only (fun k => k ∈ x.blocks) w2 W)
    (hb : x'.blk = x.blk) (hn : x'.f.name = x.f.name) (hx : FlAt W x') (hv : ∀ k, x'.bv.ownBlock = some k → x.bv.ownBlock = some k ∨ (w2.heap.size ≤ k ∧ k < W.heap.size)) {s : List UInt8} {t : F0 → F0} (hs : x.f.name = s) (ht : x'.f = t x.f) (n : Int) :
    OpIs w S q (n, d1.turn s t) (.returned (.int .i64 n)) W := by
  have h3 := h2.file_turn hb hn hw hx hv
  have e : ({ d1 with files := A.map (·.f) ++ x'.f :: B.map (·.f) } : Dk) = d1.turn s t := by
    rw [← turn_list t h2.files h2.sorted hs ht]
    rfl
  rw [e] at h3
  refine ⟨rfl, ⟨mb, fv', _, h3.wider (fun k hk => ?_) (fun k hk => ?_)⟩, ?_⟩
  · rcases hk with hk | hk
    · exact .inl hk
    · exact .inr ⟨Nat.le_trans ho.size hk.1, hk.2⟩
  · rcases hk with hk | hk
    · exact Nat.lt_of_lt_of_le (h2.low k hk) hw.size
    · exact hk.2
  · exact (ho.mono (fun i _ hi => by rw [hi]; exact h2.q_mem)).trans hw (fun i _ hi => h2.x_mem i hi)
theorem FlAt.own_ne {w : World} {S : Nat → Prop} {q mb : Nat} {fv : Value} {A B : List Fl} {x : Fl} {d : Dk} (h : DiskIs w S q mb fv (A ++ x :: B) d) : ∀ k, x.bv.ownBlock = some k → k ≠ x.blk := fun k hk he => by
  have hp := (List.nodup_append.1 ((blocks_perm q mb fv A x B).nodup_iff.1 h.apart)).1
  simp only [Fl.blocks, hk, Option.toList_some, List.nodup_cons, List.mem_singleton] at hp
  exact hp.1 he.symm
/-- a file's lasting part is set -/
theorem set_lasts {w w2 : World} {S : Nat → Prop} {q mb : Nat} {fv' : Value} {A B : List Fl} {x : Fl} {d1 : Dk} (ho : Only (fun k => k = q) w w2) (h2 : DiskIs w2 S q mb fv' (A ++ x :: B) d1) {l' : Nat} (hl : l' ≤ x.f.bytes.length) {v : Int} (hv : v = (l' : Int))
    {s : List UInt8} {t : F0 → F0} (hs : x.f.name = s) (ht : t x.f = { x.f with lasts := l' }) (n : Int) :
    OpIs w S q (n, d1.turn s t) (.returned (.int .i64 n)) ((w2.setCell ⟨x.blk, 1, none⟩ (.int .i64 v)).drew) := by
  subst hv
  have hx := h2.each x (by simp)
  have hset : Only (fun k => k = x.blk) w2 (w2.setCell ⟨x.blk, 1, none⟩ (.int .i64 l')).drew := only_drew (only_setCell (fun k => k = x.blk) w2 x.blk 1 _ rfl)
  refine file_done (x' := ⟨{ x.f with lasts := l' }, x.blk, x.bv⟩) ho h2 (hset.mono (fun i _ hi => by rw [hi]; simp [Fl.blocks])) rfl rfl ⟨?_, ?_, hl, hx.size⟩ (fun k hk => .inl hk) hs ht.symm n
  · exact heap_setCell_here (w := w2) _ hx.cells
  · exact hx.row.kept (fun k hk => hset.block k (hx.row.lt k hk) (FlAt.own_ne h2 k hk))
set_option maxRecDepth 100000 in
set_option maxHeartbeats 1000000 in
theorem sync_b {w : World} {S : Nat → Prop} {q : Nat} {d : Dk} (h : DiskAt w S q d) (nm : ByteArray) (hs : nm.size ≤ maxLen) :
    Calls Tryz.prog 69 #[.pointer (some ⟨q, 0, none⟩), .string nm] w fun e w' => OpIs w S q (d.sync nm.data.toList) e w' := by
  obtain ⟨mb, fv, L, h⟩ := h
  go_enter Tryz.func69, Tryz.ntmps69
  go_wp2_with fail
  refine (find_b h nm hs).mono ?_
  rintro e w' ⟨hF, rfl⟩
  rcases hF with ⟨hn, rfl⟩ | ⟨hn, hf, rfl⟩ | ⟨hn, A, x, B, rfl, hxn, hxt, hf, rfl⟩
  · have HO : Hid (OpIs w' S q (d.sync nm.data.toList) (.returned (.int .i64 2)) w') := Lib.hid (by
      rw [show d.sync nm.data.toList = (2, d) by simp [Dk.sync, hn]]
      exact OpIs.same h 2)
    clear h hn
    go_wp2_with fail
    go_ret
    exact HO.out
  · have HO : Hid (OpIs w' S q (d.sync nm.data.toList) (.returned (.int .i64 171)) w') := Lib.hid (by
      rw [show d.sync nm.data.toList = (171, d) by simp [Dk.sync, hn, hf]]
      exact OpIs.same h 171)
    clear h hn hf
    go_wp2_with fail
    go_ret
    exact HO.out
  · have H := Lib.hid h
    have HN := Lib.hid (And.intro hn hf)
    clear h hn hf
    go_wp2_with fail
    refine (step_b H.out).mono ?_
    rintro e w1 ⟨kd, kp, fv', rfl, hkp, h1, ho1⟩
    obtain ⟨er, her⟩ : ∃ er, d.fate.1 = er := ⟨_, rfl⟩
    rw [her]
    have H1 := Lib.hid h1
    have HO1 := Lib.hid ho1
    have HE := Lib.hid (And.intro hkp her)
    clear h1 ho1 hkp her
    go_upto_region 5 with fail
    obtain ⟨w2, hw2⟩ : ∃ w2 : World, w2 = w1.alloc (.cells #[.int .i64 kd, .int .i64 kp] 98) := ⟨_, rfl⟩
    obtain ⟨r, hr⟩ : ∃ r, r = w1.heap.size := ⟨_, rfl⟩
    have hr2 : w2.heap[r]? = some (.cells #[.int .i64 kd, .int .i64 kp] 98 (0, 0)) := by rw [hw2, hr]; exact alloc_cells _ _ _
    have h2 : DiskIs w2 S q mb fv' (A ++ x :: B) d.next := by rw [hw2]; exact H1.out.below ((Below.refl _ _).alloc (Nat.le_refl _) _)
    have ho2 : Only (fun k => k = q) w' w2 := by rw [hw2]; exact HO1.out.trans (only_alloc (fun k => k = q) _ _) (fun _ _ h => h)
    rw [← hw2, ← hr]
    clear hw2 hr H1 HO1
    have hx := h2.each x (by simp)
    obtain ⟨oa, c, hbv, hnc⟩ := hx.row.shape
    have hxc := hx.cells
    obtain ⟨n, hn⟩ : ∃ n, x.f.bytes.length = n := ⟨_, rfl⟩
    obtain ⟨l, hl⟩ : ∃ l, x.f.lasts = l := ⟨_, rfl⟩
    have hln : l ≤ n ∧ n ≤ 16777216 := by
      have h3 := hx.lasts
      have h4 := hx.size
      omega
    rw [hbv, hn, hl] at hxc
    have k0 : w2.drew.cell? ⟨x.blk, 0, none⟩ = some (.slice oa n c) := cell_of (w := w2) hxc rfl
    have k1 : w2.drew.cell? ⟨x.blk, 1, none⟩ = some (.int .i64 l) := cell_of (w := w2) hxc rfl
    have z1 : w2.drew.frozen? ⟨x.blk, 1, none⟩ = false := free_of (w := w2) hxc _
    have y1 : w2.drew.cell? ⟨r, 1, none⟩ = some (.int .i64 kp) := cell_of (w := w2) hr2 rfl
    obtain ⟨m, hm⟩ : ∃ m, m = n - l := ⟨_, rfl⟩
    have hsub : wrap64 ((n : Int) - (l : Int)) = (m : Int) := by unfold wrap64; omega
    have H2 := Lib.hid h2
    have HO2 := Lib.hid ho2
    have HX := Lib.hid hxc
    have HBV := Lib.hid (And.intro hbv (And.intro hn hl))
    have HXR := Lib.hid hx
    have HM := Lib.hid hm
    clear h2 ho2 hxc hbv hx hm hn hl hr2
    go_region
    by_cases h0 : er = 0
    · subst h0
      have HO : Hid (∀ v : Int, v = (n : Int) → OpIs w' S q (d.sync nm.data.toList) (.returned (.int .i64 0)) (w2.setCell ⟨x.blk, 1, none⟩ (.int .i64 v)).drew) := Lib.hid (fun v hv => by
        have := set_lasts HO2.out H2.out (l' := n) (by rw [HBV.out.2.1]; exact Nat.le_refl _) hv (s := nm.data.toList) (t := fun f => { f with lasts := f.bytes.length }) hxn (by rw [HBV.out.2.1]) 0
        simpa [Dk.sync, HN.out.1, HN.out.2, HE.out.2] using this)
      clear hsub
      go_wp2_with fail
      go_ret
      exact HO.out _ (by omega)
    · have hb0 : (er != 0) = true := by simpa using h0
      have HO : Hid (∀ v : Int, v = ((l + min (n - l) d.fate.2 : Nat) : Int) → OpIs w' S q (d.sync nm.data.toList) (.returned (.int .i64 er)) (w2.setCell ⟨x.blk, 1, none⟩ (.int .i64 v)).drew) := Lib.hid (fun v hv => by
        have := set_lasts HO2.out H2.out (l' := l + min (n - l) d.fate.2) (by rw [HBV.out.2.1]; omega) hv (s := nm.data.toList) (t := fun f => { f with lasts := f.lasts + min (f.bytes.length - f.lasts) d.fate.2 }) hxn (by simp only [HBV.out.2.1, HBV.out.2.2]) er
        simpa [Dk.sync, HN.out.1, HN.out.2, HE.out.2, h0] using this)
      have HK := Lib.hid HE.out.1
      clear hsub h0
      go_wp2_with fail
      all_goals (go_ret; refine HO.out _ ?_; have := HK.out; omega)
end Go.Proofs.YtlgcoaeddeiegaaGreat
/- Disk: Append. -/
namespace Go.Proofs.YtlgcoaeddeiegaaGreat
open Go Go.Maps Go.RowKit

theorem info_u8 : (Tryz.prog.info? 5).map (fun i => (i.zero, i.size, i.bytes)) = some (some (.int .u8 0), 1, 1) := by kernel_rfl
/-- v holds the bytes l -/
abbrev bytesAt (w : World) (v : Value) (l : List UInt8) : Prop := rowAt w 5 1 v l.length (byteCells l)
theorem rowAt.take {w : World} {e : TypeId} {size : Nat} {oa : Option Addr} {n cap : Nat} {xs : List Value} (h : rowAt w e size (.slice oa n cap) n xs) (k : Nat) (hk : k ≤ n) : rowAt w e size (.slice oa k cap) k (xs.take (k * size)) := by
  refine ⟨by rw [List.length_take, h.1]; exact Nat.min_eq_left (Nat.mul_le_mul_right _ hk), ?_⟩
  rcases h.2 with ⟨hv, h0⟩ | ⟨g, off, c, cur, fr, hv, hg, hnc, hcm, hcs, hfr, ht⟩
  · simp only [Value.slice.injEq] at hv
    obtain ⟨rfl, -, rfl⟩ := hv
    obtain rfl : k = 0 := by omega
    exact .inl ⟨rfl, rfl⟩
  · simp only [Value.slice.injEq] at hv
    obtain ⟨rfl, -, rfl⟩ := hv
    refine .inr ⟨g, off, cap, cur, fr, rfl, hg, by omega, hcm, hcs, hfr, ?_⟩
    rw [← ht, List.take_take, Nat.min_eq_left (Nat.mul_le_mul_right _ hk)]
theorem rowAt.map0 {w : World} {e : TypeId} {size : Nat} {oa : Option Addr} {n cap : Nat} {xs : List Value} (h : rowAt w e size (.slice oa n cap) n xs) : oa.map (fun x => x.add 0) = oa ∧ n ≤ cap := by
  rcases h.2 with ⟨hv, h0⟩ | ⟨g, off, c, cur, fr, hv, _, hn, _⟩
  · simp only [Value.slice.injEq] at hv
    rw [hv.1]
    exact ⟨rfl, by omega⟩
  · simp only [Value.slice.injEq] at hv
    rw [hv.1, hv.2.2]
    exact ⟨by simp [Go.WideShapes.add_plain], hn⟩
theorem Src.of_row {P : Program} {w : World} {size : Nat} {u e e2 : TypeId} (hu : P.underlying u = some (.slice e)) {v : Value} {n : Nat} {xs : List Value} (h : rowAt w e2 size v n xs) (h1 : ∀ v ∈ xs, v.oneCell' = true) : Src P w size u v n xs := by
  obtain ⟨oa, cap, rfl, _⟩ := h.shape
  cases oa with
  | none =>
    rcases h.2 with ⟨hv, h0⟩ | ⟨g, off, c, cur, fr, hv, _⟩
    · subst h0
      have hx : xs = [] := List.eq_nil_of_length_eq_zero (by simpa using h.1)
      subst hx
      exact Src.none hu _
    · simp at hv
  | some ad =>
    rcases h.2 with ⟨hv, h0⟩ | ⟨g, off, c, cur, fr, hv, _⟩
    · simp at hv
    · simp only [Value.slice.injEq, Option.some.injEq] at hv
      obtain ⟨rfl, -, -⟩ := hv
      exact Src.slice hu _ n cap xs h.1 (fun j u hj => h.cells rfl j u hj) h1
/-- v holds the bytes l, to be read -/
abbrev bytesRd (w : World) (v : Value) (l : List UInt8) : Prop := readAt w 1 v l.length (byteCells l)
theorem byteCells_take (l : List UInt8) (k : Nat) : (byteCells l).take k = byteCells (l.take k) := by simp [byteCells, List.map_take]
theorem byteCells_append (a b : List UInt8) : byteCells a ++ byteCells b = byteCells (a ++ b) := by simp [byteCells]
theorem bytesAt.take {w : World} {oa : Option Addr} {c : Nat} {l : List UInt8} (h : bytesAt w (.slice oa l.length c) l) (k : Nat) (hk : k ≤ l.length) : bytesAt w (.slice oa k c) (l.take k) := by
  have := rowAt.take h k hk
  rw [Nat.mul_one, byteCells_take] at this
  have e : (l.take k).length = k := by rw [List.length_take]; omega
  show rowAt w _ 1 _ (l.take k).length _
  rw [e]
  exact this
theorem bytesRd.take {w : World} {oa : Option Addr} {c : Nat} {l : List UInt8} (h : bytesRd w (.slice oa l.length c) l) (k : Nat) (hk : k ≤ l.length) : bytesRd w (.slice oa k c) (l.take k) := by
  have := readAt.take h k hk
  rw [Nat.mul_one, byteCells_take] at this
  have e : (l.take k).length = k := by rw [List.length_take]; omega
  show readAt w 1 _ (l.take k).length _
  rw [e]
  exact this
/-- bytes are appended to a file -/
theorem set_bytes {w w2 w3 : World} {S : Nat → Prop} {q mb : Nat} {fv' v' : Value} {A B : List Fl} {x : Fl} {d1 : Dk} {l b : List UInt8} (ho : Only (fun k => k = q) w w2) (h2 : DiskIs w2 S q mb fv' (A ++ x :: B) d1)
    (hg : w2.grownBy w3 x.bv.ownBlock) (hr : rowAt w3 5 1 v' l.length (byteCells l)) (hown : v'.ownBlock = x.bv.ownBlock ∨ v'.ownBlock = some w2.heap.size) (hl : x.f.bytes ++ b = l) (hsz : l.length ≤ 16777216)
    {s : List UInt8} {t : F0 → F0} (hs : x.f.name = s) (ht : t x.f = { x.f with bytes := l }) (n : Int) :
    OpIs w S q (n, d1.turn s t) (.returned (.int .i64 n)) (w3.setCell ⟨x.blk, 0, none⟩ v') := by
  have hx := h2.each x (by simp)
  have hne := FlAt.own_ne h2
  have hblk : x.blk < w2.heap.size := h2.low _ (h2.x_mem _ (by simp [Fl.blocks]))
  have hc3 : w3.heap[x.blk]? = w2.heap[x.blk]? := hg.block _ hblk (fun e => hne x.blk e.symm rfl)
  have h3 : Only (fun k => k ∈ x.blocks) w2 w3 := Only.of_grown hg (fun k hk => by simp [Fl.blocks, hk])
  have hset : Only (fun k => k = x.blk) w3 (w3.setCell ⟨x.blk, 0, none⟩ v') := only_setCell (fun k => k = x.blk) w3 x.blk 0 _ rfl
  have hvne : ∀ k, v'.ownBlock = some k → k ≠ x.blk := fun k hk => by
    rcases hown with h | h
    · exact hne k (by rw [← h]; exact hk)
    · rw [h] at hk
      simp only [Option.some.injEq] at hk
      omega
  refine file_done (x' := ⟨{ x.f with bytes := l }, x.blk, v'⟩) ho h2 (h3.trans hset (fun i _ hi => by rw [hi]; simp [Fl.blocks])) rfl rfl ⟨?_, ?_, ?_, hsz⟩ (fun k hk => ?_) hs ht.symm n
  · exact heap_setCell_here (w := w3) _ (hc3.trans hx.cells)
  · exact hr.kept (fun k hk => hset.block k (hr.lt k hk) (hvne k hk))
  · have := hx.lasts
    rw [← hl]
    simp only [List.length_append]
    omega
  · rcases hown with h | h
    · exact .inl (by rw [← h]; exact hk)
    · have h4 := hr.lt k hk
      have hk2 : v'.ownBlock = some k := hk
      rw [h] at hk2
      simp only [Option.some.injEq] at hk2
      have h5 := hset.size
      exact .inr ⟨by omega, by omega⟩
theorem cell_kept_at {w w3 : World} {k i : Nat} (h : w3.heap[k]? = w.heap[k]?) : w3.cell? ⟨k, i, none⟩ = w.cell? ⟨k, i, none⟩ := by simp [World.cell?, h]
theorem frozen_kept_at {w w3 : World} {k i : Nat} (h : w3.heap[k]? = w.heap[k]?) : w3.frozen? ⟨k, i, none⟩ = w.frozen? ⟨k, i, none⟩ := by simp [World.frozen?, h]
set_option maxRecDepth 100000 in
set_option maxHeartbeats 1000000 in
theorem append_b {w : World} {S : Nat → Prop} {q : Nat} {d : Dk} (h : DiskAt w S q d) (nm : ByteArray) (hs : nm.size ≤ maxLen) (oa : Option Addr) (c : Nat) (b : List UInt8) (hb : bytesRd w (.slice oa b.length c) b) (hbS : ∀ k, (Value.slice oa b.length c).ownBlock = some k → 0 < b.length → ¬ S k) (hbl : b.length ≤ 1000000000) :
    Calls Tryz.prog 149 #[.pointer (some ⟨q, 0, none⟩), .string nm, .slice oa b.length c] w fun e w' => OpIs w S q (d.append nm.data.toList b) e w' := by
  obtain ⟨mb, fv, L, h⟩ := h
  obtain ⟨lb, hlb⟩ : ∃ lb, lb = b.length := ⟨_, rfl⟩
  rw [← hlb] at hb hbS hbl ⊢
  have HBW := Lib.hid (And.intro hb hbS)
  have HLB := Lib.hid hlb
  clear hb hbS hlb
  go_enter Tryz.func149, Tryz.ntmps149
  go_wp2_with fail
  refine (find_b h nm hs).mono ?_
  rintro e w' ⟨hF, rfl⟩
  rcases hF with ⟨hn, rfl⟩ | ⟨hn, hf, rfl⟩ | ⟨hn, A, x, B, rfl, hxn, hxt, hf, rfl⟩
  · have HO : Hid (OpIs w' S q (d.append nm.data.toList b) (.returned (.int .i64 2)) w') := Lib.hid (by
      rw [show d.append nm.data.toList b = (2, d) by simp [Dk.append, hn]]
      exact OpIs.same h 2)
    clear h hn
    go_wp2_with fail
    go_ret
    exact HO.out
  · have HO : Hid (OpIs w' S q (d.append nm.data.toList b) (.returned (.int .i64 171)) w') := Lib.hid (by
      rw [show d.append nm.data.toList b = (171, d) by simp [Dk.append, hn, hf]]
      exact OpIs.same h 171)
    clear h hn hf
    go_wp2_with fail
    go_ret
    exact HO.out
  · have hx0 := h.each x (by simp)
    obtain ⟨oaf, cf, hbv, hnc⟩ := hx0.row.shape
    obtain ⟨n, hnn⟩ : ∃ n, x.f.bytes.length = n := ⟨_, rfl⟩
    have hsz : n ≤ 16777216 := by rw [← hnn]; exact hx0.size
    have hxc := hx0.cells
    rw [hbv, hnn] at hxc
    have k0 : w'.cell? ⟨x.blk, 0, none⟩ = some (.slice oaf n cf) := cell_of hxc rfl
    have HBV := Lib.hid (And.intro hbv hnn)
    have H := Lib.hid h
    have HN := Lib.hid (And.intro hn hf)
    clear h hn hf hxc hx0 hbv hnn hnc
    by_cases hfull : 16777216 < lb + n
    · have HO : Hid (OpIs w' S q (d.append nm.data.toList b) (.returned (.int .i64 6)) w') := Lib.hid (by
        rw [show d.append nm.data.toList b = (6, d) by simp [Dk.append, HN.out.1, HN.out.2]; rw [← HLB.out, HBV.out.2]; intro h; omega]
        exact OpIs.same H.out 6)
      have hd : decide ((16777216 : Int) - (n : Int) < (lb : Int)) = true := by simp; omega
      go_wp2_with fail
      go_ret
      exact HO.out
    · have hd : decide ((16777216 : Int) - (n : Int) < (lb : Int)) = false := by simp; omega
      go_wp2_with fail
      refine (step_b H.out).mono ?_
      rintro e w1 ⟨kd, kp, fv', rfl, hkp, h1, ho1⟩
      obtain ⟨er, her⟩ : ∃ er, d.fate.1 = er := ⟨_, rfl⟩
      rw [her]
      have H1 := Lib.hid h1
      have HO1 := Lib.hid ho1
      have HE := Lib.hid (And.intro hkp her)
      clear h1 ho1 hkp her k0 hd
      go_upto_region 7 with fail
      obtain ⟨w2, hw2⟩ : ∃ w2 : World, w2 = w1.alloc (.cells #[.int .i64 kd, .int .i64 kp] 98) := ⟨_, rfl⟩
      obtain ⟨r, hr⟩ : ∃ r, r = w1.heap.size := ⟨_, rfl⟩
      have hr2 : w2.heap[r]? = some (.cells #[.int .i64 kd, .int .i64 kp] 98 (0, 0)) := by rw [hw2, hr]; exact alloc_cells _ _ _
      have h2 : DiskIs w2 S q mb fv' (A ++ x :: B) d.next := by rw [hw2]; exact H1.out.below ((Below.refl _ _).alloc (Nat.le_refl _) _)
      have ho2 : Only (fun k => k = q) w' w2 := by rw [hw2]; exact HO1.out.trans (only_alloc (fun k => k = q) _ _) (fun _ _ h => h)
      rw [← hw2, ← hr]
      clear hw2 hr H1 HO1
      have hx := h2.each x (by simp)
      have hxc := hx.cells
      have hxr := hx.row
      rw [HBV.out.1, HBV.out.2] at hxc hxr
      have hk0 : w2.cell? ⟨x.blk, 0, none⟩ = some (.slice oaf n cf) := cell_of hxc rfl
      have hz0 : w2.frozen? ⟨x.blk, 0, none⟩ = false := free_of hxc _
      have y1 : w2.cell? ⟨r, 1, none⟩ = some (.int .i64 kp) := cell_of hr2 rfl
      have HG : Hid (∀ w3 : World, w2.grownBy w3 (Value.slice oaf n cf).ownBlock → w3.heap[x.blk]? = w2.heap[x.blk]?) := Lib.hid fun w3 hg => hg.block _ (h2.low _ (h2.x_mem _ (by simp [Fl.blocks]))) (fun e => FlAt.own_ne h2 x.blk (by rw [HBV.out.1, HBV.out.2]; exact e.symm) rfl)
      have HROW : Hid (rowAt w2 5 1 (.slice oaf n cf) n (byteCells x.f.bytes)) := Lib.hid hxr
      have hb2 : bytesRd w2 (.slice oa b.length c) b := by
        rw [← HLB.out]
        show readAt w2 1 _ b.length _
        rw [← HLB.out]
        have h3 := HBW.out.1
        have h4 : readAt w' 1 (.slice oa lb c) b.length (byteCells b) := h3
        rw [← HLB.out] at h4
        exact h4.kept (fun k hl hk h0 => ho2.block k hl (fun e => HBW.out.2 k hk h0 (by rw [e]; exact h2.q_mem)))
      have H2 := Lib.hid h2
      have HO2 := Lib.hid ho2
      have HB2 := Lib.hid hb2
      clear h2 ho2 hb2 hx hxc hxr hr2 H
      by_cases h0 : er = 0
      · subst h0
        have HS : Hid (Src Tryz.prog w2 1 39 (.slice oa lb c) lb (byteCells b)) := Lib.hid (by
          have := Src.of_read Tryz.underlying39 HB2.out (byteCells_one _)
          rw [← HLB.out] at this
          exact this)
        go_wp2_with (at_builtin; refine wpList_append_at _ rfl (.tmp 47) (.tmp 48) 39 39 rfl 5 (.int .u8 0) 1 1 Tryz.underlying39 info_u8 rfl _ n _ rfl HROW.out _ lb _ rfl (HS.out) (by unfold maxLen; omega) (by omega) ?_; intro v' w3 hr hg hown _; obtain ⟨oa', c', rfl, _⟩ := hr.shape; have hc3 : w3.cell? ⟨x.blk, 0, none⟩ = some (.slice oaf n cf) := (by rw [← hk0]; exact cell_kept_at (HG.out w3 hg)); have hz3 : w3.frozen? ⟨x.blk, 0, none⟩ = false := (by rw [← hz0]; exact frozen_kept_at (HG.out w3 hg)); have HR := Lib.hid hr; have HGG := Lib.hid hg; have HOWN := Lib.hid hown; clear hr hg hown)
        go_ret
        have hrr := HR.out
        rw [byteCells_append] at hrr
        have hl : (x.f.bytes ++ b).length = n + lb := by rw [List.length_append, HBV.out.2, ← HLB.out]
        have := set_bytes (v' := .slice oa' (n + lb) c') (s := nm.data.toList) (t := fun f => { f with bytes := f.bytes ++ b }) HO2.out H2.out (by rw [HBV.out.1, HBV.out.2]; exact HGG.out) (by rw [hl]; exact hrr) (by rw [HBV.out.1, HBV.out.2]; exact HOWN.out) rfl (by rw [hl]; omega) hxn rfl 0
        simpa [Dk.append, HN.out.1, HN.out.2, HE.out.2, ← HLB.out, HBV.out.2, hfull] using this
      · have hb0 : (er != 0) = true := by simpa using h0
        go_upto_region 8 with fail
        go_cut [2] from 35 to 42 (fun s2 wx => ∃ k : Nat, s2 = .slice oa k c ∧ k = min lb d.fate.2 ∧ wx = w2)
        case first =>
          have HK := Lib.hid HE.out.1
          have hrb : readAt w' 1 (.slice oa lb c) lb (byteCells b) := by
            have h4 : readAt w' 1 (.slice oa lb c) b.length (byteCells b) := HBW.out.1
            rwa [← HLB.out] at h4
          obtain ⟨hm0, hlc⟩ := hrb.map0
          clear hrb
          go_wp2_with fail
          all_goals go_meet
          all_goals (refine ⟨_, rfl, ?_, rfl⟩; have := HK.out; omega)
        case rest =>
          obtain ⟨k, rfl, hkk, rfl⟩ := hcut
          have hkl : k ≤ lb := by omega
          have HKK := Lib.hid hkk
          clear hkk
          have HS : Hid (Src Tryz.prog wc 1 39 (.slice oa k c) k (byteCells (b.take k))) := Lib.hid (by
            have h4 := HB2.out.take k (by rw [← HLB.out]; exact hkl)
            have := Src.of_read Tryz.underlying39 h4 (byteCells_one _)
            rwa [show (b.take k).length = k by rw [List.length_take, ← HLB.out]; omega] at this)
          go_wp2_with (at_builtin; refine wpList_append_at _ rfl (.tmp 47) (.tmp 48) 39 39 rfl 5 (.int .u8 0) 1 1 Tryz.underlying39 info_u8 rfl _ n _ rfl HROW.out _ k _ rfl (HS.out) (by unfold maxLen; omega) (by omega) ?_; intro v' w3 hr hg hown _; obtain ⟨oa', c', rfl, _⟩ := hr.shape; have hc3 : w3.cell? ⟨x.blk, 0, none⟩ = some (.slice oaf n cf) := (by rw [← hk0]; exact cell_kept_at (HG.out w3 hg)); have hz3 : w3.frozen? ⟨x.blk, 0, none⟩ = false := (by rw [← hz0]; exact frozen_kept_at (HG.out w3 hg)); have HR := Lib.hid hr; have HGG := Lib.hid hg; have HOWN := Lib.hid hown; clear hr hg hown)
          go_ret
          have hrr := HR.out
          rw [byteCells_append] at hrr
          have hl : (x.f.bytes ++ b.take k).length = n + k := by rw [List.length_append, HBV.out.2, List.length_take, ← HLB.out]; omega
          have := set_bytes (v' := .slice oa' (n + k) c') (s := nm.data.toList) (t := fun f => { f with bytes := f.bytes ++ b.take k }) HO2.out H2.out (by rw [HBV.out.1, HBV.out.2]; exact HGG.out) (by rw [hl]; exact hrr) (by rw [HBV.out.1, HBV.out.2]; exact HOWN.out) rfl (by rw [hl]; omega) hxn rfl er
          have e : b.take k = b.take d.fate.2 := by
            rw [HKK.out, HLB.out]
            rcases Nat.le_total b.length d.fate.2 with h5 | h5
            · rw [Nat.min_eq_left h5, List.take_of_length_le (Nat.le_refl _), List.take_of_length_le h5]
            · rw [Nat.min_eq_right h5]
          simpa [Dk.append, HN.out.1, HN.out.2, HE.out.2, ← HLB.out, HBV.out.2, hfull, h0, e] using this
end Go.Proofs.YtlgcoaeddeiegaaGreat
/- record: numbers are put to bytes, and read; parts are taken off. -/
namespace Go.Proofs.YtlgcoaeddeiegaaGreat
open Go Go.RowKit
attribute [local go_sem] Oper.semAt_some

theorem one_byte (w : World) (b : UInt8) : rowAt (w.alloc (.cells #[.int .u8 (b.toNat : Int)] 5)) 5 1 (.slice (some ⟨w.heap.size, 0, none⟩) 1 1) 1 (byteCells [b]) :=
  ⟨rfl, .inr ⟨_, 0, 1, _, _, rfl, alloc_cells _ _ _, Nat.le_refl _, by unfold maxLen; omega, by simp, freeRow_zero _, rfl⟩⟩
/-- a row of bytes in blocks that are new since w0 -/
structure NewB (w0 W : World) (v : Value) (l : List UInt8) : Prop where
  row : rowAt W 5 1 v l.length (byteCells l)
  own : ∀ k, v.ownBlock = some k → w0.heap.size ≤ k
  below : Below w0.heap.size w0 W
theorem NewB.nil {w0 W : World} (h : Below w0.heap.size w0 W) : NewB w0 W (.slice none 0 0) [] := ⟨⟨rfl, .inl ⟨rfl, rfl⟩⟩, fun k hk => by simp [Value.ownBlock] at hk, h⟩
theorem NewB.kept {w0 W W' : World} {v : Value} {l : List UInt8} (h : NewB w0 W v l) (hb : Below W.heap.size W W') : NewB w0 W' v l :=
  ⟨h.row.kept (fun k hk => hb.block k (h.row.lt k hk)), h.own, h.below.trans (hb.mono h.below.size)⟩
theorem NewB.len {w0 W : World} {oa : Option Addr} {m c : Nat} {l : List UInt8} (h : NewB w0 W (.slice oa m c) l) : l.length = m := by
  obtain ⟨oa', c', he, _⟩ := h.row.shape
  simp only [Value.slice.injEq] at he
  exact he.2.1.symm
theorem NewB.shape {w0 W : World} {v : Value} {l : List UInt8} (h : NewB w0 W v l) : ∃ oa c, v = .slice oa l.length c := by
  obtain ⟨oa', c', he, _⟩ := h.row.shape
  exact ⟨oa', c', he⟩
theorem NewB.grown {w0 W W1 W' : World} {v v' : Value} {l ys : List UInt8} (h : NewB w0 W v l) (hb : Below W.heap.size W W1) (hr : rowAt W' 5 1 v' (l.length + ys.length) (byteCells l ++ byteCells ys)) (hg : W1.grownBy W' v.ownBlock) (ho : v'.ownBlock = v.ownBlock ∨ v'.ownBlock = some W1.heap.size) : NewB w0 W' v' (l ++ ys) := by
  have h1 := h.below.trans (hb.mono h.below.size)
  refine ⟨by rw [List.length_append, ← byteCells_append]; exact hr, fun k hk => ?_, h1.grown hg h1.size h.own⟩
  rcases ho with ho | ho
  · exact h.own k (by rw [← ho]; exact hk)
  · rw [ho] at hk
    simp only [Option.some.injEq] at hk
    have := h1.size
    omega
/-- what appending does: the row is new since w0; only its own block was written to -/
structure PutB (w0 W : World) (v : Value) (W' : World) (v' : Value) (l : List UInt8) : Prop where
  new : NewB w0 W' v' l
  only : Only (fun k => v.ownBlock = some k) W W'
  own : ∀ k, v'.ownBlock = some k → v.ownBlock = some k ∨ W.heap.size ≤ k
theorem PutB.refl {w0 W : World} {v : Value} {l : List UInt8} (h : NewB w0 W v l) : PutB w0 W v W v l := ⟨h, Only.refl _ _, fun _ hk => .inl hk⟩
theorem PutB.trans {w0 W W1 W2 : World} {v v1 v2 : Value} {l l2 : List UInt8} (h : PutB w0 W v W1 v1 l) (k : PutB w0 W1 v1 W2 v2 l2) : PutB w0 W v W2 v2 l2 :=
  ⟨k.new, h.only.trans k.only (fun i hi e => (h.own i e).resolve_right (by omega)), fun i hi => by
    rcases k.own i hi with e | e
    · exact h.own i e
    · exact .inr (Nat.le_trans h.only.size e)⟩
theorem PutB.grown {w0 W W1 W' : World} {v v' : Value} {l ys : List UInt8} (h : NewB w0 W v l) (hb : Below W.heap.size W W1) (hr : rowAt W' 5 1 v' (l.length + ys.length) (byteCells l ++ byteCells ys)) (hg : W1.grownBy W' v.ownBlock) (ho : v'.ownBlock = v.ownBlock ∨ v'.ownBlock = some W1.heap.size) : PutB w0 W v W' v' (l ++ ys) :=
  ⟨h.grown hb hr hg ho, (Only.of_below hb (Nat.le_refl _) (fun k => v.ownBlock = some k)).trans (Only.of_grown hg (fun k e => e)) (fun _ _ e => e), fun k hk => by
    rcases ho with ho | ho
    · exact .inl (by rw [← ho]; exact hk)
    · rw [ho] at hk
      simp only [Option.some.injEq] at hk
      have := hb.size
      exact .inr (by omega)⟩
theorem PutB.box {w0 W W' : World} {v v' : Value} {l : List UInt8} {b : Nat} {o : Obj} (h : PutB w0 W v W' v' l) (hb : W.heap[b]? = some o) (hne : v.ownBlock ≠ some b) : W'.heap[b]? = some o ∧ v'.ownBlock ≠ some b := by
  have hlt := (Array.getElem?_eq_some_iff.1 hb).1
  exact ⟨(h.only.block b hlt hne).trans hb, fun e => by
    rcases h.own b e with h1 | h1
    · exact hne h1
    · omega⟩
/-- one byte is appended -/
theorem wpList_put1 {w0 W : World} {ops : Array Oper} {rest : List Oper} {o : Oper} {a : Act} {Q : Exit → Act → World → Prop} (hgd : o.guard = none) (s x : Operand)
    (ho : o.op = .call { callee := .builtin .append, args := #[s, x], argTypes := #[39, 39] }) {oa : Option Addr} {m c : Nat} {l : List UInt8} (h : NewB w0 W (.slice oa m c) l) (hm : m ≤ 1000000000) {b : UInt8}
    (hs : a.eval s = .slice oa m c) (hx : a.eval x = .slice (some ⟨W.heap.size, 0, none⟩) 1 1)
    (hK : ∀ oa3 c3 w3, Hid (PutB w0 W (.slice oa m c) w3 (.slice oa3 (m + 1) c3) (l ++ [b])) → wpList Tryz.prog ops Q rest (a.put o.dst (.slice oa3 (m + 1) c3)) w3) :
    wpList Tryz.prog ops Q (o :: rest) a (W.alloc (.cells #[.int .u8 (b.toNat : Int)] 5)) := by
  have hlm := h.len
  subst hlm
  refine wpList_append_at _ hgd s x 39 39 ho 5 (.int .u8 0) 1 1 Tryz.underlying39 info_u8 rfl _ l.length (byteCells l) hs (h.row.kept (fun k hk => Below.heap_alloc _ _ k (h.row.lt k hk))) _ 1 _ hx (Src.of_read Tryz.underlying39 (one_byte W b).read (byteCells_one _)) (by unfold maxLen; omega) (by omega) ?_
  intro v' w3 hr hg hown _
  obtain ⟨oa3, c3, rfl, _⟩ := hr.shape
  exact hK oa3 c3 w3 (Lib.hid (PutB.grown (ys := [b]) h ((Below.refl _ _).alloc (Nat.le_refl _) _) hr hg hown))
/-- bytes that may be read are appended -/
theorem wpList_putR {w0 W : World} {ops : Array Oper} {rest : List Oper} {o : Oper} {a : Act} {Q : Exit → Act → World → Prop} (hgd : o.guard = none) (s x : Operand)
    (ho : o.op = .call { callee := .builtin .append, args := #[s, x], argTypes := #[39, 39] }) {oa : Option Addr} {m c : Nat} {l : List UInt8} (h : NewB w0 W (.slice oa m c) l) {ob : Option Addr} {n d : Nat} {ys : List UInt8} (hn : ys.length = n) (hy : readAt W 1 (.slice ob n d) n (byteCells ys)) (hmn : m + n ≤ 1000000000)
    (hs : a.eval s = .slice oa m c) (hx : a.eval x = .slice ob n d)
    (hK : ∀ oa3 c3 w3, Hid (PutB w0 W (.slice oa m c) w3 (.slice oa3 (m + n) c3) (l ++ ys)) → wpList Tryz.prog ops Q rest (a.put o.dst (.slice oa3 (m + n) c3)) w3) :
    wpList Tryz.prog ops Q (o :: rest) a W := by
  have hlm := h.len
  subst hlm
  subst hn
  refine wpList_append_at _ hgd s x 39 39 ho 5 (.int .u8 0) 1 1 Tryz.underlying39 info_u8 rfl _ l.length (byteCells l) hs h.row _ ys.length _ hx (Src.of_read Tryz.underlying39 hy (byteCells_one _)) (by unfold maxLen; omega) (by omega) ?_
  intro v' w3 hr hg hown _
  obtain ⟨oa3, c3, rfl, _⟩ := hr.shape
  exact hK oa3 c3 w3 (Lib.hid (PutB.grown h (Below.refl _ _) hr hg hown))
theorem leT_succ : ∀ (n x : Nat), leT x (n + 1) = leT x n ++ [UInt8.ofNat (x / 256 ^ n % 256)]
  | 0, x => by simp [leT]
  | n + 1, x => by
    rw [leT, leT_succ n (x / 256), leT, Nat.div_div_eq_div_mul, Nat.pow_succ, Nat.mul_comm (256 ^ n) 256]
    rfl
set_option maxRecDepth 100000 in
set_option maxHeartbeats 1000000 in
/-- a number's lowest bytes are put behind -/
theorem put_b {w0 W : World} {oa : Option Addr} {m c : Nat} {l : List UInt8} (h : NewB w0 W (.slice oa m c) l) (hm : m ≤ 100000000) (x n : Nat) (hx : x < 18446744073709551616) (hn : n ≤ 8) :
    Calls Tryz.prog 187 #[.slice oa m c, .int .u64 (x : Int), .int .i64 (n : Int)] W fun e w' => ∃ oa' c', e = .returned (.slice oa' (m + n) c') ∧ PutB w0 W (.slice oa m c) w' (.slice oa' (m + n) c') (l ++ leT x n) := by
  have HN := Lib.hid h
  clear h
  go_enter Tryz.func187, Tryz.ntmps187
  go_wp2_with fail
  go_loopw [0, 1, 8] (fun s y i wr => ∃ (k : Nat) (oa' : Option Addr) (c' : Nat), s = .slice oa' (m + k) c' ∧ y = .int .u64 ((x / 256 ^ k : Nat) : Int) ∧ i = .int .i64 (k : Int) ∧ k ≤ n ∧ Hid (PutB w0 W (.slice oa m c) wr (.slice oa' (m + k) c') (l ++ leT x k))) (fun _ _ i _ => n - (intOf i).toNat)
  case atStart => exact ⟨0, oa, c, rfl, by simp, rfl, by omega, Lib.hid (by simpa [leT] using PutB.refl HN.out)⟩
  case round =>
    obtain ⟨k, oa', c', rfl, rfl, rfl, hk, HR⟩ := hrel
    by_cases hlt : k < n
    · obtain ⟨y, hy⟩ : ∃ y, x / 256 ^ k = y := ⟨_, rfl⟩
      have hyb : y < 18446744073709551616 := by rw [← hy]; exact Nat.lt_of_le_of_lt (Nat.div_le_self _ _) hx
      have HY : Hid (x / 256 ^ (k + 1) = y / 256 ∧ leT x (k + 1) = leT x k ++ [UInt8.ofNat (y % 256)]) := Lib.hid ⟨by rw [← hy, Nat.div_div_eq_div_mul, Nat.pow_succ], by rw [leT_succ, hy]⟩
      have hb8 : (y : Int) % 256 = ((UInt8.ofNat (y % 256)).toNat : Int) := by
        rw [UInt8.toNat_ofNat']
        omega
      rw [hy]
      clear hy
      obtain ⟨b8, hb⟩ : ∃ b, UInt8.ofNat (y % 256) = b := ⟨_, rfl⟩
      rw [hb] at hb8 HY
      clear hb
      go_wp2_with (at_builtin; refine wpList_put1 rfl (.tmp 10) (.tmp 13) rfl HR.out.new (by omega) rfl rfl ?_; intro oa3 c3 w3 HR3)
      refine ⟨⟨k + 1, oa3, c3, rfl, by rw [HY.out.1]; simp, by simp, by omega, Lib.hid ?_⟩, by simp [intOf]; omega⟩
      have := HR.out.trans HR3.out
      rw [List.append_assoc, ← HY.out.2] at this
      exact this
    · obtain rfl : k = n := by omega
      go_wp2_with fail
      go_ret
      exact ⟨oa', c', rfl, HR.out⟩
/-- .. behind nothing -/
theorem put0_b {w0 W : World} (hb : Below w0.heap.size w0 W) (x n : Nat) (hx : x < 18446744073709551616) (hn : n ≤ 8) :
    Calls Tryz.prog 187 #[.slice none 0 0, .int .u64 (x : Int), .int .i64 (n : Int)] W fun e w' => ∃ oa' c', e = .returned (.slice oa' n c') ∧ PutB w0 W (.slice none 0 0) w' (.slice oa' n c') (leT x n) := by
  refine (put_b (NewB.nil hb) (by omega) x n hx hn).mono ?_
  rintro e w' ⟨oa', c', he, h⟩
  rw [Nat.zero_add] at he h
  exact ⟨oa', c', he, by simpa using h⟩
theorem u64_wrap (n : Int) : IntKind.u64.wrap n = n % 18446744073709551616 := by
  unfold IntKind.wrap
  have : (IntKind.u64.signed) = false := rfl
  rw [this]
  simp [IntKind.bits]
theorem u64_or (x c : Nat) (hx : x < 72057594037927936) (hc : c < 256) : bits .or .u64 ((256 * x : Nat) : Int) (c : Int) = ((c + 256 * x : Nat) : Int) := by
  have hj := Nat.two_pow_add_eq_or_of_lt (i := 8) (b := c) (by omega) x
  have key : (BitVec.ofInt 64 ((256 * x : Nat) : Int) ||| BitVec.ofInt 64 (c : Int)).toNat = 2 ^ 8 * x ||| c := by
    rw [BitVec.toNat_or, BitVec.toNat_ofInt, BitVec.toNat_ofInt]
    congr 1 <;> omega
  show IntKind.u64.wrap ((BitVec.ofInt 64 ((256 * x : Nat) : Int) ||| BitVec.ofInt 64 (c : Int)).toNat : Nat) = _
  rw [key, ← hj, u64_wrap]
  omega
set_option maxRecDepth 100000 in
set_option maxHeartbeats 1000000 in
/-- the first k bytes are read as a number -/
theorem get_b {W : World} {oa : Option Addr} {n c k : Nat} {l : List UInt8} (hn : l.length = n) (h : readAt W 1 (.slice oa n c) n (byteCells l)) (hk : k ≤ n) (hk8 : k ≤ 8) :
    Calls Tryz.prog 191 #[.slice oa n c, .int .i64 (k : Int)] W fun e w' => e = .returned (.int .u64 ((getT (l.take k) : Nat) : Int)) ∧ w' = W := by
  have HN := Lib.hid hn
  have HR := Lib.hid h
  clear hn h
  go_enter Tryz.func191, Tryz.ntmps191
  go_wp2_with fail
  go_loopw [5, 6] (fun x i wr => ∃ j : Nat, x = .int .u64 ((getT ((l.take k).drop j) : Nat) : Int) ∧ i = .int .i64 ((j : Int) - 1) ∧ j ≤ k ∧ wr = W) (fun _ i _ => (intOf i + 1).toNat)
  case atStart => exact ⟨k, by rw [List.drop_of_length_le (by rw [List.length_take]; omega)]; rfl, rfl, Nat.le_refl _, rfl⟩
  case round =>
    obtain ⟨j, rfl, rfl, hj, rfl⟩ := hrel
    cases j with
    | zero =>
      have hneg : ((0 : Nat) : Int) - 1 = -1 := rfl
      rw [hneg, List.drop_zero]
      clear hneg
      go_wp2_with fail
      go_ret
      exact ⟨rfl, rfl⟩
    | succ j =>
      have hjj : ((j + 1 : Nat) : Int) - 1 = (j : Int) := by omega
      rw [hjj]
      have hjl : j < l.length := by rw [HN.out]; omega
      obtain ⟨ch, hch⟩ : ∃ ch, l[j] = ch := ⟨_, rfl⟩
      obtain ⟨g, off, rfl⟩ := HR.out.addr (by omega)
      have kc : wr.cell? ⟨g, off + j, none⟩ = some (.int .u8 (ch.toNat : Int)) := rdCell HR.out (i := j) (by unfold byteCells; rw [List.getElem?_map, List.getElem?_eq_getElem hjl, hch]; rfl)
      obtain ⟨x, hx⟩ : ∃ x, getT ((l.take k).drop (j + 1)) = x := ⟨_, rfl⟩
      have hxl : x < 256 ^ (k - (j + 1)) := by
        have h1 := getT_lt ((l.take k).drop (j + 1))
        rw [hx, List.length_drop, List.length_take, HN.out, Nat.min_eq_left hk] at h1
        exact h1
      have hxb : x < 72057594037927936 := Nat.lt_of_lt_of_le hxl (by
        have : 256 ^ (k - (j + 1)) ≤ 256 ^ 7 := Nat.pow_le_pow_right (by decide) (by omega)
        exact this)
      have HD : Hid (getT ((l.take k).drop j) = ch.toNat + 256 * x) := Lib.hid (by
        rw [List.drop_eq_getElem_cons (by rw [List.length_take]; omega), getT, hx, List.getElem_take, hch])
      obtain ⟨c8, hc8⟩ : ∃ z : Nat, ch.toNat = z := ⟨_, rfl⟩
      have hc8b : c8 < 256 := by rw [← hc8]; exact ch.toNat_lt
      have hor := u64_or x c8 hxb hc8b
      have hcast : ((256 * x : Nat) : Int) = (x : Int) * 256 := by omega
      rw [hcast] at hor
      obtain ⟨z, hz⟩ : ∃ z : Int, ((c8 + 256 * x : Nat) : Int) = z := ⟨_, rfl⟩
      rw [hz] at hor
      rw [hc8] at HD kc
      rw [hx]
      have HZ := Lib.hid hz
      clear hz hcast hx hxl hch hc8 hjl hjj
      go_wp2_with fail
      exact ⟨⟨j, by rw [HD.out, HZ.out], rfl, by omega, trivial⟩, by simp [intOf]⟩
def PartIs (W : World) (b n m : Nat) (v : Value) (l : List UInt8) (e : Ending) (w' : World) : Prop :=
  ∃ o1 c1 o2 c2, e = .returned (.slice o1 n c1) ∧ (∀ V : World, readAt V 1 v m (byteCells l) → readAt V 1 (.slice o1 n c1) n (byteCells (l.take n)) ∧ readAt V 1 (.slice o2 (m - n) c2) (m - n) (byteCells (l.drop n))) ∧ w' = W.setCell ⟨b, 0, none⟩ (.slice o2 (m - n) c2)
set_option maxRecDepth 100000 in
set_option maxHeartbeats 1000000 in
/-- the first n bytes are taken off -/
theorem part_b {W : World} {b m c n : Nat} {oa : Option Addr} {l : List UInt8} {t : TypeId} (hb : W.heap[b]? = some (.cells #[.slice oa m c] t (0, 0))) (hm : l.length = m) (h : readAt W 1 (.slice oa m c) m (byteCells l)) (hn : n ≤ m) :
    Calls Tryz.prog 192 #[.pointer (some ⟨b, 0, none⟩), .int .i64 (n : Int)] W fun e w' => PartIs W b n m (.slice oa m c) l e w' := by
  have hc := h.cap
  have k0 : W.cell? ⟨b, 0, none⟩ = some (.slice oa m c) := cell_of hb rfl
  have z0 : W.frozen? ⟨b, 0, none⟩ = false := free_of hb _
  have e1 : (byteCells l).take n = byteCells (l.take n) := by unfold byteCells; rw [List.map_take]
  have e2 : ((byteCells l).drop n).take (m - n) = byteCells (l.drop n) := by
    unfold byteCells
    rw [← List.map_drop, List.take_of_length_le]
    rw [List.length_map, List.length_drop]
    omega
  have h12 : ∀ V : World, readAt V 1 (.slice oa m c) m (byteCells l) → readAt V 1 (.slice oa n c) n (byteCells (l.take n)) ∧ readAt V 1 (.slice (if c = n then oa else oa.map (·.add n)) (m - n) (c - n)) (m - n) (byteCells (l.drop n)) := fun V hV => by
    have h1 := hV.take n hn
    have h2 := hV.sub n m c hn (Nat.le_refl _) hc (Nat.le_refl _)
    rw [Nat.mul_one, e1] at h1
    rw [Nat.mul_one, Nat.mul_one, e2] at h2
    exact ⟨h1, h2⟩
  have hmp := h.map0.1
  by_cases hcn : c = n
  · rw [if_pos hcn] at h12
    subst hcn
    rw [Nat.sub_self] at h12
    have H := Lib.hid h12
    clear hb h h12 e1 e2
    go_enter Tryz.func192, Tryz.ntmps192
    go_wp2_with fail
    go_ret
    exact ⟨oa, c, oa, 0, rfl, H.out, by rw [show m - c = 0 by omega]⟩
  · rw [if_neg hcn] at h12
    have H := Lib.hid h12
    clear hb h h12 e1 e2
    go_enter Tryz.func192, Tryz.ntmps192
    go_wp2_with fail
    go_ret
    exact ⟨oa, c, _, _, rfl, H.out, rfl⟩
end Go.Proofs.YtlgcoaeddeiegaaGreat
