/- The texts Dt, Du, Dv, Dw, Dx, Dz, Ea in one. -/
import Derived.Test.YtmkjejngnahpeaaV1
import Derived.OwnWalk
import Derived.Lib.Hide
import Derived.Deep.CutRange
import Derived.Deep.RegionLaw
/- Disk: the next step. -/
namespace Go.Proofs.Ytmkjejngnahpeaa
open Go Go.Maps Go.RowKit

theorem heap_setCell_here {w : World} {q i : Nat} {cs : Array Value} {T : TypeId} {fr : Nat × Nat} (v : Value) (h : w.heap[q]? = some (.cells cs T fr)) : (w.setCell ⟨q, i, none⟩ v).heap[q]? = some (.cells (cs.setIfInBounds i v) T fr) := by
  rw [setCell_eq_setRow w q i cs T fr v h]
  exact setRow_heap w q cs _ T fr h
theorem only_setCell (S : Nat → Prop) (w : World) (q i : Nat) (v : Value) (h : S q) : Only S w (w.setCell ⟨q, i, none⟩ v) :=
  ⟨rfl, rfl, rfl, by simp [World.setCell], fun k _ hk => Below.heap_setCell _ _ _ _ (fun e => hk (by rw [e]; exact h))⟩
theorem only_alloc (S : Nat → Prop) (w : World) (o : Obj) : Only S w (w.alloc o) := Only.of_below ((Below.refl _ _).alloc (Nat.le_refl _) _) (Nat.le_refl _) S
theorem only_new {S : Nat → Prop} {w w' : World} (h : Only (fun k => S k ∨ w.heap.size ≤ k) w w') : Only S w w' :=
  h.mono (fun i hi hs => by
    rcases hs with hs | hs
    · exact hs
    · omega)
theorem only_drew {S : Nat → Prop} {w w' : World} (h : Only S w w') : Only S w w'.drew := ⟨h.os, h.tape, h.output, h.size, h.block⟩
theorem alloc_cells (w : World) (cs : Array Value) (T : TypeId) : (w.alloc (.cells cs T)).heap[w.heap.size]? = some (.cells cs T (0, 0)) := heap_alloc_new w _
theorem cell_of {w : World} {q i : Nat} {cs : Array Value} {T : TypeId} {fr : Nat × Nat} {v : Value} (h : w.heap[q]? = some (.cells cs T fr)) (hv : cs[i]? = some v) : w.cell? ⟨q, i, none⟩ = some v := by
  rw [cell_of_row w q i _ _ _ h, hv]
theorem free_of {w : World} {q : Nat} {cs : Array Value} {T : TypeId} (h : w.heap[q]? = some (.cells cs T (0, 0))) (i : Nat) : w.frozen? ⟨q, i, none⟩ = false := by
  simp [World.frozen?, h]
theorem rowAt.shape {w : World} {e : TypeId} {size : Nat} {v : Value} {n : Nat} {xs : List Value} (h : rowAt w e size v n xs) : ∃ oa cap, v = .slice oa n cap ∧ n ≤ cap := by
  rcases h.2 with ⟨rfl, rfl⟩ | ⟨g, off, cap, cur, fr, rfl, _, hn, _⟩
  · exact ⟨none, 0, rfl, Nat.le_refl _⟩
  · exact ⟨_, _, rfl, hn⟩
theorem rowAt.addr {w : World} {e : TypeId} {size : Nat} {oa : Option Addr} {cap n : Nat} {xs : List Value} (h : rowAt w e size (.slice oa n cap) n xs) (hn : 0 < n) : ∃ g off, oa = some ⟨g, off, none⟩ := by
  rcases h.2 with ⟨_, h0⟩ | ⟨g, off, c, cur, fr, hv, _⟩
  · omega
  · simp only [Value.slice.injEq] at hv
    exact ⟨g, off, hv.1⟩

theorem sub_own (c : Prop) [Decidable c] (g off k n cap : Nat) : (Value.slice (if c then some ⟨g, off, none⟩ else (some (⟨g, off, none⟩ : Addr)).map (·.add k)) n cap).ownBlock = some g := by
  split
  · rfl
  · simp [Value.ownBlock, Go.WideShapes.add_plain]
theorem fateCells_cons (x : Int × Int) (r : List (Int × Int)) : fateCells (x :: r) = .int .i64 x.1 :: .int .i64 x.2 :: fateCells r := rfl
theorem fateCells_length : ∀ l : List (Int × Int), (fateCells l).length = l.length * 2
  | [] => rfl
  | x :: r => by
    rw [fateCells_cons]
    simp only [List.length_cons, fateCells_length r]
    omega
theorem run_tail (g off n cap : Nat) (W : World) : (Instr.slice 65 (.slice (some ⟨g, off, none⟩) (n + 1) cap) (some (.int .i64 1)) none none).run Try.prog W = .ok (.slice (if cap = 1 then some ⟨g, off, none⟩ else (some (⟨g, off, none⟩ : Addr)).map (·.add (1 * 2))) n (cap - 1)) W := by
  have hs : (sizeOf 99).run Try.prog W = .ok 2 W := by kernel_rfl
  have he : Try.prog.elem 65 = 99 := by kernel_rfl
  rw [run_slice_l (P := Try.prog) (w := W) 65 (some ⟨g, off, none⟩) (n + 1) cap (by rw [he]; exact Try.underlying65) .i64 1 (by omega) (by omega), he, hs]
  simp [Result.andThen, sliced]
theorem step_end {w w3 : World} {S : Nat → Prop} {q mb : Nat} {fv fv' : Value} {L : List Fl} {d : Dk} {rest : List (Int × Int)} (h : DiskIs w S q mb fv L d) (ho : Only (fun k => k = q) w w3) (hq : w3.heap[q]? = some (.cells #[.map (some mb), fv', .int .i64 (wrap64 (d.steps + 1))] 122 (0, 0)))
    (hrest : d.fates.tail = rest) (hob : ∀ k, fv'.ownBlock = some k → fv.ownBlock = some k) (hr : rowAt w 99 2 fv' rest.length (fateCells rest)) : DiskIs w3 S q mb fv' L d.next := by
  subst hrest
  exact h.head_turn ho hq hob hr

/-- what a step makes of a disk -/
def StepIs (w : World) (S : Nat → Prop) (q mb : Nat) (L : List Fl) (d : Dk) (e : Ending) (w' : World) : Prop :=
  ∃ (kd kp : Int) (fv' : Value), e = .returned (.tuple #[.agg #[.int .i64 kd, .int .i64 kp], .int .i64 d.fate.1]) ∧ kp.toNat = d.fate.2 ∧ DiskIs w' S q mb fv' L d.next ∧ Only (fun k => k = q) w w'
set_option maxRecDepth 100000 in
set_option maxHeartbeats 1000000 in
theorem step_b {w : World} {S : Nat → Prop} {q mb : Nat} {fv : Value} {L : List Fl} {d : Dk} (h : DiskIs w S q mb fv L d) :
    Calls Try.prog 119 #[.pointer (some ⟨q, 0, none⟩)] w fun e w' => StepIs w S q mb L d e w' := by
  obtain ⟨oa, cap, rfl, hnc⟩ := h.fates.shape
  obtain ⟨st, hst⟩ : ∃ st, d.steps = st := ⟨_, rfl⟩
  obtain ⟨fs, hfs⟩ : ∃ fs, d.fates = fs := ⟨_, rfl⟩
  have hqlt : q < w.heap.size := h.low q (h.foot q (by simp [diskBlocks]))
  go_enter Try.func119, Try.ntmps119
  go_upto_region 1 with fail
  obtain ⟨w1, hw1⟩ : ∃ w1 : World, w1 = w.alloc (.cells #[.int .i64 0, .int .i64 0] 99) := ⟨_, rfl⟩
  have hr1 : w1.heap[w.heap.size]? = some (.cells #[.int .i64 0, .int .i64 0] 99 (0, 0)) := by rw [hw1]; exact alloc_cells _ _ _
  have hq1 : w1.heap[q]? = some (.cells #[.map (some mb), .slice oa fs.length cap, .int .i64 st] 122 (0, 0)) := by
    rw [hw1, ← hst, ← hfs]
    exact (Below.heap_alloc _ _ q hqlt).trans h.head
  have ho1 : Only (fun k => k = q) w w1 := by rw [hw1]; exact only_alloc _ _ _
  have hrq : w.heap.size ≠ q := by omega
  rw [← hw1]
  clear hw1
  obtain ⟨r, hr⟩ : ∃ r, r = w.heap.size := ⟨_, rfl⟩
  have hrw : w.heap.size ≤ r := by omega
  rw [← hr] at hr1 hrq ⊢
  clear hr
  have H := Lib.hid h
  have HO1 := Lib.hid ho1
  clear h ho1
  have c2 : w1.cell? ⟨q, 2, none⟩ = some (.int .i64 st) := cell_of hq1 rfl
  have z2 : w1.frozen? ⟨q, 2, none⟩ = false := free_of hq1 _
  go_upto_region 2 with fail
  obtain ⟨st', hst'⟩ : ∃ st', wrap64 (st + 1) = st' := ⟨_, rfl⟩
  rw [hst']
  obtain ⟨w2, hw2⟩ : ∃ w2 : World, w2 = w1.setCell ⟨q, 2, none⟩ (.int .i64 st') := ⟨_, rfl⟩
  have hq2 : w2.heap[q]? = some (.cells #[.map (some mb), .slice oa fs.length cap, .int .i64 st'] 122 (0, 0)) := by rw [hw2]; exact heap_setCell_here _ hq1
  have hr2 : w2.heap[r]? = some (.cells #[.int .i64 0, .int .i64 0] 99 (0, 0)) := by
    rw [hw2]; exact (Below.heap_setCell _ _ _ _ hrq).trans hr1
  have ho2 : Only (fun k => k = q) w w2 := by rw [hw2]; exact HO1.out.trans (only_setCell (fun k => k = q) _ _ _ _ rfl) (fun _ _ h => h)
  rw [← hw2]
  clear hw2 hq1 hr1 c2 z2 HO1
  have HO2 := Lib.hid ho2
  have HST := Lib.hid hst'
  clear ho2 hst'
  have c1 : w2.cell? ⟨q, 1, none⟩ = some (.slice oa fs.length cap) := cell_of hq2 rfl
  have z1 : w2.frozen? ⟨q, 1, none⟩ = false := free_of hq2 _
  have r0 : w2.cell? ⟨r, 0, none⟩ = some (.int .i64 0) := cell_of hr2 rfl
  have r1 : w2.cell? ⟨r, 1, none⟩ = some (.int .i64 0) := cell_of hr2 rfl
  have y0 : w2.frozen? ⟨r, 0, none⟩ = false := free_of hr2 _
  have y1 : w2.frozen? ⟨r, 1, none⟩ = false := free_of hr2 _
  cases fs with
  | nil =>
    have HF : Hid (d.fates = []) := Lib.hid hfs
    have HR : Hid (rowAt w 99 2 (.slice oa 0 cap) 0 (fateCells [])) := Lib.hid (by have := H.out.fates; rw [hfs] at this; exact this)
    clear hfs
    go_wp2_with fail
    obtain ⟨w3, hw3⟩ : ∃ w3 : World, w3 = (w2.setCell ⟨r, 0, none⟩ (.int .i64 0)).setCell ⟨r, 1, none⟩ (.int .i64 0) := ⟨_, rfl⟩
    have hr3 : w3.heap[r]? = some (.cells #[.int .i64 0, .int .i64 0] 99 (0, 0)) := by rw [hw3]; exact heap_setCell_here _ (heap_setCell_here _ hr2)
    have hq3 : w3.heap[q]? = w2.heap[q]? := by rw [hw3]; exact (Below.heap_setCell _ _ _ _ (fun e => hrq e.symm)).trans (Below.heap_setCell _ _ _ _ (fun e => hrq e.symm))
    have ho3 : Only (fun k => k = r) w2 w3 := by rw [hw3]; exact (only_setCell (fun k => k = r) _ _ _ _ rfl).trans (only_setCell (fun k => k = r) _ _ _ _ rfl) (fun _ _ h => h)
    rw [← hw3]
    have s0 : w3.cell? ⟨r, 0, none⟩ = some (.int .i64 0) := cell_of hr3 rfl
    have s1 : w3.cell? ⟨r, 1, none⟩ = some (.int .i64 0) := cell_of hr3 rfl
    refine bodyPost_ret (v := .tuple #[.agg #[.int .i64 0, .int .i64 0], .int .i64 0]) (by simp [results, Try.results119, go_sem, s0, s1]) rfl ?_
    have ho : Only (fun k => k = q) w w3 := HO2.out.trans ho3 (fun i hi he => by omega)
    refine ⟨0, 0, .slice oa 0 cap, by simp [Dk.fate, HF.out], by simp [Dk.fate, HF.out], step_end (rest := []) H.out ho (hq3.trans ?_) (by rw [HF.out]; rfl) (fun k hk => by rw [HF.out]; exact hk) HR.out, ho⟩
    rw [hq2, hst, HST.out]
    rfl
  | cons f rest =>
    obtain ⟨k0, n0⟩ := f
    have hrow := H.out.fates
    have hlen : d.fates.length = rest.length + 1 := by rw [hfs]; rfl
    rw [hfs] at hrow
    obtain ⟨g, off, rfl⟩ := hrow.addr (by simp)
    have hgq : g ≠ q := fun e => by
      have := H.out.apart
      simp only [diskBlocks, List.nodup_cons] at this
      exact this.1 (by rw [← e]; simp [Value.ownBlock])
    have hglt : g < w.heap.size := hrow.lt g rfl
    have hgw : w2.heap[g]? = w.heap[g]? := HO2.out.block g hglt hgq
    have hrow2 : rowAt w2 99 2 (.slice (some ⟨g, off, none⟩) (rest.length + 1) cap) (rest.length + 1) (fateCells ((k0, n0) :: rest)) := hrow.kept (fun k hk => by
      simp only [Value.ownBlock, Option.some.injEq] at hk
      rw [← hk]; exact hgw)
    have f0 : w2.cell? ⟨g, off, none⟩ = some (.int .i64 k0) := by
      have := hrow2.cells (g := g) (off := off) rfl 0 (.int .i64 k0) rfl
      simpa [Go.WideShapes.add_plain] using this
    have f1 : w2.cell? ⟨g, off + 1, none⟩ = some (.int .i64 n0) := by
      have := hrow2.cells (g := g) (off := off) rfl 1 (.int .i64 n0) rfl
      simpa [Go.WideShapes.add_plain] using this
    have hsub := hrow.sub 1 (rest.length + 1) cap (by omega) (Nat.le_refl _) (by rw [← hlen]; exact hnc) (Nat.le_refl _)
    obtain ⟨oa', hfv⟩ : ∃ oa' : Option Addr, oa' = if cap = 1 then some ⟨g, off, none⟩ else (some (⟨g, off, none⟩ : Addr)).map (·.add (1 * 2)) := ⟨_, rfl⟩
    obtain ⟨c', hc'⟩ : ∃ c', c' = cap - 1 := ⟨_, rfl⟩
    have hown : (Value.slice oa' rest.length c').ownBlock = some g := by rw [hfv]; exact sub_own _ _ _ _ _ _
    obtain ⟨n1, hn1⟩ : ∃ n1, n1 = rest.length + 1 := ⟨_, rfl⟩
    have hsl : ∀ W : World, (Instr.slice 65 (.slice (some ⟨g, off, none⟩) n1 cap) (some (.int .i64 1)) none none).run Try.prog W = .ok (.slice oa' rest.length c') W := fun W => by rw [hfv, hn1, hc']; exact run_tail g off rest.length cap W
    have hn0 : ((n1 : Int) == 0) = false := by simp; omega
    have hn2 : (0 : Int) < (n1 : Int) := by omega
    have hn3 : (1 : Int) ≤ (n1 : Int) := by omega
    rw [List.length_cons, ← hn1] at c1 hq2
    have HSUB : Hid (rowAt w 99 2 (.slice oa' rest.length c') rest.length (fateCells rest)) := Lib.hid (by
      rw [hfv, hc']
      have e : (((fateCells ((k0, n0) :: rest)).drop (1 * 2)).take ((rest.length + 1 - 1) * 2)) = fateCells rest := by
        rw [fateCells_cons]
        show (fateCells rest).take (rest.length * 2) = fateCells rest
        exact List.take_of_length_le (Nat.le_of_eq (fateCells_length rest))
      rw [e] at hsub
      simpa using hsub)
    have HOWN := Lib.hid hown
    have HG : Hid (g ≠ q ∧ g < w.heap.size) := Lib.hid ⟨hgq, hglt⟩
    have HFS := Lib.hid hfs
    have HQ2 := Lib.hid hq2
    clear hrow hrow2 hsub hfv hown hfs hgw hlen hnc hglt hgq hn1 hq2 hc'
    go_upto_region 5 with fail
    obtain ⟨w3, hw3⟩ : ∃ w3 : World, w3 = w2.alloc (.cells #[.int .i64 k0, .int .i64 n0] 99) := ⟨_, rfl⟩
    obtain ⟨r', hr'⟩ : ∃ r', r' = w2.heap.size := ⟨_, rfl⟩
    have hx3 : w3.heap[r']? = some (.cells #[.int .i64 k0, .int .i64 n0] 99 (0, 0)) := by rw [hw3, hr']; exact alloc_cells _ _ _
    have hq3 : w3.heap[q]? = some (.cells #[.map (some mb), .slice (some ⟨g, off, none⟩) n1 cap, .int .i64 st'] 122 (0, 0)) := by
      rw [hw3]
      exact (Below.heap_alloc _ _ q (Nat.lt_of_lt_of_le hqlt HO2.out.size)).trans HQ2.out
    have hr3 : w3.heap[r]? = some (.cells #[.int .i64 0, .int .i64 0] 99 (0, 0)) := by rw [hw3]; exact (Below.heap_alloc _ _ r (Array.getElem?_eq_some_iff.1 hr2).1).trans hr2
    have ho3 : Only (fun k => k = q) w w3 := by rw [hw3]; exact HO2.out.trans (only_alloc (fun k => k = q) _ _) (fun _ _ h => h)
    have hrr : r' ≠ r ∧ r' ≠ q ∧ w.heap.size ≤ r' := by
      have h1 := (Array.getElem?_eq_some_iff.1 hr2).1
      have h2 := HO2.out.size
      omega
    rw [← hw3, ← hr']
    clear hw3 hr' hr2 HQ2 HO2 c1 z1 r0 r1 y0 y1 f0 f1
    have c1 : w3.cell? ⟨q, 1, none⟩ = some (.slice (some ⟨g, off, none⟩) n1 cap) := cell_of hq3 rfl
    have z1 : w3.frozen? ⟨q, 1, none⟩ = false := free_of hq3 _
    go_upto_region 6 with fail
    obtain ⟨w4, hw4⟩ : ∃ w4 : World, w4 = w3.setCell ⟨q, 1, none⟩ (.slice oa' rest.length c') := ⟨_, rfl⟩
    have hx4 : w4.heap[r']? = some (.cells #[.int .i64 k0, .int .i64 n0] 99 (0, 0)) := by rw [hw4]; exact (Below.heap_setCell _ _ _ _ hrr.2.1).trans hx3
    have hr4 : w4.heap[r]? = some (.cells #[.int .i64 0, .int .i64 0] 99 (0, 0)) := by rw [hw4]; exact (Below.heap_setCell _ _ _ _ hrq).trans hr3
    have hq4 : w4.heap[q]? = some (.cells #[.map (some mb), .slice oa' rest.length c', .int .i64 st'] 122 (0, 0)) := by rw [hw4]; exact heap_setCell_here _ hq3
    have ho4 : Only (fun k => k = q) w w4 := by rw [hw4]; exact ho3.trans (only_setCell (fun k => k = q) _ _ _ _ rfl) (fun _ _ h => h)
    rw [← hw4]
    clear hw4 hx3 hq3 hr3 ho3 c1 z1
    have HO4 := Lib.hid ho4
    have HQ4 := Lib.hid hq4
    have HRR := Lib.hid hrr
    clear ho4 hq4 hrr hsl
    have x0 : w4.cell? ⟨r', 0, none⟩ = some (.int .i64 k0) := cell_of hx4 rfl
    have x1 : w4.cell? ⟨r', 1, none⟩ = some (.int .i64 n0) := cell_of hx4 rfl
    have r0 : w4.cell? ⟨r, 0, none⟩ = some (.int .i64 0) := cell_of hr4 rfl
    have r1 : w4.cell? ⟨r, 1, none⟩ = some (.int .i64 0) := cell_of hr4 rfl
    have y0 : w4.frozen? ⟨r, 0, none⟩ = false := free_of hr4 _
    have y1 : w4.frozen? ⟨r, 1, none⟩ = false := free_of hr4 _
    obtain ⟨b1, hb1⟩ : ∃ b, ((k0 == 1) : Bool) = b := ⟨_, rfl⟩
    obtain ⟨b2, hb2⟩ : ∃ b, ((k0 == 2) : Bool) = b := ⟨_, rfl⟩
    have HB : Hid ((k0 = 1 ↔ b1 = true) ∧ (k0 = 2 ↔ b2 = true)) := Lib.hid ⟨by rw [← hb1]; simp, by rw [← hb2]; simp⟩
    have hend : ∀ (w5 : World) (er : Int), w5 = (w4.setCell ⟨r, 0, none⟩ (.int .i64 k0)).setCell ⟨r, 1, none⟩ (.int .i64 n0) → er = d.fate.1 →
        w5.cell? ⟨r, 0, none⟩ = some (.int .i64 k0) ∧ w5.cell? ⟨r, 1, none⟩ = some (.int .i64 n0) ∧ StepIs w S q mb L d (.returned (.tuple #[.agg #[.int .i64 k0, .int .i64 n0], .int .i64 er])) w5 := fun w5 er hw5 her => by
      have hr5 : w5.heap[r]? = some (.cells #[.int .i64 k0, .int .i64 n0] 99 (0, 0)) := by rw [hw5]; exact heap_setCell_here _ (heap_setCell_here _ hr4)
      have hq5 : w5.heap[q]? = w4.heap[q]? := by rw [hw5]; exact (Below.heap_setCell _ _ _ _ (fun e => hrq e.symm)).trans (Below.heap_setCell _ _ _ _ (fun e => hrq e.symm))
      have ho5 : Only (fun k => k = r) w4 w5 := by rw [hw5]; exact (only_setCell (fun k => k = r) _ _ _ _ rfl).trans (only_setCell (fun k => k = r) _ _ _ _ rfl) (fun _ _ h => h)
      have ho : Only (fun k => k = q) w w5 := HO4.out.trans ho5 (fun i hi he => by omega)
      refine ⟨cell_of hr5 rfl, cell_of hr5 rfl, k0, n0, .slice oa' rest.length c', by rw [her], ?_, step_end (rest := rest) H.out ho (hq5.trans ?_) (by rw [HFS.out]; rfl) (fun k hk => by rw [HOWN.out] at hk; exact hk) HSUB.out, ho⟩
      · simp only [Dk.fate, HFS.out]
        split
        · rfl
        · split <;> rfl
      · rw [HQ4.out, hst, HST.out]
    have HEND := Lib.hid hend
    clear hend
    cases b1
    · cases b2
      · have he : (0 : Int) = d.fate.1 := by
          have h1 : ¬ k0 = 1 := fun h => by cases HB.out.1.1 h
          have h2 : ¬ k0 = 2 := fun h => by cases HB.out.2.1 h
          simp [Dk.fate, HFS.out, h1, h2]
        have HE := Lib.hid he
        clear he
        go_wp2_with fail
        obtain ⟨s0, s1, hx⟩ := HEND.out _ 0 rfl HE.out
        exact bodyPost_ret (v := .tuple #[.agg #[.int .i64 k0, .int .i64 n0], .int .i64 0]) (by simp [results, Try.results119, go_sem, s0, s1]) rfl hx
      · have he : (6 : Int) = d.fate.1 := by
          have h2 : k0 = 2 := HB.out.2.2 rfl
          simp [Dk.fate, HFS.out, h2]
        have HE := Lib.hid he
        clear he
        go_wp2_with fail
        obtain ⟨s0, s1, hx⟩ := HEND.out _ 6 rfl HE.out
        exact bodyPost_ret (v := .tuple #[.agg #[.int .i64 k0, .int .i64 n0], .int .i64 6]) (by simp [results, Try.results119, go_sem, s0, s1]) rfl hx
    · have he : (5 : Int) = d.fate.1 := by
        have h1 : k0 = 1 := HB.out.1.2 rfl
        simp [Dk.fate, HFS.out, h1]
      have HE := Lib.hid he
      clear he
      go_wp2_with fail
      obtain ⟨s0, s1, hx⟩ := HEND.out _ 5 rfl HE.out
      exact bodyPost_ret (v := .tuple #[.agg #[.int .i64 k0, .int .i64 n0], .int .i64 5]) (by simp [results, Try.results119, go_sem, s0, s1]) rfl hx
end Go.Proofs.Ytmkjejngnahpeaa
/- Disk: a name is asked for; a file is found. -/
namespace Go.Proofs.Ytmkjejngnahpeaa
open Go Go.Maps Go.RowKit

section
variable {w : World} {S : Nat → Prop} {q mb : Nat} {fv : Value} {L : List Fl} {d : Dk}
theorem DiskIs.at_some (h : DiskIs w S q mb fv L d) {s : List UInt8} {f : F0} (ha : d.at s = some f) : ∃ A x B, L = A ++ x :: B ∧ x.f = f ∧ x.f.name = s := by
  have hm : f ∈ L.map (·.f) := by rw [h.files]; exact List.mem_of_find?_eq_some ha
  obtain ⟨x, hx, rfl⟩ := List.mem_map.1 hm
  obtain ⟨A, B, rfl⟩ := List.append_of_mem hx
  exact ⟨A, x, B, rfl, rfl, by have := List.find?_some ha; simpa using this⟩
theorem DiskIs.at_none (h : DiskIs w S q mb fv L d) {s : List UInt8} (ha : d.at s = none) : ∀ x ∈ L, x.f.name ≠ s := fun x hx he => by
  have hm : x.f ∈ d.files := by rw [← h.files]; exact List.mem_map_of_mem hx
  have := List.find?_eq_none.1 ha x.f hm
  simp [he] at this
theorem DiskIs.lookup_some (h : DiskIs w S q mb fv L d) {x : Fl} (hx : x ∈ L) {nm : ByteArray} (hs : nm.size ≤ maxLen) (hn : x.f.name = nm.data.toList) :
    (Instr.lookup 120 (.map (some mb)) (.string nm) true).run Try.prog w = .ok (.tuple #[.pointer (some ⟨x.blk, 0, none⟩), .bool true]) w := by
  obtain ⟨D, ho, hsz, hd⟩ := h.look
  have hz : (zeroValue 176).run Try.prog w = .ok (.pointer none) w := by kernel_rfl
  obtain ⟨v, ps, hrun, hv⟩ := ho.look_ok (t := 120) (string_keyed Try.underlying9) Try.underlying120 hz ptrElem_nil (WideMaps.keyOf_string_mk (P := Try.prog) Try.underlying9 hs)
  have hm : (x.f.name, x.blk) ∈ L.map fun x => (x.f.name, x.blk) := List.mem_map_of_mem (f := fun x => (x.f.name, x.blk)) hx
  have hg := hd.get _ hm .nil
  have hh := (hd.has nm.data.toList).2 ⟨_, hm, hn⟩
  rw [← hn] at hv hrun hh
  rw [hg] at hv
  obtain rfl := ptrElem_inv hv
  rw [hh] at hrun
  exact hrun
theorem DiskIs.lookup_none (h : DiskIs w S q mb fv L d) {nm : ByteArray} (hs : nm.size ≤ maxLen) (hn : ∀ x ∈ L, x.f.name ≠ nm.data.toList) :
    (Instr.lookup 120 (.map (some mb)) (.string nm) true).run Try.prog w = .ok (.tuple #[.pointer none, .bool false]) w := by
  obtain ⟨D, ho, hsz, hd⟩ := h.look
  have hz : (zeroValue 176).run Try.prog w = .ok (.pointer none) w := by kernel_rfl
  obtain ⟨v, ps, hrun, hv⟩ := ho.look_ok (t := 120) (string_keyed Try.underlying9) Try.underlying120 hz ptrElem_nil (WideMaps.keyOf_string_mk (P := Try.prog) Try.underlying9 hs)
  have hh : Maps.has D (.string nm.data.toList) = false := by
    cases hb : Maps.has D (.string nm.data.toList) with
    | false => rfl
    | true =>
      obtain ⟨f, hf, he⟩ := (hd.has _).1 hb
      obtain ⟨x, hx, rfl⟩ := List.mem_map.1 hf
      exact absurd he (hn x hx)
  rw [hh] at hrun
  rw [atKey_of_not_has hh] at hv
  obtain rfl := ptrElem_inv_nil hv
  exact hrun
end
theorem map_nil_ne (mb : Nat) (W : World) : (binOp .eql 120 (.map (some mb)) (.map none)).run Try.prog W = .ok (.bool false) W := by kernel_rfl
set_option maxHeartbeats 400000 in
theorem none_b {w : World} {S : Nat → Prop} {q mb : Nat} {fv : Value} {L : List Fl} {d : Dk} (h : DiskIs w S q mb fv L d) :
    Calls Try.prog 108 #[.pointer (some ⟨q, 0, none⟩)] w fun e w' => e = .returned (.bool false) ∧ w' = w := by
  have c0 : w.cell? ⟨q, 0, none⟩ = some (.map (some mb)) := cell_of h.head rfl
  have hm := map_nil_ne mb
  clear h
  go_enter Try.func108, Try.ntmps108
  go_wp2_with fail
  go_ret
  exact ⟨rfl, rfl⟩
def askE (s : List UInt8) : Int := if nameOk s = true then 0 else 2
set_option maxHeartbeats 400000 in
theorem asked_b {w : World} {S : Nat → Prop} {q mb : Nat} {fv : Value} {L : List Fl} {d : Dk} (h : DiskIs w S q mb fv L d) (nm : ByteArray) (hs : nm.size ≤ maxLen) :
    Calls Try.prog 118 #[.pointer (some ⟨q, 0, none⟩), .string nm] w fun e w' => e = .returned (.int .i64 (askE nm.data.toList)) ∧ w' = w := by
  go_enter Try.func118, Try.ntmps118
  go_wp2_with fail
  refine (none_b h).mono ?_
  rintro e w' ⟨rfl, rfl⟩
  go_wp2_with fail
  refine (named_any nm _ hs).mono ?_
  rintro e w' ⟨rfl, rfl⟩
  obtain ⟨b, hb⟩ : ∃ b, nameOk nm.data.toList = b := ⟨_, rfl⟩
  have HE : Hid (askE nm.data.toList = if b = true then 0 else 2) := Lib.hid (by rw [askE, hb])
  rw [hb]
  clear hb
  cases b
  · go_wp2_with fail
    go_ret
    exact ⟨by rw [HE.out]; rfl, rfl⟩
  · go_wp2_with fail
    go_ret
    exact ⟨by rw [HE.out]; rfl, rfl⟩
def FindIs (L : List Fl) (d : Dk) (s : List UInt8) (e : Ending) : Prop :=
  (nameOk s = false ∧ e = .returned (.tuple #[.pointer none, .int .i64 2])) ∨ (nameOk s = true ∧ d.find s = none ∧ e = .returned (.tuple #[.pointer none, .int .i64 171])) ∨
  (nameOk s = true ∧ ∃ A x B, L = A ++ x :: B ∧ x.f.name = s ∧ x.f.there = true ∧ d.find s = some x.f ∧ e = .returned (.tuple #[.pointer (some ⟨x.blk, 0, none⟩), .int .i64 0]))
set_option maxHeartbeats 400000 in
theorem find_b {w : World} {S : Nat → Prop} {q mb : Nat} {fv : Value} {L : List Fl} {d : Dk} (h : DiskIs w S q mb fv L d) (nm : ByteArray) (hs : nm.size ≤ maxLen) :
    Calls Try.prog 116 #[.pointer (some ⟨q, 0, none⟩), .string nm] w fun e w' => FindIs L d nm.data.toList e ∧ w' = w := by
  have c0 : w.cell? ⟨q, 0, none⟩ = some (.map (some mb)) := cell_of h.head rfl
  go_enter Try.func116, Try.ntmps116
  go_wp2_with fail
  refine (asked_b h nm hs).mono ?_
  rintro e w' ⟨rfl, rfl⟩
  obtain ⟨s, hss⟩ : ∃ s, nm.data.toList = s := ⟨_, rfl⟩
  cases hn : nameOk s with
  | false =>
    have hF : FindIs L d nm.data.toList (.returned (.tuple #[.pointer none, .int .i64 2])) := by rw [hss]; exact (.inl ⟨hn, rfl⟩)
    have HF := Lib.hid hF
    rw [hss, show askE s = 2 by simp [askE, hn]]
    clear h hF hn hss
    go_wp2_with fail
    go_ret2
    exact ⟨HF.out, rfl⟩
  | true =>
    rw [hss, show askE s = 0 by simp [askE, hn]]
    cases ha : d.at s with
    | none =>
      have hl := h.lookup_none hs (by rw [hss]; exact h.at_none ha)
      have hF : FindIs L d nm.data.toList (.returned (.tuple #[.pointer none, .int .i64 171])) := by rw [hss]; exact (.inr (.inl ⟨hn, by simp [Dk.find, ha], rfl⟩))
      have HF := Lib.hid hF
      clear h hF hn hss ha
      go_wp2_with fail
      go_ret2
      exact ⟨HF.out, rfl⟩
    | some f =>
      obtain ⟨A, x, B, hL, rfl, hxn⟩ := h.at_some ha
      have hl := h.lookup_some (x := x) (by rw [hL]; simp) hs (by rw [hss]; exact hxn)
      have c2 : w'.cell? ⟨x.blk, 2, none⟩ = some (.bool x.f.there) := cell_of (h.each x (by rw [hL]; simp)).cells rfl
      cases ht : x.f.there with
      | false =>
        have hF : FindIs L d nm.data.toList (.returned (.tuple #[.pointer none, .int .i64 171])) := by rw [hss]; exact (.inr (.inl ⟨hn, by simp [Dk.find, ha, ht], rfl⟩))
        have HF := Lib.hid hF
        rw [ht] at c2
        clear h hF hn hss ha hL hxn ht
        go_wp2_with fail
        go_ret2
        exact ⟨HF.out, rfl⟩
      | true =>
        have hF : FindIs L d nm.data.toList (.returned (.tuple #[.pointer (some ⟨x.blk, 0, none⟩), .int .i64 0])) := by rw [hss]; exact (.inr (.inr ⟨hn, A, x, B, hL, hxn, ht, by simp [Dk.find, ha, ht], rfl⟩))
        have HF := Lib.hid hF
        rw [ht] at c2
        clear h hF hn hss ha hL hxn ht
        go_wp2_with fail
        go_ret2
        exact ⟨HF.out, rfl⟩
end Go.Proofs.Ytmkjejngnahpeaa
/- Disk: Sync. -/
namespace Go.Proofs.Ytmkjejngnahpeaa
open Go Go.Maps Go.RowKit

/-- S and what is new -/
def Wid (S : Nat → Prop) (w w' : World) : Nat → Prop := fun k => S k ∨ (w.heap.size ≤ k ∧ k < w'.heap.size)
/-- what a call leaves: its error, the disk as it stands then; what is not the disk's has not turned -/
def OpIs (w : World) (S : Nat → Prop) (q : Nat) (r : Int × Dk) (e : Ending) (w' : World) : Prop :=
  e = .returned (.int .i64 r.1) ∧ DiskAt w' (Wid S w w') q r.2 ∧ Only S w w'
section
variable {w : World} {S : Nat → Prop} {q mb : Nat} {fv : Value} {L : List Fl} {d : Dk}
theorem DiskIs.q_mem (h : DiskIs w S q mb fv L d) : S q := h.foot q (by simp [diskBlocks])
theorem DiskIs.x_mem {A B : List Fl} {x : Fl} (h : DiskIs w S q mb fv (A ++ x :: B) d) : ∀ k ∈ x.blocks, S k := fun k hk =>
  h.foot k ((blocks_perm q mb fv A x B).mem_iff.2 (List.mem_append_left _ hk))
theorem DiskIs.x_ne {A B : List Fl} {x : Fl} (h : DiskIs w S q mb fv (A ++ x :: B) d) : ∀ k ∈ x.blocks, k ≠ q := fun k hk he => by
  have hp := (blocks_perm q mb fv A x B).nodup_iff.1 h.apart
  exact not_mem_of_nodup_append hp hk (by rw [he]; simp [diskBlocks])
theorem OpIs.same (h : DiskIs w S q mb fv L d) (n : Int) : OpIs w S q (n, d) (.returned (.int .i64 n)) w :=
  ⟨rfl, ⟨mb, fv, L, h.wider (fun k hk => .inl hk) (fun k hk => by
    rcases hk with hk | hk
    · exact h.low k hk
    · omega)⟩, Only.refl _ _⟩
theorem turn_list {A B : List Fl} {x x' : Fl} {d : Dk} {s : List UInt8} (t : F0 → F0) (hf : (A ++ x :: B).map (·.f) = d.files) (hs : (d.files.map (·.name)).Pairwise (· < ·)) (hx : x.f.name = s) (ht : x'.f = t x.f) :
    (d.turn s t).files = A.map (·.f) ++ x'.f :: B.map (·.f) := by
  have hnd : (d.files.map (·.name)).Nodup := hs.imp (fun {a b} hab he => by rw [he] at hab; exact List.lt_irrefl _ hab)
  rw [← hf, List.map_append, List.map_cons, List.map_append, List.map_cons] at hnd
  have h2 := List.nodup_append.1 hnd
  have hA : ∀ y ∈ A, y.f.name ≠ s := fun y hy he => h2.2.2 y.f.name (List.mem_map_of_mem (List.mem_map_of_mem hy)) x.f.name (by simp) (by rw [he, hx])
  have hB : ∀ y ∈ B, y.f.name ≠ s := fun y hy he => (List.nodup_cons.1 h2.2.1).1 (by rw [hx, ← he]; exact List.mem_map_of_mem (List.mem_map_of_mem hy))
  show d.files.map _ = _
  rw [← hf, List.map_append, List.map_cons, List.map_append, List.map_cons, List.map_map, List.map_map, if_pos hx, ht]
  congr 1
  · exact List.map_congr_left fun y hy => by simp [hA y hy]
  · congr 1
    exact List.map_congr_left fun y hy => by simp [hB y hy]
end
theorem file_done {w w2 W : World} {S : Nat → Prop} {q mb : Nat} {fv' : Value} {A B : List Fl} {x x' : Fl} {d1 : Dk} (ho : Only (fun k => k = q) w w2) (h2 : DiskIs w2 S q mb fv' (A ++ x :: B) d1) (hw : Only (fun k => k ∈ x.blocks) w2 W)
    (hb : x'.blk = x.blk) (hn : x'.f.name = x.f.name) (hx : FlAt W x') (hv : ∀ k, x'.bv.ownBlock = some k → x.bv.ownBlock = some k ∨ (w2.heap.size ≤ k ∧ k < W.heap.size)) {s : List UInt8} {t : F0 → F0} (hs : x.f.name = s) (ht : x'.f = t x.f) (n : Int) :
    OpIs w S q (n, d1.turn s t) (.returned (.int .i64 n)) W := by
  have h3 := h2.file_turn hb hn hw hx hv
  have e : ({ d1 with files := A.map (·.f) ++ x'.f :: B.map (·.f) } : Dk) = d1.turn s t := by
    rw [← turn_list t h2.files h2.sorted hs ht]
    rfl
  rw [e] at h3
  refine ⟨rfl, ⟨mb, fv', _, h3.wider (fun k hk => ?_) (fun k hk => ?_)⟩, ?_⟩
  · rcases hk with hk | hk
    · exact .inl hk
    · exact .inr ⟨Nat.le_trans ho.size hk.1, hk.2⟩
  · rcases hk with hk | hk
    · exact Nat.lt_of_lt_of_le (h2.low k hk) hw.size
    · exact hk.2
  · exact (ho.mono (fun i _ hi => by rw [hi]; exact h2.q_mem)).trans hw (fun i _ hi => h2.x_mem i hi)
theorem FlAt.own_ne {w : World} {S : Nat → Prop} {q mb : Nat} {fv : Value} {A B : List Fl} {x : Fl} {d : Dk} (h : DiskIs w S q mb fv (A ++ x :: B) d) : ∀ k, x.bv.ownBlock = some k → k ≠ x.blk := fun k hk he => by
  have hp := (List.nodup_append.1 ((blocks_perm q mb fv A x B).nodup_iff.1 h.apart)).1
  simp only [Fl.blocks, hk, Option.toList_some, List.nodup_cons, List.mem_singleton] at hp
  exact hp.1 he.symm
/-- a file's lasting part is set -/
theorem set_lasts {w w2 : World} {S : Nat → Prop} {q mb : Nat} {fv' : Value} {A B : List Fl} {x : Fl} {d1 : Dk} (ho : Only (fun k => k = q) w w2) (h2 : DiskIs w2 S q mb fv' (A ++ x :: B) d1) {l' : Nat} (hl : l' ≤ x.f.bytes.length) {v : Int} (hv : v = (l' : Int))
    {s : List UInt8} {t : F0 → F0} (hs : x.f.name = s) (ht : t x.f = { x.f with lasts := l' }) (n : Int) :
    OpIs w S q (n, d1.turn s t) (.returned (.int .i64 n)) ((w2.setCell ⟨x.blk, 1, none⟩ (.int .i64 v)).drew) := by
  subst hv
  have hx := h2.each x (by simp)
  have hset : Only (fun k => k = x.blk) w2 (w2.setCell ⟨x.blk, 1, none⟩ (.int .i64 l')).drew := only_drew (only_setCell (fun k => k = x.blk) w2 x.blk 1 _ rfl)
  refine file_done (x' := ⟨{ x.f with lasts := l' }, x.blk, x.bv⟩) ho h2 (hset.mono (fun i _ hi => by rw [hi]; simp [Fl.blocks])) rfl rfl ⟨?_, ?_, hl, hx.size⟩ (fun k hk => .inl hk) hs ht.symm n
  · exact heap_setCell_here (w := w2) _ hx.cells
  · exact hx.row.kept (fun k hk => hset.block k (hx.row.lt k hk) (FlAt.own_ne h2 k hk))
set_option maxRecDepth 100000 in
set_option maxHeartbeats 1000000 in
theorem sync_b {w : World} {S : Nat → Prop} {q : Nat} {d : Dk} (h : DiskAt w S q d) (nm : ByteArray) (hs : nm.size ≤ maxLen) :
    Calls Try.prog 47 #[.pointer (some ⟨q, 0, none⟩), .string nm] w fun e w' => OpIs w S q (d.sync nm.data.toList) e w' := by
  obtain ⟨mb, fv, L, h⟩ := h
  go_enter Try.func47, Try.ntmps47
  go_wp2_with fail
  refine (find_b h nm hs).mono ?_
  rintro e w' ⟨hF, rfl⟩
  rcases hF with ⟨hn, rfl⟩ | ⟨hn, hf, rfl⟩ | ⟨hn, A, x, B, rfl, hxn, hxt, hf, rfl⟩
  · have HO : Hid (OpIs w' S q (d.sync nm.data.toList) (.returned (.int .i64 2)) w') := Lib.hid (by
      rw [show d.sync nm.data.toList = (2, d) by simp [Dk.sync, hn]]
      exact OpIs.same h 2)
    clear h hn
    go_wp2_with fail
    go_ret
    exact HO.out
  · have HO : Hid (OpIs w' S q (d.sync nm.data.toList) (.returned (.int .i64 171)) w') := Lib.hid (by
      rw [show d.sync nm.data.toList = (171, d) by simp [Dk.sync, hn, hf]]
      exact OpIs.same h 171)
    clear h hn hf
    go_wp2_with fail
    go_ret
    exact HO.out
  · have H := Lib.hid h
    have HN := Lib.hid (And.intro hn hf)
    clear h hn hf
    go_wp2_with fail
    refine (step_b H.out).mono ?_
    rintro e w1 ⟨kd, kp, fv', rfl, hkp, h1, ho1⟩
    obtain ⟨er, her⟩ : ∃ er, d.fate.1 = er := ⟨_, rfl⟩
    rw [her]
    have H1 := Lib.hid h1
    have HO1 := Lib.hid ho1
    have HE := Lib.hid (And.intro hkp her)
    clear h1 ho1 hkp her
    go_upto_region 5 with fail
    obtain ⟨w2, hw2⟩ : ∃ w2 : World, w2 = w1.alloc (.cells #[.int .i64 kd, .int .i64 kp] 99) := ⟨_, rfl⟩
    obtain ⟨r, hr⟩ : ∃ r, r = w1.heap.size := ⟨_, rfl⟩
    have hr2 : w2.heap[r]? = some (.cells #[.int .i64 kd, .int .i64 kp] 99 (0, 0)) := by rw [hw2, hr]; exact alloc_cells _ _ _
    have h2 : DiskIs w2 S q mb fv' (A ++ x :: B) d.next := by rw [hw2]; exact H1.out.below ((Below.refl _ _).alloc (Nat.le_refl _) _)
    have ho2 : Only (fun k => k = q) w' w2 := by rw [hw2]; exact HO1.out.trans (only_alloc (fun k => k = q) _ _) (fun _ _ h => h)
    rw [← hw2, ← hr]
    clear hw2 hr H1 HO1
    have hx := h2.each x (by simp)
    obtain ⟨oa, c, hbv, hnc⟩ := hx.row.shape
    have hxc := hx.cells
    obtain ⟨n, hn⟩ : ∃ n, x.f.bytes.length = n := ⟨_, rfl⟩
    obtain ⟨l, hl⟩ : ∃ l, x.f.lasts = l := ⟨_, rfl⟩
    have hln : l ≤ n ∧ n ≤ 16777216 := by
      have h3 := hx.lasts
      have h4 := hx.size
      omega
    rw [hbv, hn, hl] at hxc
    have k0 : w2.drew.cell? ⟨x.blk, 0, none⟩ = some (.slice oa n c) := cell_of (w := w2) hxc rfl
    have k1 : w2.drew.cell? ⟨x.blk, 1, none⟩ = some (.int .i64 l) := cell_of (w := w2) hxc rfl
    have z1 : w2.drew.frozen? ⟨x.blk, 1, none⟩ = false := free_of (w := w2) hxc _
    have y1 : w2.drew.cell? ⟨r, 1, none⟩ = some (.int .i64 kp) := cell_of (w := w2) hr2 rfl
    obtain ⟨m, hm⟩ : ∃ m, m = n - l := ⟨_, rfl⟩
    have hsub : wrap64 ((n : Int) - (l : Int)) = (m : Int) := by unfold wrap64; omega
    have H2 := Lib.hid h2
    have HO2 := Lib.hid ho2
    have HX := Lib.hid hxc
    have HBV := Lib.hid (And.intro hbv (And.intro hn hl))
    have HXR := Lib.hid hx
    have HM := Lib.hid hm
    clear h2 ho2 hxc hbv hx hm hn hl hr2
    go_region
    by_cases h0 : er = 0
    · subst h0
      have HO : Hid (∀ v : Int, v = (n : Int) → OpIs w' S q (d.sync nm.data.toList) (.returned (.int .i64 0)) (w2.setCell ⟨x.blk, 1, none⟩ (.int .i64 v)).drew) := Lib.hid (fun v hv => by
        have := set_lasts HO2.out H2.out (l' := n) (by rw [HBV.out.2.1]; exact Nat.le_refl _) hv (s := nm.data.toList) (t := fun f => { f with lasts := f.bytes.length }) hxn (by rw [HBV.out.2.1]) 0
        simpa [Dk.sync, HN.out.1, HN.out.2, HE.out.2] using this)
      clear hsub
      go_wp2_with fail
      go_ret
      exact HO.out _ (by omega)
    · have hb0 : (er != 0) = true := by simpa using h0
      have HO : Hid (∀ v : Int, v = ((l + min (n - l) d.fate.2 : Nat) : Int) → OpIs w' S q (d.sync nm.data.toList) (.returned (.int .i64 er)) (w2.setCell ⟨x.blk, 1, none⟩ (.int .i64 v)).drew) := Lib.hid (fun v hv => by
        have := set_lasts HO2.out H2.out (l' := l + min (n - l) d.fate.2) (by rw [HBV.out.2.1]; omega) hv (s := nm.data.toList) (t := fun f => { f with lasts := f.lasts + min (f.bytes.length - f.lasts) d.fate.2 }) hxn (by simp only [HBV.out.2.1, HBV.out.2.2]) er
        simpa [Dk.sync, HN.out.1, HN.out.2, HE.out.2, h0] using this)
      have HK := Lib.hid HE.out.1
      clear hsub h0
      go_wp2_with fail
      all_goals (go_ret; refine HO.out _ ?_; have := HK.out; omega)
end Go.Proofs.Ytmkjejngnahpeaa
/- Disk: Append. -/
namespace Go.Proofs.Ytmkjejngnahpeaa
open Go Go.Maps Go.RowKit

theorem info_u8 : (Try.prog.info? 5).map (fun i => (i.zero, i.size, i.bytes)) = some (some (.int .u8 0), 1, 1) := by kernel_rfl
/-- v holds the bytes l -/
abbrev bytesAt (w : World) (v : Value) (l : List UInt8) : Prop := rowAt w 5 1 v l.length (byteCells l)
theorem rowAt.take {w : World} {e : TypeId} {size : Nat} {oa : Option Addr} {n cap : Nat} {xs : List Value} (h : rowAt w e size (.slice oa n cap) n xs) (k : Nat) (hk : k ≤ n) : rowAt w e size (.slice oa k cap) k (xs.take (k * size)) := by
  refine ⟨by rw [List.length_take, h.1]; exact Nat.min_eq_left (Nat.mul_le_mul_right _ hk), ?_⟩
  rcases h.2 with ⟨hv, h0⟩ | ⟨g, off, c, cur, fr, hv, hg, hnc, hcm, hcs, hfr, ht⟩
  · simp only [Value.slice.injEq] at hv
    obtain ⟨rfl, -, rfl⟩ := hv
    obtain rfl : k = 0 := by omega
    exact .inl ⟨rfl, rfl⟩
  · simp only [Value.slice.injEq] at hv
    obtain ⟨rfl, -, rfl⟩ := hv
    refine .inr ⟨g, off, cap, cur, fr, rfl, hg, by omega, hcm, hcs, hfr, ?_⟩
    rw [← ht, List.take_take, Nat.min_eq_left (Nat.mul_le_mul_right _ hk)]
theorem rowAt.map0 {w : World} {e : TypeId} {size : Nat} {oa : Option Addr} {n cap : Nat} {xs : List Value} (h : rowAt w e size (.slice oa n cap) n xs) : oa.map (fun x => x.add 0) = oa ∧ n ≤ cap := by
  rcases h.2 with ⟨hv, h0⟩ | ⟨g, off, c, cur, fr, hv, _, hn, _⟩
  · simp only [Value.slice.injEq] at hv
    rw [hv.1]
    exact ⟨rfl, by omega⟩
  · simp only [Value.slice.injEq] at hv
    rw [hv.1, hv.2.2]
    exact ⟨by simp [Go.WideShapes.add_plain], hn⟩
theorem Src.of_row {P : Program} {w : World} {size : Nat} {u e e2 : TypeId} (hu : P.underlying u = some (.slice e)) {v : Value} {n : Nat} {xs : List Value} (h : rowAt w e2 size v n xs) (h1 : ∀ v ∈ xs, v.oneCell' = true) : Src P w size u v n xs := by
  obtain ⟨oa, cap, rfl, _⟩ := h.shape
  cases oa with
  | none =>
    rcases h.2 with ⟨hv, h0⟩ | ⟨g, off, c, cur, fr, hv, _⟩
    · subst h0
      have hx : xs = [] := List.eq_nil_of_length_eq_zero (by simpa using h.1)
      subst hx
      exact Src.none hu _
    · simp at hv
  | some ad =>
    rcases h.2 with ⟨hv, h0⟩ | ⟨g, off, c, cur, fr, hv, _⟩
    · simp at hv
    · simp only [Value.slice.injEq, Option.some.injEq] at hv
      obtain ⟨rfl, -, -⟩ := hv
      exact Src.slice hu _ n cap xs h.1 (fun j u hj => h.cells rfl j u hj) h1
/-- v holds the bytes l, to be read -/
abbrev bytesRd (w : World) (v : Value) (l : List UInt8) : Prop := readAt w 1 v l.length (byteCells l)
theorem byteCells_take (l : List UInt8) (k : Nat) : (byteCells l).take k = byteCells (l.take k) := by simp [byteCells, List.map_take]
theorem byteCells_append (a b : List UInt8) : byteCells a ++ byteCells b = byteCells (a ++ b) := by simp [byteCells]
theorem bytesAt.take {w : World} {oa : Option Addr} {c : Nat} {l : List UInt8} (h : bytesAt w (.slice oa l.length c) l) (k : Nat) (hk : k ≤ l.length) : bytesAt w (.slice oa k c) (l.take k) := by
  have := rowAt.take h k hk
  rw [Nat.mul_one, byteCells_take] at this
  have e : (l.take k).length = k := by rw [List.length_take]; omega
  show rowAt w _ 1 _ (l.take k).length _
  rw [e]
  exact this
theorem bytesRd.take {w : World} {oa : Option Addr} {c : Nat} {l : List UInt8} (h : bytesRd w (.slice oa l.length c) l) (k : Nat) (hk : k ≤ l.length) : bytesRd w (.slice oa k c) (l.take k) := by
  have := readAt.take h k hk
  rw [Nat.mul_one, byteCells_take] at this
  have e : (l.take k).length = k := by rw [List.length_take]; omega
  show readAt w 1 _ (l.take k).length _
  rw [e]
  exact this
/-- bytes are appended to a file -/
theorem set_bytes {w w2 w3 : World} {S : Nat → Prop} {q mb : Nat} {fv' v' : Value} {A B : List Fl} {x : Fl} {d1 : Dk} {l b : List UInt8} (ho : Only (fun k => k = q) w w2) (h2 : DiskIs w2 S q mb fv' (A ++ x :: B) d1)
    (hg : w2.grownBy w3 x.bv.ownBlock) (hr : rowAt w3 5 1 v' l.length (byteCells l)) (hown : v'.ownBlock = x.bv.ownBlock ∨ v'.ownBlock = some w2.heap.size) (hl : x.f.bytes ++ b = l) (hsz : l.length ≤ 16777216)
    {s : List UInt8} {t : F0 → F0} (hs : x.f.name = s) (ht : t x.f = { x.f with bytes := l }) (n : Int) :
    OpIs w S q (n, d1.turn s t) (.returned (.int .i64 n)) (w3.setCell ⟨x.blk, 0, none⟩ v') := by
  have hx := h2.each x (by simp)
  have hne := FlAt.own_ne h2
  have hblk : x.blk < w2.heap.size := h2.low _ (h2.x_mem _ (by simp [Fl.blocks]))
  have hc3 : w3.heap[x.blk]? = w2.heap[x.blk]? := hg.block _ hblk (fun e => hne x.blk e.symm rfl)
  have h3 : Only (fun k => k ∈ x.blocks) w2 w3 := Only.of_grown hg (fun k hk => by simp [Fl.blocks, hk])
  have hset : Only (fun k => k = x.blk) w3 (w3.setCell ⟨x.blk, 0, none⟩ v') := only_setCell (fun k => k = x.blk) w3 x.blk 0 _ rfl
  have hvne : ∀ k, v'.ownBlock = some k → k ≠ x.blk := fun k hk => by
    rcases hown with h | h
    · exact hne k (by rw [← h]; exact hk)
    · rw [h] at hk
      simp only [Option.some.injEq] at hk
      omega
  refine file_done (x' := ⟨{ x.f with bytes := l }, x.blk, v'⟩) ho h2 (h3.trans hset (fun i _ hi => by rw [hi]; simp [Fl.blocks])) rfl rfl ⟨?_, ?_, ?_, hsz⟩ (fun k hk => ?_) hs ht.symm n
  · exact heap_setCell_here (w := w3) _ (hc3.trans hx.cells)
  · exact hr.kept (fun k hk => hset.block k (hr.lt k hk) (hvne k hk))
  · have := hx.lasts
    rw [← hl]
    simp only [List.length_append]
    omega
  · rcases hown with h | h
    · exact .inl (by rw [← h]; exact hk)
    · have h4 := hr.lt k hk
      have hk2 : v'.ownBlock = some k := hk
      rw [h] at hk2
      simp only [Option.some.injEq] at hk2
      have h5 := hset.size
      exact .inr ⟨by omega, by omega⟩
theorem cell_kept_at {w w3 : World} {k i : Nat} (h : w3.heap[k]? = w.heap[k]?) : w3.cell? ⟨k, i, none⟩ = w.cell? ⟨k, i, none⟩ := by simp [World.cell?, h]
theorem frozen_kept_at {w w3 : World} {k i : Nat} (h : w3.heap[k]? = w.heap[k]?) : w3.frozen? ⟨k, i, none⟩ = w.frozen? ⟨k, i, none⟩ := by simp [World.frozen?, h]
set_option maxRecDepth 100000 in
set_option maxHeartbeats 1000000 in
theorem append_b {w : World} {S : Nat → Prop} {q : Nat} {d : Dk} (h : DiskAt w S q d) (nm : ByteArray) (hs : nm.size ≤ maxLen) (oa : Option Addr) (c : Nat) (b : List UInt8) (hb : bytesRd w (.slice oa b.length c) b) (hbS : ∀ k, (Value.slice oa b.length c).ownBlock = some k → 0 < b.length → ¬ S k) (hbl : b.length ≤ 1000000000) :
    Calls Try.prog 46 #[.pointer (some ⟨q, 0, none⟩), .string nm, .slice oa b.length c] w fun e w' => OpIs w S q (d.append nm.data.toList b) e w' := by
  obtain ⟨mb, fv, L, h⟩ := h
  obtain ⟨lb, hlb⟩ : ∃ lb, lb = b.length := ⟨_, rfl⟩
  rw [← hlb] at hb hbS hbl ⊢
  have HBW := Lib.hid (And.intro hb hbS)
  have HLB := Lib.hid hlb
  clear hb hbS hlb
  go_enter Try.func46, Try.ntmps46
  go_wp2_with fail
  refine (find_b h nm hs).mono ?_
  rintro e w' ⟨hF, rfl⟩
  rcases hF with ⟨hn, rfl⟩ | ⟨hn, hf, rfl⟩ | ⟨hn, A, x, B, rfl, hxn, hxt, hf, rfl⟩
  · have HO : Hid (OpIs w' S q (d.append nm.data.toList b) (.returned (.int .i64 2)) w') := Lib.hid (by
      rw [show d.append nm.data.toList b = (2, d) by simp [Dk.append, hn]]
      exact OpIs.same h 2)
    clear h hn
    go_wp2_with fail
    go_ret
    exact HO.out
  · have HO : Hid (OpIs w' S q (d.append nm.data.toList b) (.returned (.int .i64 171)) w') := Lib.hid (by
      rw [show d.append nm.data.toList b = (171, d) by simp [Dk.append, hn, hf]]
      exact OpIs.same h 171)
    clear h hn hf
    go_wp2_with fail
    go_ret
    exact HO.out
  · have hx0 := h.each x (by simp)
    obtain ⟨oaf, cf, hbv, hnc⟩ := hx0.row.shape
    obtain ⟨n, hnn⟩ : ∃ n, x.f.bytes.length = n := ⟨_, rfl⟩
    have hsz : n ≤ 16777216 := by rw [← hnn]; exact hx0.size
    have hxc := hx0.cells
    rw [hbv, hnn] at hxc
    have k0 : w'.cell? ⟨x.blk, 0, none⟩ = some (.slice oaf n cf) := cell_of hxc rfl
    have HBV := Lib.hid (And.intro hbv hnn)
    have H := Lib.hid h
    have HN := Lib.hid (And.intro hn hf)
    clear h hn hf hxc hx0 hbv hnn hnc
    by_cases hfull : 16777216 < lb + n
    · have HO : Hid (OpIs w' S q (d.append nm.data.toList b) (.returned (.int .i64 6)) w') := Lib.hid (by
        rw [show d.append nm.data.toList b = (6, d) by simp [Dk.append, HN.out.1, HN.out.2]; rw [← HLB.out, HBV.out.2]; intro h; omega]
        exact OpIs.same H.out 6)
      have hd : decide ((16777216 : Int) - (n : Int) < (lb : Int)) = true := by simp; omega
      go_wp2_with fail
      go_ret
      exact HO.out
    · have hd : decide ((16777216 : Int) - (n : Int) < (lb : Int)) = false := by simp; omega
      go_wp2_with fail
      refine (step_b H.out).mono ?_
      rintro e w1 ⟨kd, kp, fv', rfl, hkp, h1, ho1⟩
      obtain ⟨er, her⟩ : ∃ er, d.fate.1 = er := ⟨_, rfl⟩
      rw [her]
      have H1 := Lib.hid h1
      have HO1 := Lib.hid ho1
      have HE := Lib.hid (And.intro hkp her)
      clear h1 ho1 hkp her k0 hd
      go_upto_region 7 with fail
      obtain ⟨w2, hw2⟩ : ∃ w2 : World, w2 = w1.alloc (.cells #[.int .i64 kd, .int .i64 kp] 99) := ⟨_, rfl⟩
      obtain ⟨r, hr⟩ : ∃ r, r = w1.heap.size := ⟨_, rfl⟩
      have hr2 : w2.heap[r]? = some (.cells #[.int .i64 kd, .int .i64 kp] 99 (0, 0)) := by rw [hw2, hr]; exact alloc_cells _ _ _
      have h2 : DiskIs w2 S q mb fv' (A ++ x :: B) d.next := by rw [hw2]; exact H1.out.below ((Below.refl _ _).alloc (Nat.le_refl _) _)
      have ho2 : Only (fun k => k = q) w' w2 := by rw [hw2]; exact HO1.out.trans (only_alloc (fun k => k = q) _ _) (fun _ _ h => h)
      rw [← hw2, ← hr]
      clear hw2 hr H1 HO1
      have hx := h2.each x (by simp)
      have hxc := hx.cells
      have hxr := hx.row
      rw [HBV.out.1, HBV.out.2] at hxc hxr
      have hk0 : w2.cell? ⟨x.blk, 0, none⟩ = some (.slice oaf n cf) := cell_of hxc rfl
      have hz0 : w2.frozen? ⟨x.blk, 0, none⟩ = false := free_of hxc _
      have y1 : w2.cell? ⟨r, 1, none⟩ = some (.int .i64 kp) := cell_of hr2 rfl
      have HG : Hid (∀ w3 : World, w2.grownBy w3 (Value.slice oaf n cf).ownBlock → w3.heap[x.blk]? = w2.heap[x.blk]?) := Lib.hid fun w3 hg => hg.block _ (h2.low _ (h2.x_mem _ (by simp [Fl.blocks]))) (fun e => FlAt.own_ne h2 x.blk (by rw [HBV.out.1, HBV.out.2]; exact e.symm) rfl)
      have HROW : Hid (rowAt w2 5 1 (.slice oaf n cf) n (byteCells x.f.bytes)) := Lib.hid hxr
      have hb2 : bytesRd w2 (.slice oa b.length c) b := by
        rw [← HLB.out]
        show readAt w2 1 _ b.length _
        rw [← HLB.out]
        have h3 := HBW.out.1
        have h4 : readAt w' 1 (.slice oa lb c) b.length (byteCells b) := h3
        rw [← HLB.out] at h4
        exact h4.kept (fun k hl hk h0 => ho2.block k hl (fun e => HBW.out.2 k hk h0 (by rw [e]; exact h2.q_mem)))
      have H2 := Lib.hid h2
      have HO2 := Lib.hid ho2
      have HB2 := Lib.hid hb2
      clear h2 ho2 hb2 hx hxc hxr hr2 H
      by_cases h0 : er = 0
      · subst h0
        have HS : Hid (Src Try.prog w2 1 79 (.slice oa lb c) lb (byteCells b)) := Lib.hid (by
          have := Src.of_read Try.underlying79 HB2.out (byteCells_one _)
          rw [← HLB.out] at this
          exact this)
        go_wp2_with (at_builtin; refine wpList_append_at _ rfl (.tmp 47) (.tmp 48) 79 79 rfl 5 (.int .u8 0) 1 1 Try.underlying79 info_u8 rfl _ n _ rfl HROW.out _ lb _ rfl (HS.out) (by unfold maxLen; omega) (by omega) ?_; intro v' w3 hr hg hown _; obtain ⟨oa', c', rfl, _⟩ := hr.shape; have hc3 : w3.cell? ⟨x.blk, 0, none⟩ = some (.slice oaf n cf) := (by rw [← hk0]; exact cell_kept_at (HG.out w3 hg)); have hz3 : w3.frozen? ⟨x.blk, 0, none⟩ = false := (by rw [← hz0]; exact frozen_kept_at (HG.out w3 hg)); have HR := Lib.hid hr; have HGG := Lib.hid hg; have HOWN := Lib.hid hown; clear hr hg hown)
        go_ret
        have hrr := HR.out
        rw [byteCells_append] at hrr
        have hl : (x.f.bytes ++ b).length = n + lb := by rw [List.length_append, HBV.out.2, ← HLB.out]
        have := set_bytes (v' := .slice oa' (n + lb) c') (s := nm.data.toList) (t := fun f => { f with bytes := f.bytes ++ b }) HO2.out H2.out (by rw [HBV.out.1, HBV.out.2]; exact HGG.out) (by rw [hl]; exact hrr) (by rw [HBV.out.1, HBV.out.2]; exact HOWN.out) rfl (by rw [hl]; omega) hxn rfl 0
        simpa [Dk.append, HN.out.1, HN.out.2, HE.out.2, ← HLB.out, HBV.out.2, hfull] using this
      · have hb0 : (er != 0) = true := by simpa using h0
        go_upto_region 8 with fail
        go_cut [2] from 35 to 42 (fun s2 wx => ∃ k : Nat, s2 = .slice oa k c ∧ k = min lb d.fate.2 ∧ wx = w2)
        case first =>
          have HK := Lib.hid HE.out.1
          have hrb : readAt w' 1 (.slice oa lb c) lb (byteCells b) := by
            have h4 : readAt w' 1 (.slice oa lb c) b.length (byteCells b) := HBW.out.1
            rwa [← HLB.out] at h4
          obtain ⟨hm0, hlc⟩ := hrb.map0
          clear hrb
          go_wp2_with fail
          all_goals go_meet
          all_goals (refine ⟨_, rfl, ?_, rfl⟩; have := HK.out; omega)
        case rest =>
          obtain ⟨k, rfl, hkk, rfl⟩ := hcut
          have hkl : k ≤ lb := by omega
          have HKK := Lib.hid hkk
          clear hkk
          have HS : Hid (Src Try.prog wc 1 79 (.slice oa k c) k (byteCells (b.take k))) := Lib.hid (by
            have h4 := HB2.out.take k (by rw [← HLB.out]; exact hkl)
            have := Src.of_read Try.underlying79 h4 (byteCells_one _)
            rwa [show (b.take k).length = k by rw [List.length_take, ← HLB.out]; omega] at this)
          go_wp2_with (at_builtin; refine wpList_append_at _ rfl (.tmp 47) (.tmp 48) 79 79 rfl 5 (.int .u8 0) 1 1 Try.underlying79 info_u8 rfl _ n _ rfl HROW.out _ k _ rfl (HS.out) (by unfold maxLen; omega) (by omega) ?_; intro v' w3 hr hg hown _; obtain ⟨oa', c', rfl, _⟩ := hr.shape; have hc3 : w3.cell? ⟨x.blk, 0, none⟩ = some (.slice oaf n cf) := (by rw [← hk0]; exact cell_kept_at (HG.out w3 hg)); have hz3 : w3.frozen? ⟨x.blk, 0, none⟩ = false := (by rw [← hz0]; exact frozen_kept_at (HG.out w3 hg)); have HR := Lib.hid hr; have HGG := Lib.hid hg; have HOWN := Lib.hid hown; clear hr hg hown)
          go_ret
          have hrr := HR.out
          rw [byteCells_append] at hrr
          have hl : (x.f.bytes ++ b.take k).length = n + k := by rw [List.length_append, HBV.out.2, List.length_take, ← HLB.out]; omega
          have := set_bytes (v' := .slice oa' (n + k) c') (s := nm.data.toList) (t := fun f => { f with bytes := f.bytes ++ b.take k }) HO2.out H2.out (by rw [HBV.out.1, HBV.out.2]; exact HGG.out) (by rw [hl]; exact hrr) (by rw [HBV.out.1, HBV.out.2]; exact HOWN.out) rfl (by rw [hl]; omega) hxn rfl er
          have e : b.take k = b.take d.fate.2 := by
            rw [HKK.out, HLB.out]
            rcases Nat.le_total b.length d.fate.2 with h5 | h5
            · rw [Nat.min_eq_left h5, List.take_of_length_le (Nat.le_refl _), List.take_of_length_le h5]
            · rw [Nat.min_eq_right h5]
          simpa [Dk.append, HN.out.1, HN.out.2, HE.out.2, ← HLB.out, HBV.out.2, hfull, h0, e] using this
end Go.Proofs.Ytmkjejngnahpeaa
/- Disk: Create. -/
namespace Go.Proofs.Ytmkjejngnahpeaa
open Go Go.Maps Go.RowKit

theorem OpIs.next {w w2 : World} {S : Nat → Prop} {q mb : Nat} {fv' : Value} {L : List Fl} {d1 : Dk} (ho : Only (fun k => k = q) w w2) (h2 : DiskIs w2 S q mb fv' L d1) (n : Int) : OpIs w S q (n, d1) (.returned (.int .i64 n)) w2 :=
  ⟨rfl, ⟨mb, fv', L, h2.wider (fun k hk => .inl hk) (fun k hk => by
    rcases hk with hk | hk
    · exact h2.low k hk
    · exact hk.2)⟩, ho.mono (fun i _ hi => by rw [hi]; exact h2.q_mem)⟩
def newF (s : List UInt8) : F0 := ⟨s, [], 0, true, false⟩
set_option maxRecDepth 100000 in
/-- a new file is put into the map -/
theorem set_new {w w2 w3 w4 : World} {S : Nat → Prop} {q mb n' : Nat} {fv' : Value} {L : List Fl} {d d1 : Dk} {D : DataW Unit} {s : List UInt8} (ho : Only (fun k => k = q) w w2) (h2 : DiskIs w2 S q mb fv' L d1) (hd : Dic D (L.map fun x => (x.f.name, x.blk)))
    (hw3 : w3 = w2.alloc (.cells #[.slice none 0 0, .int .i64 0, .bool true, .bool false] 178)) (hg : w3.grownBy w4 (some mb))
    (hm : w4.ownsMap Try.prog 9 ptrElem mb n' (D.put (.string s) (.lit (.int .i64 w2.heap.size)))) (hne : ∀ x ∈ L, x.f.name ≠ s) (hnm : nameOk s = true) (hfew : d1.files.length < 4096) (hf : d.files = d1.files) :
    OpIs w S q (0, { d1 with files := insF (newF s) d.files }) (.returned (.int .i64 0)) w4 := by
  obtain ⟨A, B, rfl, hi⟩ := insF_split (newF s) L
  have hi' : insF (newF s) d.files = A.map (·.f) ++ newF s :: B.map (·.f) := by rw [hf, ← h2.files]; exact hi
  have hmb : mb < w2.heap.size := h2.low _ (h2.foot _ (by simp [diskBlocks]))
  have hb3 : w3.heap[w2.heap.size]? = some (.cells #[.slice none 0 0, .int .i64 0, .bool true, .bool false] 178 (0, 0)) := by rw [hw3]; exact alloc_cells _ _ _
  have hs3 : w2.heap.size < w3.heap.size := by rw [hw3]; simp
  have ho4 : Only (fun k => k = mb) w2 w4 := by
    have h5 : Only (fun k => k = mb) w2 w3 := by rw [hw3]; exact only_alloc _ _ _
    exact h5.trans (Only.of_grown (S := fun k => k = mb) hg (fun k hk => by simp at hk; exact hk.symm)) (fun _ _ h => h)
  have hb4 : w4.heap[w2.heap.size]? = w3.heap[w2.heap.size]? := hg.block _ hs3 (by simp; omega)
  have h6 := h2.file_add (x' := ⟨newF s, w2.heap.size, .slice none 0 0⟩) (fs := insF (newF s) d.files) ho4
    ⟨hb4.trans hb3, ⟨by simp [byteCells, newF], .inl ⟨rfl, by simp [newF]⟩⟩, by simp [newF], by simp [newF]⟩ hm
    (hd.put s w2.heap.size (fun f => by
      simp only [List.map_append, List.map_cons, List.mem_append, List.mem_cons, newF]
      constructor
      · rintro (h | h | h) <;> simp [h]
      · rintro (h | h | h) <;> simp [h]) (fun f hf' => by
      obtain ⟨x, hx, rfl⟩ := List.mem_map.1 hf'
      exact hne x hx))
    (fun k hk => by
      simp only [Fl.blocks, Value.ownBlock, Option.toList_none, List.mem_singleton] at hk
      have := hg.size
      rw [hk]
      exact ⟨Nat.le_refl _, by omega⟩) (by simp [Fl.blocks, Value.ownBlock]) hi' (insF_sorted _ _ (by rw [hf]; exact h2.sorted) (fun g hg' => by
      have : g ∈ (A ++ B).map (·.f) := by rw [h2.files, ← hf]; exact hg'
      obtain ⟨x, hx, rfl⟩ := List.mem_map.1 this
      exact hne x hx)) hnm hfew
  refine ⟨rfl, ⟨mb, fv', _, h6.wider (fun k hk => ?_) (fun k hk => ?_)⟩, ?_⟩
  · rcases hk with hk | hk
    · exact .inl hk
    · exact .inr ⟨Nat.le_trans ho.size hk.1, hk.2⟩
  · rcases hk with hk | hk
    · exact Nat.lt_of_lt_of_le (h2.low k hk) ho4.size
    · exact hk.2
  · exact (ho.mono (fun i _ hi => by rw [hi]; exact h2.q_mem)).trans ho4 (fun i _ hi => by rw [hi]; exact h2.foot _ (by simp [diskBlocks]))
set_option maxRecDepth 100000 in
set_option maxHeartbeats 1000000 in
theorem create_b {w : World} {S : Nat → Prop} {q : Nat} {d : Dk} (h : DiskAt w S q d) (nm : ByteArray) (hs : nm.size ≤ maxLen) :
    Calls Try.prog 45 #[.pointer (some ⟨q, 0, none⟩), .string nm] w fun e w' => OpIs w S q (d.create nm.data.toList) e w' := by
  obtain ⟨mb, fv, L, h⟩ := h
  have c0 : w.cell? ⟨q, 0, none⟩ = some (.map (some mb)) := cell_of h.head rfl
  go_enter Try.func45, Try.ntmps45
  go_wp2_with fail
  refine (asked_b h nm hs).mono ?_
  rintro e w' ⟨rfl, rfl⟩
  cases hn : nameOk nm.data.toList with
  | false =>
    have HO : Hid (OpIs w' S q (d.create nm.data.toList) (.returned (.int .i64 2)) w') := Lib.hid (by
      rw [show d.create nm.data.toList = (2, d) by simp [Dk.create, hn]]
      exact OpIs.same h 2)
    rw [show askE nm.data.toList = 2 by simp [askE, hn]]
    clear h hn
    go_wp2_with fail
    go_ret
    exact HO.out
  | true =>
    rw [show askE nm.data.toList = 0 by simp [askE, hn]]
    cases ha : d.at nm.data.toList with
    | some f =>
      obtain ⟨A, x, B, hL, rfl, hxn⟩ := h.at_some ha
      have hl := h.lookup_some (x := x) (by rw [hL]; simp) hs hxn
      have HO : Hid (OpIs w' S q (d.create nm.data.toList) (.returned (.int .i64 170)) w') := Lib.hid (by
        rw [show d.create nm.data.toList = (170, d) by simp [Dk.create, hn, ha]]
        exact OpIs.same h 170)
      clear h hn ha hL hxn
      go_wp2_with fail
      go_ret
      exact HO.out
    | none =>
      have hne := h.at_none ha
      have hl := h.lookup_none hs hne
      obtain ⟨D, hown, hsz, hd⟩ := h.look
      have hlen : (Builtin.len_ #[120] 3 #[.map (some mb)]).run Try.prog w' = .ok (.int .i64 (L.length : Int)) w' := by
        have := hown.len (t := 120) Try.underlying120 3
        rw [hsz] at this
        exact this
      have hfl : d.files.length = L.length := by rw [← h.files, List.length_map]
      obtain ⟨n, hln⟩ : ∃ n, L.length = n := ⟨_, rfl⟩
      rw [hln] at hlen hfl
      have HC : Hid (nameOk nm.data.toList = true ∧ d.at nm.data.toList = none ∧ d.files.length = n) := Lib.hid ⟨hn, ha, hfl⟩
      have HNE := Lib.hid hne
      have H := Lib.hid h
      have HD := Lib.hid hd
      clear h hn ha hne hfl hd hsz hown
      by_cases hf : 4096 ≤ n
      · have hb : decide ((4096 : Int) ≤ (n : Int)) = true := by simp; omega
        have HO : Hid (OpIs w' S q (d.create nm.data.toList) (.returned (.int .i64 6)) w') := Lib.hid (by
          rw [show d.create nm.data.toList = (6, d) by simp [Dk.create, HC.out.1, HC.out.2.1, HC.out.2.2, hf]]
          exact OpIs.same H.out 6)
        go_wp2_with fail
        go_ret
        exact HO.out
      · have hb : decide ((4096 : Int) ≤ (n : Int)) = false := by simp; omega
        go_wp2_with fail
        refine (step_b H.out).mono ?_
        rintro e w1 ⟨kd, kp, fv', rfl, hkp, h1, ho1⟩
        obtain ⟨er, her⟩ : ∃ er, d.fate.1 = er := ⟨_, rfl⟩
        rw [her]
        have H1 := Lib.hid h1
        have HO1 := Lib.hid ho1
        have HE := Lib.hid her
        clear h1 ho1 hkp her hl hlen hb H HD c0
        go_upto_region 10 with fail
        obtain ⟨w2, hw2⟩ : ∃ w2 : World, w2 = w1.alloc (.cells #[.int .i64 kd, .int .i64 kp] 99) := ⟨_, rfl⟩
        obtain ⟨r, hr⟩ : ∃ r, r = w1.heap.size := ⟨_, rfl⟩
        have h2 : DiskIs w2 S q mb fv' L d.next := by rw [hw2]; exact H1.out.below ((Below.refl _ _).alloc (Nat.le_refl _) _)
        have ho2 : Only (fun k => k = q) w' w2 := by rw [hw2]; exact HO1.out.trans (only_alloc (fun k => k = q) _ _) (fun _ _ h => h)
        rw [← hw2, ← hr]
        clear hw2 hr H1 HO1
        have c0 : w2.cell? ⟨q, 0, none⟩ = some (.map (some mb)) := cell_of h2.head rfl
        have H2 := Lib.hid h2
        have HO2 := Lib.hid ho2
        clear h2 ho2
        by_cases h0 : er = 0
        · subst h0
          obtain ⟨D2, hown, hsz, hd⟩ := H2.out.look
          obtain ⟨w3, hw3⟩ : ∃ w3 : World, w3 = w2.alloc (.cells #[.slice none 0 0, .int .i64 0, .bool true, .bool false] 178) := ⟨_, rfl⟩
          have HOWN : Hid (w3.ownsMap Try.prog 9 ptrElem mb n D2) := Lib.hid (by rw [hw3, ← hln]; exact hown.alloc _)
          have HW3 := Lib.hid hw3
          have HD2 := Lib.hid hd
          clear hown hsz hd
          have hkey : keyOf Try.prog 9 (.string nm) = some (.string nm.data.toList) := WideMaps.keyOf_string_mk (P := Try.prog) Try.underlying9 hs
          have HKEY := Lib.hid hkey
          clear hkey
          go_wp2_with (at_mapUpdate; rw [← hw3]; refine wpList_mapUpdate_own _ rfl _ _ _ 120 rfl 9 176 (string_keyed Try.underlying9) Try.underlying120 ptrElem mb n D2 rfl HOWN.out (by unfold maxLen; omega) _ _ _ rfl rfl HKEY.out _ [] (ptrElem_mk _) ?_; intro w4 hown4 hg4; have HOWN4 := Lib.hid hown4; have HG4 := Lib.hid hg4; clear hown4 hg4)
          go_ret
          have := set_new HO2.out H2.out HD2.out HW3.out HG4.out HOWN4.out HNE.out HC.out.1 (by show d.files.length < 4096; rw [HC.out.2.2]; omega) (d := d) rfl
          simpa [Dk.create, HC.out.1, HC.out.2.1, HC.out.2.2, hf, HE.out, newF] using this
        · have hb0 : (er != 0) = true := by simpa using h0
          have HO : Hid (OpIs w' S q (d.create nm.data.toList) (.returned (.int .i64 er)) w2) := Lib.hid (by
            rw [show d.create nm.data.toList = (er, d.next) by simp [Dk.create, HC.out.1, HC.out.2.1, HC.out.2.2, hf, HE.out, h0]]
            exact OpIs.next HO2.out H2.out er)
          clear h0
          go_wp2_with fail
          go_ret
          exact HO.out
end Go.Proofs.Ytmkjejngnahpeaa
/- Disk: a copy of bytes; Read. -/
namespace Go.Proofs.Ytmkjejngnahpeaa
open Go Go.Maps Go.RowKit

theorem emptyRowU (w : World) (T : TypeId) (size : Nat) : hasRow (w.alloc (.cells #[] T)) w.heap.size T size (.slice (some ⟨w.heap.size, 0, none⟩) 0 0) 0 [] :=
  ⟨by simp, .inr ⟨_, 0, #[], (0, 0), rfl, Nat.le_refl _, heap_alloc_new _ _, Nat.le_refl _, Nat.zero_le _, by simp, fun j hj => by simp at hj, by simp⟩⟩
/-- v holds the bytes l, in a block that is new -/
def NewBytes (w w' : World) (v : Value) (l : List UInt8) : Prop := bytesAt w' v l ∧ (∀ k, v.ownBlock = some k → w.heap.size ≤ k) ∧ Below w.heap.size w w'
set_option maxRecDepth 100000 in
set_option maxHeartbeats 400000 in
theorem clone_b {w : World} {oa : Option Addr} {n c : Nat} {l : List UInt8} (hn : l.length = n) (h : rowAt w 5 1 (.slice oa n c) n (byteCells l)) (hm : n ≤ 1000000000) :
    Calls Try.prog 113 #[.slice oa n c] w fun e w' => ∃ v, e = .returned v ∧ NewBytes w w' v l := by
  cases oa with
  | none =>
    rcases h.2 with ⟨hv, h0⟩ | ⟨g, off, c, cur, fr, hv, _⟩
    · simp only [Value.slice.injEq] at hv
      obtain ⟨-, -, rfl⟩ := hv
      subst h0
      have hl : l = [] := List.eq_nil_of_length_eq_zero hn
      subst hl
      have hnil : ∀ W : World, (binOp .eql 79 (.slice none 0 0) (.slice none 0 0)).run Try.prog W = .ok (.bool true) W := fun W => by kernel_rfl
      have H := Lib.hid h
      clear h
      go_enter Try.func113, Try.ntmps113
      go_wp2_with fail
      go_ret
      exact ⟨_, rfl, H.out, fun k hk => by simp [Value.ownBlock] at hk, Below.refl _ _⟩
    · simp at hv
  | some ad =>
    have hnil : ∀ W : World, (binOp .eql 79 (.slice (some ad) n c) (.slice none 0 0)).run Try.prog W = .ok (.bool false) W := fun W => by kernel_rfl
    have HS : Hid (Src Try.prog (w.alloc (.cells #[] 5)) 1 79 (.slice (some ad) n c) n (byteCells l)) := Lib.hid (Src.of_row Try.underlying79 (h.kept (fun k hk => Below.heap_alloc _ _ k (h.lt k hk))) (byteCells_one _))
    clear h
    go_enter Try.func113, Try.ntmps113
    go_wp2_with (at_builtin; refine wpList_append_at _ rfl (.tmp 5) (.tmp 6) 79 79 rfl 5 (.int .u8 0) 1 1 Try.underlying79 info_u8 rfl _ 0 _ rfl (rowAt.of_row (emptyRowU w _ _)) _ n _ rfl HS.out (by unfold maxLen; omega) (by omega) ?_; intro v' w3 hr hg hown _; have HR := Lib.hid hr; have HG : Hid ((w.alloc (.cells #[] 5)).grownBy w3 (some w.heap.size)) := Lib.hid hg; have HOWN : Hid (v'.ownBlock = some w.heap.size ∨ v'.ownBlock = some (w.alloc (.cells #[] 5)).heap.size) := Lib.hid hown; clear hr hg hown)
    go_ret
    refine ⟨v', rfl, ?_, fun k hk => ?_, ?_⟩
    · have := HR.out
      rw [Nat.zero_add, List.nil_append, ← hn] at this
      exact this
    · have h1 := HOWN.out
      rw [hk] at h1
      simp at h1
      omega
    · exact ((Below.refl _ _).alloc (Nat.le_refl _) _).grown HG.out (by simp) (fun k hk => by simp at hk; omega)
theorem run_part (oa : Option Addr) (N c α E : Nat) (h1 : α ≤ E) (h2 : E ≤ c) (W : World) : (Instr.slice 79 (.slice oa N c) (some (.int .i64 (α : Int))) (some (.int .i64 (E : Int))) none).run Try.prog W = .ok (.slice (if c = α then oa else oa.map (·.add (α * 1))) (E - α) (c - α)) W := by
  have hs : (sizeOf 5).run Try.prog W = .ok 1 W := by kernel_rfl
  have he : Try.prog.elem 79 = 5 := by kernel_rfl
  rw [run_slice_lh (P := Try.prog) (w := W) 79 oa N c (by rw [he]; exact Try.underlying79) .i64 .i64 α E (by omega) (by omega) (by omega), he, hs]
  simp [Result.andThen, sliced]
theorem wrap_nat (x : Int) (n : Nat) (h : x = (n : Int)) (hn : n ≤ 1000000000) : IntKind.i64.wrap x = (n : Int) := by
  subst h
  simp [IntKind.wrap, IntKind.signed, IntKind.bits]
  omega
/-- what is read of a disk -/
def Dk.read (d : Dk) (s : List UInt8) (a n : Int) : List UInt8 × Int :=
  if nameOk s = false then ([], 2)
  else match d.find s with
    | none => ([], 171)
    | some f => if a < 0 ∨ (f.bytes.length : Int) < a ∨ n < 0 then ([], 4) else ((f.bytes.drop a.toNat).take (min n.toNat (f.bytes.length - a.toNat)), 0)
def ReadIs (w : World) (r : List UInt8 × Int) (e : Ending) (w' : World) : Prop := ∃ v, e = .returned (.tuple #[v, .int .i64 r.2]) ∧ NewBytes w w' v r.1
theorem ReadIs.none (w : World) (n : Int) : ReadIs w ([], n) (.returned (.tuple #[.slice none 0 0, .int .i64 n])) w :=
  ⟨_, rfl, ⟨by simp [byteCells], .inl ⟨rfl, rfl⟩⟩, fun k hk => by simp [Value.ownBlock] at hk, Below.refl _ _⟩
set_option maxRecDepth 100000 in
set_option maxHeartbeats 1000000 in
theorem read_b {w : World} {S : Nat → Prop} {q : Nat} {d : Dk} (h : DiskAt w S q d) (nm : ByteArray) (hs : nm.size ≤ maxLen) (a n : Int) (ha : a ≤ 9223372036854775807) (hn63 : n ≤ 9223372036854775807) :
    Calls Try.prog 42 #[.pointer (some ⟨q, 0, none⟩), .string nm, .int .i64 a, .int .i64 n] w fun e w' => ReadIs w (d.read nm.data.toList a n) e w' := by
  obtain ⟨mb, fv, L, h⟩ := h
  go_enter Try.func42, Try.ntmps42
  go_wp2_with fail
  refine (find_b h nm hs).mono ?_
  rintro e w' ⟨hF, rfl⟩
  rcases hF with ⟨hn, rfl⟩ | ⟨hn, hf, rfl⟩ | ⟨hn, A, x, B, rfl, hxn, hxt, hf, rfl⟩
  · have HO : Hid (ReadIs w' (d.read nm.data.toList a n) (.returned (.tuple #[.slice none 0 0, .int .i64 2])) w') := Lib.hid (by
      rw [show d.read nm.data.toList a n = ([], 2) by simp [Dk.read, hn]]
      exact ReadIs.none w' 2)
    clear h hn
    go_wp2_with fail
    go_ret2
    exact HO.out
  · have HO : Hid (ReadIs w' (d.read nm.data.toList a n) (.returned (.tuple #[.slice none 0 0, .int .i64 171])) w') := Lib.hid (by
      rw [show d.read nm.data.toList a n = ([], 171) by simp [Dk.read, hn, hf]]
      exact ReadIs.none w' 171)
    clear h hn hf
    go_wp2_with fail
    go_ret2
    exact HO.out
  · have hx := h.each x (by simp)
    obtain ⟨oa, c, hbv, hnc⟩ := hx.row.shape
    obtain ⟨N, hnn⟩ : ∃ N, x.f.bytes.length = N := ⟨_, rfl⟩
    have hsz : N ≤ 16777216 := by rw [← hnn]; exact hx.size
    have hxc := hx.cells
    have hxr := hx.row
    rw [hbv, hnn] at hxc hxr
    rw [hnn] at hnc
    have k0 : w'.cell? ⟨x.blk, 0, none⟩ = some (.slice oa N c) := cell_of hxc rfl
    by_cases hbad : a < 0 ∨ (N : Int) < a ∨ n < 0
    · have HO : Hid (ReadIs w' (d.read nm.data.toList a n) (.returned (.tuple #[.slice none 0 0, .int .i64 4])) w') := Lib.hid (by
        rw [show d.read nm.data.toList a n = ([], 4) by simp [Dk.read, hn, hf, hnn, hbad]]
        exact ReadIs.none w' 4)
      clear h hn hf hx hxc hxr hbv
      by_cases e1 : a < 0
      · go_wp2_with fail
        go_ret2
        exact HO.out
      · by_cases e2 : (N : Int) < a
        · go_wp2_with fail
          go_ret2
          exact HO.out
        · have e3 : n < 0 := by omega
          go_wp2_with fail
          go_ret2
          exact HO.out
    · obtain ⟨α, rfl⟩ : ∃ α : Nat, a = (α : Int) := ⟨a.toNat, by omega⟩
      obtain ⟨ν, rfl⟩ : ∃ ν : Nat, n = (ν : Int) := ⟨n.toNat, by omega⟩
      have hαN : α ≤ N := by omega
      have HRD : Hid (d.read nm.data.toList α ν = ((x.f.bytes.drop α).take (min ν (N - α)), 0)) := Lib.hid (by simp [Dk.read, hn, hf, hnn]; omega)
      have d1 : decide ((α : Int) < 0) = false := by simp
      have d2 : decide ((N : Int) < (α : Int)) = false := by simp; omega
      have d3 : decide ((ν : Int) < 0) = false := by simp
      have HXR := Lib.hid hxr
      have HNN := Lib.hid hnn
      clear h hn hf hx hxc hxr hbv hnn hbad
      go_upto_region 6 with fail
      obtain ⟨M, hM⟩ : ∃ M, M = N - α := ⟨_, rfl⟩
      have hw1 : IntKind.i64.wrap ((N : Int) - (α : Int)) = (M : Int) := wrap_nat _ _ (by omega) (by omega)
      obtain ⟨K, hK⟩ : ∃ K, K = min ν M := ⟨_, rfl⟩
      obtain ⟨E, hE⟩ : ∃ E, E = α + K := ⟨_, rfl⟩
      have hw2 : IntKind.i64.wrap ((α : Int) + (K : Int)) = (E : Int) := wrap_nat _ _ (by omega) (by omega)
      obtain ⟨oa1, hoa1⟩ : ∃ o : Option Addr, o = if c = α then oa else oa.map (·.add (α * 1)) := ⟨_, rfl⟩
      obtain ⟨c1, hc1⟩ : ∃ c1, c1 = c - α := ⟨_, rfl⟩
      have hsl : ∀ W : World, (Instr.slice 79 (.slice oa N c) (some (.int .i64 (α : Int))) (some (.int .i64 (E : Int))) none).run Try.prog W = .ok (.slice oa1 K c1) W := fun W => by
        rw [run_part oa N c α E (by omega) (by omega) W, hoa1, hc1, show E - α = K by omega]
      have hrow : rowAt w' 5 1 (.slice oa1 K c1) K (byteCells ((x.f.bytes.drop α).take K)) := by
        have h1 := HXR.out.sub α E c (by omega) (by omega) (by omega) (Nat.le_refl _)
        rw [show E - α = K by omega, ← hoa1, ← hc1] at h1
        have e : ((byteCells x.f.bytes).drop (α * 1)).take (K * 1) = byteCells ((x.f.bytes.drop α).take K) := by simp [byteCells, List.map_drop, List.map_take]
        rw [e] at h1
        exact h1
      have hKl : ((x.f.bytes.drop α).take K).length = K := by rw [List.length_take, List.length_drop, HNN.out]; omega
      have HROW := Lib.hid hrow
      have HKL := Lib.hid hKl
      have HRK : Hid (d.read nm.data.toList α ν = ((x.f.bytes.drop α).take K, 0)) := Lib.hid (by rw [HRD.out, ← hM, hK])
      have hKb : K ≤ 1000000000 := by omega
      have hcl : Calls Try.prog 113 #[.slice oa1 K c1] w'.drew fun e w'' => ∃ v, e = .returned v ∧ NewBytes w' w'' v ((x.f.bytes.drop α).take K) := by
        refine (clone_b (w := w'.drew) hKl hrow hKb).mono ?_
        rintro e w'' ⟨v, rfl, h1, h2, h3⟩
        exact ⟨v, rfl, h1, h2, ⟨h3.os, h3.tape, h3.output, h3.size, h3.block⟩⟩
      have HCL := Lib.hid hcl
      clear hoa1 hc1 hrow hKl hE hcl
      by_cases hk : M < ν
      · have hk1 : (K : Int) = (M : Int) := by omega
        rw [hk1] at hw2
        clear hM hK hk1
        go_region_law (go_simp; go_at_call 113; refine HCL.out.mono ?_; rintro e w2 ⟨v, rfl, hnb⟩; have HNB := Lib.hid hnb; clear hnb)
        all_goals go_wp2_with fail
        all_goals go_ret2
        all_goals exact ⟨v, by rw [HRK.out]; rfl, by rw [HRK.out]; exact HNB.out⟩
      · have hk1 : (K : Int) = (ν : Int) := by omega
        rw [hk1] at hw2
        clear hM hK hk1
        go_region_law (go_simp; go_at_call 113; refine HCL.out.mono ?_; rintro e w2 ⟨v, rfl, hnb⟩; have HNB := Lib.hid hnb; clear hnb)
        all_goals go_wp2_with fail
        all_goals go_ret2
        all_goals exact ⟨v, by rw [HRK.out]; rfl, by rw [HRK.out]; exact HNB.out⟩
end Go.Proofs.Ytmkjejngnahpeaa
/- Disk: New, without fates. -/
namespace Go.Proofs.Ytmkjejngnahpeaa
open Go Go.Maps Go.RowKit

set_option maxHeartbeats 400000 in
theorem indexFate_nil (f : Value) (w : World) : Calls Try.prog 168 #[.slice none 0 0, f] w fun e w' => e = .returned (.int .i64 (-1)) ∧ w' = w := by
  go_enter Try.func168, Try.ntmps168
  go_wp2_with fail
  go_loop [8] (fun i => i = .int .i64 0) (fun _ => 0)
  case atStart => rfl
  case round =>
    subst hrel
    go_wp2_with fail
    go_ret
    exact ⟨rfl, rfl⟩
set_option maxHeartbeats 400000 in
theorem containsFate_nil (f : Value) (w : World) : Calls Try.prog 143 #[.slice none 0 0, f] w fun e w' => e = .returned (.bool false) ∧ w' = w := by
  go_enter Try.func143, Try.ntmps143
  go_wp2_with fail
  refine (indexFate_nil f _).mono ?_
  rintro e w' ⟨rfl, rfl⟩
  go_wp2_with fail
  go_ret
  exact ⟨rfl, rfl⟩
set_option maxHeartbeats 400000 in
theorem right_nil (w : World) : Calls Try.prog 89 #[.slice none 0 0] w fun e w' => e = .returned (.bool true) ∧ w' = w := by
  go_enter Try.func89, Try.ntmps89
  go_wp2_with fail
  refine (containsFate_nil _ _).mono ?_
  rintro e w' ⟨rfl, rfl⟩
  go_wp2_with fail
  go_ret
  exact ⟨rfl, rfl⟩
set_option maxHeartbeats 400000 in
theorem cloneFate_nil (w : World) : Calls Try.prog 90 #[.slice none 0 0] w fun e w' => e = .returned (.slice none 0 0) ∧ w' = w := by
  have hnil : ∀ W : World, (binOp .eql 65 (.slice none 0 0) (.slice none 0 0)).run Try.prog W = .ok (.bool true) W := fun W => by kernel_rfl
  go_enter Try.func90, Try.ntmps90
  go_wp2_with fail
  go_ret
  exact ⟨rfl, rfl⟩
def Dk.new : Dk := ⟨[], [], 0⟩
theorem disk_new (w : World) : DiskIs ((w.alloc (.map #[] 0)).alloc (.cells #[.map (some w.heap.size), .slice none 0 0, .int .i64 0] 122)) (fun k => w.heap.size ≤ k ∧ k < w.heap.size + 2) (w.heap.size + 1) w.heap.size (.slice none 0 0) [] Dk.new where
  files := rfl
  head := by
    have := alloc_cells (w.alloc (.map #[] 0)) #[.map (some w.heap.size), .slice none 0 0, .int .i64 0] 122
    rw [World.size_alloc] at this
    exact this
  fates := ⟨by simp [fateCells, Dk.new], .inl ⟨rfl, rfl⟩⟩
  map := ⟨_, (World.ownsMap_made w Try.prog 9 ptrElem).alloc _, Dic.empty⟩
  each := fun x hx => (by cases hx)
  apart := by simp [diskBlocks, Value.ownBlock]
  foot := fun k hk => by
    simp [diskBlocks, Value.ownBlock] at hk
    omega
  low := fun k hk => by simp; omega
  sorted := by simp [Dk.new]
  names := fun f hf => by simp [Dk.new] at hf
  few := by simp [Dk.new]
set_option maxHeartbeats 400000 in
theorem new_b (w : World) : Calls Try.prog 23 #[.slice none 0 0] w fun e w' => ∃ q, e = .returned (.tuple #[.pointer (some ⟨q, 0, none⟩), .int .i64 0]) ∧ DiskAt w' (fun k => w.heap.size ≤ k ∧ k < w'.heap.size) q Dk.new ∧ Below w.heap.size w w' := by
  have hmm := @run_makeMap Try.prog
  go_enter Try.func23, Try.ntmps23
  go_wp2_with fail
  refine (right_nil _).mono ?_
  rintro e w' ⟨rfl, rfl⟩
  go_wp2_with fail
  refine (cloneFate_nil _).mono ?_
  rintro e w1 ⟨rfl, rfl⟩
  go_wp2_with fail
  go_ret2
  refine ⟨_, rfl, ⟨_, _, _, (disk_new w').wider (fun k hk => ⟨hk.1, by simp; omega⟩) (fun k hk => hk.2)⟩, ((Below.refl _ _).alloc (Nat.le_refl _) _).alloc (by simp) _⟩
end Go.Proofs.Ytmkjejngnahpeaa
