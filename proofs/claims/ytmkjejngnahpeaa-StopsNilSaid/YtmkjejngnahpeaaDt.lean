/- Disk: the next step. -/
import Derived.Test.YtmkjejngnahpeaaDn
import Derived.OwnWalk
import Derived.Lib.Hide
namespace Go.Proofs.Ytmkjejngnahpeaa
open Go Go.Maps Go.RowKit

theorem heap_setCell_here {w : World} {q i : Nat} {cs : Array Value} {T : TypeId} {fr : Nat × Nat} (v : Value) (h : w.heap[q]? = some (.cells cs T fr)) : (w.setCell ⟨q, i, none⟩ v).heap[q]? = some (.cells (cs.setIfInBounds i v) T fr) := by
  rw [setCell_eq_setRow w q i cs T fr v h]
  exact setRow_heap w q cs _ T fr h
theorem only_setCell (S : Nat → Prop) (w : World) (q i : Nat) (v : Value) (h : S q) : Only S w (w.setCell ⟨q, i, none⟩ v) :=
  ⟨rfl, rfl, rfl, by simp [World.setCell], fun k _ hk => Below.heap_setCell _ _ _ _ (fun e => hk (by rw [e]; exact h))⟩
theorem only_alloc (S : Nat → Prop) (w : World) (o : Obj) : Only S w (w.alloc o) := Only.of_below ((Below.refl _ _).alloc (Nat.le_refl _) _) (Nat.le_refl _) S
theorem only_new {S : Nat → Prop} {w w' : World} (h : Only (fun k => S k ∨ w.heap.size ≤ k) w w') : Only S w w' :=
  h.mono (fun i hi hs => by
    rcases hs with hs | hs
    · exact hs
    · omega)
theorem only_drew {S : Nat → Prop} {w w' : World} (h : Only S w w') : Only S w w'.drew := ⟨h.os, h.tape, h.output, h.size, h.block⟩
theorem alloc_cells (w : World) (cs : Array Value) (T : TypeId) : (w.alloc (.cells cs T)).heap[w.heap.size]? = some (.cells cs T (0, 0)) := heap_alloc_new w _
theorem cell_of {w : World} {q i : Nat} {cs : Array Value} {T : TypeId} {fr : Nat × Nat} {v : Value} (h : w.heap[q]? = some (.cells cs T fr)) (hv : cs[i]? = some v) : w.cell? ⟨q, i, none⟩ = some v := by
  rw [cell_of_row w q i _ _ _ h, hv]
theorem free_of {w : World} {q : Nat} {cs : Array Value} {T : TypeId} (h : w.heap[q]? = some (.cells cs T (0, 0))) (i : Nat) : w.frozen? ⟨q, i, none⟩ = false := by
  simp [World.frozen?, h]
theorem rowAt.shape {w : World} {e : TypeId} {size : Nat} {v : Value} {n : Nat} {xs : List Value} (h : rowAt w e size v n xs) : ∃ oa cap, v = .slice oa n cap ∧ n ≤ cap := by
  rcases h.2 with ⟨rfl, rfl⟩ | ⟨g, off, cap, cur, fr, rfl, _, hn, _⟩
  · exact ⟨none, 0, rfl, Nat.le_refl _⟩
  · exact ⟨_, _, rfl, hn⟩
theorem rowAt.addr {w : World} {e : TypeId} {size : Nat} {oa : Option Addr} {cap n : Nat} {xs : List Value} (h : rowAt w e size (.slice oa n cap) n xs) (hn : 0 < n) : ∃ g off, oa = some ⟨g, off, none⟩ := by
  rcases h.2 with ⟨_, h0⟩ | ⟨g, off, c, cur, fr, hv, _⟩
  · omega
  · simp only [Value.slice.injEq] at hv
    exact ⟨g, off, hv.1⟩

theorem sub_own (c : Prop) [Decidable c] (g off k n cap : Nat) : (Value.slice (if c then some ⟨g, off, none⟩ else (some (⟨g, off, none⟩ : Addr)).map (·.add k)) n cap).ownBlock = some g := by
  split
  · rfl
  · simp [Value.ownBlock, Go.WideShapes.add_plain]
theorem fateCells_cons (x : Int × Int) (r : List (Int × Int)) : fateCells (x :: r) = .int .i64 x.1 :: .int .i64 x.2 :: fateCells r := rfl
theorem fateCells_length : ∀ l : List (Int × Int), (fateCells l).length = l.length * 2
  | [] => rfl
  | x :: r => by
    rw [fateCells_cons]
    simp only [List.length_cons, fateCells_length r]
    omega
theorem run_tail (g off n cap : Nat) (W : World) : (Instr.slice 65 (.slice (some ⟨g, off, none⟩) (n + 1) cap) (some (.int .i64 1)) none none).run Try.prog W = .ok (.slice (if cap = 1 then some ⟨g, off, none⟩ else (some (⟨g, off, none⟩ : Addr)).map (·.add (1 * 2))) n (cap - 1)) W := by
  have hs : (sizeOf 99).run Try.prog W = .ok 2 W := by kernel_rfl
  have he : Try.prog.elem 65 = 99 := by kernel_rfl
  rw [run_slice_l (P := Try.prog) (w := W) 65 (some ⟨g, off, none⟩) (n + 1) cap (by rw [he]; exact Try.underlying65) .i64 1 (by omega) (by omega), he, hs]
  simp [Result.andThen, sliced]
theorem step_end {w w3 : World} {S : Nat → Prop} {q mb : Nat} {fv fv' : Value} {L : List Fl} {d : Dk} {rest : List (Int × Int)} (h : DiskIs w S q mb fv L d) (ho : Only (fun k => k = q) w w3) (hq : w3.heap[q]? = some (.cells #[.map (some mb), fv', .int .i64 (wrap64 (d.steps + 1))] 122 (0, 0)))
    (hrest : d.fates.tail = rest) (hob : ∀ k, fv'.ownBlock = some k → fv.ownBlock = some k) (hr : rowAt w 99 2 fv' rest.length (fateCells rest)) : DiskIs w3 S q mb fv' L d.next := by
  subst hrest
  exact h.head_turn ho hq hob hr

/-- what a step makes of a disk -/
def StepIs (w : World) (S : Nat → Prop) (q mb : Nat) (L : List Fl) (d : Dk) (e : Ending) (w' : World) : Prop :=
  ∃ (kd kp : Int) (fv' : Value), e = .returned (.tuple #[.agg #[.int .i64 kd, .int .i64 kp], .int .i64 d.fate.1]) ∧ kp.toNat = d.fate.2 ∧ DiskIs w' S q mb fv' L d.next ∧ Only (fun k => k = q) w w'
set_option maxRecDepth 100000 in
set_option maxHeartbeats 1000000 in
theorem step_b {w : World} {S : Nat → Prop} {q mb : Nat} {fv : Value} {L : List Fl} {d : Dk} (h : DiskIs w S q mb fv L d) :
    Calls Try.prog 119 #[.pointer (some ⟨q, 0, none⟩)] w fun e w' => StepIs w S q mb L d e w' := by
  obtain ⟨oa, cap, rfl, hnc⟩ := h.fates.shape
  obtain ⟨st, hst⟩ : ∃ st, d.steps = st := ⟨_, rfl⟩
  obtain ⟨fs, hfs⟩ : ∃ fs, d.fates = fs := ⟨_, rfl⟩
  have hqlt : q < w.heap.size := h.low q (h.foot q (by simp [diskBlocks]))
  go_enter Try.func119, Try.ntmps119
  go_upto_region 1 with fail
  obtain ⟨w1, hw1⟩ : ∃ w1 : World, w1 = w.alloc (.cells #[.int .i64 0, .int .i64 0] 99) := ⟨_, rfl⟩
  have hr1 : w1.heap[w.heap.size]? = some (.cells #[.int .i64 0, .int .i64 0] 99 (0, 0)) := by rw [hw1]; exact alloc_cells _ _ _
  have hq1 : w1.heap[q]? = some (.cells #[.map (some mb), .slice oa fs.length cap, .int .i64 st] 122 (0, 0)) := by
    rw [hw1, ← hst, ← hfs]
    exact (Below.heap_alloc _ _ q hqlt).trans h.head
  have ho1 : Only (fun k => k = q) w w1 := by rw [hw1]; exact only_alloc _ _ _
  have hrq : w.heap.size ≠ q := by omega
  rw [← hw1]
  clear hw1
  obtain ⟨r, hr⟩ : ∃ r, r = w.heap.size := ⟨_, rfl⟩
  have hrw : w.heap.size ≤ r := by omega
  rw [← hr] at hr1 hrq ⊢
  clear hr
  have H := Lib.hid h
  have HO1 := Lib.hid ho1
  clear h ho1
  have c2 : w1.cell? ⟨q, 2, none⟩ = some (.int .i64 st) := cell_of hq1 rfl
  have z2 : w1.frozen? ⟨q, 2, none⟩ = false := free_of hq1 _
  go_upto_region 2 with fail
  obtain ⟨st', hst'⟩ : ∃ st', wrap64 (st + 1) = st' := ⟨_, rfl⟩
  rw [hst']
  obtain ⟨w2, hw2⟩ : ∃ w2 : World, w2 = w1.setCell ⟨q, 2, none⟩ (.int .i64 st') := ⟨_, rfl⟩
  have hq2 : w2.heap[q]? = some (.cells #[.map (some mb), .slice oa fs.length cap, .int .i64 st'] 122 (0, 0)) := by rw [hw2]; exact heap_setCell_here _ hq1
  have hr2 : w2.heap[r]? = some (.cells #[.int .i64 0, .int .i64 0] 99 (0, 0)) := by
    rw [hw2]; exact (Below.heap_setCell _ _ _ _ hrq).trans hr1
  have ho2 : Only (fun k => k = q) w w2 := by rw [hw2]; exact HO1.out.trans (only_setCell (fun k => k = q) _ _ _ _ rfl) (fun _ _ h => h)
  rw [← hw2]
  clear hw2 hq1 hr1 c2 z2 HO1
  have HO2 := Lib.hid ho2
  have HST := Lib.hid hst'
  clear ho2 hst'
  have c1 : w2.cell? ⟨q, 1, none⟩ = some (.slice oa fs.length cap) := cell_of hq2 rfl
  have z1 : w2.frozen? ⟨q, 1, none⟩ = false := free_of hq2 _
  have r0 : w2.cell? ⟨r, 0, none⟩ = some (.int .i64 0) := cell_of hr2 rfl
  have r1 : w2.cell? ⟨r, 1, none⟩ = some (.int .i64 0) := cell_of hr2 rfl
  have y0 : w2.frozen? ⟨r, 0, none⟩ = false := free_of hr2 _
  have y1 : w2.frozen? ⟨r, 1, none⟩ = false := free_of hr2 _
  cases fs with
  | nil =>
    have HF : Hid (d.fates = []) := Lib.hid hfs
    have HR : Hid (rowAt w 99 2 (.slice oa 0 cap) 0 (fateCells [])) := Lib.hid (by have := H.out.fates; rw [hfs] at this; exact this)
    clear hfs
    go_wp2_with fail
    obtain ⟨w3, hw3⟩ : ∃ w3 : World, w3 = (w2.setCell ⟨r, 0, none⟩ (.int .i64 0)).setCell ⟨r, 1, none⟩ (.int .i64 0) := ⟨_, rfl⟩
    have hr3 : w3.heap[r]? = some (.cells #[.int .i64 0, .int .i64 0] 99 (0, 0)) := by rw [hw3]; exact heap_setCell_here _ (heap_setCell_here _ hr2)
    have hq3 : w3.heap[q]? = w2.heap[q]? := by rw [hw3]; exact (Below.heap_setCell _ _ _ _ (fun e => hrq e.symm)).trans (Below.heap_setCell _ _ _ _ (fun e => hrq e.symm))
    have ho3 : Only (fun k => k = r) w2 w3 := by rw [hw3]; exact (only_setCell (fun k => k = r) _ _ _ _ rfl).trans (only_setCell (fun k => k = r) _ _ _ _ rfl) (fun _ _ h => h)
    rw [← hw3]
    have s0 : w3.cell? ⟨r, 0, none⟩ = some (.int .i64 0) := cell_of hr3 rfl
    have s1 : w3.cell? ⟨r, 1, none⟩ = some (.int .i64 0) := cell_of hr3 rfl
    refine bodyPost_ret (v := .tuple #[.agg #[.int .i64 0, .int .i64 0], .int .i64 0]) (by simp [results, Try.results119, go_sem, s0, s1]) rfl ?_
    have ho : Only (fun k => k = q) w w3 := HO2.out.trans ho3 (fun i hi he => by omega)
    refine ⟨0, 0, .slice oa 0 cap, by simp [Dk.fate, HF.out], by simp [Dk.fate, HF.out], step_end (rest := []) H.out ho (hq3.trans ?_) (by rw [HF.out]; rfl) (fun k hk => by rw [HF.out]; exact hk) HR.out, ho⟩
    rw [hq2, hst, HST.out]
    rfl
  | cons f rest =>
    obtain ⟨k0, n0⟩ := f
    have hrow := H.out.fates
    have hlen : d.fates.length = rest.length + 1 := by rw [hfs]; rfl
    rw [hfs] at hrow
    obtain ⟨g, off, rfl⟩ := hrow.addr (by simp)
    have hgq : g ≠ q := fun e => by
      have := H.out.apart
      simp only [diskBlocks, List.nodup_cons] at this
      exact this.1 (by rw [← e]; simp [Value.ownBlock])
    have hglt : g < w.heap.size := hrow.lt g rfl
    have hgw : w2.heap[g]? = w.heap[g]? := HO2.out.block g hglt hgq
    have hrow2 : rowAt w2 99 2 (.slice (some ⟨g, off, none⟩) (rest.length + 1) cap) (rest.length + 1) (fateCells ((k0, n0) :: rest)) := hrow.kept (fun k hk => by
      simp only [Value.ownBlock, Option.some.injEq] at hk
      rw [← hk]; exact hgw)
    have f0 : w2.cell? ⟨g, off, none⟩ = some (.int .i64 k0) := by
      have := hrow2.cells (g := g) (off := off) rfl 0 (.int .i64 k0) rfl
      simpa [Go.WideShapes.add_plain] using this
    have f1 : w2.cell? ⟨g, off + 1, none⟩ = some (.int .i64 n0) := by
      have := hrow2.cells (g := g) (off := off) rfl 1 (.int .i64 n0) rfl
      simpa [Go.WideShapes.add_plain] using this
    have hsub := hrow.sub 1 (rest.length + 1) cap (by omega) (Nat.le_refl _) (by rw [← hlen]; exact hnc) (Nat.le_refl _)
    obtain ⟨oa', hfv⟩ : ∃ oa' : Option Addr, oa' = if cap = 1 then some ⟨g, off, none⟩ else (some (⟨g, off, none⟩ : Addr)).map (·.add (1 * 2)) := ⟨_, rfl⟩
    obtain ⟨c', hc'⟩ : ∃ c', c' = cap - 1 := ⟨_, rfl⟩
    have hown : (Value.slice oa' rest.length c').ownBlock = some g := by rw [hfv]; exact sub_own _ _ _ _ _ _
    obtain ⟨n1, hn1⟩ : ∃ n1, n1 = rest.length + 1 := ⟨_, rfl⟩
    have hsl : ∀ W : World, (Instr.slice 65 (.slice (some ⟨g, off, none⟩) n1 cap) (some (.int .i64 1)) none none).run Try.prog W = .ok (.slice oa' rest.length c') W := fun W => by rw [hfv, hn1, hc']; exact run_tail g off rest.length cap W
    have hn0 : ((n1 : Int) == 0) = false := by simp; omega
    have hn2 : (0 : Int) < (n1 : Int) := by omega
    have hn3 : (1 : Int) ≤ (n1 : Int) := by omega
    rw [List.length_cons, ← hn1] at c1 hq2
    have HSUB : Hid (rowAt w 99 2 (.slice oa' rest.length c') rest.length (fateCells rest)) := Lib.hid (by
      rw [hfv, hc']
      have e : (((fateCells ((k0, n0) :: rest)).drop (1 * 2)).take ((rest.length + 1 - 1) * 2)) = fateCells rest := by
        rw [fateCells_cons]
        show (fateCells rest).take (rest.length * 2) = fateCells rest
        exact List.take_of_length_le (Nat.le_of_eq (fateCells_length rest))
      rw [e] at hsub
      simpa using hsub)
    have HOWN := Lib.hid hown
    have HG : Hid (g ≠ q ∧ g < w.heap.size) := Lib.hid ⟨hgq, hglt⟩
    have HFS := Lib.hid hfs
    have HQ2 := Lib.hid hq2
    clear hrow hrow2 hsub hfv hown hfs hgw hlen hnc hglt hgq hn1 hq2 hc'
    go_upto_region 5 with fail
    obtain ⟨w3, hw3⟩ : ∃ w3 : World, w3 = w2.alloc (.cells #[.int .i64 k0, .int .i64 n0] 99) := ⟨_, rfl⟩
    obtain ⟨r', hr'⟩ : ∃ r', r' = w2.heap.size := ⟨_, rfl⟩
    have hx3 : w3.heap[r']? = some (.cells #[.int .i64 k0, .int .i64 n0] 99 (0, 0)) := by rw [hw3, hr']; exact alloc_cells _ _ _
    have hq3 : w3.heap[q]? = some (.cells #[.map (some mb), .slice (some ⟨g, off, none⟩) n1 cap, .int .i64 st'] 122 (0, 0)) := by
      rw [hw3]
      exact (Below.heap_alloc _ _ q (Nat.lt_of_lt_of_le hqlt HO2.out.size)).trans HQ2.out
    have hr3 : w3.heap[r]? = some (.cells #[.int .i64 0, .int .i64 0] 99 (0, 0)) := by rw [hw3]; exact (Below.heap_alloc _ _ r (Array.getElem?_eq_some_iff.1 hr2).1).trans hr2
    have ho3 : Only (fun k => k = q) w w3 := by rw [hw3]; exact HO2.out.trans (only_alloc (fun k => k = q) _ _) (fun _ _ h => h)
    have hrr : r' ≠ r ∧ r' ≠ q ∧ w.heap.size ≤ r' := by
      have h1 := (Array.getElem?_eq_some_iff.1 hr2).1
      have h2 := HO2.out.size
      omega
    rw [← hw3, ← hr']
    clear hw3 hr' hr2 HQ2 HO2 c1 z1 r0 r1 y0 y1 f0 f1
    have c1 : w3.cell? ⟨q, 1, none⟩ = some (.slice (some ⟨g, off, none⟩) n1 cap) := cell_of hq3 rfl
    have z1 : w3.frozen? ⟨q, 1, none⟩ = false := free_of hq3 _
    go_upto_region 6 with fail
    obtain ⟨w4, hw4⟩ : ∃ w4 : World, w4 = w3.setCell ⟨q, 1, none⟩ (.slice oa' rest.length c') := ⟨_, rfl⟩
    have hx4 : w4.heap[r']? = some (.cells #[.int .i64 k0, .int .i64 n0] 99 (0, 0)) := by rw [hw4]; exact (Below.heap_setCell _ _ _ _ hrr.2.1).trans hx3
    have hr4 : w4.heap[r]? = some (.cells #[.int .i64 0, .int .i64 0] 99 (0, 0)) := by rw [hw4]; exact (Below.heap_setCell _ _ _ _ hrq).trans hr3
    have hq4 : w4.heap[q]? = some (.cells #[.map (some mb), .slice oa' rest.length c', .int .i64 st'] 122 (0, 0)) := by rw [hw4]; exact heap_setCell_here _ hq3
    have ho4 : Only (fun k => k = q) w w4 := by rw [hw4]; exact ho3.trans (only_setCell (fun k => k = q) _ _ _ _ rfl) (fun _ _ h => h)
    rw [← hw4]
    clear hw4 hx3 hq3 hr3 ho3 c1 z1
    have HO4 := Lib.hid ho4
    have HQ4 := Lib.hid hq4
    have HRR := Lib.hid hrr
    clear ho4 hq4 hrr hsl
    have x0 : w4.cell? ⟨r', 0, none⟩ = some (.int .i64 k0) := cell_of hx4 rfl
    have x1 : w4.cell? ⟨r', 1, none⟩ = some (.int .i64 n0) := cell_of hx4 rfl
    have r0 : w4.cell? ⟨r, 0, none⟩ = some (.int .i64 0) := cell_of hr4 rfl
    have r1 : w4.cell? ⟨r, 1, none⟩ = some (.int .i64 0) := cell_of hr4 rfl
    have y0 : w4.frozen? ⟨r, 0, none⟩ = false := free_of hr4 _
    have y1 : w4.frozen? ⟨r, 1, none⟩ = false := free_of hr4 _
    obtain ⟨b1, hb1⟩ : ∃ b, ((k0 == 1) : Bool) = b := ⟨_, rfl⟩
    obtain ⟨b2, hb2⟩ : ∃ b, ((k0 == 2) : Bool) = b := ⟨_, rfl⟩
    have HB : Hid ((k0 = 1 ↔ b1 = true) ∧ (k0 = 2 ↔ b2 = true)) := Lib.hid ⟨by rw [← hb1]; simp, by rw [← hb2]; simp⟩
    have hend : ∀ (w5 : World) (er : Int), w5 = (w4.setCell ⟨r, 0, none⟩ (.int .i64 k0)).setCell ⟨r, 1, none⟩ (.int .i64 n0) → er = d.fate.1 →
        w5.cell? ⟨r, 0, none⟩ = some (.int .i64 k0) ∧ w5.cell? ⟨r, 1, none⟩ = some (.int .i64 n0) ∧ StepIs w S q mb L d (.returned (.tuple #[.agg #[.int .i64 k0, .int .i64 n0], .int .i64 er])) w5 := fun w5 er hw5 her => by
      have hr5 : w5.heap[r]? = some (.cells #[.int .i64 k0, .int .i64 n0] 99 (0, 0)) := by rw [hw5]; exact heap_setCell_here _ (heap_setCell_here _ hr4)
      have hq5 : w5.heap[q]? = w4.heap[q]? := by rw [hw5]; exact (Below.heap_setCell _ _ _ _ (fun e => hrq e.symm)).trans (Below.heap_setCell _ _ _ _ (fun e => hrq e.symm))
      have ho5 : Only (fun k => k = r) w4 w5 := by rw [hw5]; exact (only_setCell (fun k => k = r) _ _ _ _ rfl).trans (only_setCell (fun k => k = r) _ _ _ _ rfl) (fun _ _ h => h)
      have ho : Only (fun k => k = q) w w5 := HO4.out.trans ho5 (fun i hi he => by omega)
      refine ⟨cell_of hr5 rfl, cell_of hr5 rfl, k0, n0, .slice oa' rest.length c', by rw [her], ?_, step_end (rest := rest) H.out ho (hq5.trans ?_) (by rw [HFS.out]; rfl) (fun k hk => by rw [HOWN.out] at hk; exact hk) HSUB.out, ho⟩
      · simp only [Dk.fate, HFS.out]
        split
        · rfl
        · split <;> rfl
      · rw [HQ4.out, hst, HST.out]
    have HEND := Lib.hid hend
    clear hend
    cases b1
    · cases b2
      · have he : (0 : Int) = d.fate.1 := by
          have h1 : ¬ k0 = 1 := fun h => by cases HB.out.1.1 h
          have h2 : ¬ k0 = 2 := fun h => by cases HB.out.2.1 h
          simp [Dk.fate, HFS.out, h1, h2]
        have HE := Lib.hid he
        clear he
        go_wp2_with fail
        obtain ⟨s0, s1, hx⟩ := HEND.out _ 0 rfl HE.out
        exact bodyPost_ret (v := .tuple #[.agg #[.int .i64 k0, .int .i64 n0], .int .i64 0]) (by simp [results, Try.results119, go_sem, s0, s1]) rfl hx
      · have he : (6 : Int) = d.fate.1 := by
          have h2 : k0 = 2 := HB.out.2.2 rfl
          simp [Dk.fate, HFS.out, h2]
        have HE := Lib.hid he
        clear he
        go_wp2_with fail
        obtain ⟨s0, s1, hx⟩ := HEND.out _ 6 rfl HE.out
        exact bodyPost_ret (v := .tuple #[.agg #[.int .i64 k0, .int .i64 n0], .int .i64 6]) (by simp [results, Try.results119, go_sem, s0, s1]) rfl hx
    · have he : (5 : Int) = d.fate.1 := by
        have h1 : k0 = 1 := HB.out.1.2 rfl
        simp [Dk.fate, HFS.out, h1]
      have HE := Lib.hid he
      clear he
      go_wp2_with fail
      obtain ⟨s0, s1, hx⟩ := HEND.out _ 5 rfl HE.out
      exact bodyPost_ret (v := .tuple #[.agg #[.int .i64 k0, .int .i64 n0], .int .i64 5]) (by simp [results, Try.results119, go_sem, s0, s1]) rfl hx
end Go.Proofs.Ytmkjejngnahpeaa
