/- Stats: the document's Told. -/
import Derived.Test.YtbpnhpjcepgiiaaUi0
import Derived.BigRegion
namespace Go.Proofs.Ytbpnhpjcepgiiaa
open Go.RowKit Fl
/-- the cells of a tally of the document's, anywhere -/
structure TbC (w : World) (q o : Nat) (t : Ta) : Prop where
  c0 : w.cell? ⟨q, o, none⟩ = some (.int .i64 t.n)
  c1 : w.cell? ⟨q, o + 1, none⟩ = some (.float .f64 t.sum)
  c2 : w.cell? ⟨q, o + 2, none⟩ = some (.float .f64 t.mean)
  c3 : w.cell? ⟨q, o + 3, none⟩ = some (.float .f64 t.m)
  c4 : w.cell? ⟨q, o + 4, none⟩ = some (.float .f64 t.least)
  c5 : w.cell? ⟨q, o + 5, none⟩ = some (.float .f64 t.greatest)
theorem TbC.lt {w : World} {q o : Nat} {t : Ta} (h : TbC w q o t) : q < w.heap.size := World.block_lt_of_cell? w _ h.c0
theorem TbC.of {w w' : World} {q o : Nat} {t : Ta} (h : TbC w q o t) (e : w'.heap[q]? = w.heap[q]?) : TbC w' q o t := by
  have k : ∀ i v, w.cell? ⟨q, i, none⟩ = some v → w'.cell? ⟨q, i, none⟩ = some v := fun i v hv => by
    rw [World.cell?_of_block (w := w) e]; exact hv
  exact ⟨k _ _ h.c0, k _ _ h.c1, k _ _ h.c2, k _ _ h.c3, k _ _ h.c4, k _ _ h.c5⟩
theorem TbAt.c {w : World} {q : Nat} {t : Ta} (h : TbAt w q t) : TbC w q 0 t := by
  obtain ⟨c0, c1, c2, c3, c4, c5, -⟩ := h.cells
  exact ⟨c0, c1, c2, c3, c4, c5⟩
set_option maxRecDepth 100000 in
set_option maxHeartbeats 4000000 in
theorem rtold_any (q o : Nat) (t : Ta) (w : World) (h : TbC w q o t) (hn0 : 0 < t.n) :
    Calls Try.prog 74 #[.pointer (some ⟨q, o, none⟩)] w fun e w' => ∃ sp, FopIs (Ieee.double.div t.m (i2r t.n.toNat)) sp ∧ e = .returned (t.told sp) ∧ Below w.heap.size w w' := by
  obtain ⟨n, hn⟩ : ∃ n : Nat, t.n = (n : Int) := ⟨t.n.toNat, by omega⟩
  obtain ⟨nf, hnf⟩ : ∃ nf, nf = i2r t.n.toNat := ⟨_, rfl⟩
  rw [← hnf]
  have hcv : floatOfInt .f64 t.n = nf := by rw [hnf, hn]; exact floatOfInt_nat n
  have hsf := run_store_float
  obtain ⟨tn, t1, t2, t3, t4, t5⟩ := t
  simp only at hcv hn hnf hn0 ⊢
  unfold Ta.told
  have H := Lib.hid h
  clear h hn0 hn hnf
  go_enter Try.func74, Try.ntmps74
  go_upto_region 1 with fail
  have h1 : Hid ((w.alloc (.cells #[.int .i64 0, .float .f64 0, .float .f64 0, .float .f64 0, .float .f64 0, .float .f64 0] 92)).heap[w.heap.size]? = some (.cells #[.int .i64 0, .float .f64 0, .float .f64 0, .float .f64 0, .float .f64 0, .float .f64 0] 92 (0, 0)) ∧ TbC (w.alloc (.cells #[.int .i64 0, .float .f64 0, .float .f64 0, .float .f64 0, .float .f64 0, .float .f64 0] 92)) q o ⟨tn, t1, t2, t3, t4, t5⟩ ∧ Below w.heap.size w (w.alloc (.cells #[.int .i64 0, .float .f64 0, .float .f64 0, .float .f64 0, .float .f64 0, .float .f64 0] 92))) := Lib.hid ⟨heap_alloc_new _ _, H.out.of (Below.heap_alloc _ _ _ H.out.lt), (Below.refl _ _).alloc (Nat.le_refl _) _⟩
  obtain ⟨wc, hwc⟩ : ∃ wc, wc = w.alloc (.cells #[.int .i64 0, .float .f64 0, .float .f64 0, .float .f64 0, .float .f64 0, .float .f64 0] 92) := ⟨_, rfl⟩
  rw [← hwc] at h1 ⊢
  have HA := h1
  clear h1 hwc
  go_cut [3] from 3 to 33 (fun _ wx => ∃ sp, Hid (FopIs (Ieee.double.div t3 nf) sp ∧ wx.heap[w.heap.size]? = some (.cells #[.int .i64 tn, .float .f64 t1, .float .f64 t2, .float .f64 sp, .float .f64 t4, .float .f64 t5] 92 (0, 0)) ∧ Below w.heap.size w wx))
  case first =>
    have hq : ∃ sp W2, Hid (FopIs (Ieee.double.div t3 nf) sp ∧ W2.heap = wc.heap ∧ W2.os = wc.os ∧ W2.tape = wc.tape ∧ W2.output = wc.output) ∧ ∀ T, (binOp .quo T (.float .f64 t3) (.float .f64 nf)).run Try.prog wc.drew = .ok (.float .f64 sp) W2 :=
      ⟨fresO (Ieee.double.div t3 nf) t3 nf wc.drew, wc.drew.drewN (fkO (Ieee.double.div t3 nf)), Lib.hid ⟨FopIs.mk _ _ _ _ (fop_lt _ _).2.2.2, rfl, rfl, rfl, rfl⟩, fun T => run_quo T t3 nf wc.drew⟩
    obtain ⟨sp, W2, HW, hquo⟩ := hq
    obtain ⟨c0, c1, c2, c3, c4, c5⟩ := HA.out.2.1
    obtain ⟨d0, d1, d2, d3, d4, d5⟩ := (HA.out.2.1.of (w' := W2) (by rw [HW.out.2.1]))
    obtain ⟨e0, e1, e2, e3, e4, e5, efr⟩ := cells6 (W := W2) (by rw [HW.out.2.1]; exact HA.out.1)
    go_region
    all_goals (go_wp2_with fail; go_meet)
    all_goals exact ⟨sp, Lib.hid ⟨HW.out.1, set6_at (by rw [HW.out.2.1]; exact HA.out.1), Below.set6 ⟨HW.out.2.2.1.trans HA.out.2.2.os, HW.out.2.2.2.1.trans HA.out.2.2.tape, HW.out.2.2.2.2.trans HA.out.2.2.output, by rw [HW.out.2.1]; exact HA.out.2.2.size, fun k hk => by rw [HW.out.2.1]; exact HA.out.2.2.block k hk⟩ (Nat.le_refl _)⟩⟩
  case rest =>
  obtain ⟨sp, HS⟩ := hcut
  obtain ⟨e0, e1, e2, e3, e4, e5, -⟩ := cells6 HS.out.2.1
  go_wp2_with fail
  refine bodyPost_ret (v := .agg #[.int .i64 tn, .float .f64 t1, .float .f64 t2, .float .f64 sp, .float .f64 t4, .float .f64 t5]) (by simp [results, Try.results74, go_sem, e0, e1, e2, e3, e4, e5]) rfl ⟨sp, HS.out.1, rfl, HS.out.2.2⟩
end Go.Proofs.Ytbpnhpjcepgiiaa
