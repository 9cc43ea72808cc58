/- Stats: Told, with any floats. -/
import Derived.Test.YtbpnhpjcepgiiaaUi0
import Derived.BigRegion
namespace Go.Proofs.Ytbpnhpjcepgiiaa
open Go.RowKit Fl

theorem told_nil (w : World) : Calls Try.prog 40 #[.pointer none] w fun e w' => e = .returned (.tuple #[.agg #[.int .i64 0, .float .f64 0, .float .f64 0, .float .f64 0, .float .f64 0, .float .f64 0], .int .i64 1]) ∧ Below w.heap.size w w' := by
  have hsf := run_store_float
  go_enter Try.func40, Try.ntmps40
  go_wp2_with fail
  exact bodyPost_ret (v := .tuple #[.agg #[.int .i64 0, .float .f64 0, .float .f64 0, .float .f64 0, .float .f64 0, .float .f64 0], .int .i64 1]) (by simp [results, Try.results40, go_sem]) rfl ⟨rfl, (Below.refl _ _).alloc (Nat.le_refl _) _⟩
theorem told_none (q : Nat) (t : Ta) (w : World) (h : TaAt w q t) (hn0 : t.n = 0) :
    Calls Try.prog 40 #[.pointer (some ⟨q, 0, none⟩)] w fun e w' => e = .returned (.tuple #[.agg #[.int .i64 0, .float .f64 0, .float .f64 0, .float .f64 0, .float .f64 0, .float .f64 0], .int .i64 4]) ∧ Below w.heap.size w w' := by
  have hsf := run_store_float
  have h0 : (w.alloc (.cells #[.int .i64 0, .float .f64 0, .float .f64 0, .float .f64 0, .float .f64 0, .float .f64 0] 92)).heap[q]? = w.heap[q]? := Below.heap_alloc _ _ _ h.lt
  obtain ⟨c0, -, -, -, -, -, -⟩ := (h.of h0).cells
  rw [hn0] at c0
  clear h h0 hn0
  go_enter Try.func40, Try.ntmps40
  go_wp2_with fail
  exact bodyPost_ret (v := .tuple #[.agg #[.int .i64 0, .float .f64 0, .float .f64 0, .float .f64 0, .float .f64 0, .float .f64 0], .int .i64 4]) (by simp [results, Try.results40, go_sem]) rfl ⟨rfl, (Below.refl _ _).alloc (Nat.le_refl _) _⟩

set_option maxRecDepth 100000 in
set_option maxHeartbeats 4000000 in
theorem told_any (q : Nat) (t : Ta) (w : World) (h : TaAt w q t) (hn0 : 0 < t.n) :
    Calls Try.prog 40 #[.pointer (some ⟨q, 0, none⟩)] w fun e w' => ∃ sp, FopIs (Ieee.double.div t.m (i2r t.n.toNat)) sp ∧ e = .returned (.tuple #[t.told sp, .int .i64 0]) ∧ Below w.heap.size w w' := by
  obtain ⟨n, hn⟩ : ∃ n : Nat, t.n = (n : Int) := ⟨t.n.toNat, by omega⟩
  obtain ⟨nf, hnf⟩ : ∃ nf, nf = i2r t.n.toNat := ⟨_, rfl⟩
  rw [← hnf]
  have hcv : floatOfInt .f64 t.n = nf := by rw [hnf, hn]; exact floatOfInt_nat n
  have hz : (t.n == 0) = false := by simp; omega
  have hsf := run_store_float
  obtain ⟨tn, t1, t2, t3, t4, t5⟩ := t
  simp only at hcv hz hn hnf hn0 ⊢
  unfold Ta.told
  have H := Lib.hid h
  clear h hn0 hn hnf
  go_enter Try.func40, Try.ntmps40
  go_upto_region 1 with fail
  go_cut [4] from 5 to 6 (fun s4 wx => s4 = .bool false ∧ Hid (wx.heap[w.heap.size]? = some (.cells #[.int .i64 0, .float .f64 0, .float .f64 0, .float .f64 0, .float .f64 0, .float .f64 0] 92 (0, 0)) ∧ TaAt wx q ⟨tn, t1, t2, t3, t4, t5⟩ ∧ Below w.heap.size w wx))
  case first =>
    go_wp2_with fail
    go_meet
    exact ⟨rfl, Lib.hid ⟨heap_alloc_new _ _, H.out.of (Below.heap_alloc _ _ _ H.out.lt), (Below.refl _ _).alloc (Nat.le_refl _) _⟩⟩
  case rest =>
  obtain ⟨rfl, HA⟩ := hcut
  obtain ⟨c0, -, -, -, -, -, -⟩ := HA.out.2.1.cells
  go_upto_region 5 with fail
  go_cut [3] from 15 to 45 (fun s3 wx => ∃ sp, s3 = .int .i64 0 ∧ Hid (FopIs (Ieee.double.div t3 nf) sp ∧ wx.heap[w.heap.size]? = some (.cells #[.int .i64 tn, .float .f64 t1, .float .f64 t2, .float .f64 sp, .float .f64 t4, .float .f64 t5] 92 (0, 0)) ∧ Below w.heap.size w wx))
  case first =>
    have hq : ∃ sp W2, Hid (FopIs (Ieee.double.div t3 nf) sp ∧ W2.heap = wc.heap ∧ W2.os = wc.os ∧ W2.tape = wc.tape ∧ W2.output = wc.output) ∧ ∀ T, (binOp .quo T (.float .f64 t3) (.float .f64 nf)).run Try.prog wc.drew = .ok (.float .f64 sp) W2 :=
      ⟨fresO (Ieee.double.div t3 nf) t3 nf wc.drew, wc.drew.drewN (fkO (Ieee.double.div t3 nf)), Lib.hid ⟨FopIs.mk _ _ _ _ (fop_lt _ _).2.2.2, rfl, rfl, rfl, rfl⟩, fun T => run_quo T t3 nf wc.drew⟩
    obtain ⟨sp, W2, HW, hquo⟩ := hq
    clear c0
    obtain ⟨c0, c1, c2, c3, c4, c5, -⟩ := HA.out.2.1.cells
    obtain ⟨d0, d1, d2, d3, d4, d5, -⟩ := (HA.out.2.1.of (w' := W2) (by rw [HW.out.2.1])).cells
    obtain ⟨e0, e1, e2, e3, e4, e5, efr⟩ := cells6 (W := W2) (by rw [HW.out.2.1]; exact HA.out.1)
    go_region
    all_goals (go_wp2_with fail; go_meet)
    all_goals exact ⟨sp, rfl, Lib.hid ⟨HW.out.1, set6_at (by rw [HW.out.2.1]; exact HA.out.1), Below.set6 ⟨HW.out.2.2.1.trans HA.out.2.2.os, HW.out.2.2.2.1.trans HA.out.2.2.tape, HW.out.2.2.2.2.trans HA.out.2.2.output, by rw [HW.out.2.1]; exact HA.out.2.2.size, fun k hk => by rw [HW.out.2.1]; exact HA.out.2.2.block k hk⟩ (Nat.le_refl _)⟩⟩
  case rest =>
  obtain ⟨sp, rfl, HS⟩ := hcut
  obtain ⟨e0, e1, e2, e3, e4, e5, -⟩ := cells6 HS.out.2.1
  go_wp2_with fail
  refine bodyPost_ret (v := .tuple #[.agg #[.int .i64 tn, .float .f64 t1, .float .f64 t2, .float .f64 sp, .float .f64 t4, .float .f64 t5], .int .i64 0]) (by simp [results, Try.results40, go_sem, e0, e1, e2, e3, e4, e5]) rfl ⟨sp, HS.out.1, rfl, HS.out.2.2⟩
end Go.Proofs.Ytbpnhpjcepgiiaa
