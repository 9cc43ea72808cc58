/- Stats: the document's Merge. -/
import Derived.Test.YtbpnhpjcepgiiaaUg
namespace Go.Proofs.Ytbpnhpjcepgiiaa
open Go.RowKit Fl

/-- a tally as a value -/
def Ta.agg (t : Ta) : Value := .agg #[.int .i64 t.n, .float .f64 t.sum, .float .f64 t.mean, .float .f64 t.m, .float .f64 t.least, .float .f64 t.greatest]
/-- how two of the document's are merged -/
structure RMergeIs (a b : Ta) (t' : Ta) : Prop where
  n : t'.n = a.n + b.n
  sum : FopIs (Ieee.double.add a.sum b.sum) t'.sum
  d : ∃ d y y2 x1 x2 x3 x4 m1, FopIs (Ieee.double.sub b.mean a.mean) d ∧
    FopIs (Ieee.double.mul d (i2r b.n.toNat)) y ∧ FopIs (Ieee.double.div y (i2r (a.n + b.n).toNat)) y2 ∧ FopIs (Ieee.double.add a.mean y2) t'.mean ∧
    FopIs (Ieee.double.mul d d) x1 ∧ FopIs (Ieee.double.mul x1 (i2r a.n.toNat)) x2 ∧ FopIs (Ieee.double.div x2 (i2r (a.n + b.n).toNat)) x3 ∧ FopIs (Ieee.double.mul x3 (i2r b.n.toNat)) x4 ∧
    FopIs (Ieee.double.add a.m b.m) m1 ∧ FopIs (Ieee.double.add m1 x4) t'.m
  least : t'.least = leastF a.least b.least
  greatest : t'.greatest = greatestF a.greatest b.greatest

theorem refmerge_none (q : Nat) (o : Ta) (w : World) (ho : o.n = 0) :
    Calls Try.prog 71 #[.pointer (some ⟨q, 0, none⟩), o.agg] w fun e w' => e = .returned (.tuple #[]) ∧ Below w.heap.size w w' := by
  unfold Ta.agg
  rw [ho]
  clear ho
  go_enter Try.func71, Try.ntmps71
  go_wp2_with fail
  refine bodyPost_ret (results_none rfl _ _ _) rfl ?_
  exact ⟨rfl, (Below.refl _ _).alloc (Nat.le_refl _) _⟩
theorem refmerge_first (q : Nat) (t o : Ta) (w : World) (h : TbAt w q t) (ht : t.n = 0) (ho : o.n ≠ 0) :
    Calls Try.prog 71 #[.pointer (some ⟨q, 0, none⟩), o.agg] w fun e w' => e = .returned (.tuple #[]) ∧ TbAt w' q o ∧ w.grownBy w' (some q) := by
  obtain ⟨n, hn⟩ : ∃ n, n = o.n := ⟨_, rfl⟩
  unfold Ta.agg
  rw [← hn] at ho ⊢
  have hz : (n == 0) = false := by simp [ho]
  have hsf := run_store_float
  have ha := h.of (Below.heap_alloc w (.cells #[.int .i64 n, .float .f64 o.sum, .float .f64 o.mean, .float .f64 o.m, .float .f64 o.least, .float .f64 o.greatest] 82) q h.lt)
  obtain ⟨d0, d1, d2, d3, d4, d5, hfr⟩ := ha.cells
  rw [ht] at d0
  have hX : ¬ w.heap.size = q := fun e => Nat.lt_irrefl _ (e ▸ h.lt)
  have hX2 : ¬ q = w.heap.size := fun e => hX e.symm
  have H := Lib.hid ha
  have HN := Lib.hid hn
  clear h ha ho hn
  go_enter Try.func71, Try.ntmps71
  go_wp2_with fail
  refine bodyPost_ret (results_none rfl _ _ _) rfl ?_
  refine ⟨rfl, ?_, ?_⟩
  · have := (((((H.out.set0 n).set1 o.sum).set2 o.mean).set3 o.m).set4 o.least).set5 o.greatest
    rw [HN.out] at this ⊢
    exact this
  · exact grown_trans (grown_below ((Below.refl _ _).alloc (Nat.le_refl _) _) _) (grown_trans (grown_setCell _ _ _ _) (grown_trans (grown_setCell _ _ _ _) (grown_trans (grown_setCell _ _ _ _) (grown_trans (grown_setCell _ _ _ _) (grown_trans (grown_setCell _ _ _ _) (grown_setCell _ _ _ _))))))

set_option maxRecDepth 100000 in
set_option maxHeartbeats 2000000 in
theorem refmerge_both (q : Nat) (t o : Ta) (w : World) (h : TbAt w q t) (ht : 0 < t.n) (ho : 0 < o.n) (hb : t.n + o.n < 1000000000000) (b1 : t.least < 18446744073709551616) (b2 : t.greatest < 18446744073709551616) (b3 : o.least < 18446744073709551616) (b4 : o.greatest < 18446744073709551616) :
    Calls Try.prog 71 #[.pointer (some ⟨q, 0, none⟩), o.agg] w fun e w' => e = .returned (.tuple #[]) ∧ ∃ t', RMergeIs t o t' ∧ TbAt w' q t' ∧ w.grownBy w' (some q) := by
  obtain ⟨na, hna⟩ : ∃ n : Nat, t.n = (n : Int) := ⟨t.n.toNat, by omega⟩
  obtain ⟨nb, hnb⟩ : ∃ n : Nat, o.n = (n : Int) := ⟨o.n.toNat, by omega⟩
  unfold Ta.agg
  rw [hnb]
  have ha := h.of (Below.heap_alloc w (.cells #[.int .i64 nb, .float .f64 o.sum, .float .f64 o.mean, .float .f64 o.m, .float .f64 o.least, .float .f64 o.greatest] 82) q h.lt)
  obtain ⟨d0, d1, d2, d3, d4, d5, -⟩ := ha.cells
  rw [hna] at d0
  have hz1 : ((na : Int) == 0) = false := by simp; omega
  have hz2 : ((nb : Int) == 0) = false := by simp; omega
  have hsf := run_store_float
  have hX : ¬ w.heap.size = q := fun e => Nat.lt_irrefl _ (e ▸ h.lt)
  have hX2 : ¬ q = w.heap.size := fun e => hX e.symm
  have H := Lib.hid ha
  have HNA := Lib.hid hna
  have HNB := Lib.hid hnb
  have HB := Lib.hid (And.intro b1 (And.intro b2 (And.intro b3 b4)))
  have hnab : (na : Int) + (nb : Int) < 1000000000000 := by omega
  have hsum := run_add
  have hsub := run_sub
  have hmul := run_mul
  have hquo := run_quo
  obtain ⟨fa, hfa⟩ : ∃ f, f = i2r na := ⟨_, rfl⟩
  obtain ⟨fb, hfb⟩ : ∃ f, f = i2r nb := ⟨_, rfl⟩
  obtain ⟨fc, hfc⟩ : ∃ f, f = i2r (na + nb) := ⟨_, rfl⟩
  have v1 : floatOfInt .f64 (na : Int) = fa := by rw [hfa, floatOfInt_nat]
  have v2 : floatOfInt .f64 (nb : Int) = fb := by rw [hfb, floatOfInt_nat]
  have v3 : floatOfInt .f64 ((na : Int) + (nb : Int)) = fc := by rw [hfc, ← floatOfInt_nat, Int.natCast_add]
  have HF := Lib.hid (And.intro hfa (And.intro hfb hfc))
  clear h ha ht ho hna hnb hb b1 b2 b3 b4 hfa hfb hfc
  go_enter Try.func71, Try.ntmps71
  go_upto_region 4 with fail
  go_cut [4] from 19 to 25 (fun s4 wx => s4 = .int .i64 ((na : Int) + (nb : Int)) ∧ Hid (TbAt wx w.heap.size ⟨nb, o.sum, o.mean, o.m, o.least, o.greatest⟩ ∧ TbAt wx q ⟨na, t.sum, t.mean, t.m, t.least, t.greatest⟩ ∧ w.grownBy wx (some q)))
  case first =>
    go_region
    all_goals (go_wp2_with fail; go_meet)
    all_goals exact ⟨rfl, Lib.hid ⟨⟨by exact heap_alloc_new w _⟩, by have := H.out.at_; rw [HNA.out] at this; exact ⟨this⟩, grown_below ((Below.refl _ _).alloc (Nat.le_refl _) _).drew _⟩⟩
  case rest =>
  obtain ⟨rfl, HAB⟩ := hcut
  have nB : ¬ q = w.heap.size := hX2
  have HO := Lib.hid HAB.out.1
  have HQ := Lib.hid HAB.out.2.1
  have HG := Lib.hid HAB.out.2.2
  clear HAB d0 d1 d2 d3 d4 d5
  obtain ⟨w8, hw8⟩ : ∃ w8, w8 = wc := ⟨_, rfl⟩
  subst hw8
  obtain ⟨a0, a1, a2, a3, a4, a5, -⟩ := HO.out.cells
  obtain ⟨e0, e1, e2, e3, e4, e5, efr⟩ := HQ.out.cells
  go_upto_region 5 with fail
  go_cut [5] from 26 to 32 (fun s5 wx => ∃ d, s5 = .float .f64 d ∧ Hid (FopIs (Ieee.double.sub o.mean t.mean) d ∧ TbAt wx q ⟨na, t.sum, t.mean, t.m, t.least, t.greatest⟩ ∧ w8.grownBy wx (some q)))
  case first =>
    go_region
    all_goals (go_wp2_with fail; go_meet)
    all_goals exact ⟨_, rfl, Lib.hid ⟨FopIs.mk _ _ _ _ (fop_lt _ _).2.1, HQ.out.drewN _, grown_drewN _ _ _⟩⟩
  case rest =>
  obtain ⟨d, rfl, TD⟩ := hcut
  clear a0 a1 a2 a3 a4 a5 e0 e1 e2 e3 e4 e5 efr
  obtain ⟨a0, a1, a2, a3, a4, a5, -⟩ := (HO.out.of (TD.out.2.2.block w.heap.size HO.out.lt (by simp; exact fun e => nB e.symm))).cells
  obtain ⟨e0, e1, e2, e3, e4, e5, efr⟩ := TD.out.2.1.cells
  go_upto_region 6 with fail
  go_cut [6] from 33 to 35 (fun s6 wx => ∃ x1, s6 = .float .f64 x1 ∧ Hid (FopIs (Ieee.double.mul d d) x1 ∧ TbAt wx q ⟨na, t.sum, t.mean, t.m, t.least, t.greatest⟩ ∧ w8.grownBy wx (some q)))
  case first =>
    go_wp2_with fail
    go_meet
    exact ⟨_, rfl, Lib.hid ⟨FopIs.mk _ _ _ _ (fop_lt _ _).2.2.1, TD.out.2.1.drewN _, grown_trans TD.out.2.2 (grown_drewN _ _ _)⟩⟩
  case rest =>
  obtain ⟨x1, rfl, X1⟩ := hcut
  clear a0 a1 a2 a3 a4 a5 e0 e1 e2 e3 e4 e5 efr
  obtain ⟨a0, a1, a2, a3, a4, a5, -⟩ := (HO.out.of (X1.out.2.2.block w.heap.size HO.out.lt (by simp; exact fun e => nB e.symm))).cells
  obtain ⟨e0, e1, e2, e3, e4, e5, efr⟩ := X1.out.2.1.cells
  go_upto_region 7 with fail
  go_cut [6] from 36 to 42 (fun s6 wx => ∃ x2, s6 = .float .f64 x2 ∧ Hid (FopIs (Ieee.double.mul x1 fa) x2 ∧ TbAt wx q ⟨na, t.sum, t.mean, t.m, t.least, t.greatest⟩ ∧ w8.grownBy wx (some q)))
  case first =>
    go_wp2_with fail
    go_meet
    exact ⟨_, rfl, Lib.hid ⟨FopIs.mk _ _ _ _ (fop_lt _ _).2.2.1, X1.out.2.1.drewN _, grown_trans X1.out.2.2 (grown_drewN _ _ _)⟩⟩
  case rest =>
  obtain ⟨x2, rfl, X2⟩ := hcut
  clear a0 a1 a2 a3 a4 a5 e0 e1 e2 e3 e4 e5 efr
  obtain ⟨a0, a1, a2, a3, a4, a5, -⟩ := (HO.out.of (X2.out.2.2.block w.heap.size HO.out.lt (by simp; exact fun e => nB e.symm))).cells
  obtain ⟨e0, e1, e2, e3, e4, e5, efr⟩ := X2.out.2.1.cells
  go_upto_region 8 with fail
  go_cut [6] from 43 to 46 (fun s6 wx => ∃ x3, s6 = .float .f64 x3 ∧ Hid (FopIs (Ieee.double.div x2 fc) x3 ∧ TbAt wx q ⟨na, t.sum, t.mean, t.m, t.least, t.greatest⟩ ∧ w8.grownBy wx (some q)))
  case first =>
    go_wp2_with fail
    go_meet
    exact ⟨_, rfl, Lib.hid ⟨FopIs.mk _ _ _ _ (fop_lt _ _).2.2.2, X2.out.2.1.drewN _, grown_trans X2.out.2.2 (grown_drewN _ _ _)⟩⟩
  case rest =>
  obtain ⟨x3, rfl, X3⟩ := hcut
  clear a0 a1 a2 a3 a4 a5 e0 e1 e2 e3 e4 e5 efr
  obtain ⟨a0, a1, a2, a3, a4, a5, -⟩ := (HO.out.of (X3.out.2.2.block w.heap.size HO.out.lt (by simp; exact fun e => nB e.symm))).cells
  obtain ⟨e0, e1, e2, e3, e4, e5, efr⟩ := X3.out.2.1.cells
  go_upto_region 9 with fail
  go_cut [6] from 47 to 51 (fun s6 wx => ∃ x4, s6 = .float .f64 x4 ∧ Hid (FopIs (Ieee.double.mul x3 fb) x4 ∧ TbAt wx q ⟨na, t.sum, t.mean, t.m, t.least, t.greatest⟩ ∧ w8.grownBy wx (some q)))
  case first =>
    go_wp2_with fail
    go_meet
    exact ⟨_, rfl, Lib.hid ⟨FopIs.mk _ _ _ _ (fop_lt _ _).2.2.1, X3.out.2.1.drewN _, grown_trans X3.out.2.2 (grown_drewN _ _ _)⟩⟩
  case rest =>
  obtain ⟨x4, rfl, X4⟩ := hcut
  clear a0 a1 a2 a3 a4 a5 e0 e1 e2 e3 e4 e5 efr
  obtain ⟨a0, a1, a2, a3, a4, a5, -⟩ := (HO.out.of (X4.out.2.2.block w.heap.size HO.out.lt (by simp; exact fun e => nB e.symm))).cells
  obtain ⟨e0, e1, e2, e3, e4, e5, efr⟩ := X4.out.2.1.cells
  go_upto_region 10 with fail
  go_cut [6] from 52 to 63 (fun s6 wx => ∃ m1 mm, s6 = .float .f64 x4 ∧ Hid (FopIs (Ieee.double.add t.m o.m) m1 ∧ FopIs (Ieee.double.add m1 x4) mm ∧ TbAt wx q ⟨na, t.sum, t.mean, mm, t.least, t.greatest⟩ ∧ w8.grownBy wx (some q)))
  case first =>
    go_region
    all_goals (go_wp2_with fail; go_meet)
    all_goals exact ⟨_, _, rfl, Lib.hid ⟨FopIs.mk _ _ _ _ (fop_lt _ _).1, FopIs.mk _ _ _ _ (fop_lt _ _).1, (X4.out.2.1.drewN _).set3 _, grown_trans X4.out.2.2 (grown_trans (grown_drewN _ _ _) (grown_setCell _ _ _ _))⟩⟩
  case rest =>
  obtain ⟨m1, mm, rfl, TE⟩ := hcut
  clear a0 a1 a2 a3 a4 a5 e0 e1 e2 e3 e4 e5 efr
  obtain ⟨a0, a1, a2, a3, a4, a5, -⟩ := (HO.out.of (TE.out.2.2.2.block w.heap.size HO.out.lt (by simp; exact fun e => nB e.symm))).cells
  obtain ⟨e0, e1, e2, e3, e4, e5, efr⟩ := TE.out.2.2.1.cells
  go_upto_region 11 with fail
  go_cut [7] from 64 to 68 (fun s7 wx => ∃ y, s7 = .float .f64 y ∧ Hid (FopIs (Ieee.double.mul d fb) y ∧ TbAt wx q ⟨na, t.sum, t.mean, mm, t.least, t.greatest⟩ ∧ w8.grownBy wx (some q)))
  case first =>
    go_wp2_with fail
    go_meet
    exact ⟨_, rfl, Lib.hid ⟨FopIs.mk _ _ _ _ (fop_lt _ _).2.2.1, TE.out.2.2.1.drewN _, grown_trans TE.out.2.2.2 (grown_drewN _ _ _)⟩⟩
  case rest =>
  obtain ⟨y, rfl, TY⟩ := hcut
  clear a0 a1 a2 a3 a4 a5 e0 e1 e2 e3 e4 e5 efr
  obtain ⟨a0, a1, a2, a3, a4, a5, -⟩ := (HO.out.of (TY.out.2.2.block w.heap.size HO.out.lt (by simp; exact fun e => nB e.symm))).cells
  obtain ⟨e0, e1, e2, e3, e4, e5, efr⟩ := TY.out.2.1.cells
  go_upto_region 12 with fail
  go_cut [7] from 69 to 80 (fun s7 wx => ∃ y2 mn, s7 = .float .f64 y ∧ Hid (FopIs (Ieee.double.div y fc) y2 ∧ FopIs (Ieee.double.add t.mean y2) mn ∧ TbAt wx q ⟨na, t.sum, mn, mm, t.least, t.greatest⟩ ∧ w8.grownBy wx (some q)))
  case first =>
    go_wp2_with fail
    go_meet
    exact ⟨_, _, rfl, Lib.hid ⟨FopIs.mk _ _ _ _ (fop_lt _ _).2.2.2, FopIs.mk _ _ _ _ (fop_lt _ _).1, (TY.out.2.1.drewN _).set2 _, grown_trans TY.out.2.2 (grown_trans (grown_drewN _ _ _) (grown_setCell _ _ _ _))⟩⟩
  case rest =>
  obtain ⟨y2, mn, rfl, TM⟩ := hcut
  clear a0 a1 a2 a3 a4 a5 e0 e1 e2 e3 e4 e5 efr
  obtain ⟨a0, a1, a2, a3, a4, a5, -⟩ := (HO.out.of (TM.out.2.2.2.block w.heap.size HO.out.lt (by simp; exact fun e => nB e.symm))).cells
  obtain ⟨e0, e1, e2, e3, e4, e5, efr⟩ := TM.out.2.2.1.cells
  go_upto_region 13 with fail
  go_cut [7] from 81 to 90 (fun s7 wx => ∃ sm, s7 = .float .f64 y ∧ Hid (FopIs (Ieee.double.add t.sum o.sum) sm ∧ TbAt wx q ⟨na, sm, mn, mm, t.least, t.greatest⟩ ∧ w8.grownBy wx (some q)))
  case first =>
    go_region
    all_goals (go_wp2_with fail; go_meet)
    all_goals exact ⟨_, rfl, Lib.hid ⟨FopIs.mk _ _ _ _ (fop_lt _ _).1, (TM.out.2.2.1.drewN _).set1 _, grown_trans TM.out.2.2.2 (grown_trans (grown_drewN _ _ _) (grown_setCell _ _ _ _))⟩⟩
  case rest =>
  obtain ⟨sm, rfl, TS⟩ := hcut
  clear a0 a1 a2 a3 a4 a5 e0 e1 e2 e3 e4 e5 efr
  obtain ⟨a0, a1, a2, a3, a4, a5, -⟩ := (HO.out.of (TS.out.2.2.block w.heap.size HO.out.lt (by simp; exact fun e => nB e.symm))).cells
  obtain ⟨e0, e1, e2, e3, e4, e5, efr⟩ := TS.out.2.1.cells
  go_upto_region 14 with fail
  go_cut [7] from 91 to 94 (fun s7 wx => s7 = .float .f64 y ∧ Hid (TbAt wx q ⟨(na : Int) + (nb : Int), sm, mn, mm, t.least, t.greatest⟩ ∧ w8.grownBy wx (some q)))
  case first =>
    go_wp2_with fail
    go_meet
    exact ⟨rfl, Lib.hid ⟨TS.out.2.1.set0 _, grown_trans TS.out.2.2 (grown_setCell _ _ _ _)⟩⟩
  case rest =>
  obtain ⟨rfl, T0⟩ := hcut
  clear a0 a1 a2 a3 a4 a5 e0 e1 e2 e3 e4 e5 efr
  obtain ⟨a0, a1, a2, a3, a4, a5, -⟩ := (HO.out.of (T0.out.2.block w.heap.size HO.out.lt (by simp; exact fun e => nB e.symm))).cells
  obtain ⟨e0, e1, e2, e3, e4, e5, efr⟩ := T0.out.1.cells
  obtain ⟨lst, hlst⟩ : ∃ lst, lst = leastF t.least o.least := ⟨_, rfl⟩
  obtain ⟨gst, hgst⟩ : ∃ gst, gst = greatestF t.greatest o.greatest := ⟨_, rfl⟩
  have HLG := Lib.hid (And.intro hlst hgst)
  clear hlst hgst
  go_upto_region 15 with fail
  go_cut [7] from 95 to 104 (fun s7 wx => s7 = .float .f64 y ∧ Hid (TbAt wx q ⟨(na : Int) + (nb : Int), sm, mn, mm, lst, t.greatest⟩ ∧ w8.grownBy wx (some q)))
  case first =>
    go_region_with (go_at_call 86; refine (leastF_b t.least o.least _ HB.out.1 HB.out.2.2.1).mono ?_; rintro e w' ⟨rfl, rfl⟩; rw [← HLG.out.1])
    all_goals (go_wp2_with fail; go_meet)
    all_goals exact ⟨rfl, Lib.hid ⟨(T0.out.1.drewN _).set4 _, grown_trans T0.out.2 (grown_trans (grown_drewN _ _ _) (grown_setCell _ _ _ _))⟩⟩
  case rest =>
  obtain ⟨rfl, T4⟩ := hcut
  clear a0 a1 a2 a3 a4 a5 e0 e1 e2 e3 e4 e5 efr
  obtain ⟨a0, a1, a2, a3, a4, a5, -⟩ := (HO.out.of (T4.out.2.block w.heap.size HO.out.lt (by simp; exact fun e => nB e.symm))).cells
  obtain ⟨e0, e1, e2, e3, e4, e5, efr⟩ := T4.out.1.cells
  have hm : RMergeIs t o ⟨(na : Int) + (nb : Int), sm, mn, mm, lst, gst⟩ := by
    refine ⟨by rw [HNA.out, HNB.out], TS.out.1, ⟨d, y, y2, x1, x2, x3, x4, m1, TD.out.1, ?_, ?_, TM.out.2.1, X1.out.1, ?_, ?_, ?_, TE.out.1, TE.out.2.1⟩, HLG.out.1, HLG.out.2⟩
    · rw [HNB.out, show ((nb : Int)).toNat = nb from rfl, ← HF.out.2.1]; exact TY.out.1
    · rw [HNA.out, HNB.out, show ((na : Int) + (nb : Int)).toNat = na + nb by omega, ← HF.out.2.2]; exact TM.out.1
    · rw [HNA.out, show ((na : Int)).toNat = na from rfl, ← HF.out.1]; exact X2.out.1
    · rw [HNA.out, HNB.out, show ((na : Int) + (nb : Int)).toNat = na + nb by omega, ← HF.out.2.2]; exact X3.out.1
    · rw [HNB.out, show ((nb : Int)).toNat = nb from rfl, ← HF.out.2.1]; exact X4.out.1
  have HM := Lib.hid hm
  clear hm TD X1 X2 X3 X4 TE TY TM TS T0
  go_upto_region 16 with fail
  go_region_with (go_at_call 87; refine (greatestF_b t.greatest o.greatest _ HB.out.2.1 HB.out.2.2.2).mono ?_; rintro e w' ⟨rfl, rfl⟩; rw [← HLG.out.2])
  all_goals (go_wp2_with fail; go_end0)
  all_goals exact ⟨rfl, ⟨(na : Int) + (nb : Int), sm, mn, mm, lst, gst⟩, HM.out, (T4.out.1.drewN _).set5 _, grown_trans HG.out (grown_trans T4.out.2 (grown_trans (grown_drewN _ _ _) (grown_setCell _ _ _ _)))⟩
end Go.Proofs.Ytbpnhpjcepgiiaa
