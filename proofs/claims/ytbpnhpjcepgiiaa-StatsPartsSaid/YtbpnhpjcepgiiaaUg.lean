/- Stats: Merge of two that hold numbers. -/
import Derived.Test.YtbpnhpjcepgiiaaUf
import Derived.Deep.RegionHeld3
import Derived.Deep.RegionLaw
namespace Go.Proofs.Ytbpnhpjcepgiiaa
open Go.RowKit Fl

def f4 (a b c d : Nat) : Nat → Nat := fun i => if i = 0 then a else if i = 1 then b else if i = 2 then c else d
theorem floatsF4 {w : World} {g : Nat} {T : TypeId} {a b c d : Nat} (h : w.heap[g]? = some (.cells #[.float .f64 a, .float .f64 b, .float .f64 c, .float .f64 d] T (0, 0))) (ha : a < 18446744073709551616) (hb : b < 18446744073709551616) (hc : c < 18446744073709551616) (hd : d < 18446744073709551616) :
    FloatsAt w (some ⟨g, 0, none⟩) 4 (f4 a b c d) := fun i hi => by
  have hg := (Array.getElem?_eq_some_iff.1 h).1
  have h3 : i = 0 ∨ i = 1 ∨ i = 2 ∨ i = 3 := by omega
  rcases h3 with rfl | rfl | rfl | rfl
  · exact ⟨_, rfl, by simp [Addr.add, World.cell?, h, f4], hg, ha⟩
  · exact ⟨_, rfl, by simp [Addr.add, World.cell?, h, f4], hg, hb⟩
  · exact ⟨_, rfl, by simp [Addr.add, World.cell?, h, f4], hg, hc⟩
  · exact ⟨_, rfl, by simp [Addr.add, World.cell?, h, f4], hg, hd⟩

theorem two_a (w : World) (c c' : Array Value) (T T' : TypeId) : ((w.alloc (.cells c T)).alloc (.cells c' T')).drew.heap[w.heap.size]? = some (.cells c T (0, 0)) :=
  (Below.heap_alloc (w.alloc (.cells c T)) (.cells c' T') w.heap.size (by simp)).trans (heap_alloc_new w _)
theorem two_b (w : World) (c c' : Array Value) (T T' : TypeId) : ((w.alloc (.cells c T)).alloc (.cells c' T')).drew.heap[w.heap.size + 1]? = some (.cells c' T' (0, 0)) := by
  have := heap_alloc_new (w.alloc (.cells c T)) (Obj.cells c' T')
  rw [show (w.alloc (.cells c T)).heap.size = w.heap.size + 1 by simp] at this
  exact this
/-- how two are merged -/
structure MergeIs (a b : Ta) (t' : Ta) : Prop where
  n : t'.n = a.n + b.n
  sum : FopIs (Ieee.double.add a.sum b.sum) t'.sum
  d : ∃ d y y2 x1 x2 x3 x4 m1, FopIs (Ieee.double.sub b.mean a.mean) d ∧
    FopIs (Ieee.double.mul d (i2r b.n.toNat)) y ∧ FopIs (Ieee.double.div y (i2r (a.n + b.n).toNat)) y2 ∧ FopIs (Ieee.double.add a.mean y2) t'.mean ∧
    FopIs (Ieee.double.mul d d) x1 ∧ FopIs (Ieee.double.mul x1 (i2r a.n.toNat)) x2 ∧ FopIs (Ieee.double.div x2 (i2r (a.n + b.n).toNat)) x3 ∧ FopIs (Ieee.double.mul x3 (i2r b.n.toNat)) x4 ∧
    FopIs (Ieee.double.add a.m b.m) m1 ∧ FopIs (Ieee.double.add m1 x4) t'.m
  least : t'.least = minTo (f4 a.least a.greatest b.least b.greatest) 3
  greatest : t'.greatest = maxTo (f4 a.least a.greatest b.least b.greatest) 3

set_option maxRecDepth 100000 in
set_option maxHeartbeats 2000000 in
theorem merge_both (q q2 : Nat) (t o : Ta) (w : World) (h : TaAt w q t) (h2 : TaAt w q2 o) (ht : 0 < t.n) (ho : 0 < o.n) (hb : t.n + o.n < 1000000000000) (hkt : TaOk t) (hko : TaOk o) :
    Calls Try.prog 43 #[.pointer (some ⟨q, 0, none⟩), .pointer (some ⟨q2, 0, none⟩)] w fun e w' => e = .returned (.int .i64 0) ∧ ∃ t', MergeIs t o t' ∧ TaAt w' q t' ∧ w.grownBy w' (some q) := by
  obtain ⟨na, hna⟩ : ∃ n : Nat, t.n = (n : Int) := ⟨t.n.toNat, by omega⟩
  obtain ⟨nb, hnb⟩ : ∃ n : Nat, o.n = (n : Int) := ⟨o.n.toNat, by omega⟩
  obtain ⟨c0, c1, c2, c3, c4, c5, -⟩ := h2.cells
  obtain ⟨d0, d1, d2, d3, d4, d5, -⟩ := h.cells
  rw [hnb] at c0
  rw [hna] at d0
  have hz1 : ((na : Int) == 0) = false := by simp; omega
  have hz2 : ((nb : Int) == 0) = false := by simp; omega
  have hsf := run_store_float
  have H := Lib.hid h
  have H2 := Lib.hid h2
  have HNA := Lib.hid hna
  have HNB := Lib.hid hnb
  have hnab : (na : Int) + (nb : Int) < 1000000000000 := by omega
  have kp : ∀ (a : Addr) (v : Value) (X Y : Obj), w.cell? a = some v → ((w.alloc X).alloc Y).drew.cell? a = some v := fun a v X Y hv => by
    have := (((Below.refl w.heap.size w).alloc (Nat.le_refl _) X).alloc (by simp) Y).drew.cell (World.block_lt_of_cell? w _ hv)
    rw [this]; exact hv
  have kc0 := fun X Y => kp _ _ X Y c0
  have kd0 := fun X Y => kp _ _ X Y d0
  have kc1 := fun X Y => kp _ _ X Y c1
  have kd1 := fun X Y => kp _ _ X Y d1
  have kc2 := fun X Y => kp _ _ X Y c2
  have kd2 := fun X Y => kp _ _ X Y d2
  have kc3 := fun X Y => kp _ _ X Y c3
  have kd3 := fun X Y => kp _ _ X Y d3
  have kc4 := fun X Y => kp _ _ X Y c4
  have kd4 := fun X Y => kp _ _ X Y d4
  have kc5 := fun X Y => kp _ _ X Y c5
  have kd5 := fun X Y => kp _ _ X Y d5
  have kp1 : ∀ (a : Addr) (v : Value) (X : Obj), w.cell? a = some v → (w.alloc X).drew.cell? a = some v := fun a v X hv => by
    have := (((Below.refl w.heap.size w).alloc (Nat.le_refl _) X)).drew.cell (World.block_lt_of_cell? w _ hv)
    rw [this]; exact hv
  have lc0 := fun X => kp1 _ _ X c0
  have ld0 := fun X => kp1 _ _ X d0
  have lc1 := fun X => kp1 _ _ X c1
  have ld1 := fun X => kp1 _ _ X d1
  have lc2 := fun X => kp1 _ _ X c2
  have ld2 := fun X => kp1 _ _ X d2
  have lc3 := fun X => kp1 _ _ X c3
  have ld3 := fun X => kp1 _ _ X d3
  have lc4 := fun X => kp1 _ _ X c4
  have ld4 := fun X => kp1 _ _ X d4
  have lc5 := fun X => kp1 _ _ X c5
  have ld5 := fun X => kp1 _ _ X d5
  clear h h2 ht ho hna hnb hb kp kp1
  go_enter Try.func43, Try.ntmps43
  go_upto_region 8 with fail
  go_cut [5, 6] from 36 to 41 (fun s5 s6 wx => ∃ A B, s5 = .pointer (some ⟨A, 0, none⟩) ∧ s6 = .pointer (some ⟨B, 0, none⟩) ∧ Hid (TaAt wx A t ∧ TaAt wx B o ∧ TaAt wx q t ∧ Below w.heap.size w wx ∧ w.heap.size ≤ A ∧ w.heap.size ≤ B))
  case first =>
    go_region
    all_goals (go_wp2_with fail; go_meet)
    all_goals first
      | exact ⟨w.heap.size, w.heap.size + 1, rfl, rfl, Lib.hid ⟨⟨by rw [HNA.out]; exact two_a _ _ _ _ _⟩, ⟨by rw [HNB.out]; exact two_b _ _ _ _ _⟩, H.out.of ((((Below.refl w.heap.size w).alloc (Nat.le_refl _) _).alloc (by simp) _).drew.block q H.out.lt), (((Below.refl w.heap.size w).alloc (Nat.le_refl _) _).alloc (by simp) _).drew, Nat.le_refl _, Nat.le_succ _⟩⟩
      | exact ⟨w.heap.size + 1, w.heap.size, rfl, rfl, Lib.hid ⟨⟨by rw [HNA.out]; exact two_b _ _ _ _ _⟩, ⟨by rw [HNB.out]; exact two_a _ _ _ _ _⟩, H.out.of ((((Below.refl w.heap.size w).alloc (Nat.le_refl _) _).alloc (by simp) _).drew.block q H.out.lt), (((Below.refl w.heap.size w).alloc (Nat.le_refl _) _).alloc (by simp) _).drew, Nat.le_succ _, Nat.le_refl _⟩⟩
  case rest =>
  obtain ⟨A, B, rfl, rfl, HAB⟩ := hcut
  clear c0 c1 c2 c3 c4 c5 d0 d1 d2 d3 d4 d5 kc0 kc1 kc2 kc3 kc4 kc5 kd0 kd1 kd2 kd3 kd4 kd5 lc0 lc1 lc2 lc3 lc4 lc5 ld0 ld1 ld2 ld3 ld4 ld5
  obtain ⟨a0, a1, a2, a3, a4, a5, -⟩ := HAB.out.1.cells
  obtain ⟨b0, b1, b2, b3, b4, b5, -⟩ := HAB.out.2.1.cells
  obtain ⟨e0, e1, e2, e3, e4, e5, efr⟩ := HAB.out.2.2.1.cells
  rw [HNA.out] at a0 e0
  rw [HNB.out] at b0
  have nA : ¬ q = A := by have := H.out.lt; have := HAB.out.2.2.2.2.1; omega
  have nB : ¬ q = B := by have := H.out.lt; have := HAB.out.2.2.2.2.2; omega
  have nA2 : ¬ A = q := fun e => nA e.symm
  have nB2 : ¬ B = q := fun e => nB e.symm
  have hsum := run_add
  have hsub := run_sub
  have hmul := run_mul
  have hquo := run_quo
  obtain ⟨fa, hfa⟩ : ∃ f, f = i2r na := ⟨_, rfl⟩
  obtain ⟨fb, hfb⟩ : ∃ f, f = i2r nb := ⟨_, rfl⟩
  obtain ⟨fc, hfc⟩ : ∃ f, f = i2r (na + nb) := ⟨_, rfl⟩
  have v1 : floatOfInt .f64 (na : Int) = fa := by rw [hfa, floatOfInt_nat]
  have v2 : floatOfInt .f64 (nb : Int) = fb := by rw [hfb, floatOfInt_nat]
  have v3 : floatOfInt .f64 ((na : Int) + (nb : Int)) = fc := by rw [hfc, ← floatOfInt_nat, Int.natCast_add]
  have HF := Lib.hid (And.intro hfa (And.intro hfb hfc))
  clear hfa hfb hfc
  have HC : Hid (TaAt wc q ⟨na, t.sum, t.mean, t.m, t.least, t.greatest⟩) := Lib.hid (by have := HAB.out.2.2.1.at_; rw [HNA.out] at this; exact ⟨this⟩)
  obtain ⟨w8, hw8⟩ : ∃ w8, w8 = wc := ⟨_, rfl⟩
  subst hw8
  go_upto_region 9 with fail
  go_quiet (fail)
  go_upto_region 10 with fail
  go_cut [10] from 54 to 58 (fun s10 wx => ∃ d, s10 = .float .f64 d ∧ Hid (FopIs (Ieee.double.sub o.mean t.mean) d ∧ TaAt wx q ⟨na, t.sum, t.mean, t.m, t.least, t.greatest⟩ ∧ w8.grownBy wx (some q)))
  case first =>
    go_wp2_with fail
    go_meet
    exact ⟨_, rfl, Lib.hid ⟨FopIs.mk _ _ _ _ (fop_lt _ _).2.1, HC.out.drewN _, grown_drewN _ _ _⟩⟩
  case rest =>
  obtain ⟨d, rfl, TD⟩ := hcut
  clear a0 a1 a2 a3 a4 a5 b0 b1 b2 b3 b4 b5 e0 e1 e2 e3 e4 e5 efr
  obtain ⟨a0, a1, a2, a3, a4, a5, -⟩ := (HAB.out.1.of (TD.out.2.2.block A HAB.out.1.lt (by simp; exact nA2))).cells
  obtain ⟨b0, b1, b2, b3, b4, b5, -⟩ := (HAB.out.2.1.of (TD.out.2.2.block B HAB.out.2.1.lt (by simp; exact nB2))).cells
  rw [HNA.out] at a0
  rw [HNB.out] at b0
  obtain ⟨e0, e1, e2, e3, e4, e5, efr⟩ := TD.out.2.1.cells
  go_upto_region 12 with fail
  go_cut [11] from 67 to 74 (fun _ wx => ∃ sm, Hid (FopIs (Ieee.double.add t.sum o.sum) sm ∧ TaAt wx q ⟨(na : Int) + (nb : Int), sm, t.mean, t.m, t.least, t.greatest⟩ ∧ w8.grownBy wx (some q)))
  case first =>
    go_wp2_with fail
    go_meet
    exact ⟨_, Lib.hid ⟨FopIs.mk _ _ _ _ (fop_lt _ _).1, ((TD.out.2.1.set0 _).drewN _).set1 _, grown_trans TD.out.2.2 (grown_trans (grown_setCell _ _ _ _) (grown_trans (grown_drewN _ _ _) (grown_setCell _ _ _ _)))⟩⟩
  case rest =>
  obtain ⟨sm, TS⟩ := hcut
  clear a0 a1 a2 a3 a4 a5 b0 b1 b2 b3 b4 b5 e0 e1 e2 e3 e4 e5 efr
  obtain ⟨a0, a1, a2, a3, a4, a5, -⟩ := (HAB.out.1.of (TS.out.2.2.block A HAB.out.1.lt (by simp; exact nA2))).cells
  obtain ⟨b0, b1, b2, b3, b4, b5, -⟩ := (HAB.out.2.1.of (TS.out.2.2.block B HAB.out.2.1.lt (by simp; exact nB2))).cells
  rw [HNA.out] at a0
  rw [HNB.out] at b0
  obtain ⟨e0, e1, e2, e3, e4, e5, efr⟩ := TS.out.2.1.cells
  go_upto_region 13 with fail
  go_cut [11] from 75 to 85 (fun _ wx => ∃ y y2 mn, Hid (FopIs (Ieee.double.mul d fb) y ∧ FopIs (Ieee.double.div y fc) y2 ∧ FopIs (Ieee.double.add t.mean y2) mn ∧ TaAt wx q ⟨(na : Int) + (nb : Int), sm, mn, t.m, t.least, t.greatest⟩ ∧ w8.grownBy wx (some q)))
  case first =>
    go_wp2_with fail
    go_meet
    exact ⟨_, _, _, Lib.hid ⟨FopIs.mk _ _ _ _ (fop_lt _ _).2.2.1, FopIs.mk _ _ _ _ (fop_lt _ _).2.2.2, FopIs.mk _ _ _ _ (fop_lt _ _).1, (TS.out.2.1.drewN _).set2 _, grown_trans TS.out.2.2 (grown_trans (grown_drewN _ _ _) (grown_setCell _ _ _ _))⟩⟩
  case rest =>
  obtain ⟨y, y2, mn, TM⟩ := hcut
  clear a0 a1 a2 a3 a4 a5 b0 b1 b2 b3 b4 b5 e0 e1 e2 e3 e4 e5 efr
  obtain ⟨a0, a1, a2, a3, a4, a5, -⟩ := (HAB.out.1.of (TM.out.2.2.2.2.block A HAB.out.1.lt (by simp; exact nA2))).cells
  obtain ⟨b0, b1, b2, b3, b4, b5, -⟩ := (HAB.out.2.1.of (TM.out.2.2.2.2.block B HAB.out.2.1.lt (by simp; exact nB2))).cells
  rw [HNA.out] at a0
  rw [HNB.out] at b0
  obtain ⟨e0, e1, e2, e3, e4, e5, efr⟩ := TM.out.2.2.2.1.cells
  go_upto_region 14 with fail
  go_cut [11] from 86 to 94 (fun s11 wx => ∃ x1 x2 x3 x4, s11 = .float .f64 x4 ∧ Hid (FopIs (Ieee.double.mul d d) x1 ∧ FopIs (Ieee.double.mul x1 fa) x2 ∧ FopIs (Ieee.double.div x2 fc) x3 ∧ FopIs (Ieee.double.mul x3 fb) x4 ∧ TaAt wx q ⟨(na : Int) + (nb : Int), sm, mn, t.m, t.least, t.greatest⟩ ∧ w8.grownBy wx (some q)))
  case first =>
    go_wp2_with fail
    go_meet
    exact ⟨_, _, _, _, rfl, Lib.hid ⟨FopIs.mk _ _ _ _ (fop_lt _ _).2.2.1, FopIs.mk _ _ _ _ (fop_lt _ _).2.2.1, FopIs.mk _ _ _ _ (fop_lt _ _).2.2.2, FopIs.mk _ _ _ _ (fop_lt _ _).2.2.1, TM.out.2.2.2.1.drewN _, grown_trans TM.out.2.2.2.2 (grown_drewN _ _ _)⟩⟩
  case rest =>
  obtain ⟨x1, x2, x3, x4, rfl, TX⟩ := hcut
  clear a0 a1 a2 a3 a4 a5 b0 b1 b2 b3 b4 b5 e0 e1 e2 e3 e4 e5 efr
  obtain ⟨a0, a1, a2, a3, a4, a5, -⟩ := (HAB.out.1.of (TX.out.2.2.2.2.2.block A HAB.out.1.lt (by simp; exact nA2))).cells
  obtain ⟨b0, b1, b2, b3, b4, b5, -⟩ := (HAB.out.2.1.of (TX.out.2.2.2.2.2.block B HAB.out.2.1.lt (by simp; exact nB2))).cells
  rw [HNA.out] at a0
  rw [HNB.out] at b0
  obtain ⟨e0, e1, e2, e3, e4, e5, efr⟩ := TX.out.2.2.2.2.1.cells
  go_upto_region 15 with fail
  go_cut [10] from 95 to 104 (fun _ wx => ∃ m1 mm, Hid (FopIs (Ieee.double.add t.m o.m) m1 ∧ FopIs (Ieee.double.add m1 x4) mm ∧ TaAt wx q ⟨(na : Int) + (nb : Int), sm, mn, mm, t.least, t.greatest⟩ ∧ w8.grownBy wx (some q)))
  case first =>
    go_wp2_with fail
    go_meet
    exact ⟨_, _, Lib.hid ⟨FopIs.mk _ _ _ _ (fop_lt _ _).1, FopIs.mk _ _ _ _ (fop_lt _ _).1, (TX.out.2.2.2.2.1.drewN _).set3 _, grown_trans TX.out.2.2.2.2.2 (grown_trans (grown_drewN _ _ _) (grown_setCell _ _ _ _))⟩⟩
  case rest =>
  obtain ⟨m1, mm, TE⟩ := hcut
  clear a0 a1 a2 a3 a4 a5 b0 b1 b2 b3 b4 b5 e0 e1 e2 e3 e4 e5 efr
  obtain ⟨a0, a1, a2, a3, a4, a5, -⟩ := (HAB.out.1.of (TE.out.2.2.2.block A HAB.out.1.lt (by simp; exact nA2))).cells
  obtain ⟨b0, b1, b2, b3, b4, b5, -⟩ := (HAB.out.2.1.of (TE.out.2.2.2.block B HAB.out.2.1.lt (by simp; exact nB2))).cells
  rw [HNA.out] at a0
  rw [HNB.out] at b0
  obtain ⟨e0, e1, e2, e3, e4, e5, efr⟩ := TE.out.2.2.1.cells
  go_wp2_with fail
  have hX : ¬ wc.heap.size = q := fun e => Nat.lt_irrefl _ (e ▸ TE.out.2.2.1.lt)
  have hX2 : ¬ q = wc.heap.size := fun e => hX e.symm
  obtain ⟨lst, hlst⟩ : ∃ lst, lst = minTo (f4 t.least t.greatest o.least o.greatest) 3 := ⟨_, rfl⟩
  obtain ⟨gst, hgst⟩ : ∃ gst, gst = maxTo (f4 t.least t.greatest o.least o.greatest) 3 := ⟨_, rfl⟩
  have ta := TE.out.2.2.1.of (Below.heap_alloc wc (.cells #[.float .f64 t.least, .float .f64 t.greatest, .float .f64 o.least, .float .f64 o.greatest] 22) q TE.out.2.2.1.lt)
  obtain ⟨-, -, -, -, g4, g5, gfr⟩ := ta.cells
  have TA := Lib.hid ta
  clear ta
  refine (edges_b ⟨wc.heap.size, 0, none⟩ 4 4 (f4 t.least t.greatest o.least o.greatest) _ (floatsF4 (heap_alloc_new wc _) hkt.b1 hkt.b2 hko.b1 hko.b2) (by decide) (by decide)).mono ?_
  rintro e w' ⟨rfl, rfl⟩
  rw [show 4 - 1 = 3 from rfl, ← hlst, ← hgst]
  have HLG := Lib.hid (And.intro hlst hgst)
  clear hlst hgst
  go_wp2_with fail
  go_ret
  refine ⟨rfl, ⟨(na : Int) + (nb : Int), sm, mn, mm, lst, gst⟩, ⟨by rw [HNA.out, HNB.out], TS.out.1, ⟨d, y, y2, x1, x2, x3, x4, m1, TD.out.1, ?_, ?_, TM.out.2.2.1, TX.out.1, ?_, ?_, ?_, TE.out.1, TE.out.2.1⟩, HLG.out.1, HLG.out.2⟩, (TA.out.set4 lst).set5 gst, ?_⟩
  · rw [HNB.out, show ((nb : Int)).toNat = nb from rfl, ← HF.out.2.1]; exact TM.out.1
  · rw [HNA.out, HNB.out, show ((na : Int) + (nb : Int)).toNat = na + nb by omega, ← HF.out.2.2]; exact TM.out.2.1
  · rw [HNA.out, show ((na : Int)).toNat = na from rfl, ← HF.out.1]; exact TX.out.2.1
  · rw [HNA.out, HNB.out, show ((na : Int) + (nb : Int)).toNat = na + nb by omega, ← HF.out.2.2]; exact TX.out.2.2.1
  · rw [HNB.out, show ((nb : Int)).toNat = nb from rfl, ← HF.out.2.1]; exact TX.out.2.2.2.1
  · exact grown_trans (grown_below HAB.out.2.2.2.1 _) (grown_trans TE.out.2.2.2 (grown_trans (grown_below ((Below.refl _ _).alloc (Nat.le_refl _) _) _) (grown_trans (grown_setCell _ _ _ _) (grown_setCell _ _ _ _))))
end Go.Proofs.Ytbpnhpjcepgiiaa
