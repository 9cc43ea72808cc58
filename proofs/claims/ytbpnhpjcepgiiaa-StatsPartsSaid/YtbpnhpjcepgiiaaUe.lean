/- Stats: the document's tally: a number, a NaN too, comes in. -/
import Derived.Test.YtbpnhpjcepgiiaaUd
namespace Go.Proofs.Ytbpnhpjcepgiiaa
open Go.RowKit Fl

structure TbAt (w : World) (q : Nat) (t : Ta) : Prop where
  at_ : w.heap[q]? = some (.cells #[.int .i64 t.n, .float .f64 t.sum, .float .f64 t.mean, .float .f64 t.m, .float .f64 t.least, .float .f64 t.greatest] 82 (0, 0))
theorem TbAt.cells {w : World} {q : Nat} {t : Ta} (h : TbAt w q t) :
    w.cell? ⟨q, 0, none⟩ = some (.int .i64 t.n) ∧ w.cell? ⟨q, 1, none⟩ = some (.float .f64 t.sum) ∧ w.cell? ⟨q, 2, none⟩ = some (.float .f64 t.mean) ∧
    w.cell? ⟨q, 3, none⟩ = some (.float .f64 t.m) ∧ w.cell? ⟨q, 4, none⟩ = some (.float .f64 t.least) ∧ w.cell? ⟨q, 5, none⟩ = some (.float .f64 t.greatest) ∧ ∀ k, w.frozen? ⟨q, k, none⟩ = false := by
  have h1 := h.at_
  refine ⟨?_, ?_, ?_, ?_, ?_, ?_, fun k => ?_⟩ <;> simp [World.cell?, World.frozen?, h1]
theorem TbAt.of {w w' : World} {q : Nat} {t : Ta} (h : TbAt w q t) (e : w'.heap[q]? = w.heap[q]?) : TbAt w' q t := ⟨by rw [e]; exact h.at_⟩
theorem TbAt.lt {w : World} {q : Nat} {t : Ta} (h : TbAt w q t) : q < w.heap.size := (Array.getElem?_eq_some_iff.1 h.at_).1

theorem TbAt.set0 {w : World} {q : Nat} {t : Ta} (h : TbAt w q t) (x : Int) : TbAt (w.setCell ⟨q, 0, none⟩ (.int .i64 x)) q { t with n := x } := ⟨by
  show (w.heap.modify q _)[q]? = _
  rw [Array.getElem?_modify, if_pos rfl, h.at_]
  rfl⟩
theorem TbAt.set1 {w : World} {q : Nat} {t : Ta} (h : TbAt w q t) (x : Nat) : TbAt (w.setCell ⟨q, 1, none⟩ (.float .f64 x)) q { t with sum := x } := ⟨by
  show (w.heap.modify q _)[q]? = _
  rw [Array.getElem?_modify, if_pos rfl, h.at_]
  rfl⟩
theorem TbAt.set2 {w : World} {q : Nat} {t : Ta} (h : TbAt w q t) (x : Nat) : TbAt (w.setCell ⟨q, 2, none⟩ (.float .f64 x)) q { t with mean := x } := ⟨by
  show (w.heap.modify q _)[q]? = _
  rw [Array.getElem?_modify, if_pos rfl, h.at_]
  rfl⟩
theorem TbAt.set3 {w : World} {q : Nat} {t : Ta} (h : TbAt w q t) (x : Nat) : TbAt (w.setCell ⟨q, 3, none⟩ (.float .f64 x)) q { t with m := x } := ⟨by
  show (w.heap.modify q _)[q]? = _
  rw [Array.getElem?_modify, if_pos rfl, h.at_]
  rfl⟩
theorem TbAt.set4 {w : World} {q : Nat} {t : Ta} (h : TbAt w q t) (x : Nat) : TbAt (w.setCell ⟨q, 4, none⟩ (.float .f64 x)) q { t with least := x } := ⟨by
  show (w.heap.modify q _)[q]? = _
  rw [Array.getElem?_modify, if_pos rfl, h.at_]
  rfl⟩
theorem TbAt.set5 {w : World} {q : Nat} {t : Ta} (h : TbAt w q t) (x : Nat) : TbAt (w.setCell ⟨q, 5, none⟩ (.float .f64 x)) q { t with greatest := x } := ⟨by
  show (w.heap.modify q _)[q]? = _
  rw [Array.getElem?_modify, if_pos rfl, h.at_]
  rfl⟩

theorem TbAt.drewN {w : World} {q : Nat} {t : Ta} (h : TbAt w q t) (k : Nat) : TbAt (w.drewN k) q t := ⟨h.at_⟩
theorem reforder_any (x y : Nat) (w : World) (hx : x < 18446744073709551616) (hy : y < 18446744073709551616) :
    Calls Try.prog 48 #[.float .f64 x, .float .f64 y] w fun e w' => e = .returned (.int .i64 (ordF x y)) ∧ w = w' := by
  have HX := Lib.hid hx
  have HY := Lib.hid hy
  have HV := Lib.hid (show ordF x y = if placeW x < placeW y then -1 else if placeW y < placeW x then 1 else 0 from rfl)
  obtain ⟨px, hpx⟩ : ∃ px, px = placeW x := ⟨_, rfl⟩
  obtain ⟨py, hpy⟩ : ∃ py, py = placeW y := ⟨_, rfl⟩
  have HPX := Lib.hid hpx
  have HPY := Lib.hid hpy
  have key : (px < py ∧ ordF x y = -1) ∨ (¬ px < py ∧ py < px ∧ ordF x y = 1) ∨ (¬ px < py ∧ ¬ py < px ∧ ordF x y = 0) := by
    rw [HV.out, ← hpx, ← hpy]
    by_cases h1 : px < py
    · exact .inl ⟨h1, if_pos h1⟩
    · by_cases h2 : py < px
      · exact .inr (.inl ⟨h1, h2, by rw [if_neg h1, if_pos h2]⟩)
      · exact .inr (.inr ⟨h1, h2, by rw [if_neg h1, if_neg h2]⟩)
  clear hx hy hpx hpy
  rcases key with ⟨h1, h2⟩ | ⟨h1, h3, h2⟩ | ⟨h1, h3, h2⟩
  · have hd1 : decide (px < py) = true := decide_eq_true h1
    have H2 := Lib.hid h2
    clear h1 h2
    go_enter Try.func48, Try.ntmps48
    go_wp2_with fail
    refine (place_any x _ HX.out).mono ?_
    rintro e w' ⟨rfl, rfl⟩
    rw [← HPX.out]
    go_wp2_with fail
    refine (place_any y _ HY.out).mono ?_
    rintro e w' ⟨rfl, rfl⟩
    rw [← HPY.out]
    go_wp2_with fail
    go_ret
    exact ⟨ret_int H2.out.symm, rfl⟩
  · have hd1 : decide (px < py) = false := decide_eq_false h1
    have hd2 : decide (py < px) = true := decide_eq_true h3
    have H2 := Lib.hid h2
    clear h1 h2
    go_enter Try.func48, Try.ntmps48
    go_wp2_with fail
    refine (place_any x _ HX.out).mono ?_
    rintro e w' ⟨rfl, rfl⟩
    rw [← HPX.out]
    go_wp2_with fail
    refine (place_any y _ HY.out).mono ?_
    rintro e w' ⟨rfl, rfl⟩
    rw [← HPY.out]
    go_wp2_with fail
    go_ret
    exact ⟨ret_int H2.out.symm, rfl⟩
  · have hd1 : decide (px < py) = false := decide_eq_false h1
    have hd2 : decide (py < px) = false := decide_eq_false h3
    have H2 := Lib.hid h2
    clear h1 h2
    go_enter Try.func48, Try.ntmps48
    go_wp2_with fail
    refine (place_any x _ HX.out).mono ?_
    rintro e w' ⟨rfl, rfl⟩
    rw [← HPX.out]
    go_wp2_with fail
    refine (place_any y _ HY.out).mono ?_
    rintro e w' ⟨rfl, rfl⟩
    rw [← HPY.out]
    go_wp2_with fail
    go_ret
    exact ⟨ret_int H2.out.symm, rfl⟩
def leastF (x y : Nat) : Nat := if ordF y x < 0 then y else x
theorem leastF_b (x y : Nat) (w : World) (hx : x < 18446744073709551616) (hy : y < 18446744073709551616) :
    Calls Try.prog 86 #[.float .f64 x, .float .f64 y] w fun e w' => e = .returned (.float .f64 (leastF x y)) ∧ w = w' := by
  have HX := Lib.hid hx
  have HY := Lib.hid hy
  clear hx hy
  unfold leastF
  by_cases h : ordF y x < 0
  · rw [if_pos h]
    have hd : decide (ordF y x < 0) = true := decide_eq_true h
    clear h
    go_enter Try.func86, Try.ntmps86
    go_wp2_with fail
    refine (reforder_any y x _ HY.out HX.out).mono ?_
    rintro e w' ⟨rfl, rfl⟩
    go_wp2_with fail
    go_ret
    exact ⟨rfl, rfl⟩
  · rw [if_neg h]
    have hd : decide (ordF y x < 0) = false := decide_eq_false h
    clear h
    go_enter Try.func86, Try.ntmps86
    go_wp2_with fail
    refine (reforder_any y x _ HY.out HX.out).mono ?_
    rintro e w' ⟨rfl, rfl⟩
    go_wp2_with fail
    go_ret
    exact ⟨rfl, rfl⟩
def greatestF (x y : Nat) : Nat := if 0 < ordF y x then y else x
theorem greatestF_b (x y : Nat) (w : World) (hx : x < 18446744073709551616) (hy : y < 18446744073709551616) :
    Calls Try.prog 87 #[.float .f64 x, .float .f64 y] w fun e w' => e = .returned (.float .f64 (greatestF x y)) ∧ w = w' := by
  have HX := Lib.hid hx
  have HY := Lib.hid hy
  clear hx hy
  unfold greatestF
  by_cases h : 0 < ordF y x
  · rw [if_pos h]
    have hd : decide (0 < ordF y x) = true := decide_eq_true h
    clear h
    go_enter Try.func87, Try.ntmps87
    go_wp2_with fail
    refine (reforder_any y x _ HY.out HX.out).mono ?_
    rintro e w' ⟨rfl, rfl⟩
    go_wp2_with fail
    go_ret
    exact ⟨rfl, rfl⟩
  · rw [if_neg h]
    have hd : decide (0 < ordF y x) = false := decide_eq_false h
    clear h
    go_enter Try.func87, Try.ntmps87
    go_wp2_with fail
    refine (reforder_any y x _ HY.out HX.out).mono ?_
    rintro e w' ⟨rfl, rfl⟩
    go_wp2_with fail
    go_ret
    exact ⟨rfl, rfl⟩
/-- how any number comes into the document's tally -/
structure InRef (t : Ta) (x : Nat) (t' : Ta) : Prop where
  n : t'.n = t.n + 1
  sum : FopIs (Ieee.double.add t.sum x) t'.sum
  d : ∃ d q d2 p, FopIs (Ieee.double.sub x t.mean) d ∧ FopIs (Ieee.double.div d (i2r (t.n + 1).toNat)) q ∧ FopIs (Ieee.double.add t.mean q) t'.mean ∧
    FopIs (Ieee.double.sub x t'.mean) d2 ∧ FopIs (Ieee.double.mul d d2) p ∧ FopIs (Ieee.double.add t.m p) t'.m
  least : t'.least = leastF (if t.n = 0 then x else t.least) x
  greatest : t'.greatest = greatestF (if t.n = 0 then x else t.greatest) x

set_option maxRecDepth 100000 in
set_option maxHeartbeats 2000000 in
theorem refadd_any (q x : Nat) (t : Ta) (w : World) (h : TbAt w q t) (hn0 : 0 ≤ t.n) (hn1 : t.n < 1000000000000) (b1 : t.least < 18446744073709551616) (b2 : t.greatest < 18446744073709551616) (b3 : x < 18446744073709551616) :
    Calls Try.prog 70 #[.pointer (some ⟨q, 0, none⟩), .float .f64 x] w fun e w' => e = .returned (.tuple #[]) ∧ ∃ t', InRef t x t' ∧ TbAt w' q t' ∧ w.grownBy w' (some q) := by
  obtain ⟨n, hn⟩ : ∃ n : Nat, t.n = (n : Int) := ⟨t.n.toNat, by omega⟩
  have hsum := run_add
  have hsub := run_sub
  have hmul := run_mul
  have hquo := run_quo
  obtain ⟨nf, hnf⟩ : ∃ nf, nf = i2r (t.n + 1).toNat := ⟨_, rfl⟩
  have hcv : floatOfInt .f64 ((n : Int) + 1) = nf := by rw [hnf, hn]; exact floatOfInt_nat (n + 1)
  have hnn : (n : Int) < 1000000000000 := by omega
  have hsf := run_store_float
  have H := Lib.hid h
  have HN := Lib.hid hn
  have HNF := Lib.hid hnf
  have HB := Lib.hid (And.intro b1 (And.intro b2 b3))
  obtain ⟨c0, c1, c2, c3, c4, c5, hfr⟩ := h.cells
  rw [hn] at c0
  obtain ⟨l0, hl0⟩ : ∃ l0, l0 = (if t.n = 0 then x else t.least) := ⟨_, rfl⟩
  obtain ⟨g0, hg0⟩ : ∃ g0, g0 = (if t.n = 0 then x else t.greatest) := ⟨_, rfl⟩
  have HL := Lib.hid hl0
  have HG := Lib.hid hg0
  clear hl0 hg0
  have hD : ∃ z, ((n : Int) == 0) = z ∧ ((z = true ∧ t.n = 0) ∨ (z = false ∧ t.n ≠ 0)) := by
    refine ⟨_, rfl, ?_⟩
    rw [hn]
    by_cases h0 : n = 0
    · subst h0; exact .inl ⟨rfl, rfl⟩
    · exact .inr ⟨by simp; omega, by omega⟩
  obtain ⟨z, hz, hzz⟩ := hD
  have HZZ := Lib.hid hzz
  clear h hn hnf hn0 hn1 b1 b2 b3 hzz
  go_enter Try.func70, Try.ntmps70
  go_upto_if 9 with fail
  go_cut [4] from 5 to 17 (fun _ wx => Hid (TbAt wx q ⟨n, t.sum, t.mean, t.m, l0, g0⟩ ∧ w.grownBy wx (some q)))
  case first =>
    rcases HZZ.out with ⟨rfl, h0⟩ | ⟨rfl, h0⟩
    · have hlx : Hid (l0 = x ∧ g0 = x) := Lib.hid ⟨by rw [HL.out, if_pos h0], by rw [HG.out, if_pos h0]⟩
      clear h0
      go_wp2_with fail
      go_meet
      refine Lib.hid ⟨?_, grown_trans (grown_setCell _ _ _ _) (grown_setCell _ _ _ _)⟩
      rw [hlx.out.1, hlx.out.2]
      have := (H.out.set4 x).set5 x
      rw [HN.out] at this
      exact this
    · have hlx : Hid (l0 = t.least ∧ g0 = t.greatest) := Lib.hid ⟨by rw [HL.out, if_neg h0], by rw [HG.out, if_neg h0]⟩
      clear h0
      go_wp2_with fail
      go_meet
      refine Lib.hid ⟨?_, World.grownBy.refl _ _⟩
      rw [hlx.out.1, hlx.out.2]
      have := H.out.at_
      rw [HN.out] at this
      exact ⟨this⟩
  case rest =>
  have T1 := hcut
  clear c0 c1 c2 c3 c4 c5 hfr hcut
  obtain ⟨c0, c1, c2, c3, c4, c5, hfr⟩ := T1.out.1.cells
  go_upto_region 4 with fail
  go_cut [4] from 25 to 33 (fun _ wx => ∃ sm, Hid (FopIs (Ieee.double.add t.sum x) sm ∧ TbAt wx q ⟨(n : Int) + 1, sm, t.mean, t.m, l0, g0⟩ ∧ w.grownBy wx (some q)))
  case first =>
    go_wp2_with fail
    go_meet
    exact ⟨_, Lib.hid ⟨FopIs.mk _ _ _ _ (fop_lt _ _).1, ((T1.out.1.set0 ((n : Int) + 1)).drewN _).set1 _, grown_trans T1.out.2 (grown_trans (grown_setCell _ _ _ _) (grown_trans (grown_drewN _ _ _) (grown_setCell _ _ _ _)))⟩⟩
  case rest =>
  obtain ⟨sm, TS⟩ := hcut
  clear c0 c1 c2 c3 c4 c5 hfr T1
  obtain ⟨c0, c1, c2, c3, c4, c5, hfr⟩ := TS.out.2.1.cells
  go_upto_region 5 with fail
  go_cut [4] from 34 to 39 (fun s4 wx => ∃ d, s4 = .float .f64 d ∧ Hid (FopIs (Ieee.double.sub x t.mean) d ∧ TbAt wx q ⟨(n : Int) + 1, sm, t.mean, t.m, l0, g0⟩ ∧ w.grownBy wx (some q)))
  case first =>
    go_wp2_with fail
    go_meet
    exact ⟨_, rfl, Lib.hid ⟨FopIs.mk _ _ _ _ (fop_lt _ _).2.1, TS.out.2.1.drewN _, grown_trans TS.out.2.2 (grown_drewN _ _ _)⟩⟩
  case rest =>
  obtain ⟨d, rfl, TD⟩ := hcut
  clear c0 c1 c2 c3 c4 c5 hfr
  obtain ⟨c0, c1, c2, c3, c4, c5, hfr⟩ := TD.out.2.1.cells
  go_upto_region 6 with fail
  go_cut [4] from 40 to 54 (fun s4 wx => ∃ qq m1, s4 = .float .f64 d ∧ Hid (FopIs (Ieee.double.div d nf) qq ∧ FopIs (Ieee.double.add t.mean qq) m1 ∧ TbAt wx q ⟨(n : Int) + 1, sm, m1, t.m, l0, g0⟩ ∧ w.grownBy wx (some q)))
  case first =>
    go_region
    all_goals (go_wp2_with fail; go_meet)
    all_goals exact ⟨_, _, rfl, Lib.hid ⟨FopIs.mk _ _ _ _ (fop_lt _ _).2.2.2, FopIs.mk _ _ _ _ (fop_lt _ _).1, (TD.out.2.1.drewN _).set2 _, grown_trans TD.out.2.2 (grown_trans (grown_drewN _ _ _) (grown_setCell _ _ _ _))⟩⟩
  case rest =>
  obtain ⟨qq, m1, rfl, TM⟩ := hcut
  clear c0 c1 c2 c3 c4 c5 hfr
  obtain ⟨c0, c1, c2, c3, c4, c5, hfr⟩ := TM.out.2.2.1.cells
  go_upto_region 7 with fail
  go_cut [4] from 55 to 70 (fun s4 wx => ∃ d2 p mm, Hid (FopIs (Ieee.double.sub x m1) d2 ∧ FopIs (Ieee.double.mul d d2) p ∧ FopIs (Ieee.double.add t.m p) mm ∧ TbAt wx q ⟨(n : Int) + 1, sm, m1, mm, l0, g0⟩ ∧ w.grownBy wx (some q)))
  case first =>
    go_region
    all_goals (go_wp2_with fail; go_meet)
    all_goals exact ⟨_, _, _, Lib.hid ⟨FopIs.mk _ _ _ _ (fop_lt _ _).2.1, FopIs.mk _ _ _ _ (fop_lt _ _).2.2.1, FopIs.mk _ _ _ _ (fop_lt _ _).1, (TM.out.2.2.1.drewN _).set3 _, grown_trans TM.out.2.2.2 (grown_trans (grown_drewN _ _ _) (grown_setCell _ _ _ _))⟩⟩
  case rest =>
  obtain ⟨d2, p, mm, T3⟩ := hcut
  clear c0 c1 c2 c3 c4 c5 hfr
  obtain ⟨c0, c1, c2, c3, c4, c5, hfr⟩ := T3.out.2.2.2.1.cells
  have hb3 : Hid (l0 < 18446744073709551616 ∧ g0 < 18446744073709551616 ∧ x < 18446744073709551616) := Lib.hid ⟨by rw [HL.out]; have := HB.out.1; have := HB.out.2.2; split <;> assumption, by rw [HG.out]; have := HB.out.2.1; have := HB.out.2.2; split <;> assumption, HB.out.2.2⟩
  go_wp2_with fail
  refine (leastF_b l0 x _ hb3.out.1 hb3.out.2.2).mono ?_
  rintro e w' ⟨rfl, rfl⟩
  obtain ⟨lst, hlst⟩ : ∃ lst, lst = leastF l0 x := ⟨_, rfl⟩
  rw [← hlst]
  have t4 := T3.out.2.2.2.1.set4 lst
  obtain ⟨e0, e1, e2, e3, e4, e5, efr⟩ := t4.cells
  have T4 := Lib.hid t4
  have HLS := Lib.hid hlst
  clear t4 hlst
  go_wp2_with fail
  refine (greatestF_b g0 x _ hb3.out.2.1 hb3.out.2.2).mono ?_
  rintro e w' ⟨rfl, rfl⟩
  obtain ⟨gst, hgst⟩ : ∃ gst, gst = greatestF g0 x := ⟨_, rfl⟩
  rw [← hgst]
  have HGS := Lib.hid hgst
  clear hgst
  go_wp2_with fail
  go_end0
  exact ⟨rfl, ⟨(n : Int) + 1, sm, m1, mm, lst, gst⟩, ⟨by rw [HN.out], TS.out.1, ⟨d, qq, d2, p, TD.out.1, by rw [← HNF.out]; exact TM.out.1, TM.out.2.1, T3.out.1, T3.out.2.1, T3.out.2.2.1⟩, by rw [← HL.out]; exact HLS.out, by rw [← HG.out]; exact HGS.out⟩, (T4.out.set5 gst).of (by rfl), grown_trans T3.out.2.2.2.2 (grown_trans (grown_setCell _ _ _ _) (grown_setCell _ _ _ _))⟩
end Go.Proofs.Ytbpnhpjcepgiiaa
