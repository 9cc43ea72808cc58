/- Stats: a number, a NaN too, comes into a tally. -/
import Derived.Test.YtbpnhpjcepgiiaaUa
namespace Go.Proofs.Ytbpnhpjcepgiiaa
open Go.RowKit Fl

theorem TaAt.drewN {w : World} {q : Nat} {t : Ta} (h : TaAt w q t) (k : Nat) : TaAt (w.drewN k) q t := ⟨h.at_⟩
/-- how any number comes in -/
structure InAny (t : Ta) (x : Nat) (t' : Ta) : Prop where
  n : t'.n = t.n + 1
  sum : FopIs (Ieee.double.add t.sum x) t'.sum
  d : ∃ d q d2 p, FopIs (Ieee.double.sub x t.mean) d ∧ FopIs (Ieee.double.div d (i2r (t.n + 1).toNat)) q ∧ FopIs (Ieee.double.add t.mean q) t'.mean ∧
    FopIs (Ieee.double.sub x t'.mean) d2 ∧ FopIs (Ieee.double.mul d d2) p ∧ FopIs (Ieee.double.add t.m p) t'.m
  least : t'.least = minTo (f3 (if t.n = 0 then x else t.least) (if t.n = 0 then x else t.greatest) x) 2
  greatest : t'.greatest = maxTo (f3 (if t.n = 0 then x else t.least) (if t.n = 0 then x else t.greatest) x) 2

set_option maxRecDepth 100000 in
set_option maxHeartbeats 2000000 in
theorem in_any (q x : Nat) (t : Ta) (w : World) (h : TaAt w q t) (hn0 : 0 ≤ t.n) (hn1 : t.n < 1000000000000) (b1 : t.least < 18446744073709551616) (b2 : t.greatest < 18446744073709551616) (b3 : x < 18446744073709551616) :
    Calls Try.prog 75 #[.pointer (some ⟨q, 0, none⟩), .float .f64 x] w fun e w' => e = .returned (.tuple #[]) ∧ ∃ t', InAny t x t' ∧ TaAt w' q t' ∧ w.grownBy w' (some q) := by
  obtain ⟨n, hn⟩ : ∃ n : Nat, t.n = (n : Int) := ⟨t.n.toNat, by omega⟩
  have hsum := run_add
  have hsub := run_sub
  have hmul := run_mul
  have hquo := run_quo
  obtain ⟨nf, hnf⟩ : ∃ nf, nf = i2r (t.n + 1).toNat := ⟨_, rfl⟩
  have hcv : floatOfInt .f64 ((n : Int) + 1) = nf := by rw [hnf, hn]; exact floatOfInt_nat (n + 1)
  have hnn : (n : Int) < 1000000000000 := by omega
  have hsf := run_store_float
  have H := Lib.hid h
  have HN := Lib.hid hn
  have HNF := Lib.hid hnf
  have HB := Lib.hid (And.intro b1 (And.intro b2 b3))
  obtain ⟨c0, c1, c2, c3, c4, c5, hfr⟩ := h.cells
  rw [hn] at c0
  obtain ⟨l0, hl0⟩ : ∃ l0, l0 = (if t.n = 0 then x else t.least) := ⟨_, rfl⟩
  obtain ⟨g0, hg0⟩ : ∃ g0, g0 = (if t.n = 0 then x else t.greatest) := ⟨_, rfl⟩
  have HL := Lib.hid hl0
  have HG := Lib.hid hg0
  clear hl0 hg0
  have hD : ∃ z, ((n : Int) == 0) = z ∧ ((z = true ∧ t.n = 0) ∨ (z = false ∧ t.n ≠ 0)) := by
    refine ⟨_, rfl, ?_⟩
    rw [hn]
    by_cases h0 : n = 0
    · subst h0; exact .inl ⟨rfl, rfl⟩
    · exact .inr ⟨by simp; omega, by omega⟩
  obtain ⟨z, hz, hzz⟩ := hD
  have HZZ := Lib.hid hzz
  clear h hn hnf hn0 hn1 b1 b2 b3 hzz
  go_enter Try.func75, Try.ntmps75
  go_upto_if 9 with fail
  go_cut [4] from 5 to 17 (fun _ wx => Hid (TaAt wx q ⟨n, t.sum, t.mean, t.m, l0, g0⟩ ∧ w.grownBy wx (some q)))
  case first =>
    rcases HZZ.out with ⟨rfl, h0⟩ | ⟨rfl, h0⟩
    · have hlx : Hid (l0 = x ∧ g0 = x) := Lib.hid ⟨by rw [HL.out, if_pos h0], by rw [HG.out, if_pos h0]⟩
      clear h0
      go_wp2_with fail
      go_meet
      refine Lib.hid ⟨?_, grown_trans (grown_setCell _ _ _ _) (grown_setCell _ _ _ _)⟩
      rw [hlx.out.1, hlx.out.2]
      have := (H.out.set4 x).set5 x
      rw [HN.out] at this
      exact this
    · have hlx : Hid (l0 = t.least ∧ g0 = t.greatest) := Lib.hid ⟨by rw [HL.out, if_neg h0], by rw [HG.out, if_neg h0]⟩
      clear h0
      go_wp2_with fail
      go_meet
      refine Lib.hid ⟨?_, World.grownBy.refl _ _⟩
      rw [hlx.out.1, hlx.out.2]
      have := H.out.at_
      rw [HN.out] at this
      exact ⟨this⟩
  case rest =>
  have T1 := hcut
  clear c0 c1 c2 c3 c4 c5 hfr hcut
  obtain ⟨c0, c1, c2, c3, c4, c5, hfr⟩ := T1.out.1.cells
  go_upto_region 3 with fail
  go_cut [4] from 25 to 32 (fun _ wx => ∃ sm, Hid (FopIs (Ieee.double.add t.sum x) sm ∧ TaAt wx q ⟨(n : Int) + 1, sm, t.mean, t.m, l0, g0⟩ ∧ w.grownBy wx (some q)))
  case first =>
    go_wp2_with fail
    go_meet
    exact ⟨_, Lib.hid ⟨FopIs.mk _ _ _ _ (fop_lt _ _).1, ((T1.out.1.set0 ((n : Int) + 1)).drewN _).set1 _, grown_trans T1.out.2 (grown_trans (grown_setCell _ _ _ _) (grown_trans (grown_drewN _ _ _) (grown_setCell _ _ _ _)))⟩⟩
  case rest =>
  obtain ⟨sm, TS⟩ := hcut
  clear c0 c1 c2 c3 c4 c5 hfr T1
  obtain ⟨c0, c1, c2, c3, c4, c5, hfr⟩ := TS.out.2.1.cells
  go_upto_region 4 with fail
  go_cut [4] from 33 to 38 (fun s4 wx => ∃ d, s4 = .float .f64 d ∧ Hid (FopIs (Ieee.double.sub x t.mean) d ∧ TaAt wx q ⟨(n : Int) + 1, sm, t.mean, t.m, l0, g0⟩ ∧ w.grownBy wx (some q)))
  case first =>
    go_wp2_with fail
    go_meet
    exact ⟨_, rfl, Lib.hid ⟨FopIs.mk _ _ _ _ (fop_lt _ _).2.1, TS.out.2.1.drewN _, grown_trans TS.out.2.2 (grown_drewN _ _ _)⟩⟩
  case rest =>
  obtain ⟨d, rfl, TD⟩ := hcut
  clear c0 c1 c2 c3 c4 c5 hfr
  obtain ⟨c0, c1, c2, c3, c4, c5, hfr⟩ := TD.out.2.1.cells
  go_upto_region 5 with fail
  go_cut [4] from 39 to 52 (fun s4 wx => ∃ qq m1, s4 = .float .f64 d ∧ Hid (FopIs (Ieee.double.div d nf) qq ∧ FopIs (Ieee.double.add t.mean qq) m1 ∧ TaAt wx q ⟨(n : Int) + 1, sm, m1, t.m, l0, g0⟩ ∧ w.grownBy wx (some q)))
  case first =>
    go_region
    all_goals (go_wp2_with fail; go_meet)
    all_goals exact ⟨_, _, rfl, Lib.hid ⟨FopIs.mk _ _ _ _ (fop_lt _ _).2.2.2, FopIs.mk _ _ _ _ (fop_lt _ _).1, (TD.out.2.1.drewN _).set2 _, grown_trans TD.out.2.2 (grown_trans (grown_drewN _ _ _) (grown_setCell _ _ _ _))⟩⟩
  case rest =>
  obtain ⟨qq, m1, rfl, TM⟩ := hcut
  clear c0 c1 c2 c3 c4 c5 hfr
  obtain ⟨c0, c1, c2, c3, c4, c5, hfr⟩ := TM.out.2.2.1.cells
  go_upto_region 6 with fail
  go_cut [4] from 53 to 67 (fun s4 wx => ∃ d2 p mm, Hid (FopIs (Ieee.double.sub x m1) d2 ∧ FopIs (Ieee.double.mul d d2) p ∧ FopIs (Ieee.double.add t.m p) mm ∧ TaAt wx q ⟨(n : Int) + 1, sm, m1, mm, l0, g0⟩ ∧ w.grownBy wx (some q)))
  case first =>
    go_region
    all_goals (go_wp2_with fail; go_meet)
    all_goals exact ⟨_, _, _, Lib.hid ⟨FopIs.mk _ _ _ _ (fop_lt _ _).2.1, FopIs.mk _ _ _ _ (fop_lt _ _).2.2.1, FopIs.mk _ _ _ _ (fop_lt _ _).1, (TM.out.2.2.1.drewN _).set3 _, grown_trans TM.out.2.2.2 (grown_trans (grown_drewN _ _ _) (grown_setCell _ _ _ _))⟩⟩
  case rest =>
  obtain ⟨d2, p, mm, T3⟩ := hcut
  clear c0 c1 c2 c3 c4 c5 hfr
  obtain ⟨c0, c1, c2, c3, c4, c5, hfr⟩ := T3.out.2.2.2.1.cells
  have hb3 : Hid (l0 < 18446744073709551616 ∧ g0 < 18446744073709551616 ∧ x < 18446744073709551616) := Lib.hid ⟨by rw [HL.out]; have := HB.out.1; have := HB.out.2.2; split <;> assumption, by rw [HG.out]; have := HB.out.2.1; have := HB.out.2.2; split <;> assumption, HB.out.2.2⟩
  obtain ⟨lst, hlst⟩ : ∃ lst, lst = minTo (f3 l0 g0 x) 2 := ⟨_, rfl⟩
  obtain ⟨gst, hgst⟩ : ∃ gst, gst = maxTo (f3 l0 g0 x) 2 := ⟨_, rfl⟩
  have HLT := Lib.hid (And.intro hlst hgst)
  clear hlst hgst
  have hX : ¬ wc.heap.size = q := fun e => Nat.lt_irrefl _ (e ▸ T3.out.2.2.2.1.lt)
  have hX2 : ¬ q = wc.heap.size := fun e => hX e.symm
  have hed : ∀ W : World, W.heap[wc.heap.size]? = some (.cells #[.float .f64 l0, .float .f64 g0, .float .f64 x] 22 (0, 0)) → Calls Try.prog 76 #[.slice (some ⟨wc.heap.size, 0, none⟩) 3 3] W fun e w' => e = .returned (.tuple #[.float .f64 lst, .float .f64 gst]) ∧ W = w' := fun W hW => by
    rw [HLT.out.1, HLT.out.2]
    exact edges_b ⟨wc.heap.size, 0, none⟩ 3 3 (f3 l0 g0 x) W (floats3 hW hb3.out.1 hb3.out.2.1 hb3.out.2.2) (by decide) (by decide)
  have HED := Lib.hid hed
  clear hed
  go_upto_region 7 with fail
  have ta := T3.out.2.2.2.1.of (Below.heap_alloc wc (.cells #[.float .f64 l0, .float .f64 g0, .float .f64 x] 22) q T3.out.2.2.2.1.lt)
  have fA4 : (wc.alloc (.cells #[.float .f64 l0, .float .f64 g0, .float .f64 x] 22)).drew.cell? ⟨q, 4, none⟩ = some (.float .f64 l0) := ta.cells.2.2.2.2.1
  have fA5 : (wc.alloc (.cells #[.float .f64 l0, .float .f64 g0, .float .f64 x] 22)).drew.cell? ⟨q, 5, none⟩ = some (.float .f64 g0) := ta.cells.2.2.2.2.2.1
  have zA : ∀ k, (wc.alloc (.cells #[.float .f64 l0, .float .f64 g0, .float .f64 x] 22)).drew.frozen? ⟨q, k, none⟩ = false := ta.cells.2.2.2.2.2.2
  have tb := ta.set4 lst
  have fB5 : ((wc.alloc (.cells #[.float .f64 l0, .float .f64 g0, .float .f64 x] 22)).setCell ⟨q, 4, none⟩ (.float .f64 lst)).drew.cell? ⟨q, 5, none⟩ = some (.float .f64 g0) := tb.cells.2.2.2.2.2.1
  have zB : ∀ k, ((wc.alloc (.cells #[.float .f64 l0, .float .f64 g0, .float .f64 x] 22)).setCell ⟨q, 4, none⟩ (.float .f64 lst)).drew.frozen? ⟨q, k, none⟩ = false := tb.cells.2.2.2.2.2.2
  have TA := Lib.hid ta
  clear ta tb
  go_region_law (first | (go_simp; go_at_call 76; refine (HED.out _ (by exact heap_alloc_new wc _)).mono ?_; rintro e w' ⟨rfl, rfl⟩))
  all_goals (go_wp2_with fail; go_end0)
  all_goals
    have hs5 := (TA.out.set4 lst).set5 gst
    exact ⟨rfl, ⟨(n : Int) + 1, sm, m1, mm, lst, gst⟩, ⟨by rw [HN.out], TS.out.1, ⟨d, qq, d2, p, TD.out.1, by rw [← HNF.out]; exact TM.out.1, TM.out.2.1, T3.out.1, T3.out.2.1, T3.out.2.2.1⟩, by rw [← HL.out, ← HG.out]; exact HLT.out.1, by rw [← HL.out, ← HG.out]; exact HLT.out.2⟩, hs5.of (by rfl), grown_trans T3.out.2.2.2.2 (grown_trans (grown_below ((Below.refl _ _).alloc (Nat.le_refl _) _) _) (grown_trans (grown_setCell _ _ _ _) (grown_trans (grown_setCell _ _ _ _) (grown_drewN _ 1 _))))⟩
end Go.Proofs.Ytbpnhpjcepgiiaa
