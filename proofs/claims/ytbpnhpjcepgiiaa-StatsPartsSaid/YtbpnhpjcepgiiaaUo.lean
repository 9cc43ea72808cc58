/- Stats: one call of the law: merges, reset. -/
import Derived.Test.YtbpnhpjcepgiiaaUn
namespace Go.Proofs.Ytbpnhpjcepgiiaa
open Go.RowKit Fl

def RMergeOut (a c a' : Ta) : Prop := (c.n = 0 ∧ a' = a) ∨ (c.n ≠ 0 ∧ a.n = 0 ∧ a' = c) ∨ (c.n ≠ 0 ∧ a.n ≠ 0 ∧ RMergeIs a c a')
theorem merge_any (q q2 : Nat) (t o : Ta) (w : World) (h : TaAt w q t) (h2 : TaAt w q2 o) (hb : t.n + o.n < 1000000000000) (hkt : TaOk t) (hko : TaOk o) :
    Calls Try.prog 43 #[.pointer (some ⟨q, 0, none⟩), .pointer (some ⟨q2, 0, none⟩)] w fun e w' => e = .returned (.int .i64 0) ∧ ∃ t', ((o.n = 0 ∧ t' = t) ∨ (o.n ≠ 0 ∧ t.n = 0 ∧ t' = o) ∨ (o.n ≠ 0 ∧ t.n ≠ 0 ∧ MergeIs t o t')) ∧ TaAt w' q t' ∧ w.grownBy w' (some q) := by
  have := hkt.n0
  have := hko.n0
  by_cases h0 : o.n = 0
  · exact (merge_none q q2 o w h2 h0).mono fun e w' ⟨he, hw⟩ => by subst hw; exact ⟨he, t, .inl ⟨h0, rfl⟩, h, World.grownBy.refl _ _⟩
  · by_cases h1 : t.n = 0
    · exact (merge_first q q2 t o w h h2 h1 h0).mono fun e w' ⟨he, ht, hg⟩ => ⟨he, o, .inr (.inl ⟨h0, h1, rfl⟩), ht, hg⟩
    · exact (merge_both q q2 t o w h h2 (by omega) (by omega) hb hkt hko).mono fun e w' ⟨he, t', hm, ht, hg⟩ => ⟨he, t', .inr (.inr ⟨h0, h1, hm⟩), ht, hg⟩
theorem refmerge_any (q : Nat) (t o : Ta) (w : World) (h : TbAt w q t) (hb : t.n + o.n < 1000000000000) (ht0 : 0 ≤ t.n) (ho0 : 0 ≤ o.n) (b1 : t.least < 18446744073709551616) (b2 : t.greatest < 18446744073709551616) (b3 : o.least < 18446744073709551616) (b4 : o.greatest < 18446744073709551616) :
    Calls Try.prog 71 #[.pointer (some ⟨q, 0, none⟩), .agg #[.int .i64 o.n, .float .f64 o.sum, .float .f64 o.mean, .float .f64 o.m, .float .f64 o.least, .float .f64 o.greatest]] w fun e w' => e = .returned (.tuple #[]) ∧ ∃ t', RMergeOut t o t' ∧ TbAt w' q t' ∧ w.grownBy w' (some q) := by
  by_cases h0 : o.n = 0
  · exact (refmerge_none q o w h0).mono fun e w' ⟨he, hw⟩ => ⟨he, t, .inl ⟨h0, rfl⟩, h.of (hw.block q h.lt), grown_below hw _⟩
  · by_cases h1 : t.n = 0
    · exact (refmerge_first q t o w h h1 h0).mono fun e w' ⟨he, ht, hg⟩ => ⟨he, o, .inr (.inl ⟨h0, h1, rfl⟩), ht, hg⟩
    · exact (refmerge_both q t o w h (by omega) (by omega) hb b1 b2 b3 b4).mono fun e w' ⟨he, t', hm, ht, hg⟩ => ⟨he, t', .inr (.inr ⟨h0, h1, hm⟩), ht, hg⟩
theorem Pair.mergeOut {a b c d a' b' : Ta} (h : Pair a b) (h2 : Pair c d) (ha : (c.n = 0 ∧ a' = a) ∨ (c.n ≠ 0 ∧ a.n = 0 ∧ a' = c) ∨ (c.n ≠ 0 ∧ a.n ≠ 0 ∧ MergeIs a c a')) (hb : RMergeOut b d b') : Pair a' b' ∧ a'.n = a.n + c.n := by
  have e1 := h.n
  have e2 := h2.n
  rcases ha with ⟨p, rfl⟩ | ⟨p, p2, rfl⟩ | ⟨p, p2, p3⟩
  · rcases hb with ⟨r, rfl⟩ | ⟨r, r2, rfl⟩ | ⟨r, r2, r3⟩
    · exact ⟨h, by omega⟩
    · omega
    · omega
  · rcases hb with ⟨r, rfl⟩ | ⟨r, r2, rfl⟩ | ⟨r, r2, r3⟩
    · omega
    · exact ⟨h2, by omega⟩
    · omega
  · rcases hb with ⟨r, rfl⟩ | ⟨r, r2, rfl⟩ | ⟨r, r2, r3⟩
    · omega
    · omega
    · exact ⟨h.merge h2 p3 r3, p3.n⟩
section
variable {w : World} {q s : Nat} {oa : Option Addr} {n c : Nat} {f : Nat → Nat} {a b : Ta} {M : Int}
set_option maxRecDepth 100000 in
set_option maxHeartbeats 4000000 in
theorem ask_self (A : Hid (AskH w q s oa n f a b M)) :
    Calls Try.prog 38 #[.pointer (some ⟨q, 0, none⟩), .pointer (some ⟨s, 0, none⟩), .agg #[.int .i64 3, .slice oa n c]] w (AskPost w q s M) := by
  go_enter Try.func38, Try.ntmps38
  go_wp2_with fail
  refine (lent_b oa n c f _ (A.out.fl.below ((Below.refl _ _).alloc (Nat.le_refl _) _)) A.out.n200).mono ?_
  rintro e w1 ⟨g, cap, rfl, hm, hg, hcap, hcap2, hb⟩
  have HM := Lib.hid hm
  have hg1 : w.heap.size + 1 ≤ g := by simpa using hg
  have HG := Lib.hid hg1
  have hcX := boxX hb
  obtain ⟨c0, c1⟩ := hcX
  have HB1 : Hid (Below w.heap.size w w1) := Lib.hid (((Below.refl w.heap.size w).alloc (Nat.le_refl _) _).trans (hb.mono (by simp)))
  have HX : Hid (w.heap.size < w1.heap.size) := Lib.hid (by have := hb.size; simp at this; omega)
  clear hm hg hg1 hb
  have QS := Lib.hid (Ta_ne_Tb A.out.ta A.out.tb)
  have hta1 := A.out.ta.of (HB1.out.block q A.out.ta.lt)
  have htb1 := A.out.tb.of (HB1.out.block s A.out.tb.lt)
  have HTA := Lib.hid hta1
  have HTB := Lib.hid htb1
  obtain ⟨t0, t1, t2, t3, t4, t5, -⟩ := htb1.cells
  clear hta1 htb1 c1
  go_wp2_with fail
  refine (refmerge_any s b b _ HTB.out (by rw [← A.out.pair.n]; have := A.out.m; have := A.out.m2; omega) (by rw [← A.out.pair.n]; exact A.out.pair.n0) (by rw [← A.out.pair.n]; exact A.out.pair.n0) A.out.pair.least.b2 A.out.pair.greatest.b2 A.out.pair.least.b2 A.out.pair.greatest.b2).mono ?_
  rintro e w2 ⟨rfl, b', hmb, htb, hg2⟩
  have HMB := Lib.hid hmb
  have HTB2 := Lib.hid htb
  have HG2 := Lib.hid hg2
  have HTA2 : Hid (TaAt w2 q a) := Lib.hid (HTA.out.of (HG2.out.block q HTA.out.lt (by simp; exact QS.out)))
  clear t0 t1 t2 t3 t4 t5 hmb htb hg2
  go_wp2_with fail
  refine (merge_any q q a a _ HTA2.out HTA2.out (by have := A.out.m; have := A.out.m2; omega) A.out.pair.ok A.out.pair.ok).mono ?_
  rintro e w3 ⟨rfl, a', hma, hta, hg3⟩
  have HMA := Lib.hid hma
  have HTA3 := Lib.hid hta
  have HG3 := Lib.hid hg3
  clear hma hta hg3
  go_wp2_with fail
  refine (lnum_any 0 _).mono ?_
  rintro e w' ⟨rfl, rfl⟩
  go_wp2_with fail
  go_ret
  obtain ⟨hp, hn⟩ := A.out.pair.mergeOut A.out.pair HMA.out HMB.out
  exact ⟨rfl, a', b', hp, HTA3.out, HTB2.out.of (HG3.out.block s HTB2.out.lt (by simp; exact fun e => QS.out (by first | exact e | exact e.symm))), ((Kept.ofBelow HB1.out).trans (Kept.ofS HG2.out)).trans (Kept.ofQ HG3.out), by have := A.out.m; omega⟩
set_option maxRecDepth 100000 in
set_option maxHeartbeats 4000000 in
theorem ask_reset (A : Hid (AskH w q s oa n f a b M)) :
    Calls Try.prog 38 #[.pointer (some ⟨q, 0, none⟩), .pointer (some ⟨s, 0, none⟩), .agg #[.int .i64 4, .slice oa n c]] w (AskPost w q s M) := by
  go_enter Try.func38, Try.ntmps38
  go_wp2_with fail
  refine (lent_b oa n c f _ (A.out.fl.below ((Below.refl _ _).alloc (Nat.le_refl _) _)) A.out.n200).mono ?_
  rintro e w1 ⟨g, cap, rfl, hm, hg, hcap, hcap2, hb⟩
  have HM := Lib.hid hm
  have hg1 : w.heap.size + 1 ≤ g := by simpa using hg
  have HG := Lib.hid hg1
  have hcX := boxX hb
  obtain ⟨c0, c1⟩ := hcX
  have HB1 : Hid (Below w.heap.size w w1) := Lib.hid (((Below.refl w.heap.size w).alloc (Nat.le_refl _) _).trans (hb.mono (by simp)))
  have HX : Hid (w.heap.size < w1.heap.size) := Lib.hid (by have := hb.size; simp at this; omega)
  clear hm hg hg1 hb
  have QS := Lib.hid (Ta_ne_Tb A.out.ta A.out.tb)
  have hta1 := A.out.ta.of (HB1.out.block q A.out.ta.lt)
  have htb1 := A.out.tb.of (HB1.out.block s A.out.tb.lt)
  have HTA := Lib.hid hta1
  have HTB := Lib.hid htb1
  obtain ⟨t0, t1, t2, t3, t4, t5, tfr⟩ := htb1.cells
  have hsf := run_store_float
  clear hta1 htb1 c1
  go_upto_region 26 with fail
  have h2 : Hid (TbAt ((((((w1.setCell ⟨s, 0, none⟩ (.int .i64 0)).setCell ⟨s, 1, none⟩ (.float .f64 0)).setCell ⟨s, 2, none⟩ (.float .f64 0)).setCell ⟨s, 3, none⟩ (.float .f64 0)).setCell ⟨s, 4, none⟩ (.float .f64 0)).setCell ⟨s, 5, none⟩ (.float .f64 0)) s ⟨0, 0, 0, 0, 0, 0⟩ ∧ w1.grownBy ((((((w1.setCell ⟨s, 0, none⟩ (.int .i64 0)).setCell ⟨s, 1, none⟩ (.float .f64 0)).setCell ⟨s, 2, none⟩ (.float .f64 0)).setCell ⟨s, 3, none⟩ (.float .f64 0)).setCell ⟨s, 4, none⟩ (.float .f64 0)).setCell ⟨s, 5, none⟩ (.float .f64 0)) (some s)) :=
    Lib.hid ⟨(((((HTB.out.set0 0).set1 0).set2 0).set3 0).set4 0).set5 0, grown_trans (grown_setCell _ _ _ _) (grown_trans (grown_setCell _ _ _ _) (grown_trans (grown_setCell _ _ _ _) (grown_trans (grown_setCell _ _ _ _) (grown_trans (grown_setCell _ _ _ _) (grown_setCell _ _ _ _)))))⟩
  obtain ⟨w2, hw2⟩ : ∃ w2, w2 = ((((((w1.setCell ⟨s, 0, none⟩ (.int .i64 0)).setCell ⟨s, 1, none⟩ (.float .f64 0)).setCell ⟨s, 2, none⟩ (.float .f64 0)).setCell ⟨s, 3, none⟩ (.float .f64 0)).setCell ⟨s, 4, none⟩ (.float .f64 0)).setCell ⟨s, 5, none⟩ (.float .f64 0)) := ⟨_, rfl⟩
  rw [← hw2] at h2 ⊢
  clear hw2 t0 t1 t2 t3 t4 t5 tfr
  have HTA2 : Hid (TaAt w2 q a) := Lib.hid (HTA.out.of (h2.out.2.block q HTA.out.lt (by simp; exact QS.out)))
  go_wp2_with fail
  refine (reset_any q a _ HTA2.out).mono ?_
  rintro e w3 ⟨rfl, hta, hg3⟩
  have HTA3 := Lib.hid hta
  have HG3 := Lib.hid hg3
  clear hta hg3
  go_wp2_with fail
  refine (lnum_any 0 _).mono ?_
  rintro e w' ⟨rfl, rfl⟩
  go_wp2_with fail
  go_ret
  exact ⟨rfl, _, _, Pair.zero, HTA3.out, h2.out.1.of (HG3.out.block s h2.out.1.lt (by simp; exact fun e => QS.out (by first | exact e | exact e.symm))), ((Kept.ofBelow HB1.out).trans (Kept.ofS h2.out.2)).trans (Kept.ofQ HG3.out), by have := A.out.m; have := A.out.pair.n0; show (0 : Int) + 200 ≤ _; omega⟩
set_option maxRecDepth 100000 in
set_option maxHeartbeats 4000000 in
theorem ask_merge (A : Hid (AskH w q s oa n f a b M)) :
    Calls Try.prog 38 #[.pointer (some ⟨q, 0, none⟩), .pointer (some ⟨s, 0, none⟩), .agg #[.int .i64 2, .slice oa n c]] w (AskPost w q s M) := by
  have hn200 := A.out.n200
  go_enter Try.func38, Try.ntmps38
  go_wp2_with fail
  refine (lent_b oa n c f _ (A.out.fl.below ((Below.refl _ _).alloc (Nat.le_refl _) _)) A.out.n200).mono ?_
  rintro e w1 ⟨g, cap, rfl, hm, hg, hcap, hcap2, hb⟩
  have HM := Lib.hid hm
  have hg1 : w.heap.size + 1 ≤ g := by simpa using hg
  have HG := Lib.hid hg1
  have hcX := boxX hb
  obtain ⟨c0, c1⟩ := hcX
  have HB1 : Hid (Below w.heap.size w w1) := Lib.hid (((Below.refl w.heap.size w).alloc (Nat.le_refl _) _).trans (hb.mono (by simp)))
  have HX : Hid (w.heap.size < w1.heap.size) := Lib.hid (by have := hb.size; simp at this; omega)
  clear hm hg hg1 hb
  have QS := Lib.hid (Ta_ne_Tb A.out.ta A.out.tb)
  go_wp2_with fail
  refine (tnew_b _).mono ?_
  rintro e w2 ⟨rfl, ht2, hb2⟩
  obtain ⟨q2, hq2⟩ : ∃ x, x = w1.heap.size := ⟨_, rfl⟩
  rw [← hq2] at ht2 ⊢
  have HT2 := Lib.hid ht2
  have HB2 := Lib.hid hb2
  have HQ2 : Hid (w.heap.size < q2 ∧ q2 < w2.heap.size) := Lib.hid ⟨by rw [hq2]; exact HX.out, ht2.lt⟩
  have c2 : w2.cell? ⟨w.heap.size, 1, none⟩ = some (.slice oa n c) := by
    rw [HB2.out.cell (p := ⟨w.heap.size, 1, none⟩) HX.out]; exact c1
  have HM2 := Lib.hid (HM.out.of (HB2.out.block g (World.block_lt_of_cell? w1 _ HM.out.mark)) HB2.out.size)
  have HQQ := Lib.hid hq2
  have HGL : Hid (g < w1.heap.size) := Lib.hid (World.block_lt_of_cell? w1 _ HM.out.mark)
  clear c0 c1 ht2 hb2 hq2
  go_upto_region 13 with fail
  obtain ⟨w3, hw3⟩ : ∃ w3, w3 = w2.alloc (.cells #[.int .i64 0, .float .f64 0, .float .f64 0, .float .f64 0, .float .f64 0, .float .f64 0] 82) := ⟨_, rfl⟩
  obtain ⟨p, hp⟩ : ∃ p, p = w2.heap.size := ⟨_, rfl⟩
  have HP : Hid (TbAt w3 p ⟨0, 0, 0, 0, 0, 0⟩ ∧ q2 < p ∧ Below w2.heap.size w2 w3) := Lib.hid ⟨⟨by rw [hw3, hp]; exact heap_alloc_new _ _⟩, by rw [hp]; exact HQ2.out.2, by rw [hw3]; exact (Below.refl _ _).alloc (Nat.le_refl _) _⟩
  rw [← hw3, ← hp]
  have c3 : w3.cell? ⟨w.heap.size, 1, none⟩ = some (.slice oa n c) := by
    rw [HP.out.2.2.cell (p := ⟨w.heap.size, 1, none⟩) (Nat.lt_trans HQ2.out.1 HQ2.out.2)]; exact c2
  clear c2 hw3 hp
  have HM3 := Lib.hid (HM2.out.of (HP.out.2.2.block g (World.block_lt_of_cell? w2 _ HM2.out.mark)) HP.out.2.2.size)
  have HT3 : Hid (TaAt w3 q2 ⟨0, 0, 0, 0, 0, 0⟩) := Lib.hid (HT2.out.of (HP.out.2.2.block q2 HT2.out.lt))
  have HB3 : Hid (Below w.heap.size w w3) := Lib.hid ((HB1.out.trans (HB2.out.mono HB1.out.size)).trans (HP.out.2.2.mono (Nat.le_trans HB1.out.size HB2.out.size)))
  go_wp2_with fail
  refine (add_any q2 (some ⟨g, 0, none⟩) n cap f ⟨0, 0, 0, 0, 0, 0⟩ _ HT3.out Pair.zero.ok HM3.out.fl (fun _ ad h => by obtain rfl := Option.some.inj h; show g ≠ q2; rw [HQQ.out]; have := HGL.out; omega) (by omega) (by show (0 : Int) + n < _; omega)).mono ?_
  rintro e w4 ⟨rfl, c', hic, htc, hg4⟩
  have HIC := Lib.hid hic
  have HTC := Lib.hid htc
  have HG4 := Lib.hid hg4
  have HLQ : Hid (q < w.heap.size ∧ s < w.heap.size) := Lib.hid ⟨A.out.ta.lt, A.out.tb.lt⟩
  have c4 : w4.cell? ⟨w.heap.size, 1, none⟩ = some (.slice oa n c) := by
    rw [World.cell?_of_block (w := w3) (HG4.out.block w.heap.size (World.block_lt_of_cell? w3 _ c3) (by simp; have := HQ2.out.1; omega))]
    exact c3
  have HTA4 : Hid (TaAt w4 q a) := Lib.hid ((A.out.ta.of (HB3.out.block q A.out.ta.lt)).of (HG4.out.block q (Nat.lt_of_lt_of_le A.out.ta.lt HB3.out.size) (by simp; have := HQ2.out.1; have := HLQ.out.1; omega)))
  have hcn : Hid (TaOk c' ∧ c'.n = n) := Lib.hid (by have h := hic.ok Pair.zero.ok A.out.fl64; exact ⟨h.1, by rw [h.2]; show (0 : Int) + n = n; omega⟩)
  clear hic htc hg4 c3
  go_wp2_with fail
  refine (lnum_any 0 _).mono ?_
  rintro e w' ⟨rfl, rfl⟩
  go_wp2_with fail
  refine (merge_any q q2 a c' _ HTA4.out HTC.out (by rw [hcn.out.2]; have := A.out.m; have := A.out.m2; omega) A.out.pair.ok hcn.out.1).mono ?_
  rintro e w5 ⟨rfl, a', hma, hta, hg5⟩
  have HMA := Lib.hid hma
  have HTA := Lib.hid hta
  have HG5 := Lib.hid hg5
  have c5 : w5.cell? ⟨w.heap.size, 1, none⟩ = some (.slice oa n c) := by
    rw [World.cell?_of_block (w := w4) (HG5.out.block w.heap.size (World.block_lt_of_cell? w4 _ c4) (by simp; have := HLQ.out.1; omega))]
    exact c4
  have C5 := Lib.hid c5
  have K5 : Hid (Kept w w5 q s) := Lib.hid (((Kept.ofBelow HB3.out).ofNew HG4.out (Nat.le_of_lt HQ2.out.1)).trans (Kept.ofQ HG5.out))
  have HTC5 : Hid (TaAt w5 q2 c') := Lib.hid (HTC.out.of (HG5.out.block q2 HTC.out.lt (by simp; have := HQ2.out.1; have := HLQ.out.1; omega)))
  have HTP5 : Hid (TbAt w5 p ⟨0, 0, 0, 0, 0, 0⟩) := Lib.hid ((HP.out.1.of (HG4.out.block p HP.out.1.lt (by simp; have := HP.out.2.1; omega))).of (HG5.out.block p (Nat.lt_of_lt_of_le HP.out.1.lt HG4.out.size) (by simp; have := HP.out.2.1; have := HQ2.out.1; have := HLQ.out.1; omega)))
  have HTB5 : Hid (TbAt w5 s b) := Lib.hid (((A.out.tb.of (HB3.out.block s A.out.tb.lt)).of (HG4.out.block s (Nat.lt_of_lt_of_le A.out.tb.lt HB3.out.size) (by simp; have := HQ2.out.1; have := HLQ.out.2; omega))).of (HG5.out.block s (Nat.lt_of_lt_of_le (Nat.lt_of_lt_of_le A.out.tb.lt HB3.out.size) HG4.out.size) (by simp; exact fun e => QS.out (by first | exact e | exact e.symm))))
  clear hma hta hg5 c4 c5
  go_wp2_with fail
  refine (lnum_any 0 _).mono ?_
  rintro e w' ⟨rfl, rfl⟩
  go_wp2_with fail
  go_loopg [11] n (fun k0 s11 wr => ∃ k : Nat, s11 = .int .i64 k ∧ k0 = n - k ∧ k ≤ n ∧ ∃ d, Hid (RIns f ⟨0, 0, 0, 0, 0, 0⟩ k d ∧ TbAt wr p d ∧ w5.grownBy wr (some p)))
  case atStart => exact ⟨0, rfl, rfl, Nat.zero_le _, _, Lib.hid ⟨.zero, HTP5.out, World.grownBy.refl _ _⟩⟩
  case round =>
    obtain ⟨k, rfl, hgk, hk, d, HI⟩ := hrel
    have cx : wr.cell? ⟨w.heap.size, 1, none⟩ = some (.slice oa n c) := by
      rw [World.cell?_of_block (w := w5) (HI.out.2.2.block w.heap.size (World.block_lt_of_cell? w5 _ C5.out) (by simp; have := HP.out.2.1; have := HQ2.out.1; omega))]
      exact C5.out
    have K6 : Hid (Kept w wr q s) := Lib.hid (K5.out.ofNew HI.out.2.2 (by have := HP.out.2.1; have := HQ2.out.1; omega))
    have hb64 := HI.out.1.lt (by decide) (by decide) (fun i hi => A.out.fl64 i (by omega))
    have hbn := HI.out.1.n
    by_cases hlt : k < n
    · have hdk : decide ((k : Int) < (n : Int)) = true := by simp; omega
      obtain ⟨ad, ha, cl, -, hfl⟩ := (A.out.fl.kept K6.out A.out.ne) k hlt
      subst ha
      have HO := Lib.hid (And.intro hb64 (And.intro hbn hfl))
      clear hfl hb64 hbn
      go_wp2_with fail
      refine (refadd_any p (f k) d _ HI.out.2.1 (by rw [HO.out.2.1]; show (0 : Int) ≤ 0 + k; omega) (by rw [HO.out.2.1]; show (0 : Int) + k < _; omega) HO.out.1.1 HO.out.1.2 HO.out.2.2).mono ?_
      rintro e w6 ⟨rfl, d2, hi2, htb2, hg6⟩
      have HI2 : Hid (RIns f ⟨0, 0, 0, 0, 0, 0⟩ (k + 1) d2 ∧ TbAt w6 p d2 ∧ w5.grownBy w6 (some p)) := Lib.hid ⟨.succ HI.out.1 hi2, htb2, grown_trans HI.out.2.2 hg6⟩
      clear hi2 htb2 hg6
      go_wp2_with fail
      go_roundg (n - (k + 1))
      case measure => omega
      case rel => exact ⟨k + 1, by go_num, rfl, by omega, d2, HI2⟩
    · obtain rfl : k = n := by omega
      have hdk : decide ((k : Int) < (k : Int)) = false := by simp
      have HO := Lib.hid (And.intro hb64 hbn)
      obtain ⟨t0, t1, t2, t3, t4, t5, -⟩ := HI.out.2.1.cells
      have HTB6 : Hid (TbAt wr s b) := Lib.hid (HTB5.out.of (HI.out.2.2.block s HTB5.out.lt (by simp; have := HP.out.2.1; have := HQ2.out.1; have := HLQ.out.2; omega)))
      have HTC6 : Hid (TaAt wr q2 c') := Lib.hid (HTC5.out.of (HI.out.2.2.block q2 HTC5.out.lt (by simp; have := HP.out.2.1; omega)))
      have HTA6 : Hid (TaAt wr q a') := Lib.hid (HTA.out.of (HI.out.2.2.block q HTA.out.lt (by simp; have := HP.out.2.1; have := HQ2.out.1; have := HLQ.out.1; omega)))
      have HPC : Hid (Pair c' d) := Lib.hid (Pair.zero.ins k c' d A.out.fl64 HIC.out HI.out.1)
      clear hb64 hbn hlt
      go_wp2_with fail
      refine (refmerge_any s b d _ HTB6.out (by rw [HO.out.2, ← A.out.pair.n]; have := A.out.m; have := A.out.m2; show a.n + ((0 : Int) + k) < _; omega) (by rw [← A.out.pair.n]; exact A.out.pair.n0) (by rw [HO.out.2]; show (0 : Int) ≤ 0 + k; omega) A.out.pair.least.b2 A.out.pair.greatest.b2 HO.out.1.1 HO.out.1.2).mono ?_
      rintro e w6 ⟨rfl, b', hmb, htb, hg6⟩
      have HMB := Lib.hid hmb
      have HTB := Lib.hid htb
      have HG6 := Lib.hid hg6
      have HTC7 : Hid (TaAt w6 q2 c') := Lib.hid (HTC6.out.of (HG6.out.block q2 HTC6.out.lt (by simp; have := HQ2.out.1; have := HLQ.out.2; omega)))
      have HTD7 : Hid (TbAt w6 p d) := Lib.hid (HI.out.2.1.of (HG6.out.block p HI.out.2.1.lt (by simp; have := HP.out.2.1; have := HQ2.out.1; have := HLQ.out.2; omega)))
      have HTA7 : Hid (TaAt w6 q a') := Lib.hid (HTA6.out.of (HG6.out.block q HTA6.out.lt (by simp; exact QS.out)))
      clear hmb htb hg6 t0 t1 t2 t3 t4 t5 cx
      go_wp2_with fail
      refine (as_b q2 p c' d _ HPC.out HTC7.out HTD7.out).mono ?_
      rintro e w7 ⟨rfl, hb7⟩
      have HB7 := Lib.hid hb7
      clear hb7
      go_wp2_with fail
      refine (merge_nil2 q _).mono ?_
      rintro e w' ⟨rfl, rfl⟩
      go_wp2_with fail
      refine (lnum_any 1 _).mono ?_
      rintro e w' ⟨rfl, rfl⟩
      go_wp2_with fail
      go_ret
      obtain ⟨hp, hn⟩ := A.out.pair.mergeOut HPC.out HMA.out HMB.out
      exact ⟨rfl, a', b', hp, HTA7.out.of (HB7.out.block q HTA7.out.lt), HTB.out.of (HB7.out.block s HTB.out.lt), (K6.out.trans (Kept.ofS HG6.out)).trans (Kept.ofBelow HB7.out), by rw [hn, hcn.out.2]; have := A.out.m; have := A.out.pair.n0; omega⟩
theorem ask_any (k : Int) (A : Hid (AskH w q s oa n f a b M)) :
    Calls Try.prog 38 #[.pointer (some ⟨q, 0, none⟩), .pointer (some ⟨s, 0, none⟩), .agg #[.int .i64 k, .slice oa n c]] w (AskPost w q s M) := by
  by_cases hk : k < 0 ∨ 4 < k
  · exact ask_other k hk A
  · have h : k = 0 ∨ k = 1 ∨ k = 2 ∨ k = 3 ∨ k = 4 := by omega
    rcases h with rfl | rfl | rfl | rfl | rfl
    · exact ask_add0 A
    · exact ask_add1 A
    · exact ask_merge A
    · exact ask_self A
    · exact ask_reset A
end
end Go.Proofs.Ytbpnhpjcepgiiaa
