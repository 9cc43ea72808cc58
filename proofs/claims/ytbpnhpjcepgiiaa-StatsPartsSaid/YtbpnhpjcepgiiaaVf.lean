/- StatsHold: the walk. -/
import Derived.Test.YtbpnhpjcepgiiaaVe
import Derived.Deep.LoopGhost
import Derived.Deep.CutRange
namespace Go.Proofs.Ytbpnhpjcepgiiaa
open Go.RowKit Fl

theorem lnum_quiet (n : Int) (w : World) : Calls Try.prog 35 #[.int .i64 n] w fun e w' => e = .returned (.int .i64 n) ∧ w' = w := (lnum_any n w).mono fun _ _ ⟨h1, h2⟩ => ⟨h1, h2.symm⟩
theorem QOk.zero : QOk 0 := ⟨.inl (by decide), by decide⟩
theorem QOk.one : QOk 4607182418800017408 := ⟨.inl (by decide), by decide⟩
theorem kq_zero (n : Nat) : kq 0 n = 0 := by
  unfold kq fmul
  rw [if_pos (.inl (rv_small (x := 0) (by decide))), V_zero, Nat.zero_div]
theorem kq_one (n : Nat) (hn : n ≤ 300) : kq 4607182418800017408 n = n - 1 := by
  unfold kq
  rw [rv_small (x := 4607182418800017408) (by decide), ← one_i2r, i2r_mul 1 _ (by decide) (by omega) (by omega), Nat.one_mul, V_i2r _ (by omega), Nat.mul_div_cancel _ (two_pos _)]
/-- a share is not greater, or it is -/
theorem share_gt (p q : Nat) (hp : QOk p) (hq : QOk q) : (FloatKind.f64.format.order p q == some .gt) = decide (rv q < rv p) := by
  rw [ord, order_nn p q (hp.1.imp Nat.le_of_lt id) (hq.1.imp Nat.le_of_lt id)]
  rcases Nat.lt_trichotomy (rv p) (rv q) with h | h | h
  · rw [Nat.compare_eq_lt.2 h]; simp; omega
  · rw [Nat.compare_eq_eq.2 h]; simp; omega
  · rw [Nat.compare_eq_gt.2 h]; simp; omega
theorem ordF_le {x y : Nat} (h : placeW x ≤ placeW y) : decide (ordF x y ≤ 0) = true := by
  have := ordF_gt x y
  simp only [decide_eq_true_eq]
  omega

set_option maxRecDepth 100000 in
set_option maxHeartbeats 20000000 in
theorem holds_walk (os oa : Option Addr) (ns cs n c p q : Nat) (G : Nat → Int) (f : Nat → Nat) (w : World) (hs : Ints32 w os ns G) (hf : FloatsAt w oa n f) (hns : ns ≤ 300) (hn : n ≤ 300) (hp : p < 18446744073709551616) (hq : q < 18446744073709551616) :
    Calls Try.prog 8 #[.agg #[.slice os ns cs, .slice oa n c, .float .f64 p, .float .f64 q]] w fun e w' => e = .returned (.bool true) ∧ Below w.heap.size w w' := by
  have HS := Lib.hid hs
  have HF := Lib.hid hf
  have HPQ := Lib.hid (And.intro hp hq)
  have hd1 : decide ((300 : Int) < (ns : Int)) = false := by simp; omega
  have hd2 : decide ((300 : Int) < (n : Int)) = false := by simp; omega
  obtain ⟨m, hm⟩ : ∃ m : Nat → Int, m = fun i => (G i).tmod 1048576 := ⟨_, rfl⟩
  have HM : Hid (∀ i, (G i).tmod 1048576 = m i ∧ (m i).natAbs < 1048576) := Lib.hid (by rw [hm]; exact fun i => ⟨rfl, tmod_bound _⟩)
  clear hs hf hp hq hm
  go_enter Try.func8, Try.ntmps8
  go_upto_region 1 with fail
  go_quiet (fail)
  obtain ⟨w1, hw1⟩ : ∃ w1, w1 = (w.alloc (.cells #[.slice os ns cs, .slice oa n c, .float .f64 p, .float .f64 q] 102)).drewN nq := ⟨_, rfl⟩
  have B1 : Hid (Below w.heap.size w w1) := Lib.hid (by rw [hw1]; exact below_box w _ nq (Below.refl _ _))
  rw [← hw1]
  clear hw1
  go_wp2_with fail
  refine (tnew_b _).mono ?_
  rintro e w2 ⟨rfl, ht2, hb2⟩
  obtain ⟨q1, hq1⟩ : ∃ x, x = w1.heap.size := ⟨_, rfl⟩
  rw [← hq1] at ht2 ⊢
  have HT2 := Lib.hid ht2
  have HB2 := Lib.hid hb2
  have HQ1 := Lib.hid hq1
  clear ht2 hb2 hq1
  go_wp2_with fail
  refine (tnew_b _).mono ?_
  rintro e w3 ⟨rfl, ht3, hb3⟩
  obtain ⟨q2, hq2⟩ : ∃ x, x = w2.heap.size := ⟨_, rfl⟩
  rw [← hq2] at ht3 ⊢
  have B3 : Hid (Below w.heap.size w w3) := Lib.hid ((B1.out.trans (HB2.out.mono B1.out.size)).trans (hb3.mono (Nat.le_trans B1.out.size HB2.out.size)))
  have T3 : Hid (TaAt w3 q1 ⟨0, 0, 0, 0, 0, 0⟩ ∧ TaAt w3 q2 ⟨0, 0, 0, 0, 0, 0⟩ ∧ q1 < q2 ∧ w.heap.size ≤ q1) := Lib.hid ⟨HT2.out.of (hb3.block _ HT2.out.lt), ht3, by rw [hq2]; exact HT2.out.lt, by rw [HQ1.out]; exact B1.out.size⟩
  clear ht3 hb3 hq2 HT2 HB2 HQ1 B1
  go_wp2_with fail
  go_loopg [9, 10, 11, 12] ns (fun g s9 s10 s11 s12 wx => ∃ k : Nat, s9 = .int .i64 (sumI m k) ∧ s10 = .float .f64 (lastF m k) ∧ s12 = .int .i64 k ∧ g = ns - k ∧ k ≤ ns ∧ Hid (hasRow wx w3.heap.size 22 1 s11 k (fl (fun i => fi (m i)) k) ∧ Below w3.heap.size w3 wx))
  case atStart => exact ⟨0, rfl, rfl, rfl, rfl, Nat.zero_le _, Lib.hid ⟨⟨rfl, .inl ⟨rfl, rfl⟩⟩, Below.refl _ _⟩⟩
  case round =>
    obtain ⟨k, rfl, rfl, rfl, hg, hk, HI⟩ := hrel
    by_cases hlt : k < ns
    · have hdk : decide ((k : Int) < (ns : Int)) = true := by simp; omega
      obtain ⟨ad, ha, c1, _, hlo, hhi⟩ := (HS.out.below (B3.out.trans (HI.out.2.mono B3.out.size))) k hlt
      subst ha
      have hb := sumI_bound m k fun i _ => (HM.out i).2
      obtain ⟨hrem, hmb⟩ := HM.out k
      obtain ⟨S, hS⟩ : ∃ S, S = sumI m k := ⟨_, rfl⟩
      obtain ⟨x, hx⟩ : ∃ x, x = m k := ⟨_, rfl⟩
      obtain ⟨y, hy⟩ : ∃ y, y = G k := ⟨_, rfl⟩
      rw [← hy] at c1 hlo hhi hrem
      rw [← hx] at hmb hrem
      rw [← hS] at hb ⊢
      have HX := Lib.hid (And.intro hS hx)
      have hSb : S.natAbs ≤ 314572800 := by omega
      have hw1 : IntKind.i64.wrap (S + x) = S + x := IntWalk.i64_in _ (by omega)
      have hcv : floatOfInt .f64 x = fi x := rfl
      clear hS hx hy hb
      go_wp2_with (at_builtin; refine wpList_append_row _ rfl (.tmp 70) (.tmp 72) 25 25 rfl w3.heap.size 22 (.float .f64 0) 1 8 Try.underlying25 info_f64 rfl _ k (fl (fun i => fi (m i)) k) rfl (HI.out.1.alloc _) _ 1 [.float .f64 (fi x)] rfl (Src.slice Try.underlying25 ⟨wr.heap.size, 0, none⟩ 1 1 _ rfl (cell_one_new _ _ _) (by simp [Value.oneCell'])) ?_ ?_ ?_ ?_)
      · unfold maxLen; omega
      · omega
      · have := HI.out.2.size; simp; omega
      · intro v' w5 hr5 hg5 _
        have HI5 : Hid (hasRow w5 w3.heap.size 22 1 v' (k + 1) (fl (fun i => fi (m i)) (k + 1)) ∧ Below w3.heap.size w3 w5) := Lib.hid ⟨by rw [fl_succ, ← HX.out.2]; exact hr5, (HI.out.2.alloc HI.out.2.size _).grown hg5 (by have := HI.out.2.size; simp; omega) (fun j hj => (HI.out.1.lt j hj).1)⟩
        clear hr5 hg5
        go_wp2_with fail
        go_roundg (ns - (k + 1))
        case measure => omega
        case rel => exact ⟨k + 1, by rw [HX.out.1, HX.out.2]; rfl, by rw [HX.out.2]; rfl, by go_num, rfl, by omega, HI5⟩
    · obtain rfl : k = ns := by omega
      have hdk : decide ((k : Int) < (k : Int)) = false := by simp
      obtain ⟨ob, cb, rfl⟩ := row_any HI.out.1
      obtain ⟨F, hFd⟩ : ∃ F : Nat → Nat, F = fun i => fi (m i) := ⟨_, rfl⟩
      have hF64 : ∀ i, i < k → F i < 18446744073709551616 := by rw [hFd]; exact fun i _ => fi_lt _
      have hrow := HI.out.1
      rw [← hFd] at hrow
      have HR := Lib.hid (floats_of_row hrow hF64)
      have HFD := Lib.hid hFd
      have HF64 := Lib.hid hF64
      have BR : Hid (Below w.heap.size w wr) := Lib.hid (B3.out.trans (HI.out.2.mono B3.out.size))
      have TR : Hid (TaAt wr q1 ⟨0, 0, 0, 0, 0, 0⟩ ∧ TaAt wr q2 ⟨0, 0, 0, 0, 0, 0⟩ ∧ q1 < w3.heap.size ∧ q2 < w3.heap.size) := Lib.hid ⟨T3.out.1.of (HI.out.2.block q1 T3.out.1.lt), T3.out.2.1.of (HI.out.2.block q2 T3.out.2.1.lt), T3.out.1.lt, T3.out.2.1.lt⟩
      have Q12 : Hid (q1 < q2 ∧ w.heap.size ≤ q1) := Lib.hid ⟨T3.out.2.2.1, T3.out.2.2.2⟩
      obtain ⟨S, hS⟩ : ∃ S, S = sumI m k := ⟨_, rfl⟩
      have hSb : S.natAbs ≤ 314572800 := by have := sumI_bound m k fun i _ => (HM.out i).2; rw [hS]; omega
      have HSS := Lib.hid hS
      rw [← hS]
      obtain ⟨lst, hlst⟩ : ∃ lst, lst = lastF m k := ⟨_, rfl⟩
      rw [← hlst]
      have HLST := Lib.hid hlst
      clear hlt hrow hFd hF64 hS hlst T3
      go_wp2_with fail
      refine (add_any q1 ob k cb F ⟨0, 0, 0, 0, 0, 0⟩ _ TR.out.1 Pair.zero.ok HR.out.1 (fun _ ad h => by have := HR.out.2.1 ad h; have := TR.out.2.2.1; omega) (by omega) (by show (0 : Int) + k < _; omega)).mono ?_
      rintro e w4 ⟨rfl, t1, hi1, ht1, hg4⟩
      have HI1 := Lib.hid hi1
      have HT1 := Lib.hid ht1
      have HG4 := Lib.hid hg4
      have B4 : Hid (Below w.heap.size w w4) := Lib.hid (BR.out.grown hg4 BR.out.size (fun j hj => by obtain rfl := Option.some.inj hj; exact Q12.out.2))
      clear hi1 ht1 hg4
      go_wp2_with fail
      refine (lnum_any 0 _).mono ?_
      rintro e w' ⟨rfl, rfl⟩
      go_wp2_with fail
      refine (add_any q2 oa n c f ⟨0, 0, 0, 0, 0, 0⟩ _ (TR.out.2.1.of (HG4.out.block q2 TR.out.2.1.lt (by simp; have := Q12.out.1; omega))) Pair.zero.ok (HF.out.below B4.out) (fun h0 ad h => by
          obtain ⟨ad2, h2, _, h3, _⟩ := HF.out 0 h0
          rw [h] at h2
          obtain rfl := Option.some.inj h2
          have := Q12.out
          omega) (by omega) (by show (0 : Int) + n < _; omega)).mono ?_
      rintro e w5 ⟨rfl, o1, hi2, ht2, hg5⟩
      have HI2 := Lib.hid hi2
      have T5 : Hid (TaAt w5 q1 t1 ∧ TaAt w5 q2 o1) := Lib.hid ⟨HT1.out.of (hg5.block q1 HT1.out.lt (by simp; have := Q12.out.1; omega)), ht2⟩
      have B5 : Hid (Below w.heap.size w w5) := Lib.hid (B4.out.grown hg5 B4.out.size (fun j hj => by obtain rfl := Option.some.inj hj; have := Q12.out; omega))
      have K5 : Hid (Kept wr w5 q1 q2) := Lib.hid ((Kept.ofQ HG4.out).trans (Kept.ofS hg5))
      have HN1 : Hid (t1.n = k ∧ o1.n = n ∧ TaOk t1 ∧ TaOk o1) := Lib.hid (by
        have h1 := HI1.out.ok Pair.zero.ok HF64.out
        have h2 := hi2.ok Pair.zero.ok (fun i hi => by obtain ⟨_, _, _, _, h⟩ := HF.out i hi; exact h)
        exact ⟨by rw [h1.2]; show (0 : Int) + k = k; omega, by rw [h2.2]; show (0 : Int) + n = n; omega, h1.1, h2.1⟩)
      have HSUM : Hid (t1.sum = fi S) := Lib.hid (by
        have := HI1.out.sum (g := m) 0 rfl (fun i _ => by rw [HFD.out]) (by decide) (fun i _ => (HM.out i).2) hns
        rw [this, HSS.out]
        congr 1; omega)
      clear hi2 ht2 hg5
      go_wp2_with fail
      refine (lnum_any 0 _).mono ?_
      rintro e w' ⟨rfl, rfl⟩
      have hD : ∃ z, decide (0 < k) = z ∧ ((z = true ∧ 0 < k) ∨ z = false) := by
        refine ⟨_, rfl, ?_⟩
        by_cases h0 : 0 < k
        · exact .inl ⟨decide_eq_true h0, h0⟩
        · exact .inr (decide_eq_false h0)
      obtain ⟨z, hz, hzz⟩ := hD
      have HZ := Lib.hid hzz
      clear hzz
      go_upto_if 88 with fail
      go_cut [14, 15, 16, 17] from 89 to 118 (fun _ _ _ _ wx => Hid (Below w5.heap.size w5 wx))
      case first =>
        rcases HZ.out with ⟨rfl, hk0⟩ | rfl
        · clear hz
          have hsf := run_store_float
          have heqS : FloatKind.f64.format.order (fi S) (fi S) = some .eq := order_fi S (by omega)
          have hcvS : floatOfInt .f64 S = fi S := rfl
          obtain ⟨g, rfl, hgB, hcb⟩ := HR.out.2.2 hk0
          have HGB := Lib.hid hgB
          have hml := HM.out (k - 1)
          have heqL : FloatKind.f64.format.order (fi (m (k - 1))) (fi (m (k - 1))) = some .eq := order_fi _ (by omega)
          have hlast : lst = fi (m (k - 1)) := by
            rw [HLST.out]
            obtain ⟨j, rfl⟩ : ∃ j, k = j + 1 := ⟨k - 1, by omega⟩
            rfl
          obtain ⟨fs, hfs⟩ : ∃ fs, fs = fi S := ⟨_, rfl⟩
          rw [← hfs] at heqS hcvS
          rw [← hlast] at heqL
          have HFS := Lib.hid hfs
          have HFL := Lib.hid hlast
          clear hgB hml hlast hfs
          go_wp2_with fail
          refine (told_any q1 t1 _ T5.out.1 (by rw [HN1.out.1]; omega)).mono ?_
          rintro e w6 ⟨sp, -, rfl, hb6⟩
          unfold Ta.told
          rw [HSUM.out, ← HFS.out]
          have HB6 := Lib.hid hb6
          clear hb6
          go_upto_region 20 with fail
          obtain ⟨w7, hw7⟩ : ∃ w7, w7 = w6.alloc (.cells #[.int .i64 t1.n, .float .f64 fs, .float .f64 t1.mean, .float .f64 sp, .float .f64 t1.least, .float .f64 t1.greatest] 92) := ⟨_, rfl⟩
          have hx := cells6 (heap_alloc_new w6 (.cells #[.int .i64 t1.n, .float .f64 fs, .float .f64 t1.mean, .float .f64 sp, .float .f64 t1.least, .float .f64 t1.greatest] 92))
          have B7 : Hid (Below w5.heap.size w5 w7) := Lib.hid (by rw [hw7]; exact HB6.out.alloc HB6.out.size _)
          rw [← hw7] at hx ⊢
          have c1 := hx.2.1
          clear hx hw7
          go_wp2_with fail
          refine (falling_b g k cb F m _ ((HR.out.1.kept K5.out (fun _ ad h => by obtain rfl := Option.some.inj h; have := HGB.out; have := TR.out.2.2; constructor <;> (show g ≠ _; omega))).below B7.out) (fun i hi => ⟨by rw [HFD.out], (HM.out i).2⟩) hk0 hns hcb).mono ?_
          rintro e w' ⟨rfl, rfl⟩
          rw [← HFL.out]
          go_wp2_with fail
          refine (lnum_any 0 _).mono ?_
          rintro e w' ⟨rfl, rfl⟩
          go_wp2_with fail
          refine (lnum_any 0 _).mono ?_
          rintro e w' ⟨rfl, rfl⟩
          go_wp2_with fail
          go_meet
          exact B7
        · clear hz
          go_wp2_with fail
          go_meet
          exact Lib.hid (Below.refl _ _)
      case rest =>
      have BC := hcut
      have TC : Hid (TaAt wc q1 t1 ∧ TaAt wc q2 o1) := Lib.hid ⟨T5.out.1.of (BC.out.block q1 T5.out.1.lt), T5.out.2.of (BC.out.block q2 T5.out.2.lt)⟩
      have B6 : Hid (Below w.heap.size w wc) := Lib.hid (B5.out.trans (BC.out.mono B5.out.size))
      clear hcut
      go_wp2_with fail
      refine (merge_any q1 q2 t1 o1 _ TC.out.1 TC.out.2 (by rw [HN1.out.1, HN1.out.2.1]; omega) HN1.out.2.2.1 HN1.out.2.2.2).mono ?_
      rintro e w7 ⟨rfl, a', hma, hta, hg7⟩
      have han : a'.n = (k : Int) + (n : Int) := by
        have e1 := HN1.out.1
        have e2 := HN1.out.2.1
        rcases hma with ⟨p1, rfl⟩ | ⟨p1, p2, rfl⟩ | ⟨p1, p2, p3⟩
        · omega
        · omega
        · rw [p3.n]; omega
      have HTA := Lib.hid hta
      have B7 : Hid (Below w.heap.size w w7) := Lib.hid (B6.out.grown hg7 B6.out.size (fun j hj => by obtain rfl := Option.some.inj hj; exact Q12.out.2))
      clear hma hta hg7
      go_wp2_with fail
      refine (lnum_any 0 _).mono ?_
      rintro e w' ⟨rfl, rfl⟩
      go_wp2_with fail
      refine (count_any q1 a' _ HTA.out).mono ?_
      rintro e w' ⟨rfl, rfl⟩
      rw [han]
      clear han
      go_wp2_with fail
      refine (boxes_b w7.heap.size n c oa f _ (heap_alloc_new w7 _) (HF.out.below (B7.out.alloc B7.out.size _)) hn).mono ?_
      rintro e w8 ⟨bb, n0, n1, n2, n3, rfl, hbb, hrow, hsum, hb8⟩
      have B8 : Hid (Below w.heap.size w w8) := Lib.hid ((B7.out.alloc B7.out.size _).trans (hb8.mono (by simp; have := B7.out.size; omega)))
      obtain ⟨b0, b1, b2, b3, -⟩ := cells4 hrow
      have hsumI : (n0 : Int) + (n1 : Int) + (n2 : Int) + (n3 : Int) = (n : Int) := by omega
      clear hbb hrow hb8 B7 HTA
      go_upto_region 26 with fail
      go_quiet (first | (go_at_call 35; refine Calls.quiet_of_same (lnum_quiet 0 _)))
      have B9 : Hid (Below w.heap.size w (w8.drewN nq)) := Lib.hid ⟨B8.out.os, B8.out.tape, B8.out.output, B8.out.size, B8.out.block⟩
      obtain ⟨w9, hw9⟩ : ∃ w9, w9 = w8.drewN nq := ⟨_, rfl⟩
      rw [← hw9] at B9 ⊢
      clear hw9 b0 b1 b2 b3 B8
      go_wp2_with fail
      refine (quant_any p n c oa f _ (HF.out.below B9.out) hn HPQ.out.1).mono ?_
      rintro e w10 ⟨x, er, rfl, hb10, hx⟩
      have B10 : Hid (Below w.heap.size w w10) := Lib.hid (B9.out.trans (hb10.mono B9.out.size))
      have HX := Lib.hid hx
      clear hb10 hx
      go_wp2_with fail
      refine (quant_any q n c oa f _ (HF.out.below B10.out) hn HPQ.out.2).mono ?_
      rintro e w11 ⟨y, er2, rfl, hb11, hy⟩
      have B11 : Hid (Below w.heap.size w w11) := Lib.hid (B10.out.trans (hb11.mono B10.out.size))
      have HY := Lib.hid hy
      clear hb11 hy
      by_cases he1 : er = 0
      · subst he1
        by_cases he2 : er2 = 0
        · subst he2
          have hpx : QOk p ∧ 0 < n ∧ x = ((sF f n)[kq p n]!).1 := by rcases HX.out with h | h; exact h.2; exact absurd rfl h.1
          have hqy : QOk q ∧ 0 < n ∧ y = ((sF f n)[kq q n]!).1 := by rcases HY.out with h | h; exact h.2; exact absurd rfl h.1
          have HPX := Lib.hid hpx
          have HQY := Lib.hid hqy
          have hx64 : Hid (x < 18446744073709551616 ∧ y < 18446744073709551616) := Lib.hid ⟨by rw [hpx.2.2]; exact ((sF f n)[kq p n]!).2, by rw [hqy.2.2]; exact ((sF f n)[kq q n]!).2⟩
          clear hpx hqy HX HY
          go_wp2_with fail
          refine (lnum_any 0 _).mono ?_
          rintro e w' ⟨rfl, rfl⟩
          go_wp2_with fail
          refine (lnum_any 0 _).mono ?_
          rintro e w' ⟨rfl, rfl⟩
          go_wp2_with fail
          refine (quant_any 0 n c oa f _ (HF.out.below B11.out) hn (by decide)).mono ?_
          rintro e w12 ⟨lo, er3, rfl, hb12, hlo⟩
          have B12 : Hid (Below w.heap.size w w12) := Lib.hid (B11.out.trans (hb12.mono B11.out.size))
          have HLO : Hid (lo = ((sF f n)[0]!).1) := Lib.hid (by
            rcases hlo with h | h
            · rw [h.2.2.2, kq_zero]
            · exact absurd ⟨QOk.zero, HPX.out.2.1⟩ h.2)
          clear hb12 hlo
          go_wp2_with fail
          refine (quant_any 4607182418800017408 n c oa f _ (HF.out.below B12.out) hn (by decide)).mono ?_
          rintro e w13 ⟨hi, er4, rfl, hb13, hhi⟩
          have B13 : Hid (Below w.heap.size w w13) := Lib.hid (B12.out.trans (hb13.mono B12.out.size))
          have HHI : Hid (hi = ((sF f n)[n - 1]!).1) := Lib.hid (by
            rcases hhi with h | h
            · rw [h.2.2.2, kq_one n hn]
            · exact absurd ⟨QOk.one, HPX.out.2.1⟩ h.2)
          clear hb13 hhi
          have hl64 : Hid (lo < 18446744073709551616 ∧ hi < 18446744073709551616) := Lib.hid ⟨by rw [HLO.out]; exact ((sF f n)[0]!).2, by rw [HHI.out]; exact ((sF f n)[n - 1]!).2⟩
          have o1' : decide (ordF lo x ≤ 0) = true := ordF_le (by
            rw [HLO.out, HPX.out.2.2]
            exact sF_le f n 0 _ (Nat.zero_le _) (kq_lt HPX.out.1 hn HPX.out.2.1))
          have o2' : decide (ordF y hi ≤ 0) = true := ordF_le (by
            rw [HHI.out, HQY.out.2.2]
            have := kq_lt HQY.out.1 hn HQY.out.2.1
            exact sF_le f n _ _ (by omega) (by omega))
          by_cases hpq : rv q < rv p
          · have hgt : (FloatKind.f64.format.order p q == some .gt) = true := by rw [share_gt p q HPX.out.1 HQY.out.1]; exact decide_eq_true hpq
            clear hpq
            go_wp2_with fail
            refine (reforder_any lo x _ hl64.out.1 hx64.out.1).mono ?_
            rintro e w' ⟨rfl, rfl⟩
            go_wp2_with fail
            refine (reforder_any y hi _ hx64.out.2 hl64.out.2).mono ?_
            rintro e w' ⟨rfl, rfl⟩
            go_wp2_with fail
            refine (lworks_any _).mono ?_
            rintro e w14 ⟨rfl, hb14⟩
            go_wp2_with fail
            go_ret
            exact ⟨rfl, B13.out.trans (hb14.mono B13.out.size)⟩
          · have hgt : (FloatKind.f64.format.order p q == some .gt) = false := by rw [share_gt p q HPX.out.1 HQY.out.1]; exact decide_eq_false hpq
            have o3' : decide (ordF x y ≤ 0) = true := ordF_le (by
              rw [HPX.out.2.2, HQY.out.2.2]
              exact sF_le f n _ _ (kq_mono (by omega)) (kq_lt HQY.out.1 hn HQY.out.2.1))
            clear hpq
            go_wp2_with fail
            refine (reforder_any lo x _ hl64.out.1 hx64.out.1).mono ?_
            rintro e w' ⟨rfl, rfl⟩
            go_wp2_with fail
            refine (reforder_any y hi _ hx64.out.2 hl64.out.2).mono ?_
            rintro e w' ⟨rfl, rfl⟩
            go_wp2_with fail
            refine (reforder_any x y _ hx64.out.1 hx64.out.2).mono ?_
            rintro e w' ⟨rfl, rfl⟩
            go_wp2_with fail
            refine (lworks_any _).mono ?_
            rintro e w14 ⟨rfl, hb14⟩
            go_wp2_with fail
            go_ret
            exact ⟨rfl, B13.out.trans (hb14.mono B13.out.size)⟩
        · have hne2 : (er2 == 0) = false := by simp [he2]
          clear HX HY he2
          go_wp2_with fail
          refine (lnum_any 0 _).mono ?_
          rintro e w' ⟨rfl, rfl⟩
          go_wp2_with fail
          refine (lnum_any er2 _).mono ?_
          rintro e w' ⟨rfl, rfl⟩
          go_wp2_with fail
          refine (lworks_any _).mono ?_
          rintro e w14 ⟨rfl, hb14⟩
          go_wp2_with fail
          go_ret
          exact ⟨rfl, B11.out.trans (hb14.mono B11.out.size)⟩
      · have hne1 : (er == 0) = false := by simp [he1]
        have hne3 : (er != 0) = true := by simp [he1]
        clear HX HY he1
        go_wp2_with fail
        refine (lnum_any er _).mono ?_
        rintro e w' ⟨rfl, rfl⟩
        go_wp2_with fail
        refine (lworks_any _).mono ?_
        rintro e w14 ⟨rfl, hb14⟩
        go_wp2_with fail
        go_ret
        exact ⟨rfl, B11.out.trans (hb14.mono B11.out.size)⟩
end Go.Proofs.Ytbpnhpjcepgiiaa
