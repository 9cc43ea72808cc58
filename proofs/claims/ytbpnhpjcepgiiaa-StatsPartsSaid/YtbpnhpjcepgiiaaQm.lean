/- QuotaWaits: the played inputs. -/
import Derived.Test.YtbpnhpjcepgiiaaQl
namespace Go.Proofs.Ytbpnhpjcepgiiaa
open Go.RowKit Fl

theorem order_gt_nn (x y : Nat) (hx : x ≤ inf) (hy : y ≤ inf) : (FloatKind.f64.format.order x y == some .gt) = decide (y < x) := by
  rw [ord, order_nn x y (.inl hx) (.inl hy), rv_small hx, rv_small hy]
  rcases Nat.lt_trichotomy x y with h | h | h
  · rw [Nat.compare_eq_lt.2 h]; simp; omega
  · rw [Nat.compare_eq_eq.2 h]; simp; omega
  · rw [Nat.compare_eq_gt.2 h]; simp [h]
theorem order_eq_same (x : Nat) (hx : x ≤ inf) : (FloatKind.f64.format.order x x == some .eq) = true := by
  rw [ord, order_nn x x (.inl hx) (.inl hx), Nat.compare_eq_eq.2 rfl]
  rfl

/-- what the law's buckets come to -/
structure WaitsVals (r b cost : Nat) (soon later : Int) where
  r0 : BkOk (newB r b 0)
  le : rv cost ≤ b

def wA (r b cost : Nat) : Bk := outB (onB (newB r b 0) 0) cost
theorem newB_lvl (r b : Nat) (t : Int) : atL (newB r b t) t = b := by
  have h : t ≤ (newB r b t).time := Int.le_refl _
  unfold atL
  rw [if_pos h]
  rfl
theorem wA_ok (r b cost : Nat) (h : BkOk (newB r b 0)) (hc : rv cost ≤ b) : BkOk (wA r b cost) :=
  outB_ok _ _ (onB_ok _ 0 h (by decide)) (by show rv cost ≤ atL (newB r b 0) 0; rw [newB_lvl]; exact hc)
theorem atL_on (b : Bk) (t : Int) : atL (onB b t) t = atL b t := by
  have h : t ≤ (onB b t).time := by simp only [onB]; omega
  unfold atL
  rw [if_pos h]
  rfl
theorem newB_full (r b : Nat) (t : Int) (h : BkOk (newB r b 0)) : atL (newB r b 0) t = b := by
  refine Nat.le_antisymm (atL_le _ t h) ?_
  by_cases h0 : t ≤ 0
  · have h1 : t ≤ (newB r b 0).time := h0
    unfold atL
    rw [if_pos h1]
    exact Nat.le_refl _
  · have := atL_mono _ h 0 t (by omega)
    rwa [newB_lvl] at this

set_option maxRecDepth 100000 in
set_option maxHeartbeats 4000000 in
theorem waits_yes (r b cost : Nat) (soon later : Int) (a1 a2 : Nat) (w : World) (hr : r < 18446744073709551616) (hb : b < 18446744073709551616) (hc : cost < 18446744073709551616)
    (H0 : Hid (quotaB r b = true)) (H1 : Hid (nnW cost = true)) (H2 : Hid (timeB soon = true)) (H3 : Hid (timeB later = true)) (H4 : Hid ((!decide (later < soon)) = true)) (H5 : Hid (clientB (a1 : Int) = true)) (H6 : Hid (clientB (a2 : Int) = true))
    (H7 : Hid ((!((a1 : Int) == (a2 : Int))) = true)) (H8 : Hid ((!(FloatKind.f64.format.order cost b == some .gt)) = true)) :
    Calls Try.prog 4 #[.agg #[.float .f64 r, .float .f64 b, .float .f64 cost, .int .i64 soon, .int .i64 later, .int .i64 (a1 : Int), .int .i64 (a2 : Int)]] w fun e w' => e = .returned (.bool true) ∧ Below w.heap.size w w' := by
  have HR := Lib.hid hr
  have HB := Lib.hid hb
  have HC := Lib.hid hc
  have h4 : decide (later < soon) = false := by have := H4.out; simpa using this
  have h7 : ((a1 : Int) == (a2 : Int)) = false := by have := H7.out; simpa using this
  have h8 : (FloatKind.f64.format.order cost b == some .gt) = false := by have := H8.out; simpa using this
  -- the plain facts
  have hN : NN cost := (nnW_iff cost).1 H1.out
  have ok0 : BkOk (newB r b 0) := newB_ok r b 0 H0.out (by decide) (by decide)
  have hle : rv cost ≤ b := by
    have := h8
    rw [order_gt _ _ hN (show b < inf from ok0.burst1)] at this
    simpa using this
  have okA := wA_ok r b cost ok0 hle
  have hs1 : 0 ≤ soon ∧ soon ≤ 9007199254740992 := by have := H2.out; simpa [timeB] using this
  have hl1 : 0 ≤ later ∧ later ≤ 9007199254740992 := by have := H3.out; simpa [timeB] using this
  have hsl : soon ≤ later := by have := h4; simp at this; omega
  have hA : a1 < 64 := by have := H5.out; simp [clientB] at this; omega
  have hB : a2 < 64 := by have := H6.out; simp [clientB] at this; omega
  have hne : a1 ≠ a2 := by have := h7; simp at this; omega
  obtain ⟨av, hav⟩ : ∃ av, av = atL (wA r b cost) soon := ⟨_, rfl⟩
  obtain ⟨bv, hbv⟩ : ∃ bv, bv = atL (wA r b cost) later := ⟨_, rfl⟩
  have hab : av ≤ bv := by rw [hav, hbv]; exact atL_mono _ okA _ _ hsl
  have hbb : bv ≤ b := by rw [hbv]; exact atL_le _ _ okA
  have hbi : b < inf := ok0.burst1
  have hii : inf < 18446744073709551616 := by decide
  have g1 : (FloatKind.f64.format.order av bv == some .gt) = false := by rw [order_gt_nn _ _ (by omega) (by omega)]; simp; omega
  have g2 : (FloatKind.f64.format.order bv b == some .gt) = false := by rw [order_gt_nn _ _ (by omega) (by omega)]; simp; omega
  have g3 := order_eq_same b (by omega)
  have hsum := add_nn_left cost av hN (by omega)
  obtain ⟨sv, hsv⟩ : ∃ sv, sv = fadd (rv cost) av := ⟨_, rfl⟩
  rw [← hsv] at hsum
  have hadd := fun (T : TypeId) (W : World) => run_float_arith (P := Try.prog) W .add T .f64 cost av sv hsum
  have rva : rv av = av := rv_small (by omega)
  have rvb : rv b = b := rv_small (by omega)
  have nnb : NN b := .inl hbi
  have nna : NN av := .inl (by omega)
  have hsvl : sv ≤ inf := by rw [hsv]; exact fadd_le _ _
  have P := Lib.hid (And.intro hN (And.intro ok0 (And.intro hle (And.intro okA (And.intro hs1 (And.intro hl1 (And.intro hsl (And.intro hA (And.intro hB (And.intro hne (And.intro hav (And.intro hbv (And.intro hab (And.intro hbb (And.intro hbi (And.intro hsv (And.intro rva (And.intro rvb (And.intro nnb (And.intro nna hsvl))))))))))))))))))))
  clear hr hb hc hN ok0 hle okA hs1 hl1 hsl hA hB hne hav hbv hab hbb hbi hii hsum hsv rva rvb nnb nna hsvl
  go_enter Try.func4, Try.ntmps4
  go_wp2_with fail
  refine (may_any r b _ HR.out HB.out).mono ?_
  rintro e w1 ⟨rfl, hb1⟩
  rw [H0.out]
  have BX : Hid (BoxW w1 w.heap.size r b cost soon later a1 a2) := by
    refine Lib.hid (BoxW.of (w := (w.alloc (.cells #[.float .f64 r, .float .f64 b, .float .f64 cost, .int .i64 soon, .int .i64 later, .int .i64 (a1 : Int), .int .i64 (a2 : Int)] 46))) ⟨?_, ?_, ?_, ?_, ?_, ?_, ?_⟩ (hb1.block _ (by simp))) <;> simp [go_sem]
  have W1 : Hid (Below w.heap.size w w1) := Lib.hid (((Below.refl _ _).alloc (Nat.le_refl _) _).trans (hb1.mono (by simp)))
  have hsz1 : w.heap.size < w1.heap.size := by have := hb1.size; simp at this; omega
  clear hb1
  obtain ⟨x0, x1, x2, x3, x4, x5, x6⟩ := BX.out
  go_wp2_with fail
  refine (refcost_any cost _ HC.out).mono ?_
  rintro e w' ⟨rfl, n, rfl⟩
  rw [H1.out]
  go_wp2_with fail
  refine (reftime_any soon _).mono ?_
  rintro e w' ⟨rfl, rfl⟩
  rw [H2.out]
  go_wp2_with fail
  refine (reftime_any later _).mono ?_
  rintro e w' ⟨rfl, rfl⟩
  rw [H3.out]
  go_wp2_with fail
  refine (client_any (a1 : Int) _).mono ?_
  rintro e w' ⟨rfl, rfl⟩
  rw [H5.out]
  go_wp2_with fail
  refine (client_any (a2 : Int) _).mono ?_
  rintro e w' ⟨rfl, rfl⟩
  rw [H6.out]
  have N1 : Hid (Below w.heap.size w (w1.drewN n)) := Lib.hid (below_drewN W1.out _)
  go_wp2_with fail
  refine (new_b r b 0 _ H0.out HR.out HB.out (by decide) (by decide)).mono ?_
  rintro e w2 ⟨q, hq0, rfl, hq2, hb2⟩
  have hqX : w.heap.size < q := by have : w1.heap.size ≤ q := hq0; omega
  have Q2 := Lib.hid hq2
  have W2 : Hid (Below w.heap.size w w2) := Lib.hid (N1.out.trans (hb2.mono N1.out.size))
  clear x0 x1 x2 x3 x4 x5 x6
  have BXw2 : Hid (BoxW w2 w.heap.size r b cost soon later a1 a2) := Lib.hid (BX.out.of ((hb2.block _ (by exact hsz1)).trans rfl))
  obtain ⟨x0, x1, x2, x3, x4, x5, x6⟩ := BXw2.out
  clear hb2 hq2 hq0
  go_wp2_with fail
  refine (num_any 0 _).mono ?_
  rintro e w' ⟨rfl, rfl⟩
  go_wp2_with fail
  refine (pay_ok_b (c := a1) Q2.out (repl_get a1 _ (by obtain ⟨hN, ok0, hle, okA, hs1, hl1, hsl, hA, hB, hne, hav, hbv, hab, hbb, hbi, hsv, rva, rvb, nnb, nna, hsvl⟩ := P.out; exact hA)) (by obtain ⟨hN, ok0, hle, okA, hs1, hl1, hsl, hA, hB, hne, hav, hbv, hab, hbb, hbi, hsv, rva, rvb, nnb, nna, hsvl⟩ := P.out; exact ok0) cost 0 (by obtain ⟨hN, ok0, hle, okA, hs1, hl1, hsl, hA, hB, hne, hav, hbv, hab, hbb, hbi, hsv, rva, rvb, nnb, nna, hsvl⟩ := P.out; exact hN) HC.out (by decide) (by decide) (by obtain ⟨hN, ok0, hle, okA, hs1, hl1, hsl, hA, hB, hne, hav, hbv, hab, hbb, hbi, hsv, rva, rvb, nnb, nna, hsvl⟩ := P.out; exact hle) (by obtain ⟨hN, ok0, hle, okA, hs1, hl1, hsl, hA, hB, hne, hav, hbv, hab, hbb, hbi, hsv, rva, rvb, nnb, nna, hsvl⟩ := P.out; rw [newB_lvl]; exact hle) (Int.le_refl _) (by show (0 : Int) ≤ 1000000; decide)).mono ?_
  rintro e w3 ⟨rfl, hq3, hg3⟩
  have Q3 : Hid (HasQ w3 q ((List.replicate 64 (newB r b 0)).set a1 (wA r b cost))) := Lib.hid hq3
  have W3 : Hid (Below w.heap.size w w3) := Lib.hid (below_grown W2.out hg3 (Nat.le_of_lt hqX) W2.out.size)
  clear x0 x1 x2 x3 x4 x5 x6
  have BXw3 : Hid (BoxW w3 w.heap.size r b cost soon later a1 a2) := Lib.hid (BXw2.out.of (hg3.block _ (by have := Q2.out.lt; omega) (by simp; omega)))
  obtain ⟨x0, x1, x2, x3, x4, x5, x6⟩ := BXw3.out
  clear hq3 hg3
  go_wp2_with fail
  refine (num_any 0 _).mono ?_
  rintro e w' ⟨rfl, rfl⟩
  go_wp2_with fail
  refine (copy_b Q3.out).mono ?_
  rintro e w4 ⟨rfl, hc4, hb4, hz4⟩
  have C4 := Lib.hid hc4
  have Q4 := Lib.hid (Q3.out.below hb4)
  have W4 : Hid (Below w.heap.size w w4) := Lib.hid (W3.out.trans (hb4.mono W3.out.size))
  have Z3 := Lib.hid Q3.out.lt
  clear x0 x1 x2 x3 x4 x5 x6
  have BXw4 : Hid (BoxW w4 w.heap.size r b cost soon later a1 a2) := Lib.hid (BXw3.out.of (hb4.block _ (by have := Q3.out.lt; omega)))
  obtain ⟨x0, x1, x2, x3, x4, x5, x6⟩ := BXw4.out
  have HZ4 := Lib.hid hz4
  clear hc4 hb4 hz4
  obtain ⟨c, hcc⟩ : ∃ c, c = w3.heap.size := ⟨_, rfl⟩
  rw [← hcc] at C4 ⊢
  have hqc : q < c := by have := Z3.out; omega
  have HCC := Lib.hid hcc
  clear hcc
  go_wp2_with fail
  refine (copy_b Q4.out).mono ?_
  rintro e w5 ⟨rfl, hd5, hb5, hz5⟩
  have D5 := Lib.hid hd5
  have Q5 := Lib.hid (Q4.out.below hb5)
  have C5 := Lib.hid (C4.out.below hb5)
  have W5 : Hid (Below w.heap.size w w5) := Lib.hid (W4.out.trans (hb5.mono W4.out.size))
  clear x0 x1 x2 x3 x4 x5 x6
  have BXw5 : Hid (BoxW w5 w.heap.size r b cost soon later a1 a2) := Lib.hid (BXw4.out.of (hb5.block _ (by have := Q4.out.lt; omega)))
  obtain ⟨x0, x1, x2, x3, x4, x5, x6⟩ := BXw5.out
  have HZ5 := Lib.hid hz5
  clear hd5 hb5 hz5
  obtain ⟨d, hdd⟩ : ∃ d, d = w4.heap.size := ⟨_, rfl⟩
  rw [← hdd] at D5 ⊢
  have hcd : c < d := by have := HZ4.out; have := HCC.out; omega
  clear hdd
  go_wp2_with fail
  refine (pay_ok_b (c := a2) D5.out (by obtain ⟨hN, ok0, hle, okA, hs1, hl1, hsl, hA, hB, hne, hav, hbv, hab, hbb, hbi, hsv, rva, rvb, nnb, nna, hsvl⟩ := P.out; rw [set_other _ _ _ _ hne]; exact repl_get a2 _ hB) (by obtain ⟨hN, ok0, hle, okA, hs1, hl1, hsl, hA, hB, hne, hav, hbv, hab, hbb, hbi, hsv, rva, rvb, nnb, nna, hsvl⟩ := P.out; exact ok0) b soon (by obtain ⟨hN, ok0, hle, okA, hs1, hl1, hsl, hA, hB, hne, hav, hbv, hab, hbb, hbi, hsv, rva, rvb, nnb, nna, hsvl⟩ := P.out; exact nnb) HB.out (by obtain ⟨hN, ok0, hle, okA, hs1, hl1, hsl, hA, hB, hne, hav, hbv, hab, hbb, hbi, hsv, rva, rvb, nnb, nna, hsvl⟩ := P.out; exact hs1.1) (by obtain ⟨hN, ok0, hle, okA, hs1, hl1, hsl, hA, hB, hne, hav, hbv, hab, hbb, hbi, hsv, rva, rvb, nnb, nna, hsvl⟩ := P.out; exact hs1.2) (by obtain ⟨hN, ok0, hle, okA, hs1, hl1, hsl, hA, hB, hne, hav, hbv, hab, hbb, hbi, hsv, rva, rvb, nnb, nna, hsvl⟩ := P.out; rw [rvb]; exact Nat.le_refl _) (by obtain ⟨hN, ok0, hle, okA, hs1, hl1, hsl, hA, hB, hne, hav, hbv, hab, hbb, hbi, hsv, rva, rvb, nnb, nna, hsvl⟩ := P.out; rw [rvb, newB_full _ _ _ ok0]; exact Nat.le_refl _) (Int.le_refl _) (by show (0 : Int) ≤ 1000000; decide)).mono ?_
  rintro e w6 ⟨rfl, hown, hgr⟩
  have D6 : Hid (HasQ w6 d (((List.replicate 64 (newB r b 0)).set a1 (wA r b cost)).set a2 (outB (onB (newB r b 0) soon) b))) := Lib.hid hown
  have Q6 := Lib.hid (Q5.out.grown hgr (by omega))
  have C6 := Lib.hid (C5.out.grown hgr (by omega))
  have W6 : Hid (Below w.heap.size w w6) := Lib.hid (below_grown W5.out hgr (by omega) W5.out.size)
  clear x0 x1 x2 x3 x4 x5 x6
  have BXw6 : Hid (BoxW w6 w.heap.size r b cost soon later a1 a2) := Lib.hid (BXw5.out.of (hgr.block _ (by have := W5.out.size; have := Q5.out.lt; omega) (by simp; omega)))
  obtain ⟨x0, x1, x2, x3, x4, x5, x6⟩ := BXw6.out
  clear hown hgr
  go_wp2_with fail
  refine (num_any 0 _).mono ?_
  rintro e w' ⟨rfl, rfl⟩
  go_wp2_with fail
  refine (back_b (c := a2) D6.out (by obtain ⟨hN, ok0, hle, okA, hs1, hl1, hsl, hA, hB, hne, hav, hbv, hab, hbb, hbi, hsv, rva, rvb, nnb, nna, hsvl⟩ := P.out; exact set_get _ a2 _ (by simp) hB) (by obtain ⟨hN, ok0, hle, okA, hs1, hl1, hsl, hA, hB, hne, hav, hbv, hab, hbb, hbi, hsv, rva, rvb, nnb, nna, hsvl⟩ := P.out; exact (outB_ok _ _ (onB_ok _ soon ok0 hs1.2) (by rw [rvb]; show b ≤ atL (newB r b 0) soon; rw [newB_full _ _ _ ok0]; exact Nat.le_refl _))) cost (by obtain ⟨hN, ok0, hle, okA, hs1, hl1, hsl, hA, hB, hne, hav, hbv, hab, hbb, hbi, hsv, rva, rvb, nnb, nna, hsvl⟩ := P.out; exact hN) HC.out).mono ?_
  rintro e w7 ⟨rfl, hown, hgr⟩
  have D7 : Hid (HasQ w7 d ((((List.replicate 64 (newB r b 0)).set a1 (wA r b cost)).set a2 (outB (onB (newB r b 0) soon) b)).set a2 (backB (outB (onB (newB r b 0) soon) b) cost))) := Lib.hid hown
  have Q7 := Lib.hid (Q6.out.grown hgr (by omega))
  have C7 := Lib.hid (C6.out.grown hgr (by omega))
  have W7 : Hid (Below w.heap.size w w7) := Lib.hid (below_grown W6.out hgr (by omega) W6.out.size)
  clear x0 x1 x2 x3 x4 x5 x6
  have BXw7 : Hid (BoxW w7 w.heap.size r b cost soon later a1 a2) := Lib.hid (BXw6.out.of (hgr.block _ (by have := W6.out.size; have := Q6.out.lt; omega) (by simp; omega)))
  obtain ⟨x0, x1, x2, x3, x4, x5, x6⟩ := BXw7.out
  clear hown hgr
  go_wp2_with fail
  refine (num_any 0 _).mono ?_
  rintro e w' ⟨rfl, rfl⟩
  go_wp2_with fail
  refine (reset_b (c := a2) D7.out (by obtain ⟨hN, ok0, hle, okA, hs1, hl1, hsl, hA, hB, hne, hav, hbv, hab, hbb, hbi, hsv, rva, rvb, nnb, nna, hsvl⟩ := P.out; exact set_get _ a2 _ (by simp) hB) later (by obtain ⟨hN, ok0, hle, okA, hs1, hl1, hsl, hA, hB, hne, hav, hbv, hab, hbb, hbi, hsv, rva, rvb, nnb, nna, hsvl⟩ := P.out; exact hl1.1) (by obtain ⟨hN, ok0, hle, okA, hs1, hl1, hsl, hA, hB, hne, hav, hbv, hab, hbb, hbi, hsv, rva, rvb, nnb, nna, hsvl⟩ := P.out; exact hl1.2)).mono ?_
  rintro e w8 ⟨rfl, hown, hgr⟩
  have D8 : Hid (HasQ w8 d (((((List.replicate 64 (newB r b 0)).set a1 (wA r b cost)).set a2 (outB (onB (newB r b 0) soon) b)).set a2 (backB (outB (onB (newB r b 0) soon) b) cost)).set a2 (resetB (backB (outB (onB (newB r b 0) soon) b) cost) later))) := Lib.hid hown
  have Q8 := Lib.hid (Q7.out.grown hgr (by omega))
  have C8 := Lib.hid (C7.out.grown hgr (by omega))
  have W8 : Hid (Below w.heap.size w w8) := Lib.hid (below_grown W7.out hgr (by omega) W7.out.size)
  clear x0 x1 x2 x3 x4 x5 x6
  have BXw8 : Hid (BoxW w8 w.heap.size r b cost soon later a1 a2) := Lib.hid (BXw7.out.of (hgr.block _ (by have := W7.out.size; have := Q7.out.lt; omega) (by simp; omega)))
  obtain ⟨x0, x1, x2, x3, x4, x5, x6⟩ := BXw8.out
  clear hown hgr
  go_wp2_with fail
  refine (num_any 0 _).mono ?_
  rintro e w' ⟨rfl, rfl⟩
  go_wp2_with fail
  refine (level_b (c := a1) Q8.out (by obtain ⟨hN, ok0, hle, okA, hs1, hl1, hsl, hA, hB, hne, hav, hbv, hab, hbb, hbi, hsv, rva, rvb, nnb, nna, hsvl⟩ := P.out; exact set_get _ a1 _ (by simp) hA) (by obtain ⟨hN, ok0, hle, okA, hs1, hl1, hsl, hA, hB, hne, hav, hbv, hab, hbb, hbi, hsv, rva, rvb, nnb, nna, hsvl⟩ := P.out; exact okA) soon (by obtain ⟨hN, ok0, hle, okA, hs1, hl1, hsl, hA, hB, hne, hav, hbv, hab, hbb, hbi, hsv, rva, rvb, nnb, nna, hsvl⟩ := P.out; exact hs1.1) (by obtain ⟨hN, ok0, hle, okA, hs1, hl1, hsl, hA, hB, hne, hav, hbv, hab, hbb, hbi, hsv, rva, rvb, nnb, nna, hsvl⟩ := P.out; exact hs1.2)).mono ?_
  rintro e w9 ⟨rfl, hown, hgr⟩
  have Q9 : Hid (HasQ w9 q (((List.replicate 64 (newB r b 0)).set a1 (wA r b cost)).set a1 (onB (wA r b cost) soon))) := Lib.hid hown
  have C9 := Lib.hid (C8.out.grown hgr (by omega))
  have D9 := Lib.hid (D8.out.grown hgr (by omega))
  have W9 : Hid (Below w.heap.size w w9) := Lib.hid (below_grown W8.out hgr (by omega) W8.out.size)
  clear x0 x1 x2 x3 x4 x5 x6
  have BXw9 : Hid (BoxW w9 w.heap.size r b cost soon later a1 a2) := Lib.hid (BXw8.out.of (hgr.block _ (by have := W8.out.size; have := Q8.out.lt; omega) (by simp; omega)))
  obtain ⟨x0, x1, x2, x3, x4, x5, x6⟩ := BXw9.out
  clear hown hgr
  rw [show atL (wA r b cost) soon = av from by obtain ⟨hN, ok0, hle, okA, hs1, hl1, hsl, hA, hB, hne, hav, hbv, hab, hbb, hbi, hsv, rva, rvb, nnb, nna, hsvl⟩ := P.out; exact hav.symm]
  go_wp2_with fail
  refine (level_b (c := a1) C9.out (by obtain ⟨hN, ok0, hle, okA, hs1, hl1, hsl, hA, hB, hne, hav, hbv, hab, hbb, hbi, hsv, rva, rvb, nnb, nna, hsvl⟩ := P.out; exact set_get _ a1 _ (by simp) hA) (by obtain ⟨hN, ok0, hle, okA, hs1, hl1, hsl, hA, hB, hne, hav, hbv, hab, hbb, hbi, hsv, rva, rvb, nnb, nna, hsvl⟩ := P.out; exact okA) later (by obtain ⟨hN, ok0, hle, okA, hs1, hl1, hsl, hA, hB, hne, hav, hbv, hab, hbb, hbi, hsv, rva, rvb, nnb, nna, hsvl⟩ := P.out; exact hl1.1) (by obtain ⟨hN, ok0, hle, okA, hs1, hl1, hsl, hA, hB, hne, hav, hbv, hab, hbb, hbi, hsv, rva, rvb, nnb, nna, hsvl⟩ := P.out; exact hl1.2)).mono ?_
  rintro e w10 ⟨rfl, hown, hgr⟩
  have C10 : Hid (HasQ w10 c (((List.replicate 64 (newB r b 0)).set a1 (wA r b cost)).set a1 (onB (wA r b cost) later))) := Lib.hid hown
  have Q10 := Lib.hid (Q9.out.grown hgr (by omega))
  have D10 := Lib.hid (D9.out.grown hgr (by omega))
  have W10 : Hid (Below w.heap.size w w10) := Lib.hid (below_grown W9.out hgr (by omega) W9.out.size)
  clear x0 x1 x2 x3 x4 x5 x6
  have BXw10 : Hid (BoxW w10 w.heap.size r b cost soon later a1 a2) := Lib.hid (BXw9.out.of (hgr.block _ (by have := W9.out.size; have := Q9.out.lt; omega) (by simp; omega)))
  obtain ⟨x0, x1, x2, x3, x4, x5, x6⟩ := BXw10.out
  clear hown hgr
  rw [show atL (wA r b cost) later = bv from by obtain ⟨hN, ok0, hle, okA, hs1, hl1, hsl, hA, hB, hne, hav, hbv, hab, hbb, hbi, hsv, rva, rvb, nnb, nna, hsvl⟩ := P.out; exact hbv.symm]
  go_wp2_with fail
  refine (level_b (c := a1) D10.out (by obtain ⟨hN, ok0, hle, okA, hs1, hl1, hsl, hA, hB, hne, hav, hbv, hab, hbb, hbi, hsv, rva, rvb, nnb, nna, hsvl⟩ := P.out; rw [set_other _ _ _ _ (Ne.symm hne), set_other _ _ _ _ (Ne.symm hne), set_other _ _ _ _ (Ne.symm hne)]; exact set_get _ a1 _ (by simp) hA) (by obtain ⟨hN, ok0, hle, okA, hs1, hl1, hsl, hA, hB, hne, hav, hbv, hab, hbb, hbi, hsv, rva, rvb, nnb, nna, hsvl⟩ := P.out; exact okA) soon (by obtain ⟨hN, ok0, hle, okA, hs1, hl1, hsl, hA, hB, hne, hav, hbv, hab, hbb, hbi, hsv, rva, rvb, nnb, nna, hsvl⟩ := P.out; exact hs1.1) (by obtain ⟨hN, ok0, hle, okA, hs1, hl1, hsl, hA, hB, hne, hav, hbv, hab, hbb, hbi, hsv, rva, rvb, nnb, nna, hsvl⟩ := P.out; exact hs1.2)).mono ?_
  rintro e w11 ⟨rfl, hown, hgr⟩
  have D11 : Hid (HasQ w11 d ((((((List.replicate 64 (newB r b 0)).set a1 (wA r b cost)).set a2 (outB (onB (newB r b 0) soon) b)).set a2 (backB (outB (onB (newB r b 0) soon) b) cost)).set a2 (resetB (backB (outB (onB (newB r b 0) soon) b) cost) later)).set a1 (onB (wA r b cost) soon))) := Lib.hid hown
  have Q11 := Lib.hid (Q10.out.grown hgr (by omega))
  have C11 := Lib.hid (C10.out.grown hgr (by omega))
  have W11 : Hid (Below w.heap.size w w11) := Lib.hid (below_grown W10.out hgr (by omega) W10.out.size)
  clear x0 x1 x2 x3 x4 x5 x6
  have BXw11 : Hid (BoxW w11 w.heap.size r b cost soon later a1 a2) := Lib.hid (BXw10.out.of (hgr.block _ (by have := W10.out.size; have := Q10.out.lt; omega) (by simp; omega)))
  obtain ⟨x0, x1, x2, x3, x4, x5, x6⟩ := BXw11.out
  clear hown hgr
  rw [show atL (wA r b cost) soon = av from by obtain ⟨hN, ok0, hle, okA, hs1, hl1, hsl, hA, hB, hne, hav, hbv, hab, hbb, hbi, hsv, rva, rvb, nnb, nna, hsvl⟩ := P.out; exact hav.symm]
  go_wp2_with fail
  refine (num_any 0 _).mono ?_
  rintro e w' ⟨rfl, rfl⟩
  go_wp2_with fail
  refine (num_any 0 _).mono ?_
  rintro e w' ⟨rfl, rfl⟩
  go_wp2_with fail
  refine (num_any 0 _).mono ?_
  rintro e w' ⟨rfl, rfl⟩
  go_wp2_with fail
  refine (like_same av _ (by obtain ⟨hN, ok0, hle, okA, hs1, hl1, hsl, hA, hB, hne, hav, hbv, hab, hbb, hbi, hsv, rva, rvb, nnb, nna, hsvl⟩ := P.out; have : inf < 18446744073709551616 := by decide
                             omega)).mono ?_
  rintro e w' ⟨rfl, rfl⟩
  go_wp2_with fail
  refine (pay_ok_b (c := a1) Q11.out (by obtain ⟨hN, ok0, hle, okA, hs1, hl1, hsl, hA, hB, hne, hav, hbv, hab, hbb, hbi, hsv, rva, rvb, nnb, nna, hsvl⟩ := P.out; exact set_get _ a1 _ (by simp) hA) (by obtain ⟨hN, ok0, hle, okA, hs1, hl1, hsl, hA, hB, hne, hav, hbv, hab, hbb, hbi, hsv, rva, rvb, nnb, nna, hsvl⟩ := P.out; exact onB_ok _ _ okA hs1.2) av soon (by obtain ⟨hN, ok0, hle, okA, hs1, hl1, hsl, hA, hB, hne, hav, hbv, hab, hbb, hbi, hsv, rva, rvb, nnb, nna, hsvl⟩ := P.out; exact nna) (by obtain ⟨hN, ok0, hle, okA, hs1, hl1, hsl, hA, hB, hne, hav, hbv, hab, hbb, hbi, hsv, rva, rvb, nnb, nna, hsvl⟩ := P.out; have : inf < 18446744073709551616 := (by decide); omega) (by obtain ⟨hN, ok0, hle, okA, hs1, hl1, hsl, hA, hB, hne, hav, hbv, hab, hbb, hbi, hsv, rva, rvb, nnb, nna, hsvl⟩ := P.out; exact hs1.1) (by obtain ⟨hN, ok0, hle, okA, hs1, hl1, hsl, hA, hB, hne, hav, hbv, hab, hbb, hbi, hsv, rva, rvb, nnb, nna, hsvl⟩ := P.out; exact hs1.2) (by obtain ⟨hN, ok0, hle, okA, hs1, hl1, hsl, hA, hB, hne, hav, hbv, hab, hbb, hbi, hsv, rva, rvb, nnb, nna, hsvl⟩ := P.out; rw [rva]; exact Nat.le_trans hab hbb) (by obtain ⟨hN, ok0, hle, okA, hs1, hl1, hsl, hA, hB, hne, hav, hbv, hab, hbb, hbi, hsv, rva, rvb, nnb, nna, hsvl⟩ := P.out; rw [rva, atL_on, ← hav]; exact Nat.le_refl _) (by show (0 : Int) ≤ 0 + 1; decide) (by show (0 : Int) + 1 ≤ 1000000; decide)).mono ?_
  rintro e w12 ⟨rfl, hown, hgr⟩
  have Q12 : Hid (HasQ w12 q ((((List.replicate 64 (newB r b 0)).set a1 (wA r b cost)).set a1 (onB (wA r b cost) soon)).set a1 (outB (onB (onB (wA r b cost) soon) soon) av))) := Lib.hid hown
  have C12 := Lib.hid (C11.out.grown hgr (by omega))
  have D12 := Lib.hid (D11.out.grown hgr (by omega))
  have W12 : Hid (Below w.heap.size w w12) := Lib.hid (below_grown W11.out hgr (by omega) W11.out.size)
  clear x0 x1 x2 x3 x4 x5 x6
  have BXw12 : Hid (BoxW w12 w.heap.size r b cost soon later a1 a2) := Lib.hid (BXw11.out.of (hgr.block _ (by have := W11.out.size; have := Q11.out.lt; omega) (by simp; omega)))
  obtain ⟨x0, x1, x2, x3, x4, x5, x6⟩ := BXw12.out
  clear hown hgr
  go_wp2_with fail
  refine (num_any 0 _).mono ?_
  rintro e w' ⟨rfl, rfl⟩
  go_wp2_with fail
  refine (pay_ok_b (c := a1) C12.out (by obtain ⟨hN, ok0, hle, okA, hs1, hl1, hsl, hA, hB, hne, hav, hbv, hab, hbb, hbi, hsv, rva, rvb, nnb, nna, hsvl⟩ := P.out; exact set_get _ a1 _ (by simp) hA) (by obtain ⟨hN, ok0, hle, okA, hs1, hl1, hsl, hA, hB, hne, hav, hbv, hab, hbb, hbi, hsv, rva, rvb, nnb, nna, hsvl⟩ := P.out; exact onB_ok _ _ okA hl1.2) av later (by obtain ⟨hN, ok0, hle, okA, hs1, hl1, hsl, hA, hB, hne, hav, hbv, hab, hbb, hbi, hsv, rva, rvb, nnb, nna, hsvl⟩ := P.out; exact nna) (by obtain ⟨hN, ok0, hle, okA, hs1, hl1, hsl, hA, hB, hne, hav, hbv, hab, hbb, hbi, hsv, rva, rvb, nnb, nna, hsvl⟩ := P.out; have : inf < 18446744073709551616 := (by decide); omega) (by obtain ⟨hN, ok0, hle, okA, hs1, hl1, hsl, hA, hB, hne, hav, hbv, hab, hbb, hbi, hsv, rva, rvb, nnb, nna, hsvl⟩ := P.out; exact hl1.1) (by obtain ⟨hN, ok0, hle, okA, hs1, hl1, hsl, hA, hB, hne, hav, hbv, hab, hbb, hbi, hsv, rva, rvb, nnb, nna, hsvl⟩ := P.out; exact hl1.2) (by obtain ⟨hN, ok0, hle, okA, hs1, hl1, hsl, hA, hB, hne, hav, hbv, hab, hbb, hbi, hsv, rva, rvb, nnb, nna, hsvl⟩ := P.out; rw [rva]; exact Nat.le_trans hab hbb) (by obtain ⟨hN, ok0, hle, okA, hs1, hl1, hsl, hA, hB, hne, hav, hbv, hab, hbb, hbi, hsv, rva, rvb, nnb, nna, hsvl⟩ := P.out; rw [rva, atL_on, ← hbv]; exact hab) (by show (0 : Int) ≤ 0 + 1; decide) (by show (0 : Int) + 1 ≤ 1000000; decide)).mono ?_
  rintro e w13 ⟨rfl, hown, hgr⟩
  have C13 : Hid (HasQ w13 c ((((List.replicate 64 (newB r b 0)).set a1 (wA r b cost)).set a1 (onB (wA r b cost) later)).set a1 (outB (onB (onB (wA r b cost) later) later) av))) := Lib.hid hown
  have Q13 := Lib.hid (Q12.out.grown hgr (by omega))
  have D13 := Lib.hid (D12.out.grown hgr (by omega))
  have W13 : Hid (Below w.heap.size w w13) := Lib.hid (below_grown W12.out hgr (by omega) W12.out.size)
  clear x0 x1 x2 x3 x4 x5 x6
  have BXw13 : Hid (BoxW w13 w.heap.size r b cost soon later a1 a2) := Lib.hid (BXw12.out.of (hgr.block _ (by have := W12.out.size; have := Q12.out.lt; omega) (by simp; omega)))
  obtain ⟨x0, x1, x2, x3, x4, x5, x6⟩ := BXw13.out
  clear hown hgr
  go_wp2_with fail
  refine (num_any 0 _).mono ?_
  rintro e w' ⟨rfl, rfl⟩
  go_wp2_with fail
  refine (back_b (c := a1) Q13.out (by obtain ⟨hN, ok0, hle, okA, hs1, hl1, hsl, hA, hB, hne, hav, hbv, hab, hbb, hbi, hsv, rva, rvb, nnb, nna, hsvl⟩ := P.out; exact set_get _ a1 _ (by simp) hA) (by obtain ⟨hN, ok0, hle, okA, hs1, hl1, hsl, hA, hB, hne, hav, hbv, hab, hbb, hbi, hsv, rva, rvb, nnb, nna, hsvl⟩ := P.out; exact (outB_ok _ _ (onB_ok _ _ (onB_ok _ _ okA hs1.2) hs1.2) (by rw [rva]; show av ≤ atL (onB (wA r b cost) soon) soon; rw [atL_on, ← hav]; exact Nat.le_refl _))) b (by obtain ⟨hN, ok0, hle, okA, hs1, hl1, hsl, hA, hB, hne, hav, hbv, hab, hbb, hbi, hsv, rva, rvb, nnb, nna, hsvl⟩ := P.out; exact nnb) HB.out).mono ?_
  rintro e w14 ⟨rfl, hown, hgr⟩
  have Q14 : Hid (HasQ w14 q (((((List.replicate 64 (newB r b 0)).set a1 (wA r b cost)).set a1 (onB (wA r b cost) soon)).set a1 (outB (onB (onB (wA r b cost) soon) soon) av)).set a1 (backB (outB (onB (onB (wA r b cost) soon) soon) av) b))) := Lib.hid hown
  have C14 := Lib.hid (C13.out.grown hgr (by omega))
  have D14 := Lib.hid (D13.out.grown hgr (by omega))
  have W14 : Hid (Below w.heap.size w w14) := Lib.hid (below_grown W13.out hgr (by omega) W13.out.size)
  clear x0 x1 x2 x3 x4 x5 x6
  have BXw14 : Hid (BoxW w14 w.heap.size r b cost soon later a1 a2) := Lib.hid (BXw13.out.of (hgr.block _ (by have := W13.out.size; have := Q13.out.lt; omega) (by simp; omega)))
  obtain ⟨x0, x1, x2, x3, x4, x5, x6⟩ := BXw14.out
  clear hown hgr
  go_wp2_with fail
  refine (num_any 0 _).mono ?_
  rintro e w' ⟨rfl, rfl⟩
  have HY : Hid (atL (backB (outB (onB (onB (wA r b cost) soon) soon) av) b) soon = b) := by
    refine Lib.hid ?_
    obtain ⟨hN, ok0, hle, okA, hs1, hl1, hsl, hA, hB, hne, hav, hbv, hab, hbb, hbi, hsv, rva, rvb, nnb, nna, hsvl⟩ := P.out
    have ht : soon ≤ (backB (outB (onB (onB (wA r b cost) soon) soon) av) b).time := by simp only [backB, outB, onB]; omega
    unfold atL
    rw [if_pos ht]
    show min b (fadd (fsub (atL (onB (wA r b cost) soon) soon) (rv av)) (rv b)) = b
    rw [rva, rvb, atL_on, ← hav, fsub_self, zero_fadd b (Nat.le_of_lt hbi)]
    exact Nat.min_self b
  go_wp2_with fail
  refine (level_b (c := a1) Q14.out (by obtain ⟨hN, ok0, hle, okA, hs1, hl1, hsl, hA, hB, hne, hav, hbv, hab, hbb, hbi, hsv, rva, rvb, nnb, nna, hsvl⟩ := P.out; exact set_get _ a1 _ (by simp) hA) (by obtain ⟨hN, ok0, hle, okA, hs1, hl1, hsl, hA, hB, hne, hav, hbv, hab, hbb, hbi, hsv, rva, rvb, nnb, nna, hsvl⟩ := P.out; exact backB_ok _ _ (outB_ok _ _ (onB_ok _ _ (onB_ok _ _ okA hs1.2) hs1.2) (by rw [rva]; show av ≤ atL (onB (wA r b cost) soon) soon; rw [atL_on, ← hav]; exact Nat.le_refl _))) soon (by obtain ⟨hN, ok0, hle, okA, hs1, hl1, hsl, hA, hB, hne, hav, hbv, hab, hbb, hbi, hsv, rva, rvb, nnb, nna, hsvl⟩ := P.out; exact hs1.1) (by obtain ⟨hN, ok0, hle, okA, hs1, hl1, hsl, hA, hB, hne, hav, hbv, hab, hbb, hbi, hsv, rva, rvb, nnb, nna, hsvl⟩ := P.out; exact hs1.2)).mono ?_
  rintro e w15 ⟨rfl, hown, hgr⟩
  have Q15 : Hid (HasQ w15 q ((((((List.replicate 64 (newB r b 0)).set a1 (wA r b cost)).set a1 (onB (wA r b cost) soon)).set a1 (outB (onB (onB (wA r b cost) soon) soon) av)).set a1 (backB (outB (onB (onB (wA r b cost) soon) soon) av) b)).set a1 (onB (backB (outB (onB (onB (wA r b cost) soon) soon) av) b) soon))) := Lib.hid hown
  have C15 := Lib.hid (C14.out.grown hgr (by omega))
  have D15 := Lib.hid (D14.out.grown hgr (by omega))
  have W15 : Hid (Below w.heap.size w w15) := Lib.hid (below_grown W14.out hgr (by omega) W14.out.size)
  clear x0 x1 x2 x3 x4 x5 x6
  have BXw15 : Hid (BoxW w15 w.heap.size r b cost soon later a1 a2) := Lib.hid (BXw14.out.of (hgr.block _ (by have := W14.out.size; have := Q14.out.lt; omega) (by simp; omega)))
  obtain ⟨x0, x1, x2, x3, x4, x5, x6⟩ := BXw15.out
  clear hown hgr
  rw [HY.out]
  go_wp2_with fail
  refine (paid_b (c := a1) Q15.out (by obtain ⟨hN, ok0, hle, okA, hs1, hl1, hsl, hA, hB, hne, hav, hbv, hab, hbb, hbi, hsv, rva, rvb, nnb, nna, hsvl⟩ := P.out; exact set_get _ a1 _ (by simp) hA)).mono ?_
  rintro e w' ⟨rfl, m, rfl⟩
  rw [show (onB (backB (outB (onB (onB (wA r b cost) soon) soon) av) b) soon).paid = sv from by obtain ⟨hN, ok0, hle, okA, hs1, hl1, hsl, hA, hB, hne, hav, hbv, hab, hbb, hbi, hsv, rva, rvb, nnb, nna, hsvl⟩ := P.out; rw [hsv]; show fadd (fadd 0 (rv cost)) (rv av) = _; rw [rva, zero_fadd _ (Nat.le_of_lt (rv_lt cost hN))], show (onB (backB (outB (onB (onB (wA r b cost) soon) soon) av) b) soon).times = 2 from rfl]
  go_wp2_with fail
  refine (num_any 0 _).mono ?_
  rintro e w' ⟨rfl, rfl⟩
  go_wp2_with fail
  refine (num_any 0 _).mono ?_
  rintro e w' ⟨rfl, rfl⟩
  go_wp2_with fail
  refine (like_same sv _ (by obtain ⟨hN, ok0, hle, okA, hs1, hl1, hsl, hA, hB, hne, hav, hbv, hab, hbb, hbi, hsv, rva, rvb, nnb, nna, hsvl⟩ := P.out; have : inf < 18446744073709551616 := by decide
                             omega)).mono ?_
  rintro e w' ⟨rfl, rfl⟩
  go_wp2_with fail
  refine (works_any _).mono ?_
  rintro e w16 ⟨rfl, hb16⟩
  go_wp2_with fail
  go_ret
  exact ⟨rfl, (below_drewN W15.out _).trans (hb16.mono W15.out.size)⟩

end Go.Proofs.Ytbpnhpjcepgiiaa
