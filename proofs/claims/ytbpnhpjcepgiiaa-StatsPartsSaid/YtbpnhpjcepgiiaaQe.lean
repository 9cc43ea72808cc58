/- Quota: Pay, Paid, Back, Reset, Copy. -/
import Derived.Test.YtbpnhpjcepgiiaaQd
namespace Go.Proofs.Ytbpnhpjcepgiiaa
open Go.RowKit Fl

theorem order_gt (x y : Nat) (hx : NN x) (hy : y < inf) : (FloatKind.f64.format.order x y == some .gt) = decide (y < rv x) := by
  have hx' : x ≤ inf ∨ x = nz := hx.imp Nat.le_of_lt id
  rw [ord, order_nn x y hx' (.inl (Nat.le_of_lt hy)), rv_small (Nat.le_of_lt hy)]
  rcases Nat.lt_trichotomy (rv x) y with h | h | h
  · rw [Nat.compare_eq_lt.2 h]; simp; omega
  · rw [Nat.compare_eq_eq.2 h]; simp; omega
  · rw [Nat.compare_eq_gt.2 h]; simp [h]
theorem order_lt (x y : Nat) (hx : x ≤ inf) (hy : NN y) : (FloatKind.f64.format.order x y == some .lt) = decide (x < rv y) := by
  have hy' : y ≤ inf ∨ y = nz := hy.imp Nat.le_of_lt id
  rw [ord, order_nn x y (.inl hx) hy', rv_small hx]
  rcases Nat.lt_trichotomy x (rv y) with h | h | h
  · rw [Nat.compare_eq_lt.2 h]; simp [h]
  · rw [Nat.compare_eq_eq.2 h]; simp; omega
  · rw [Nat.compare_eq_gt.2 h]; simp; omega
theorem rv_lt (x : Nat) (h : NN x) : rv x < inf := by
  rcases h with h | rfl
  · rw [rv_small (Nat.le_of_lt h)]; exact h
  · rw [rv_nz]; decide

/-- paid out -/
def outB (b : Bk) (cost : Nat) : Bk := { b with level := fsub b.level (rv cost), paid := fadd b.paid (rv cost), times := b.times + 1 }

theorem outB_ok (b : Bk) (cost : Nat) (h : BkOk b) (hc : rv cost ≤ b.level) : BkOk (outB b cost) :=
  ⟨h.rate, h.burst0, h.burst1, Nat.le_trans (fsub_le _ _ hc) h.level, h.time0, h.time1, fadd_le _ _⟩

set_option maxRecDepth 100000 in
set_option maxHeartbeats 400000 in
theorem pay_over (q c : Nat) (bs : List Bk) (cost : Nat) (t : Int) (w : World) (h : HasQ w q bs) (hc : c < bs.length) (hok : BkOk (bs[c]'hc)) (hx : NN cost) (hx2 : cost < 18446744073709551616) (ht0 : 0 ≤ t) (ht : t ≤ 9007199254740992)
    (ho : (bs[c]'hc).burst < rv cost) :
    Calls Try.prog 19 #[.pointer (some ⟨q, 0, none⟩), .int .i64 c, .float .f64 cost, .int .i64 t] w fun e w' => e = .returned (.int .i64 370) ∧ w = w' := by
  have HB : Hid (timeB t = true) := Lib.hid (by simp [timeB, ht0, ht])
  have HP : Hid (nnW cost = true) := Lib.hid ((nnW_iff cost).2 hx)
  have hgt : (FloatKind.f64.format.order cost (bs[c]'hc).burst == some .gt) = true := by rw [order_gt _ _ hx hok.burst1]; simp [ho]
  have hcell := (h.bk c hc).burst
  have H := Lib.hid h
  have HC := Lib.hid hc
  have HX := Lib.hid hx2
  clear h hok ht0 ht hx hx2 ho
  go_enter Try.func19, Try.ntmps19
  go_wp2_with fail
  refine (price_any cost _ HX.out).mono ?_
  rintro e w' ⟨rfl, rfl⟩
  rw [HP.out]
  go_wp2_with fail
  refine (clock_any t _).mono ?_
  rintro e w' ⟨rfl, rfl⟩
  rw [HB.out]
  go_wp2_with fail
  refine (of_ok q c _ (by have := H.out.1; have := HC.out; omega) H.out.made).mono ?_
  rintro e w' ⟨rfl, rfl⟩
  go_wp2_with fail
  go_ret
  exact ⟨rfl, rfl⟩

set_option maxRecDepth 100000 in
set_option maxHeartbeats 400000 in
theorem pay_later (q c : Nat) (bs : List Bk) (cost : Nat) (t : Int) (w : World) (h : HasQ w q bs) (hc : c < bs.length) (hok : BkOk (bs[c]'hc)) (hx : NN cost) (hx2 : cost < 18446744073709551616) (ht0 : 0 ≤ t) (ht : t ≤ 9007199254740992)
    (ho : rv cost ≤ (bs[c]'hc).burst) (hl : atL (bs[c]'hc) t < rv cost) :
    Calls Try.prog 19 #[.pointer (some ⟨q, 0, none⟩), .int .i64 c, .float .f64 cost, .int .i64 t] w fun e w' => e = .returned (.int .i64 371) ∧
      HasQ w' q (bs.set c (onB (bs[c]'hc) t)) ∧ w.grownBy w' (some q) := by
  have HB : Hid (timeB t = true) := Lib.hid (by simp [timeB, ht0, ht])
  have HP : Hid (nnW cost = true) := Lib.hid ((nnW_iff cost).2 hx)
  have hgt : (FloatKind.f64.format.order cost (bs[c]'hc).burst == some .gt) = false := by rw [order_gt _ _ hx hok.burst1]; simp; omega
  have hlt : (FloatKind.f64.format.order (atL (bs[c]'hc) t) cost == some .lt) = true := by rw [order_lt _ _ (by have := atL_le _ t hok; have := hok.burst1; omega) hx]; simp [hl]
  obtain ⟨l, hll⟩ : ∃ l, l = atL (bs[c]'hc) t := ⟨_, rfl⟩
  rw [← hll] at hlt
  have hcell := (h.bk c hc).burst
  have H := Lib.hid h
  have HC := Lib.hid hc
  have HX := Lib.hid hx2
  have HOK := Lib.hid hok
  have HT := Lib.hid ht
  have HL := Lib.hid hll
  clear h hok ht0 ht hx hx2 ho hl hll
  go_enter Try.func19, Try.ntmps19
  go_wp2_with fail
  refine (price_any cost _ HX.out).mono ?_
  rintro e w' ⟨rfl, rfl⟩
  rw [HP.out]
  go_wp2_with fail
  refine (clock_any t _).mono ?_
  rintro e w' ⟨rfl, rfl⟩
  rw [HB.out]
  go_wp2_with fail
  refine (of_ok q c _ (by have := H.out.1; have := HC.out; omega) H.out.made).mono ?_
  rintro e w' ⟨rfl, rfl⟩
  go_wp2_with fail
  refine (on_q q c bs t _ H.out HC.out HOK.out HT.out).mono ?_
  rintro e w1 ⟨rfl, hq1, hg1⟩
  have hc2 := (hq1.bk c (by rw [List.length_set]; exact HC.out)).level
  rw [List.getElem_set_self, show (onB (bs[c]'hc) t).level = l from HL.out.symm] at hc2
  go_wp2_with fail
  go_ret
  exact ⟨rfl, hq1, hg1⟩

set_option maxRecDepth 100000 in
set_option maxHeartbeats 800000 in
theorem pay_ok (q c : Nat) (bs : List Bk) (cost : Nat) (t : Int) (w : World) (h : HasQ w q bs) (hc : c < bs.length) (hok : BkOk (bs[c]'hc)) (hx : NN cost) (hx2 : cost < 18446744073709551616) (ht0 : 0 ≤ t) (ht : t ≤ 9007199254740992)
    (ho : rv cost ≤ (bs[c]'hc).burst) (hl : rv cost ≤ atL (bs[c]'hc) t) (hn0 : 0 ≤ (bs[c]'hc).times) (hn1 : (bs[c]'hc).times ≤ 1000000) :
    Calls Try.prog 19 #[.pointer (some ⟨q, 0, none⟩), .int .i64 c, .float .f64 cost, .int .i64 t] w fun e w' => e = .returned (.int .i64 0) ∧
      HasQ w' q (bs.set c (outB (onB (bs[c]'hc) t) cost)) ∧ w.grownBy w' (some q) := by
  have HB : Hid (timeB t = true) := Lib.hid (by simp [timeB, ht0, ht])
  have HP : Hid (nnW cost = true) := Lib.hid ((nnW_iff cost).2 hx)
  have hgt : (FloatKind.f64.format.order cost (bs[c]'hc).burst == some .gt) = false := by rw [order_gt _ _ hx hok.burst1]; simp; omega
  have hlb := atL_le _ t hok
  have hlt : (FloatKind.f64.format.order (atL (bs[c]'hc) t) cost == some .lt) = false := by rw [order_lt _ _ (by have := hok.burst1; omega) hx]; simp; omega
  have hsub := sub_nn (atL (bs[c]'hc) t) cost (by have := hok.burst1; omega) (by
    rcases hx with h1 | h1
    · left; rw [rv_small (Nat.le_of_lt h1)] at hl; exact hl
    · exact .inr h1)
  have hadd := add_nn (bs[c]'hc).paid cost hok.paid (hx.imp Nat.le_of_lt id)
  obtain ⟨l, hll⟩ : ∃ l, l = atL (bs[c]'hc) t := ⟨_, rfl⟩
  obtain ⟨p, hpp⟩ : ∃ p, p = (bs[c]'hc).paid := ⟨_, rfl⟩
  obtain ⟨n, hnn⟩ : ∃ n, n = (bs[c]'hc).times := ⟨_, rfl⟩
  obtain ⟨l2, hl2⟩ : ∃ l2, l2 = fsub l (rv cost) := ⟨_, rfl⟩
  obtain ⟨p2, hp2⟩ : ∃ p2, p2 = fadd p (rv cost) := ⟨_, rfl⟩
  rw [← hll] at hlt
  rw [← hll, ← hl2] at hsub
  rw [← hpp, ← hp2] at hadd
  rw [← hnn] at hn0 hn1
  have hrs := fun (T : TypeId) (W : World) => run_float_arith (P := Try.prog) W .sub T .f64 l cost l2 hsub
  have hra := fun (T : TypeId) (W : World) => run_float_arith (P := Try.prog) W .add T .f64 p cost p2 hadd
  have hsf := run_store_float
  have hcell := (h.bk c hc).burst
  have H := Lib.hid h
  have HC := Lib.hid hc
  have HX := Lib.hid hx2
  have HOK := Lib.hid hok
  have HT := Lib.hid ht
  have HL := Lib.hid hll
  have HPP := Lib.hid hpp
  have HN := Lib.hid hnn
  have HL2 := Lib.hid hl2
  have HP2 := Lib.hid hp2
  clear h hok ht0 ht hx hx2 ho hl hll hpp hnn hl2 hp2 hlb hsub hadd
  go_enter Try.func19, Try.ntmps19
  go_wp2_with fail
  refine (price_any cost _ HX.out).mono ?_
  rintro e w' ⟨rfl, rfl⟩
  rw [HP.out]
  go_wp2_with fail
  refine (clock_any t _).mono ?_
  rintro e w' ⟨rfl, rfl⟩
  rw [HB.out]
  go_wp2_with fail
  refine (of_ok q c _ (by have := H.out.1; have := HC.out; omega) H.out.made).mono ?_
  rintro e w' ⟨rfl, rfl⟩
  go_wp2_with fail
  refine (on_q q c bs t _ H.out HC.out HOK.out HT.out).mono ?_
  rintro e w1 ⟨rfl, hq1, hg1⟩
  have hb1 := hq1.bk c (by rw [List.length_set]; exact HC.out)
  rw [List.getElem_set_self] at hb1
  have hc2 := hb1.level
  have hc4 := hb1.paid
  have hc5 := hb1.times
  have f2 := hb1.free (c * 6 + 2)
  have f4 := hb1.free (c * 6 + 4)
  have f5 := hb1.free (c * 6 + 5)
  rw [show (onB (bs[c]'hc) t).level = l from HL.out.symm] at hc2
  rw [show (onB (bs[c]'hc) t).paid = p from HPP.out.symm] at hc4
  rw [show (onB (bs[c]'hc) t).times = n from HN.out.symm] at hc5
  clear hb1
  go_wp2_with fail
  go_ret
  refine ⟨rfl, ?_, ?_⟩
  · have s1 := hq1.store c 2 (.float .f64 l2) { onB (bs[c]'hc) t with level := l2 } (by rw [List.length_set]; exact HC.out) (by omega) (by rw [List.getElem_set_self]; rfl)
    have s2 := s1.store c 4 (.float .f64 p2) { onB (bs[c]'hc) t with level := l2, paid := p2 } (by simp only [List.length_set]; exact HC.out) (by omega) (by rw [List.getElem_set_self]; rfl)
    have s3 := s2.store c 5 (.int .i64 (n + 1)) { onB (bs[c]'hc) t with level := l2, paid := p2, times := n + 1 } (by simp only [List.length_set]; exact HC.out) (by omega) (by rw [List.getElem_set_self]; rfl)
    simp only [List.set_set] at s3
    have e : ({ onB (bs[c]'hc) t with level := l2, paid := p2, times := n + 1 } : Bk) = outB (onB (bs[c]'hc) t) cost := by
      rw [HL2.out, HP2.out, HL.out, HPP.out, HN.out]; rfl
    rw [← e]
    exact s3
  · exact grown_trans hg1 (grown_trans (grown_trans (grown_setCell _ _ _ _) (grown_setCell _ _ _ _)) (grown_setCell _ _ _ _))
end Go.Proofs.Ytbpnhpjcepgiiaa
