/- Quota: Back, Reset, New. -/
import Derived.Test.YtbpnhpjcepgiiaaQg
import Derived.RegionTactic
namespace Go.Proofs.Ytbpnhpjcepgiiaa
open Go.RowKit Fl

/-- put back in -/
def backB (b : Bk) (cost : Nat) : Bk := { b with level := min b.burst (fadd b.level (rv cost)) }
def resetB (b : Bk) (t : Int) : Bk := { b with level := b.burst, time := t }
theorem backB_ok (b : Bk) (cost : Nat) (h : BkOk b) : BkOk (backB b cost) := ⟨h.rate, h.burst0, h.burst1, Nat.min_le_left _ _, h.time0, h.time1, h.paid⟩
theorem resetB_ok (b : Bk) (t : Int) (h : BkOk b) (h0 : 0 ≤ t) (h1 : t ≤ 9007199254740992) : BkOk (resetB b t) := ⟨h.rate, h.burst0, h.burst1, Nat.le_refl _, h0, h1, h.paid⟩

set_option maxHeartbeats 800000 in
theorem back_ok (q c : Nat) (bs : List Bk) (cost : Nat) (w : World) (h : HasQ w q bs) (hc : c < bs.length) (hok : BkOk (bs[c]'hc)) (hx : NN cost) (hx2 : cost < 18446744073709551616) :
    Calls Try.prog 23 #[.pointer (some ⟨q, 0, none⟩), .int .i64 c, .float .f64 cost] w fun e w' => e = .returned (.int .i64 0) ∧
      HasQ w' q (bs.set c (backB (bs[c]'hc) cost)) ∧ w.grownBy w' (some q) := by
  have HP : Hid (nnW cost = true) := Lib.hid ((nnW_iff cost).2 hx)
  have hb := h.bk c hc
  have hadd := add_nn (bs[c]'hc).level cost (by have := hok.level; have := hok.burst1; omega) (hx.imp Nat.le_of_lt id)
  obtain ⟨l, hll⟩ : ∃ l, l = (bs[c]'hc).level := ⟨_, rfl⟩
  obtain ⟨u, huu⟩ : ∃ u, u = (bs[c]'hc).burst := ⟨_, rfl⟩
  obtain ⟨s, hss⟩ : ∃ s, s = fadd l (rv cost) := ⟨_, rfl⟩
  rw [← hll, ← hss] at hadd
  have h1 := hb.burst
  have h2 := hb.level
  have f2 := hb.free (c * 6 + 2)
  rw [← hll] at h2
  rw [← huu] at h1
  have hra := fun (T : TypeId) (W : World) => run_float_arith (P := Try.prog) W .add T .f64 l cost s hadd
  obtain ⟨m, hm⟩ : ∃ m, m = min u s := ⟨_, rfl⟩
  have hmin := fun (W : World) => run_min W #[22, 22] 22 u s (by rw [huu]; exact Nat.le_of_lt hok.burst1) (by rw [hss]; exact fadd_le _ _)
  rw [← hm] at hmin
  have hsf := run_store_float
  have H := Lib.hid h
  have HC := Lib.hid hc
  have HX := Lib.hid hx2
  have HM : Hid (m = (backB (bs[c]'hc) cost).level) := Lib.hid (by rw [hm, hss, hll, huu]; rfl)
  clear h hb hadd hll huu hss hm hok hx hx2
  go_enter Try.func23, Try.ntmps23
  go_wp2_with fail
  refine (price_any cost _ HX.out).mono ?_
  rintro e w' ⟨rfl, rfl⟩
  rw [HP.out]
  go_wp2_with fail
  refine (of_ok q c _ (by have := H.out.1; have := HC.out; omega) H.out.made).mono ?_
  rintro e w' ⟨rfl, rfl⟩
  go_wp2_with fail
  go_region
  all_goals
    go_wp2_with fail
    go_ret
    refine ⟨rfl, ?_, ?_⟩
    · have s1 := H.out.store c 2 (.float .f64 m) (backB (bs[c]'hc) cost) HC.out (by omega) (by rw [HM.out]; rfl)
      exact s1.of rfl
    · exact grown_trans (grown_setCell _ _ _ _) (grown_drewN _ 1 _)

set_option maxRecDepth 100000 in
set_option maxHeartbeats 800000 in
theorem reset_ok (q c : Nat) (bs : List Bk) (t : Int) (w : World) (h : HasQ w q bs) (hc : c < bs.length) (ht0 : 0 ≤ t) (ht : t ≤ 9007199254740992) :
    Calls Try.prog 24 #[.pointer (some ⟨q, 0, none⟩), .int .i64 c, .int .i64 t] w fun e w' => e = .returned (.int .i64 0) ∧
      HasQ w' q (bs.set c (resetB (bs[c]'hc) t)) ∧ w.grownBy w' (some q) := by
  have HB : Hid (timeB t = true) := Lib.hid (by simp [timeB, ht0, ht])
  have hb := h.bk c hc
  obtain ⟨u, huu⟩ : ∃ u, u = (bs[c]'hc).burst := ⟨_, rfl⟩
  have h1 := hb.burst
  have h2 := hb.level
  have h3 := hb.time
  have f2 := hb.free (c * 6 + 2)
  have f3 := hb.free (c * 6 + 3)
  rw [← huu] at h1
  have hsf := run_store_float
  have H := Lib.hid h
  have HC := Lib.hid hc
  have HU := Lib.hid huu
  clear h hb huu ht0 ht
  go_enter Try.func24, Try.ntmps24
  go_wp2_with fail
  refine (clock_any t _).mono ?_
  rintro e w' ⟨rfl, rfl⟩
  rw [HB.out]
  go_wp2_with fail
  refine (of_ok q c _ (by have := H.out.1; have := HC.out; omega) H.out.made).mono ?_
  rintro e w' ⟨rfl, rfl⟩
  go_wp2_with fail
  go_ret
  refine ⟨rfl, ?_, ?_⟩
  · have s1 := H.out.store c 2 (.float .f64 u) { bs[c]'HC.out with level := u } HC.out (by omega) rfl
    have s2 := s1.store c 3 (.int .i64 t) (resetB (bs[c]'HC.out) t) (by rw [List.length_set]; exact HC.out) (by omega) (by rw [List.getElem_set_self, HU.out]; rfl)
    rw [List.set_set] at s2
    exact s2
  · exact grown_trans (grown_setCell _ _ _ _) (grown_setCell _ _ _ _)

/-- a new bucket -/
def newB (r b : Nat) (t : Int) : Bk := ⟨r, b, b, t, 0, 0⟩
theorem newB_ok (r b : Nat) (t : Int) (h : quotaB r b = true) (h0 : 0 ≤ t) (h1 : t ≤ 9007199254740992) : BkOk (newB r b t) := by
  simp only [quotaB, Bool.and_eq_true, decide_eq_true_eq] at h
  exact ⟨(nnW_iff r).1 h.1, h.2.1, h.2.2, Nat.le_refl _, h0, h1, Nat.zero_le _⟩

theorem repl_set (k : Nat) (x z : Bk) (h : k < 64) : (List.replicate k x ++ List.replicate (64 - k) z).set k x = List.replicate (k + 1) x ++ List.replicate (64 - (k + 1)) z := by
  rw [List.set_append_right _ _ (by simp)]
  simp only [List.length_replicate, Nat.sub_self]
  rw [show 64 - k = (64 - (k + 1)) + 1 by omega, List.replicate_succ, List.set_cons_zero, List.replicate_succ', List.append_assoc]
  rfl
theorem HasQ.drew {w : World} {q : Nat} {bs : List Bk} (h : HasQ w q bs) : HasQ w.drew q bs := ⟨h.1, h.2⟩
set_option maxHeartbeats 800000 in
theorem new_step (wr : World) (q k r b : Nat) (t : Int) (hlt : k < 64) (h : HasQ wr q (List.replicate k (newB r b t) ++ List.replicate (64 - k) zeroBk)) :
    HasQ (((((((wr.setCell ⟨q, k * 6, none⟩ (.float .f64 r)).setCell ⟨q, k * 6 + 1, none⟩ (.float .f64 b)).setCell ⟨q, k * 6 + 2, none⟩ (.float .f64 b)).setCell ⟨q, k * 6 + 3, none⟩ (.int .i64 t)).setCell ⟨q, k * 6 + 4, none⟩ (.float .f64 0)).setCell ⟨q, k * 6 + 5, none⟩ (.int .i64 0)).drew) q (List.replicate (k + 1) (newB r b t) ++ List.replicate (64 - (k + 1)) zeroBk) := by
  have hkl : k < (List.replicate k (newB r b t) ++ List.replicate (64 - k) zeroBk).length := by simp; omega
  have hel : (List.replicate k (newB r b t) ++ List.replicate (64 - k) zeroBk)[k]'hkl = zeroBk := by
    rw [List.getElem_append_right (by simp)]
    simp
  have s0 : HasQ (wr.setCell ⟨q, k * 6, none⟩ (.float .f64 r)) q _ := h.store k 0 (.float .f64 r) ⟨r, 0, 0, 0, 0, 0⟩ hkl (by omega) (by rw [hel]; rfl)
  have s1 := s0.store k 1 (.float .f64 b) ⟨r, b, 0, 0, 0, 0⟩ (by simp only [List.length_set]; exact hkl) (by omega) (by rw [List.getElem_set_self]; rfl)
  have s2 := s1.store k 2 (.float .f64 b) ⟨r, b, b, 0, 0, 0⟩ (by simp only [List.length_set]; exact hkl) (by omega) (by rw [List.getElem_set_self]; rfl)
  have s3 := s2.store k 3 (.int .i64 t) ⟨r, b, b, t, 0, 0⟩ (by simp only [List.length_set]; exact hkl) (by omega) (by rw [List.getElem_set_self]; rfl)
  have s4 := s3.store k 4 (.float .f64 0) ⟨r, b, b, t, 0, 0⟩ (by simp only [List.length_set]; exact hkl) (by omega) (by rw [List.getElem_set_self]; rfl)
  have s5 := s4.store k 5 (.int .i64 0) (newB r b t) (by simp only [List.length_set]; exact hkl) (by omega) (by rw [List.getElem_set_self]; rfl)
  simp only [List.set_set] at s5
  rw [repl_set k _ _ hlt] at s5
  exact s5.drew
theorem new_below (wr : World) (q o r b : Nat) (t : Int) (w1 : World) (h : Below q w1 wr) :
    Below q w1 (((((((wr.setCell ⟨q, o, none⟩ (.float .f64 r)).setCell ⟨q, o + 1, none⟩ (.float .f64 b)).setCell ⟨q, o + 2, none⟩ (.float .f64 b)).setCell ⟨q, o + 3, none⟩ (.int .i64 t)).setCell ⟨q, o + 4, none⟩ (.float .f64 0)).setCell ⟨q, o + 5, none⟩ (.int .i64 0)).drew) :=
  ((((((h.setCell (Nat.le_refl _) _).setCell (Nat.le_refl _) _).setCell (Nat.le_refl _) _).setCell (Nat.le_refl _) _).setCell (Nat.le_refl _) _).setCell (Nat.le_refl _) _).drew
theorem new_size (wr : World) (q o r b : Nat) (t : Int) (m : Nat) (h : m < wr.heap.size) :
    m < (((((((wr.setCell ⟨q, o, none⟩ (.float .f64 r)).setCell ⟨q, o + 1, none⟩ (.float .f64 b)).setCell ⟨q, o + 2, none⟩ (.float .f64 b)).setCell ⟨q, o + 3, none⟩ (.int .i64 t)).setCell ⟨q, o + 4, none⟩ (.float .f64 0)).setCell ⟨q, o + 5, none⟩ (.int .i64 0)).drew).heap.size := by
  simpa [World.setCell, World.drew] using h
theorem build_q (W : World) : (Instr.build 70 #[(1, .bool true)]).run Try.prog W = .ok (.agg (encQ (List.replicate 64 zeroBk))) W := by kernel_rfl

set_option maxRecDepth 100000 in
set_option maxHeartbeats 800000 in
theorem new_ok (r b : Nat) (t : Int) (w : World) (hq : quotaB r b = true) (hr : r < 18446744073709551616) (hb : b < 18446744073709551616) (ht0 : 0 ≤ t) (ht : t ≤ 9007199254740992) :
    Calls Try.prog 12 #[.agg #[.float .f64 r, .float .f64 b], .int .i64 t] w fun e w' => ∃ q, w.heap.size ≤ q ∧ e = .returned (.tuple #[.pointer (some ⟨q, 0, none⟩), .int .i64 0]) ∧
      HasQ w' q (List.replicate 64 (newB r b t)) ∧ Below w.heap.size w w' := by
  have HB : Hid (timeB t = true) := Lib.hid (by simp [timeB, ht0, ht])
  have HQ := Lib.hid hq
  have HR := Lib.hid hr
  have HBB := Lib.hid hb
  have hbd := build_q
  clear hq hr hb ht0 ht
  go_enter Try.func12, Try.ntmps12
  go_wp2_with fail
  refine (check_any r b _ HR.out HBB.out).mono ?_
  rintro e w1 ⟨rfl, hb1⟩
  rw [HQ.out]
  have hc0 : w1.cell? ⟨w.heap.size, 0, none⟩ = some (.float .f64 r) := by
    rw [hb1.cell (by simp)]
    simp [go_sem]
  have hc1 : w1.cell? ⟨w.heap.size, 1, none⟩ = some (.float .f64 b) := by
    rw [hb1.cell (by simp)]
    simp [go_sem]
  have hsz : w.heap.size + 1 ≤ w1.heap.size := by have := hb1.size; simpa using this
  have HC0 := Lib.hid hc0
  have HC1 := Lib.hid hc1
  clear hc0 hc1
  rw [show errB true = 0 from rfl]
  go_wp2_with fail
  refine (clock_any t _).mono ?_
  rintro e w' ⟨rfl, rfl⟩
  rw [HB.out]
  go_wp2_with fail
  have hsf := run_store_float
  go_loopw [18] (fun i wr => ∃ k : Nat, k ≤ 64 ∧ i = .int .i64 k ∧ Hid (HasQ wr w1.heap.size (List.replicate k (newB r b t) ++ List.replicate (64 - k) zeroBk)) ∧ Hid (Below w1.heap.size w1 wr) ∧ w1.heap.size < wr.heap.size)
    (fun i _ => (64 - intOf i).toNat)
  case atStart =>
    refine ⟨0, by omega, rfl, Lib.hid ⟨by simp, ?_⟩, Lib.hid ((Below.refl _ _).alloc (Nat.le_refl _) _), by simp⟩
    exact heap_alloc_new _ _
  case round =>
    obtain ⟨k, hk, rfl, HQW, HBW, hsw⟩ := hrel
    by_cases hlt : k < 64
    · have hkl : k < (List.replicate k (newB r b t) ++ List.replicate (64 - k) zeroBk).length := by simp; omega
      have hel : (List.replicate k (newB r b t) ++ List.replicate (64 - k) zeroBk)[k]'hkl = zeroBk := by
        rw [List.getElem_append_right (by simp)]
        simp
      have hb := HQW.out.bk k hkl
      rw [hel] at hb
      have HEL := Lib.hid hel
      have c0 := hb.rate
      have c1 := hb.burst
      have c2 := hb.level
      have c3 := hb.time
      have c4 := hb.paid
      have c5 := hb.times
      have hfz : ∀ j, wr.frozen? ⟨w1.heap.size, j, none⟩ = false := hb.free
      have b0 : wr.cell? ⟨w.heap.size, 0, none⟩ = some (.float .f64 r) := by rw [HBW.out.cell (p := ⟨w.heap.size, 0, none⟩) (by show w.heap.size < _; omega)]; exact HC0.out
      have b1 : wr.cell? ⟨w.heap.size, 1, none⟩ = some (.float .f64 b) := by rw [HBW.out.cell (p := ⟨w.heap.size, 1, none⟩) (by show w.heap.size < _; omega)]; exact HC1.out
      have HKL := Lib.hid hkl
      clear hb hel
      go_wp2_with fail
      go_region
      all_goals go_wp2_with fail
      all_goals
        go_roundw
        case rel =>
          have n1 := new_step wr w1.heap.size k r b t hlt HQW.out
          exact ⟨k + 1, by omega, by go_num, Lib.hid n1, Lib.hid (new_below wr w1.heap.size (k * 6) r b t w1 HBW.out), new_size wr w1.heap.size (k * 6) r b t w1.heap.size hsw⟩
        case measure => simp [intOf]; omega
    · obtain rfl : k = 64 := by omega
      go_wp2_with fail
      go_ret2
      refine ⟨w1.heap.size, by omega, rfl, ?_, ?_⟩
      · have := HQW.out
        simpa using this
      · exact (((Below.refl _ _).alloc (Nat.le_refl _) _).trans (hb1.mono (by simp))).trans (HBW.out.mono (by omega))
end Go.Proofs.Ytbpnhpjcepgiiaa
