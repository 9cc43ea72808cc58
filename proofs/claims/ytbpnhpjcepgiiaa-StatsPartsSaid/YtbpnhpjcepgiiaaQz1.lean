/- The texts Qh, Qi, Qj, Qk in one. -/
import Derived.Test.YtbpnhpjcepgiiaaQg
import Derived.RegionTactic
/- Quota: Back, Reset, New. -/
namespace Go.Proofs.Ytbpnhpjcepgiiaa
open Go.RowKit Fl

/-- put back in -/
def backB (b : Bk) (cost : Nat) : Bk := { b with level := min b.burst (fadd b.level (rv cost)) }
def resetB (b : Bk) (t : Int) : Bk := { b with level := b.burst, time := t }
theorem backB_ok (b : Bk) (cost : Nat) (h : BkOk b) : BkOk (backB b cost) := ⟨h.rate, h.burst0, h.burst1, Nat.min_le_left _ _, h.time0, h.time1, h.paid⟩
theorem resetB_ok (b : Bk) (t : Int) (h : BkOk b) (h0 : 0 ≤ t) (h1 : t ≤ 9007199254740992) : BkOk (resetB b t) := ⟨h.rate, h.burst0, h.burst1, Nat.le_refl _, h0, h1, h.paid⟩

set_option maxHeartbeats 800000 in
theorem back_ok (q c : Nat) (bs : List Bk) (cost : Nat) (w : World) (h : HasQ w q bs) (hc : c < bs.length) (hok : BkOk (bs[c]'hc)) (hx : NN cost) (hx2 : cost < 18446744073709551616) :
    Calls Try.prog 23 #[.pointer (some ⟨q, 0, none⟩), .int .i64 c, .float .f64 cost] w fun e w' => e = .returned (.int .i64 0) ∧
      HasQ w' q (bs.set c (backB (bs[c]'hc) cost)) ∧ w.grownBy w' (some q) := by
  have HP : Hid (nnW cost = true) := Lib.hid ((nnW_iff cost).2 hx)
  have hb := h.bk c hc
  have hadd := add_nn (bs[c]'hc).level cost (by have := hok.level; have := hok.burst1; omega) (hx.imp Nat.le_of_lt id)
  obtain ⟨l, hll⟩ : ∃ l, l = (bs[c]'hc).level := ⟨_, rfl⟩
  obtain ⟨u, huu⟩ : ∃ u, u = (bs[c]'hc).burst := ⟨_, rfl⟩
  obtain ⟨s, hss⟩ : ∃ s, s = fadd l (rv cost) := ⟨_, rfl⟩
  rw [← hll, ← hss] at hadd
  have h1 := hb.burst
  have h2 := hb.level
  have f2 := hb.free (c * 6 + 2)
  rw [← hll] at h2
  rw [← huu] at h1
  have hra := fun (T : TypeId) (W : World) => run_float_arith (P := Try.prog) W .add T .f64 l cost s hadd
  obtain ⟨m, hm⟩ : ∃ m, m = min u s := ⟨_, rfl⟩
  have hmin := fun (W : World) => run_min W #[22, 22] 22 u s (by rw [huu]; exact Nat.le_of_lt hok.burst1) (by rw [hss]; exact fadd_le _ _)
  rw [← hm] at hmin
  have hsf := run_store_float
  have H := Lib.hid h
  have HC := Lib.hid hc
  have HX := Lib.hid hx2
  have HM : Hid (m = (backB (bs[c]'hc) cost).level) := Lib.hid (by rw [hm, hss, hll, huu]; rfl)
  clear h hb hadd hll huu hss hm hok hx hx2
  go_enter Try.func23, Try.ntmps23
  go_wp2_with fail
  refine (price_any cost _ HX.out).mono ?_
  rintro e w' ⟨rfl, rfl⟩
  rw [HP.out]
  go_wp2_with fail
  refine (of_ok q c _ (by have := H.out.1; have := HC.out; omega) H.out.made).mono ?_
  rintro e w' ⟨rfl, rfl⟩
  go_wp2_with fail
  go_region
  all_goals
    go_wp2_with fail
    go_ret
    refine ⟨rfl, ?_, ?_⟩
    · have s1 := H.out.store c 2 (.float .f64 m) (backB (bs[c]'hc) cost) HC.out (by omega) (by rw [HM.out]; rfl)
      exact s1.of rfl
    · exact grown_trans (grown_setCell _ _ _ _) (grown_drewN _ 1 _)

set_option maxRecDepth 100000 in
set_option maxHeartbeats 800000 in
theorem reset_ok (q c : Nat) (bs : List Bk) (t : Int) (w : World) (h : HasQ w q bs) (hc : c < bs.length) (ht0 : 0 ≤ t) (ht : t ≤ 9007199254740992) :
    Calls Try.prog 24 #[.pointer (some ⟨q, 0, none⟩), .int .i64 c, .int .i64 t] w fun e w' => e = .returned (.int .i64 0) ∧
      HasQ w' q (bs.set c (resetB (bs[c]'hc) t)) ∧ w.grownBy w' (some q) := by
  have HB : Hid (timeB t = true) := Lib.hid (by simp [timeB, ht0, ht])
  have hb := h.bk c hc
  obtain ⟨u, huu⟩ : ∃ u, u = (bs[c]'hc).burst := ⟨_, rfl⟩
  have h1 := hb.burst
  have h2 := hb.level
  have h3 := hb.time
  have f2 := hb.free (c * 6 + 2)
  have f3 := hb.free (c * 6 + 3)
  rw [← huu] at h1
  have hsf := run_store_float
  have H := Lib.hid h
  have HC := Lib.hid hc
  have HU := Lib.hid huu
  clear h hb huu ht0 ht
  go_enter Try.func24, Try.ntmps24
  go_wp2_with fail
  refine (clock_any t _).mono ?_
  rintro e w' ⟨rfl, rfl⟩
  rw [HB.out]
  go_wp2_with fail
  refine (of_ok q c _ (by have := H.out.1; have := HC.out; omega) H.out.made).mono ?_
  rintro e w' ⟨rfl, rfl⟩
  go_wp2_with fail
  go_ret
  refine ⟨rfl, ?_, ?_⟩
  · have s1 := H.out.store c 2 (.float .f64 u) { bs[c]'HC.out with level := u } HC.out (by omega) rfl
    have s2 := s1.store c 3 (.int .i64 t) (resetB (bs[c]'HC.out) t) (by rw [List.length_set]; exact HC.out) (by omega) (by rw [List.getElem_set_self, HU.out]; rfl)
    rw [List.set_set] at s2
    exact s2
  · exact grown_trans (grown_setCell _ _ _ _) (grown_setCell _ _ _ _)

/-- a new bucket -/
def newB (r b : Nat) (t : Int) : Bk := ⟨r, b, b, t, 0, 0⟩
theorem newB_ok (r b : Nat) (t : Int) (h : quotaB r b = true) (h0 : 0 ≤ t) (h1 : t ≤ 9007199254740992) : BkOk (newB r b t) := by
  simp only [quotaB, Bool.and_eq_true, decide_eq_true_eq] at h
  exact ⟨(nnW_iff r).1 h.1, h.2.1, h.2.2, Nat.le_refl _, h0, h1, Nat.zero_le _⟩

theorem repl_set (k : Nat) (x z : Bk) (h : k < 64) : (List.replicate k x ++ List.replicate (64 - k) z).set k x = List.replicate (k + 1) x ++ List.replicate (64 - (k + 1)) z := by
  rw [List.set_append_right _ _ (by simp)]
  simp only [List.length_replicate, Nat.sub_self]
  rw [show 64 - k = (64 - (k + 1)) + 1 by omega, List.replicate_succ, List.set_cons_zero, List.replicate_succ', List.append_assoc]
  rfl
theorem HasQ.drew {w : World} {q : Nat} {bs : List Bk} (h : HasQ w q bs) : HasQ w.drew q bs := ⟨h.1, h.2⟩
set_option maxHeartbeats 800000 in
theorem new_step (wr : World) (q k r b : Nat) (t : Int) (hlt : k < 64) (h : HasQ wr q (List.replicate k (newB r b t) ++ List.replicate (64 - k) zeroBk)) :
    HasQ (((((((wr.setCell ⟨q, k * 6, none⟩ (.float .f64 r)).setCell ⟨q, k * 6 + 1, none⟩ (.float .f64 b)).setCell ⟨q, k * 6 + 2, none⟩ (.float .f64 b)).setCell ⟨q, k * 6 + 3, none⟩ (.int .i64 t)).setCell ⟨q, k * 6 + 4, none⟩ (.float .f64 0)).setCell ⟨q, k * 6 + 5, none⟩ (.int .i64 0)).drew) q (List.replicate (k + 1) (newB r b t) ++ List.replicate (64 - (k + 1)) zeroBk) := by
  have hkl : k < (List.replicate k (newB r b t) ++ List.replicate (64 - k) zeroBk).length := by simp; omega
  have hel : (List.replicate k (newB r b t) ++ List.replicate (64 - k) zeroBk)[k]'hkl = zeroBk := by
    rw [List.getElem_append_right (by simp)]
    simp
  have s0 : HasQ (wr.setCell ⟨q, k * 6, none⟩ (.float .f64 r)) q _ := h.store k 0 (.float .f64 r) ⟨r, 0, 0, 0, 0, 0⟩ hkl (by omega) (by rw [hel]; rfl)
  have s1 := s0.store k 1 (.float .f64 b) ⟨r, b, 0, 0, 0, 0⟩ (by simp only [List.length_set]; exact hkl) (by omega) (by rw [List.getElem_set_self]; rfl)
  have s2 := s1.store k 2 (.float .f64 b) ⟨r, b, b, 0, 0, 0⟩ (by simp only [List.length_set]; exact hkl) (by omega) (by rw [List.getElem_set_self]; rfl)
  have s3 := s2.store k 3 (.int .i64 t) ⟨r, b, b, t, 0, 0⟩ (by simp only [List.length_set]; exact hkl) (by omega) (by rw [List.getElem_set_self]; rfl)
  have s4 := s3.store k 4 (.float .f64 0) ⟨r, b, b, t, 0, 0⟩ (by simp only [List.length_set]; exact hkl) (by omega) (by rw [List.getElem_set_self]; rfl)
  have s5 := s4.store k 5 (.int .i64 0) (newB r b t) (by simp only [List.length_set]; exact hkl) (by omega) (by rw [List.getElem_set_self]; rfl)
  simp only [List.set_set] at s5
  rw [repl_set k _ _ hlt] at s5
  exact s5.drew
theorem new_below (wr : World) (q o r b : Nat) (t : Int) (w1 : World) (h : Below q w1 wr) :
    Below q w1 (((((((wr.setCell ⟨q, o, none⟩ (.float .f64 r)).setCell ⟨q, o + 1, none⟩ (.float .f64 b)).setCell ⟨q, o + 2, none⟩ (.float .f64 b)).setCell ⟨q, o + 3, none⟩ (.int .i64 t)).setCell ⟨q, o + 4, none⟩ (.float .f64 0)).setCell ⟨q, o + 5, none⟩ (.int .i64 0)).drew) :=
  ((((((h.setCell (Nat.le_refl _) _).setCell (Nat.le_refl _) _).setCell (Nat.le_refl _) _).setCell (Nat.le_refl _) _).setCell (Nat.le_refl _) _).setCell (Nat.le_refl _) _).drew
theorem new_size (wr : World) (q o r b : Nat) (t : Int) (m : Nat) (h : m < wr.heap.size) :
    m < (((((((wr.setCell ⟨q, o, none⟩ (.float .f64 r)).setCell ⟨q, o + 1, none⟩ (.float .f64 b)).setCell ⟨q, o + 2, none⟩ (.float .f64 b)).setCell ⟨q, o + 3, none⟩ (.int .i64 t)).setCell ⟨q, o + 4, none⟩ (.float .f64 0)).setCell ⟨q, o + 5, none⟩ (.int .i64 0)).drew).heap.size := by
  simpa [World.setCell, World.drew] using h
theorem build_q (W : World) : (Instr.build 70 #[(1, .bool true)]).run Try.prog W = .ok (.agg (encQ (List.replicate 64 zeroBk))) W := by kernel_rfl

set_option maxRecDepth 100000 in
set_option maxHeartbeats 800000 in
theorem new_ok (r b : Nat) (t : Int) (w : World) (hq : quotaB r b = true) (hr : r < 18446744073709551616) (hb : b < 18446744073709551616) (ht0 : 0 ≤ t) (ht : t ≤ 9007199254740992) :
    Calls Try.prog 12 #[.agg #[.float .f64 r, .float .f64 b], .int .i64 t] w fun e w' => ∃ q, w.heap.size ≤ q ∧ e = .returned (.tuple #[.pointer (some ⟨q, 0, none⟩), .int .i64 0]) ∧
      HasQ w' q (List.replicate 64 (newB r b t)) ∧ Below w.heap.size w w' := by
  have HB : Hid (timeB t = true) := Lib.hid (by simp [timeB, ht0, ht])
  have HQ := Lib.hid hq
  have HR := Lib.hid hr
  have HBB := Lib.hid hb
  have hbd := build_q
  clear hq hr hb ht0 ht
  go_enter Try.func12, Try.ntmps12
  go_wp2_with fail
  refine (check_any r b _ HR.out HBB.out).mono ?_
  rintro e w1 ⟨rfl, hb1⟩
  rw [HQ.out]
  have hc0 : w1.cell? ⟨w.heap.size, 0, none⟩ = some (.float .f64 r) := by
    rw [hb1.cell (by simp)]
    simp [go_sem]
  have hc1 : w1.cell? ⟨w.heap.size, 1, none⟩ = some (.float .f64 b) := by
    rw [hb1.cell (by simp)]
    simp [go_sem]
  have hsz : w.heap.size + 1 ≤ w1.heap.size := by have := hb1.size; simpa using this
  have HC0 := Lib.hid hc0
  have HC1 := Lib.hid hc1
  clear hc0 hc1
  rw [show errB true = 0 from rfl]
  go_wp2_with fail
  refine (clock_any t _).mono ?_
  rintro e w' ⟨rfl, rfl⟩
  rw [HB.out]
  go_wp2_with fail
  have hsf := run_store_float
  go_loopw [18] (fun i wr => ∃ k : Nat, k ≤ 64 ∧ i = .int .i64 k ∧ Hid (HasQ wr w1.heap.size (List.replicate k (newB r b t) ++ List.replicate (64 - k) zeroBk)) ∧ Hid (Below w1.heap.size w1 wr) ∧ w1.heap.size < wr.heap.size)
    (fun i _ => (64 - intOf i).toNat)
  case atStart =>
    refine ⟨0, by omega, rfl, Lib.hid ⟨by simp, ?_⟩, Lib.hid ((Below.refl _ _).alloc (Nat.le_refl _) _), by simp⟩
    exact heap_alloc_new _ _
  case round =>
    obtain ⟨k, hk, rfl, HQW, HBW, hsw⟩ := hrel
    by_cases hlt : k < 64
    · have hkl : k < (List.replicate k (newB r b t) ++ List.replicate (64 - k) zeroBk).length := by simp; omega
      have hel : (List.replicate k (newB r b t) ++ List.replicate (64 - k) zeroBk)[k]'hkl = zeroBk := by
        rw [List.getElem_append_right (by simp)]
        simp
      have hb := HQW.out.bk k hkl
      rw [hel] at hb
      have HEL := Lib.hid hel
      have c0 := hb.rate
      have c1 := hb.burst
      have c2 := hb.level
      have c3 := hb.time
      have c4 := hb.paid
      have c5 := hb.times
      have hfz : ∀ j, wr.frozen? ⟨w1.heap.size, j, none⟩ = false := hb.free
      have b0 : wr.cell? ⟨w.heap.size, 0, none⟩ = some (.float .f64 r) := by rw [HBW.out.cell (p := ⟨w.heap.size, 0, none⟩) (by show w.heap.size < _; omega)]; exact HC0.out
      have b1 : wr.cell? ⟨w.heap.size, 1, none⟩ = some (.float .f64 b) := by rw [HBW.out.cell (p := ⟨w.heap.size, 1, none⟩) (by show w.heap.size < _; omega)]; exact HC1.out
      have HKL := Lib.hid hkl
      clear hb hel
      go_wp2_with fail
      go_region
      all_goals go_wp2_with fail
      all_goals
        go_roundw
        case rel =>
          have n1 := new_step wr w1.heap.size k r b t hlt HQW.out
          exact ⟨k + 1, by omega, by go_num, Lib.hid n1, Lib.hid (new_below wr w1.heap.size (k * 6) r b t w1 HBW.out), new_size wr w1.heap.size (k * 6) r b t w1.heap.size hsw⟩
        case measure => simp [intOf]; omega
    · obtain rfl : k = 64 := by omega
      go_wp2_with fail
      go_ret2
      refine ⟨w1.heap.size, by omega, rfl, ?_, ?_⟩
      · have := HQW.out
        simpa using this
      · exact (((Below.refl _ _).alloc (Nat.le_refl _) _).trans (hb1.mono (by simp))).trans (HBW.out.mono (by omega))
end Go.Proofs.Ytbpnhpjcepgiiaa
/- Quota: the contracts by what a bucket is; works. -/
namespace Go.Proofs.Ytbpnhpjcepgiiaa
open Go.RowKit Fl

theorem num_any (n : Int) (w : World) : Calls Try.prog 13 #[.int .i64 n] w fun e w' => e = .returned (.int .i64 n) ∧ w = w' := by
  go_enter Try.func13, Try.ntmps13
  go_wp2
  go_ret
  exact ⟨rfl, rfl⟩

theorem atL_mono (b : Bk) (h : BkOk b) (t u : Int) (htu : t ≤ u) : atL b t ≤ atL b u := by
  unfold atL
  by_cases h1 : u ≤ b.time
  · rw [if_pos h1, if_pos (by omega)]; exact Nat.le_refl _
  · rw [if_neg h1]
    by_cases h2 : t ≤ b.time
    · rw [if_pos h2]
      refine Nat.le_min.2 ⟨h.level, fadd_ge _ _ ?_⟩
      have := h.level; have := h.burst1; omega
    · rw [if_neg h2]
      have hm := fadd_mono b.level _ _ (fmul_mono (rv b.rate) _ _ (i2r_mono (show (t - b.time).toNat ≤ (u - b.time).toNat by omega))) (fmul_le _ _)
      omega

section
variable {q c : Nat} {bs : List Bk} {b : Bk} {w : World}
theorem level_b (h : HasQ w q bs) (hb : bs[c]? = some b) (hok : BkOk b) (t : Int) (ht0 : 0 ≤ t) (ht : t ≤ 9007199254740992) :
    Calls Try.prog 20 #[.pointer (some ⟨q, 0, none⟩), .int .i64 c, .int .i64 t] w fun e w' => e = .returned (.tuple #[.float .f64 (atL b t), .int .i64 0]) ∧
      HasQ w' q (bs.set c (onB b t)) ∧ w.grownBy w' (some q) := by
  obtain ⟨hc, rfl⟩ := List.getElem?_eq_some_iff.1 hb
  exact level_ok q c bs t w h hc hok ht0 ht
theorem pay_over_b (h : HasQ w q bs) (hb : bs[c]? = some b) (hok : BkOk b) (cost : Nat) (t : Int) (hx : NN cost) (hx2 : cost < 18446744073709551616) (ht0 : 0 ≤ t) (ht : t ≤ 9007199254740992) (ho : b.burst < rv cost) :
    Calls Try.prog 19 #[.pointer (some ⟨q, 0, none⟩), .int .i64 c, .float .f64 cost, .int .i64 t] w fun e w' => e = .returned (.int .i64 370) ∧ w = w' := by
  obtain ⟨hc, rfl⟩ := List.getElem?_eq_some_iff.1 hb
  exact pay_over q c bs cost t w h hc hok hx hx2 ht0 ht ho
theorem pay_later_b (h : HasQ w q bs) (hb : bs[c]? = some b) (hok : BkOk b) (cost : Nat) (t : Int) (hx : NN cost) (hx2 : cost < 18446744073709551616) (ht0 : 0 ≤ t) (ht : t ≤ 9007199254740992) (ho : rv cost ≤ b.burst) (hl : atL b t < rv cost) :
    Calls Try.prog 19 #[.pointer (some ⟨q, 0, none⟩), .int .i64 c, .float .f64 cost, .int .i64 t] w fun e w' => e = .returned (.int .i64 371) ∧
      HasQ w' q (bs.set c (onB b t)) ∧ w.grownBy w' (some q) := by
  obtain ⟨hc, rfl⟩ := List.getElem?_eq_some_iff.1 hb
  exact pay_later q c bs cost t w h hc hok hx hx2 ht0 ht ho hl
theorem pay_ok_b (h : HasQ w q bs) (hb : bs[c]? = some b) (hok : BkOk b) (cost : Nat) (t : Int) (hx : NN cost) (hx2 : cost < 18446744073709551616) (ht0 : 0 ≤ t) (ht : t ≤ 9007199254740992) (ho : rv cost ≤ b.burst) (hl : rv cost ≤ atL b t)
    (hn0 : 0 ≤ b.times) (hn1 : b.times ≤ 1000000) :
    Calls Try.prog 19 #[.pointer (some ⟨q, 0, none⟩), .int .i64 c, .float .f64 cost, .int .i64 t] w fun e w' => e = .returned (.int .i64 0) ∧
      HasQ w' q (bs.set c (outB (onB b t) cost)) ∧ w.grownBy w' (some q) := by
  obtain ⟨hc, rfl⟩ := List.getElem?_eq_some_iff.1 hb
  exact pay_ok q c bs cost t w h hc hok hx hx2 ht0 ht ho hl hn0 hn1
theorem when_over_b (h : HasQ w q bs) (hb : bs[c]? = some b) (hok : BkOk b) (cost : Nat) (t : Int) (hx : NN cost) (hx2 : cost < 18446744073709551616) (ht0 : 0 ≤ t) (ht : t ≤ 9007199254740992) (ho : b.burst < rv cost) :
    Calls Try.prog 17 #[.pointer (some ⟨q, 0, none⟩), .int .i64 c, .float .f64 cost, .int .i64 t] w fun e w' => e = .returned (.tuple #[.int .i64 0, .int .i64 370]) ∧ w = w' := by
  obtain ⟨hc, rfl⟩ := List.getElem?_eq_some_iff.1 hb
  exact when_over q c bs cost t w h hc hok hx hx2 ht0 ht ho
theorem when_in_b (h : HasQ w q bs) (hb : bs[c]? = some b) (hok : BkOk b) (cost : Nat) (t : Int) (hx : NN cost) (hx2 : cost < 18446744073709551616) (ht0 : 0 ≤ t) (ht : t ≤ 9007199254740992) (ho : rv cost ≤ b.burst) :
    Calls Try.prog 17 #[.pointer (some ⟨q, 0, none⟩), .int .i64 c, .float .f64 cost, .int .i64 t] w fun e w' =>
      ((atL (onB b t) 9007199254740992 < rv cost ∧ e = .returned (.tuple #[.int .i64 0, .int .i64 371])) ∨ (rv cost ≤ atL (onB b t) 9007199254740992 ∧ WhenPost (onB b t) (rv cost) e)) ∧
      HasQ w' q (bs.set c (onB b t)) ∧ w.grownBy w' (some q) := by
  obtain ⟨hc, rfl⟩ := List.getElem?_eq_some_iff.1 hb
  exact when_in q c bs cost t w h hc hok hx hx2 ht0 ht ho
theorem paid_b (h : HasQ w q bs) (hb : bs[c]? = some b) :
    Calls Try.prog 21 #[.pointer (some ⟨q, 0, none⟩), .int .i64 c] w fun e w' => e = .returned (.tuple #[.float .f64 b.paid, .int .i64 b.times, .int .i64 0]) ∧ ∃ n, w' = w.drewN n := by
  obtain ⟨hc, rfl⟩ := List.getElem?_eq_some_iff.1 hb
  exact paid_ok q c bs w h hc
theorem back_b (h : HasQ w q bs) (hb : bs[c]? = some b) (hok : BkOk b) (cost : Nat) (hx : NN cost) (hx2 : cost < 18446744073709551616) :
    Calls Try.prog 23 #[.pointer (some ⟨q, 0, none⟩), .int .i64 c, .float .f64 cost] w fun e w' => e = .returned (.int .i64 0) ∧
      HasQ w' q (bs.set c (backB b cost)) ∧ w.grownBy w' (some q) := by
  obtain ⟨hc, rfl⟩ := List.getElem?_eq_some_iff.1 hb
  exact back_ok q c bs cost w h hc hok hx hx2
theorem reset_b (h : HasQ w q bs) (hb : bs[c]? = some b) (t : Int) (ht0 : 0 ≤ t) (ht : t ≤ 9007199254740992) :
    Calls Try.prog 24 #[.pointer (some ⟨q, 0, none⟩), .int .i64 c, .int .i64 t] w fun e w' => e = .returned (.int .i64 0) ∧
      HasQ w' q (bs.set c (resetB b t)) ∧ w.grownBy w' (some q) := by
  obtain ⟨hc, rfl⟩ := List.getElem?_eq_some_iff.1 hb
  exact reset_ok q c bs t w h hc ht0 ht
end

theorem repl_get (k : Nat) (b : Bk) (h : k < 64) : (List.replicate 64 b)[k]? = some b := by rw [List.getElem?_replicate, if_pos h]
theorem set_get (bs : List Bk) (c : Nat) (b : Bk) (h : bs.length = 64) (hc : c < 64) : (bs.set c b)[c]? = some b := by
  rw [List.getElem?_set_self (by omega)]
theorem set_other (bs : List Bk) (c d : Nat) (b : Bk) (h : c ≠ d) : (bs.set c b)[d]? = bs[d]? := by
  rw [List.getElem?_set_ne h]

/-- the store of a block of the call's own leaves what lay below -/
theorem below_grown {B q : Nat} {w0 w w' : World} (h : Below B w0 w) (g : w.grownBy w' (some q)) (hq : B ≤ q) (hB : B ≤ w.heap.size) : Below B w0 w' := h.grown g hB (fun k e => by simp at e; omega)

/-! ### works: a bucket is emptied, and filled -/
def k2 : Nat := 4611686018427387904
def k4 : Nat := 4616189618054758400
def k7 : Nat := 4619567317775286272
def k9 : Nat := 4621256167635550208
def k10 : Nat := 4621819117588971520
def wb0 : Bk := newB k2 k10 0
def wb1 : Bk := outB (onB wb0 0) k7
theorem wb0_ok : BkOk wb0 := newB_ok k2 k10 0 (by decide +kernel) (by decide) (by decide)
theorem nn_k7 : NN k7 := .inl (by decide)
theorem nn_k4 : NN k4 := .inl (by decide)
theorem rv_k7 : rv k7 = k7 := by decide +kernel
theorem rv_k4 : rv k4 = k4 := by decide +kernel
theorem wb0_lvl : atL wb0 0 = k10 := by decide +kernel
theorem wb1_ok : BkOk wb1 := outB_ok _ _ (onB_ok _ _ wb0_ok (by decide)) (by rw [rv_k7]; decide +kernel)
theorem wb1_lvl0 : atL wb1 0 < k4 := by decide +kernel
def wb2 : Bk := onB wb1 0
theorem wb2_ok : BkOk wb2 := onB_ok _ _ wb1_ok (by decide)
def wb3 : Bk := onB wb2 0
theorem wb3_ok : BkOk wb3 := onB_ok _ _ wb2_ok (by decide)
theorem wb3_lvl0 : atL wb3 0 < k4 := by decide +kernel
theorem wb3_lvl1 : k4 ≤ atL wb3 1 := by decide +kernel
theorem wb3_lvl3 : atL wb3 3 = k9 := by decide +kernel
theorem wb3_time : wb3.time = 0 := by decide +kernel
theorem wb3_max : k4 ≤ atL wb3 9007199254740992 := Nat.le_trans wb3_lvl1 (atL_mono wb3 wb3_ok _ _ (by decide))
theorem wb3_tells (s : Int) (h : Tells wb3 k4 s) : s = 1 := by
  obtain ⟨h1, h2, h3, h4⟩ := h
  rw [wb3_time] at h1 h4
  have a0 := wb3_lvl0
  have a1 := wb3_lvl1
  by_cases hs : s = 0
  · rw [hs] at h3; omega
  · rcases h4 with h4 | h4
    · exact absurd h4 hs
    · by_cases h5 : s = 1
      · exact h5
      · have := atL_mono wb3 wb3_ok 1 (s - 1) (by omega)
        omega
end Go.Proofs.Ytbpnhpjcepgiiaa
/- Quota: works. -/
namespace Go.Proofs.Ytbpnhpjcepgiiaa
open Go.RowKit Fl

theorem new_b (r b : Nat) (t : Int) (w : World) (hq : quotaB r b = true) (hr : r < 18446744073709551616) (hb : b < 18446744073709551616) (ht0 : 0 ≤ t) (ht : t ≤ 9007199254740992) :
    Calls Try.prog 12 #[.agg #[.float .f64 r, .float .f64 b], .int .i64 t] w fun e w' => ∃ q, w.heap.size ≤ q ∧ e = .returned (.tuple #[.pointer (some ⟨q, 0, none⟩), .int .i64 0]) ∧
      HasQ w' q (List.replicate 64 (newB r b t)) ∧ Below w.heap.size w w' := new_ok r b t w hq hr hb ht0 ht

theorem when_one (q : Nat) (bs : List Bk) (w : World) (h : HasQ w q bs) (hb : bs[0]? = some wb2) :
    Calls Try.prog 17 #[.pointer (some ⟨q, 0, none⟩), .int .i64 (0 : Nat), .float .f64 k4, .int .i64 0] w fun e w' => e = .returned (.tuple #[.int .i64 1, .int .i64 0]) ∧
      HasQ w' q (bs.set 0 wb3) ∧ w.grownBy w' (some q) := by
  refine (when_in_b h hb wb2_ok k4 0 nn_k4 (by decide) (by decide) (by decide) (by rw [rv_k4]; decide +kernel)).mono fun e w' ⟨h1, h2, h3⟩ => ⟨?_, h2, h3⟩
  rcases h1 with ⟨h1, _⟩ | ⟨_, s, hs, he⟩
  · have := wb3_max
    rw [rv_k4] at h1
    exact absurd this (by have h1' : atL wb3 9007199254740992 < k4 := h1; omega)
  · rw [rv_k4] at hs
    rw [wb3_tells s hs] at he
    exact he

theorem ord_k9 : (FloatKind.f64.format.order k9 4621256167635550208 == some .eq) = true := by decide +kernel

set_option maxRecDepth 100000 in
set_option maxHeartbeats 1000000 in
theorem works_any (w : World) : Calls Try.prog 11 #[] w fun e w' => e = .returned (.bool true) ∧ Below w.heap.size w w' := by
  have h9 := ord_k9
  go_enter Try.func11, Try.ntmps11
  go_wp2_with fail
  refine (new_b k2 k10 0 _ (by decide +kernel) (by decide) (by decide) (by decide) (by decide)).mono ?_
  rintro e w1 ⟨q, hq0, rfl, hq1, hb1⟩
  have B1 := Lib.hid hb1
  clear hb1
  go_wp2_with fail
  refine (num_any 0 _).mono ?_
  rintro e w' ⟨rfl, rfl⟩
  go_wp2_with fail
  have s1 := (hq1.lt)
  refine (pay_ok_b (c := 0) hq1 (repl_get 0 _ (by decide)) wb0_ok k7 0 nn_k7 (by decide) (by decide) (by decide) (by rw [rv_k7]; decide +kernel) (by rw [rv_k7]; decide +kernel) (by decide) (by decide)).mono ?_
  rintro e w2 ⟨rfl, hq2, hg2⟩
  have B2 := Lib.hid (below_grown B1.out hg2 hq0 (by have := B1.out.size; omega))
  have G2 := Lib.hid hg2
  clear hg2
  go_wp2_with fail
  refine (pay_later_b (c := 0) hq2 (set_get _ 0 _ (by simp) (by decide)) wb1_ok k4 0 nn_k4 (by decide) (by decide) (by decide) (by rw [rv_k4]; decide +kernel) (by rw [rv_k4]; exact wb1_lvl0)).mono ?_
  rintro e w3 ⟨rfl, hq3, hg3⟩
  have B3 := Lib.hid (below_grown B2.out hg3 hq0 (by have := B2.out.size; omega))
  clear hg3
  go_wp2_with fail
  refine (when_one q _ _ hq3 (set_get _ 0 _ (by simp) (by decide))).mono ?_
  rintro e w4 ⟨rfl, hq4, hg4⟩
  have B4 := Lib.hid (below_grown B3.out hg4 hq0 (by have := B3.out.size; omega))
  clear hg4
  go_wp2_with fail
  refine (level_b (c := 0) hq4 (set_get _ 0 _ (by simp) (by decide)) wb3_ok 3 (by decide) (by decide)).mono ?_
  rintro e w5 ⟨rfl, hq5, hg5⟩
  have B5 := Lib.hid (below_grown B4.out hg5 hq0 (by have := B4.out.size; omega))
  clear hg5
  rw [wb3_lvl3]
  go_wp2_with fail
  refine (num_any 0 _).mono ?_
  rintro e w' ⟨rfl, rfl⟩
  go_wp2_with fail
  refine (num_any 371 _).mono ?_
  rintro e w' ⟨rfl, rfl⟩
  go_wp2_with fail
  refine (num_any 0 _).mono ?_
  rintro e w' ⟨rfl, rfl⟩
  go_wp2_with fail
  refine (num_any 0 _).mono ?_
  rintro e w' ⟨rfl, rfl⟩
  go_wp2_with fail
  go_ret
  exact ⟨rfl, B5.out⟩
end Go.Proofs.Ytbpnhpjcepgiiaa
/- Quota: like; a client; what QuotaWaits comes to. -/
namespace Go.Proofs.Ytbpnhpjcepgiiaa
open Go.RowKit Fl

def placeW (x : Nat) : Int := if x % nz > inf then 18446744073709551615 else if x < nz then (x : Int) + 9223372036854775808 else 18446744073709551615 - (x : Int)

theorem nan_any (x : Nat) (w : World) :
    Calls Try.prog 92 #[.float .f64 x] w fun e w' => e = .returned (.bool (!decide (x % nz ≤ inf))) ∧ w = w' := by
  have H := Lib.hid (order_self x)
  go_enter Try.func92, Try.ntmps92
  go_wp2
  go_ret
  refine ⟨ret_bool ?_, rfl⟩
  rw [ord, H.out]
  by_cases h : x % nz ≤ inf <;> simp [h]

set_option maxRecDepth 100000 in
theorem place_any (x : Nat) (w : World) (hx : x < 18446744073709551616) :
    Calls Try.prog 80 #[.float .f64 x] w fun e w' => e = .returned (.int .u64 (placeW x)) ∧ w = w' := by
  have hfb := f64bits x
  by_cases h1 : x % nz ≤ inf
  · have H1 : Hid ((!decide (x % nz ≤ inf)) = false) := Lib.hid (by simp [h1])
    by_cases h2 : x < nz
    · have hd : decide ((9223372036854775808 : Int) ≤ (x : Int)) = false := by rw [decide_eq_false_iff_not]; unfold nz at h2; omega
      have HV : Hid ((x : Int) + 9223372036854775808 = placeW x) := Lib.hid (by unfold placeW; rw [if_neg (by omega), if_pos h2])
      have hb : (x : Int) + 9223372036854775808 < 18446744073709551616 := by unfold nz at h2; omega
      clear h1 h2 hx
      go_enter Try.func80, Try.ntmps80
      go_wp2_with (go_at_call 92; refine (nan_any x _).mono ?_; rintro e w' ⟨rfl, rfl⟩; rw [H1.out])
      go_ret
      exact ⟨ret_int HV.out, rfl⟩
    · have hd : decide ((9223372036854775808 : Int) ≤ (x : Int)) = true := by rw [decide_eq_true_eq]; unfold nz at h2; omega
      have HV : Hid ((18446744073709551615 : Int) - (x : Int) = placeW x) := Lib.hid (by unfold placeW; rw [if_neg (by omega), if_neg h2])
      have hb : (x : Int) ≤ 18446744073709551615 := by omega
      clear h1 h2 hx
      go_enter Try.func80, Try.ntmps80
      go_wp2_with (go_at_call 92; refine (nan_any x _).mono ?_; rintro e w' ⟨rfl, rfl⟩; rw [H1.out])
      go_ret
      exact ⟨ret_int HV.out, rfl⟩
  · have H1 : Hid ((!decide (x % nz ≤ inf)) = true) := Lib.hid (by simp; omega)
    have HV : Hid ((18446744073709551615 : Int) = placeW x) := Lib.hid (by unfold placeW; rw [if_pos (by omega)])
    clear h1 hx
    go_enter Try.func80, Try.ntmps80
    go_wp2_with (go_at_call 92; refine (nan_any x _).mono ?_; rintro e w' ⟨rfl, rfl⟩; rw [H1.out])
    go_ret
    exact ⟨ret_int HV.out, rfl⟩

theorem reflike_any (x y : Nat) (w : World) (hx : x < 18446744073709551616) (hy : y < 18446744073709551616) :
    Calls Try.prog 60 #[.float .f64 x, .float .f64 y] w fun e w' => e = .returned (.bool (placeW x == placeW y)) ∧ w = w' := by
  have HX := Lib.hid hx
  have HY := Lib.hid hy
  clear hx hy
  go_enter Try.func60, Try.ntmps60
  go_wp2_with fail
  refine (place_any x _ HX.out).mono ?_
  rintro e w' ⟨rfl, rfl⟩
  go_wp2_with fail
  refine (place_any y _ HY.out).mono ?_
  rintro e w' ⟨rfl, rfl⟩
  go_wp2_with fail
  go_ret
  exact ⟨rfl, rfl⟩

theorem like_any (x y : Nat) (w : World) (hx : x < 18446744073709551616) (hy : y < 18446744073709551616) :
    Calls Try.prog 25 #[.float .f64 x, .float .f64 y] w fun e w' => e = .returned (.bool (placeW x == placeW y)) ∧ w = w' := by
  have HX := Lib.hid hx
  have HY := Lib.hid hy
  clear hx hy
  go_enter Try.func25, Try.ntmps25
  go_wp2_with fail
  refine (reflike_any x y _ HX.out HY.out).mono ?_
  rintro e w' ⟨rfl, rfl⟩
  go_wp2_with fail
  go_ret
  exact ⟨rfl, rfl⟩
theorem like_same (x : Nat) (w : World) (hx : x < 18446744073709551616) :
    Calls Try.prog 25 #[.float .f64 x, .float .f64 x] w fun e w' => e = .returned (.bool true) ∧ w = w' :=
  (like_any x x w hx hx).mono fun _ _ ⟨h, h'⟩ => ⟨by rw [h, beq_self_eq_true], h'⟩

def clientB (c : Int) : Bool := decide (0 ≤ c) && decide (c < 64)
theorem client_any (c : Int) (w : World) :
    Calls Try.prog 22 #[.int .i64 c] w fun e w' => e = .returned (.bool (clientB c)) ∧ w = w' := by
  by_cases h : 0 ≤ c
  · have hd : decide (0 ≤ c) = true := by simp [h]
    clear h
    go_enter Try.func22, Try.ntmps22
    go_wp2
    go_ret
    exact ⟨ret_bool (by simp [clientB, hd]), rfl⟩
  · have hd : decide (0 ≤ c) = false := by simp; omega
    clear h
    go_enter Try.func22, Try.ntmps22
    go_wp2
    go_ret
    exact ⟨ret_bool (by simp [clientB, hd]), rfl⟩

theorem add_nz_left (a : Nat) (ha : a < inf) : Ieee.double.add nz a = Ieee.double.add 0 a := by
  unfold Ieee.Format.add
  rw [read_small a ha, read_nz, read_zero]
  simp [Ieee.Datum.sum, Ieee.signed]
theorem add_nn_left (x a : Nat) (hx : NN x) (ha : a < inf) : Ieee.double.add x a = some (fadd (rv x) a) := by
  rcases hx with h | rfl
  · rw [rv_small (Nat.le_of_lt h)]; exact add_le x a (Nat.le_of_lt h) (Nat.le_of_lt ha)
  · rw [rv_nz, add_nz_left a ha]; exact add_le 0 a (Nat.zero_le _) (Nat.le_of_lt ha)
end Go.Proofs.Ytbpnhpjcepgiiaa
