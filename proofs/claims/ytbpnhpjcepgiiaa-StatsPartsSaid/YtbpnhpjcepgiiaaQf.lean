/- Quota: When. -/
import Derived.Test.YtbpnhpjcepgiiaaQe
import Derived.Deep.LoopGhost
namespace Go.Proofs.Ytbpnhpjcepgiiaa
open Go.RowKit Fl

theorem order_ge (x y : Nat) (hx : x ≤ inf) (hy : NN y) : (FloatKind.f64.format.order x y == some .gt || FloatKind.f64.format.order x y == some .eq) = decide (rv y ≤ x) := by
  have hy' : y ≤ inf ∨ y = nz := hy.imp Nat.le_of_lt id
  rw [ord, order_nn x y (.inl hx) hy', rv_small hx]
  rcases Nat.lt_trichotomy x (rv y) with h | h | h
  · rw [Nat.compare_eq_lt.2 h]; simp; omega
  · rw [Nat.compare_eq_eq.2 h]; simp; omega
  · rw [Nat.compare_eq_gt.2 h]; simp; omega

/-- what When tells where it tells a time: the first at which it can be paid -/
def Tells (b : Bk) (c : Nat) (s : Int) : Prop := b.time ≤ s ∧ s ≤ 9007199254740992 ∧ c ≤ atL b s ∧ (s = b.time ∨ atL b (s - 1) < c)
def WhenPost (b : Bk) (c : Nat) (e : Ending) : Prop := ∃ s : Int, Tells b c s ∧ e = .returned (.tuple #[.int .i64 s, .int .i64 0])

set_option maxRecDepth 100000 in
set_option maxHeartbeats 400000 in
theorem when_over (q c : Nat) (bs : List Bk) (cost : Nat) (t : Int) (w : World) (h : HasQ w q bs) (hc : c < bs.length) (hok : BkOk (bs[c]'hc)) (hx : NN cost) (hx2 : cost < 18446744073709551616) (ht0 : 0 ≤ t) (ht : t ≤ 9007199254740992)
    (ho : (bs[c]'hc).burst < rv cost) :
    Calls Try.prog 17 #[.pointer (some ⟨q, 0, none⟩), .int .i64 c, .float .f64 cost, .int .i64 t] w fun e w' => e = .returned (.tuple #[.int .i64 0, .int .i64 370]) ∧ w = w' := by
  have HB : Hid (timeB t = true) := Lib.hid (by simp [timeB, ht0, ht])
  have HP : Hid (nnW cost = true) := Lib.hid ((nnW_iff cost).2 hx)
  have hgt : (FloatKind.f64.format.order cost (bs[c]'hc).burst == some .gt) = true := by rw [order_gt _ _ hx hok.burst1]; simp [ho]
  have hcell := (h.bk c hc).burst
  have H := Lib.hid h
  have HC := Lib.hid hc
  have HX := Lib.hid hx2
  clear h hok ht0 ht hx hx2 ho
  go_enter Try.func17, Try.ntmps17
  go_wp2_with fail
  go_step3
  go_wp2_with fail
  refine (price_any cost _ HX.out).mono ?_
  rintro e w' ⟨rfl, rfl⟩
  rw [HP.out]
  go_wp2_with fail
  refine (clock_any t _).mono ?_
  rintro e w' ⟨rfl, rfl⟩
  rw [HB.out]
  go_wp2_with fail
  refine (of_ok q c _ (by have := H.out.1; have := HC.out; omega) H.out.made).mono ?_
  rintro e w' ⟨rfl, rfl⟩
  go_wp2_with fail
  try rw [Exit.noGoto_ret]
  go_ret2
  exact ⟨rfl, rfl⟩

set_option maxRecDepth 100000 in
set_option maxHeartbeats 800000 in
theorem when_in (q c : Nat) (bs : List Bk) (cost : Nat) (t : Int) (w : World) (h : HasQ w q bs) (hc : c < bs.length) (hok : BkOk (bs[c]'hc)) (hx : NN cost) (hx2 : cost < 18446744073709551616) (ht0 : 0 ≤ t) (ht : t ≤ 9007199254740992)
    (ho : rv cost ≤ (bs[c]'hc).burst) :
    Calls Try.prog 17 #[.pointer (some ⟨q, 0, none⟩), .int .i64 c, .float .f64 cost, .int .i64 t] w fun e w' =>
      ((atL (onB (bs[c]'hc) t) 9007199254740992 < rv cost ∧ e = .returned (.tuple #[.int .i64 0, .int .i64 371])) ∨ (rv cost ≤ atL (onB (bs[c]'hc) t) 9007199254740992 ∧ WhenPost (onB (bs[c]'hc) t) (rv cost) e)) ∧
      HasQ w' q (bs.set c (onB (bs[c]'hc) t)) ∧ w.grownBy w' (some q) := by
  have HB : Hid (timeB t = true) := Lib.hid (by simp [timeB, ht0, ht])
  have HP : Hid (nnW cost = true) := Lib.hid ((nnW_iff cost).2 hx)
  have hgt : (FloatKind.f64.format.order cost (bs[c]'hc).burst == some .gt) = false := by rw [order_gt _ _ hx hok.burst1]; simp; omega
  obtain ⟨b1, hb1⟩ : ∃ b1, b1 = onB (bs[c]'hc) t := ⟨_, rfl⟩
  have hok1 := onB_ok _ t hok ht
  rw [← hb1] at hok1 ⊢
  have hcell := (h.bk c hc).burst
  have H := Lib.hid h
  have HC := Lib.hid hc
  have HX := Lib.hid hx2
  have HXN := Lib.hid hx
  have HOK := Lib.hid hok
  have HOK1 := Lib.hid hok1
  have HT := Lib.hid ht
  have HB1 := Lib.hid hb1
  obtain ⟨lm, hlm⟩ : ∃ lm, lm = atL b1 9007199254740992 := ⟨_, rfl⟩
  have hlt : (FloatKind.f64.format.order lm cost == some .lt) = decide (lm < rv cost) := order_lt _ _ (by rw [hlm]; have := atL_le b1 9007199254740992 hok1; have := hok1.burst1; omega) hx
  rw [← hlm]
  have HLM := Lib.hid hlm
  clear h hok ht0 ht hx hx2 ho hb1 hok1 hlm
  by_cases hl : lm < rv cost
  · rw [decide_eq_true hl] at hlt
    have HL := Lib.hid hl
    clear hl
    go_enter Try.func17, Try.ntmps17
    go_wp2_with fail
    go_step3
    go_wp2_with fail
    refine (price_any cost _ HX.out).mono ?_
    rintro e w' ⟨rfl, rfl⟩
    rw [HP.out]
    go_wp2_with fail
    refine (clock_any t _).mono ?_
    rintro e w' ⟨rfl, rfl⟩
    rw [HB.out]
    go_wp2_with fail
    refine (of_ok q c _ (by have := H.out.1; have := HC.out; omega) H.out.made).mono ?_
    rintro e w' ⟨rfl, rfl⟩
    go_wp2_with fail
    refine (on_q q c bs t _ H.out HC.out HOK.out HT.out).mono ?_
    rintro e w1 ⟨rfl, hq1, hg1⟩
    rw [← HB1.out] at hq1
    have hat := hq1.bk c (by rw [List.length_set]; exact HC.out)
    rw [List.getElem_set_self] at hat
    go_wp2_with fail
    refine (at_any q (c * 6) b1 9007199254740992 _ hat HOK1.out (by omega)).mono ?_
    rintro e w' ⟨rfl, n, rfl⟩
    rw [← HLM.out]
    go_wp2_with fail
    try rw [Exit.noGoto_ret]
    go_ret2
    exact ⟨.inl ⟨HL.out, rfl⟩, hq1.of rfl, grown_trans hg1 (grown_drewN _ _ _)⟩
  · rw [decide_eq_false hl] at hlt
    have HL : Hid (rv cost ≤ lm) := Lib.hid (by omega)
    clear hl
    go_enter Try.func17, Try.ntmps17
    go_wp2_with fail
    go_step3
    go_wp2_with fail
    refine (price_any cost _ HX.out).mono ?_
    rintro e w' ⟨rfl, rfl⟩
    rw [HP.out]
    go_wp2_with fail
    refine (clock_any t _).mono ?_
    rintro e w' ⟨rfl, rfl⟩
    rw [HB.out]
    go_wp2_with fail
    refine (of_ok q c _ (by have := H.out.1; have := HC.out; omega) H.out.made).mono ?_
    rintro e w' ⟨rfl, rfl⟩
    go_wp2_with fail
    refine (on_q q c bs t _ H.out HC.out HOK.out HT.out).mono ?_
    rintro e w1 ⟨rfl, hq1, hg1⟩
    rw [← HB1.out] at hq1
    have hat := hq1.bk c (by rw [List.length_set]; exact HC.out)
    rw [List.getElem_set_self] at hat
    have HAT := Lib.hid hat
    have htm := hat.time
    clear hat
    go_wp2_with fail
    refine (at_any q (c * 6) b1 9007199254740992 _ HAT.out HOK1.out (by omega)).mono ?_
    rintro e w' ⟨rfl, n, rfl⟩
    rw [← HLM.out]
    go_wp2_with fail
    have HLT := Lib.hid hlt
    clear hlt
    go_step3
    go_wp2_with fail
    go_loopw [12, 13] (fun lo hi wr => ∃ (l u : Int) (k : Nat), lo = .int .i64 l ∧ hi = .int .i64 u ∧ b1.time ≤ l ∧ l ≤ u ∧ 0 ≤ l ∧ u ≤ 9007199254740992 ∧ wr = w1.drewN k ∧ Hid (rv cost ≤ atL b1 u ∧ (l = b1.time ∨ atL b1 (l - 1) < rv cost)))
      (fun lo hi _ => (intOf hi - intOf lo).toNat)
    case atStart => exact ⟨_, _, _, rfl, rfl, Int.le_refl _, HOK1.out.time1, HOK1.out.time0, by omega, rfl, Lib.hid ⟨by rw [← HLM.out]; exact HL.out, .inl rfl⟩⟩
    case round =>
      obtain ⟨l, u, k, rfl, rfl, hl1, hl2, hl3, hl4, rfl, HI⟩ := hrel
      by_cases he : l = u
      · subst he
        have hd : (l == l) = true := by simp
        go_wp2_with fail
        rw [Exit.noGoto_ret]
        go_ret2
        exact ⟨.inr ⟨HL.out, l, ⟨hl1, hl4, HI.out.1, HI.out.2⟩, rfl⟩, hq1.of rfl, grown_trans hg1 (grown_drewN _ _ _)⟩
      · have hd : (l == u) = false := by simp [he]
        obtain ⟨m, hm⟩ : ∃ m, m = (u - l) / 2 + l := ⟨_, rfl⟩
        obtain ⟨am, ham⟩ : ∃ am, am = atL b1 m := ⟨_, rfl⟩
        have hge : (FloatKind.f64.format.order am cost == some .gt || FloatKind.f64.format.order am cost == some .eq) = decide (rv cost ≤ am) := order_ge _ _ (by rw [ham]; have := atL_le b1 m HOK1.out; have := HOK1.out.burst1; omega) HXN.out
        have hm1 : l ≤ m := by omega
        have hm2 : m < u := by omega
        have HM := Lib.hid hm
        have HAM := Lib.hid ham
        clear hm ham he
        by_cases hp : rv cost ≤ am
        · rw [decide_eq_true hp] at hge
          have HPY := Lib.hid hp
          clear hp
          go_wp2_with fail
          rw [← HM.out]
          refine (at_any q (c * 6) b1 m _ (by exact BkAt.of HAT.out rfl) HOK1.out (by omega)).mono ?_
          rintro e w' ⟨rfl, n', rfl⟩
          rw [← HAM.out]
          go_wp2_with fail
          go_roundw
          case rel => exact ⟨l, m, _, rfl, rfl, hl1, hm1, hl3, by omega, rfl, Lib.hid ⟨by rw [← HAM.out]; exact HPY.out, HI.out.2⟩⟩
          case measure => simp [intOf]; omega
        · rw [decide_eq_false hp] at hge
          have HPY : Hid (am < rv cost) := Lib.hid (by omega)
          clear hp
          go_wp2_with fail
          rw [← HM.out]
          refine (at_any q (c * 6) b1 m _ (by exact BkAt.of HAT.out rfl) HOK1.out (by omega)).mono ?_
          rintro e w' ⟨rfl, n', rfl⟩
          rw [← HAM.out]
          go_wp2_with fail
          go_roundw
          case rel => exact ⟨m + 1, u, _, rfl, rfl, by omega, by omega, by omega, hl4, rfl, Lib.hid ⟨HI.out.1, .inr (by rw [show m + 1 - 1 = m by omega, ← HAM.out]; exact HPY.out)⟩⟩
          case measure => simp [intOf]; omega
end Go.Proofs.Ytbpnhpjcepgiiaa
