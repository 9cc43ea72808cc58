/- QuotaPlays: Set, Of, Pay, When of the quotas; the document's When. -/
import Derived.Test.YtbpnhpjcepgiiaaQy
import Derived.Test.YtbpnhpjcepgiiaaQl
namespace Go.Proofs.Ytbpnhpjcepgiiaa
open Go.RowKit Fl

/-- what When answers; what it leaves -/
def WhenIs (b : Bk) (cost : Nat) (t tt f : Int) : Prop :=
  (b.burst < rv cost ∧ tt = 0 ∧ f = 370) ∨ (rv cost ≤ b.burst ∧ atL (onB b t) 9007199254740992 < rv cost ∧ tt = 0 ∧ f = 371) ∨ (rv cost ≤ b.burst ∧ f = 0 ∧ Tells (onB b t) (rv cost) tt)
def whenB (b : Bk) (cost : Nat) (t : Int) : Bk := if b.burst < rv cost then b else onB b t
theorem Tells.same {b : Bk} {c : Nat} {s s' : Int} (hok : BkOk b) (h : Tells b c s) (h' : Tells b c s') : s = s' := by
  rcases Int.lt_trichotomy s s' with hlt | he | hlt
  · rcases h'.2.2.2 with e | e
    · have := h.1; omega
    · have := atL_mono b hok s (s' - 1) (by omega); have := h.2.2.1; omega
  · exact he
  · rcases h.2.2.2 with e | e
    · have := h'.1; omega
    · have := atL_mono b hok s' (s - 1) (by omega); have := h'.2.2.1; omega
theorem WhenIs.same {b : Bk} {cost : Nat} {t tt f tt' f' : Int} (hok : BkOk (onB b t)) (h : WhenIs b cost t tt f) (h' : WhenIs b cost t tt' f') : tt = tt' ∧ f = f' := by
  have key : ∀ s, Tells (onB b t) (rv cost) s → ¬ atL (onB b t) 9007199254740992 < rv cost := fun s hs => by
    have := atL_mono _ hok s 9007199254740992 hs.2.1; have := hs.2.2.1; omega
  rcases h with ⟨h1, h2, h3⟩ | ⟨h1, h2, h3, h4⟩ | ⟨h1, h2, h3⟩ <;> rcases h' with ⟨g1, g2, g3⟩ | ⟨g1, g2, g3, g4⟩ | ⟨g1, g2, g3⟩
  · omega
  · omega
  · omega
  · omega
  · omega
  · exact absurd h2 (key _ g3)
  · omega
  · exact absurd g2 (key _ h3)
  · exact ⟨Tells.same hok h3 g3, by omega⟩

section
variable {w : World} {q c : Nat} {bs : List Bk} {b : Bk}
theorem pay_b (h : HasQ w q bs) (hb : bs[c]? = some b) (hok : BkOk b) (cost : Nat) (t : Int) (hx : NN cost) (hx2 : cost < 18446744073709551616) (ht0 : 0 ≤ t) (ht : t ≤ 9007199254740992) (hn0 : 0 ≤ b.times) (hn1 : b.times ≤ 1000000) :
    Calls Try.prog 19 #[.pointer (some ⟨q, 0, none⟩), .int .i64 c, .float .f64 cost, .int .i64 t] w fun e w' => e = .returned (.int .i64 (payN b cost t)) ∧
      HasQ w' q (bs.set c (payB b cost t)) ∧ w.grownBy w' (some q) := by
  unfold payN payB
  by_cases ho : b.burst < rv cost
  · rw [if_pos ho, if_pos ho, set_same hb]
    exact (pay_over_b h hb hok cost t hx hx2 ht0 ht ho).mono fun e w' ⟨h1, h2⟩ => ⟨h1, h2 ▸ h, h2 ▸ World.grownBy.refl _ _⟩
  · rw [if_neg ho, if_neg ho]
    by_cases hl : atL b t < rv cost
    · rw [if_pos hl, if_pos hl]
      exact pay_later_b h hb hok cost t hx hx2 ht0 ht (by omega) hl
    · rw [if_neg hl, if_neg hl]
      exact pay_ok_b h hb hok cost t hx hx2 ht0 ht (by omega) (by omega) hn0 hn1
theorem when_b (h : HasQ w q bs) (hb : bs[c]? = some b) (hok : BkOk b) (cost : Nat) (t : Int) (hx : NN cost) (hx2 : cost < 18446744073709551616) (ht0 : 0 ≤ t) (ht : t ≤ 9007199254740992) :
    Calls Try.prog 17 #[.pointer (some ⟨q, 0, none⟩), .int .i64 c, .float .f64 cost, .int .i64 t] w fun e w' => ∃ tt f, e = .returned (.tuple #[.int .i64 tt, .int .i64 f]) ∧ WhenIs b cost t tt f ∧
      HasQ w' q (bs.set c (whenB b cost t)) ∧ w.grownBy w' (some q) := by
  unfold whenB
  by_cases ho : b.burst < rv cost
  · rw [if_pos ho, set_same hb]
    exact (when_over_b h hb hok cost t hx hx2 ht0 ht ho).mono fun e w' ⟨h1, h2⟩ => ⟨0, 370, h1, .inl ⟨ho, rfl, rfl⟩, h2 ▸ h, h2 ▸ World.grownBy.refl _ _⟩
  · rw [if_neg ho]
    refine (when_in_b h hb hok cost t hx hx2 ht0 ht (by omega)).mono fun e w' ⟨h1, h2⟩ => ?_
    rcases h1 with ⟨h3, h4⟩ | ⟨_, s, hs, h4⟩
    · exact ⟨0, 371, h4, .inr (.inl ⟨by omega, h3, rfl, rfl⟩), h2⟩
    · exact ⟨s, 0, h4, .inr (.inr ⟨by omega, rfl, hs⟩), h2⟩

set_option maxRecDepth 100000 in
set_option maxHeartbeats 400000 in
theorem ofq_b (h : HasQ w q bs) (hb : bs[c]? = some b) :
    Calls Try.prog 62 #[.pointer (some ⟨q, 0, none⟩), .int .i64 c] w fun e w' => e = .returned (.tuple #[.agg #[.float .f64 b.rate, .float .f64 b.burst], .int .i64 0]) ∧ Below w.heap.size w w' := by
  obtain ⟨hc, rfl⟩ := List.getElem?_eq_some_iff.1 hb
  have hbk := (h.below (((Below.refl _ _).alloc (Nat.le_refl _) (.cells #[.float .f64 0, .float .f64 0] 24)))).bk c hc
  have h0 := hbk.rate
  have h1 := hbk.burst
  have hsf := run_store_float
  have H := Lib.hid (h.below (((Below.refl _ _).alloc (Nat.le_refl _) (.cells #[.float .f64 0, .float .f64 0] 24))))
  clear h hb hbk
  go_enter Try.func62, Try.ntmps62
  go_wp2_with fail
  refine (of_ok q c _ (by have := H.out.1; omega) H.out.made).mono ?_
  rintro e w' ⟨rfl, rfl⟩
  go_wp2_with fail
  refine bodyPost_ret (v := .tuple #[.agg #[.float .f64 (bs[c]'hc).rate, .float .f64 (bs[c]'hc).burst], .int .i64 0]) (by simp [results, Try.results62, go_sem]) rfl ⟨rfl, ?_⟩
  exact (Below.refl _ _).alloc (Nat.le_refl _) _

set_option maxRecDepth 100000 in
set_option maxHeartbeats 400000 in
theorem setq_b (h : HasQ w q bs) (hb : bs[c]? = some b) (hok : BkOk b) (r u : Nat) (hr : r < 18446744073709551616) (hu : u < 18446744073709551616) (hq : quotaB r u = true) :
    Calls Try.prog 63 #[.pointer (some ⟨q, 0, none⟩), .int .i64 c, .agg #[.float .f64 r, .float .f64 u]] w fun e w' => e = .returned (.int .i64 0) ∧
      HasQ w' q (bs.set c (setB b r u)) ∧ w.grownBy w' (some q) := by
  obtain ⟨hc, rfl⟩ := List.getElem?_eq_some_iff.1 hb
  obtain ⟨l, hl⟩ : ∃ l, l = (bs[c]'hc).level := ⟨_, rfl⟩
  have hui : u ≤ inf := by simp only [quotaB, Bool.and_eq_true, decide_eq_true_eq] at hq; omega
  have hmin := fun (W : World) => run_min W #[22, 22] 22 l u (by rw [hl]; have := hok.level; have := hok.burst1; omega) hui
  have hsf := run_store_float
  have H := Lib.hid h
  have HL := Lib.hid hl
  have HR := Lib.hid hr
  have HU := Lib.hid hu
  have HQB := Lib.hid hq
  clear hb h hl hr hu hq hok hui
  go_enter Try.func63, Try.ntmps63
  go_wp2_with fail
  refine (check_any r u _ HR.out HU.out).mono ?_
  rintro e w1 ⟨rfl, hb1⟩
  rw [HQB.out]
  have W1 : Hid (Below w.heap.size w w1) := Lib.hid (((Below.refl _ _).alloc (Nat.le_refl _) _).trans (hb1.mono (by simp)))
  have x0 : Hid (w1.cell? ⟨w.heap.size, 0, none⟩ = some (.float .f64 r) ∧ w1.cell? ⟨w.heap.size, 1, none⟩ = some (.float .f64 u)) := by
    refine Lib.hid ⟨?_, ?_⟩ <;> (rw [hb1.cell (by simp)]; simp [go_sem])
  have HX := Lib.hid (H.out.below W1.out)
  clear hb1
  go_wp2_with fail
  refine (of_ok q c _ (by have := H.out.1; omega) HX.out.made).mono ?_
  rintro e w' ⟨rfl, rfl⟩
  obtain ⟨c0, c1⟩ := x0.out
  have hbk := HX.out.bk c hc
  have h0 := hbk.rate
  have h1 := hbk.burst
  have h2 := hbk.level
  have f0 := hbk.free (c * 6)
  have f1 := hbk.free (c * 6 + 1)
  have f2 := hbk.free (c * 6 + 2)
  rw [← HL.out] at h2
  have hne : q ≠ w.heap.size := Nat.ne_of_lt H.out.lt
  have hne2 : ¬ w.heap.size = q := fun e => hne e.symm
  clear hbk
  go_wp2_with fail
  go_region
  all_goals
    go_wp2_with fail
    go_ret
    refine ⟨rfl, ?_, ?_⟩
    · have s1 := HX.out.store c 0 (.float .f64 r) { bs[c]'hc with rate := r } hc (by omega) rfl
      have s2 := s1.store c 1 (.float .f64 u) { bs[c]'hc with rate := r, burst := u } (by rw [List.length_set]; exact hc) (by omega) (by rw [List.getElem_set_self]; rfl)
      have s3 := s2.store c 2 (.float .f64 (min l u)) { bs[c]'hc with rate := r, burst := u, level := min l u } (by rw [List.length_set, List.length_set]; exact hc) (by omega) (by rw [List.getElem_set_self]; rfl)
      simp only [List.set_set] at s3
      rw [show setB (bs[c]'hc) r u = { bs[c]'hc with rate := r, burst := u, level := min l u } by rw [HL.out]; rfl]
      exact s3.of rfl
    · exact grown_trans (grown_below W1.out _) (grown_trans (grown_trans (grown_trans (grown_setCell _ _ _ _) (grown_setCell _ _ _ _)) (grown_setCell _ _ _ _)) (grown_drewN _ 1 _))
end

section
variable {w : World} {s i : Nat} {T : TypeId} {bs : List Bk} {b : Bk}
set_option maxRecDepth 100000 in
set_option maxHeartbeats 800000 in
theorem rwhen_b (h : HasR w s T bs) (hb : bs[i]? = some b) (hok : BkOk b) (cost : Nat) (t : Int) (hx : NN cost) (ht : t ≤ 9007199254740992) :
    Calls Try.prog 67 #[.pointer (some ⟨s, i * 6, none⟩), .float .f64 cost, .int .i64 t] w fun e w' => ∃ tt f, e = .returned (.tuple #[.int .i64 tt, .int .i64 f]) ∧ WhenIs b cost t tt f ∧
      HasR w' s T (bs.set i (whenB b cost t)) ∧ w.grownBy w' (some s) := by
  unfold whenB
  have hbk := h.bk i (List.getElem?_eq_some_iff.1 hb).1
  rw [(List.getElem?_eq_some_iff.1 hb).2] at hbk
  have h1 := hbk.burst
  clear hbk
  by_cases ho : b.burst < rv cost
  · rw [if_pos ho, set_same hb]
    have hgt : (FloatKind.f64.format.order cost b.burst == some .gt) = true := by rw [order_gt _ _ hx hok.burst1]; simp [ho]
    have H := Lib.hid h
    have HO := Lib.hid ho
    clear hb hok hx ht ho h
    go_enter Try.func67, Try.ntmps67
    go_wp2_with fail
    go_ret2
    exact ⟨0, 370, rfl, .inl ⟨HO.out, rfl, rfl⟩, H.out, World.grownBy.refl _ _⟩
  · rw [if_neg ho]
    have hgt : (FloatKind.f64.format.order cost b.burst == some .gt) = false := by rw [order_gt _ _ hx hok.burst1]; simp; omega
    have HON := Lib.hid (ron_b h hb hok t ht)
    obtain ⟨b1, hb1⟩ : ∃ b1, b1 = onB b t := ⟨_, rfl⟩
    have hok1 := onB_ok _ t hok ht
    rw [← hb1] at hok1 HON ⊢
    obtain ⟨lm, hlm⟩ : ∃ lm, lm = atL b1 9007199254740992 := ⟨_, rfl⟩
    have hlt : (FloatKind.f64.format.order lm cost == some .lt) = decide (lm < rv cost) := order_lt _ _ (by rw [hlm]; have := atL_le b1 9007199254740992 hok1; have := hok1.burst1; omega) hx
    have HLM := Lib.hid hlm
    have HO : Hid (rv cost ≤ b.burst) := Lib.hid (by omega)
    have HOK1 := Lib.hid hok1
    have HB := Lib.hid hb
    have HB1 := Lib.hid hb1
    have HXN := Lib.hid hx
    clear hb hok hx ht ho h hlm hb1 hok1
    by_cases hl : lm < rv cost
    · rw [decide_eq_true hl] at hlt
      have HL := Lib.hid hl
      clear hl
      go_enter Try.func67, Try.ntmps67
      go_wp2_with fail
      refine HON.out.mono ?_
      rintro e w1 ⟨rfl, hr', hg'⟩
      have hat := hr'.bk i (by rw [List.length_set]; exact (List.getElem?_eq_some_iff.1 HB.out).1)
      rw [List.getElem_set_self] at hat
      have HAT := Lib.hid hat
      clear hat
      go_wp2_with fail
      refine (rat_any s (i * 6) b1 9007199254740992 _ HAT.out HOK1.out (by omega)).mono ?_
      rintro e w' ⟨rfl, n, rfl⟩
      rw [← HLM.out]
      go_wp2_with fail
      go_ret2
      exact ⟨0, 371, rfl, .inr (.inl ⟨HO.out, by rw [← HB1.out, ← HLM.out]; exact HL.out, rfl, rfl⟩), hr'.of rfl, grown_trans hg' (grown_drewN _ _ _)⟩
    · rw [decide_eq_false hl] at hlt
      have HL : Hid (rv cost ≤ lm) := Lib.hid (by omega)
      clear hl
      go_enter Try.func67, Try.ntmps67
      go_wp2_with fail
      refine HON.out.mono ?_
      rintro e w1 ⟨rfl, hr', hg'⟩
      have hat := hr'.bk i (by rw [List.length_set]; exact (List.getElem?_eq_some_iff.1 HB.out).1)
      rw [List.getElem_set_self] at hat
      have HAT := Lib.hid hat
      have htm := hat.time
      have HR' := Lib.hid hr'
      have HG' := Lib.hid hg'
      clear hat hr' hg'
      go_wp2_with fail
      refine (rat_any s (i * 6) b1 9007199254740992 _ HAT.out HOK1.out (by omega)).mono ?_
      rintro e w' ⟨rfl, n, rfl⟩
      rw [← HLM.out]
      go_wp2_with fail
      have HLT := Lib.hid hlt
      clear hlt
      go_loopw [8, 9] (fun lo hi wr => ∃ (l u : Int) (k : Nat), lo = .int .i64 l ∧ hi = .int .i64 u ∧ b1.time ≤ l ∧ l ≤ u ∧ 0 ≤ l ∧ u ≤ 9007199254740992 ∧ wr = w1.drewN k ∧ Hid (rv cost ≤ atL b1 u ∧ (l = b1.time ∨ atL b1 (l - 1) < rv cost)))
        (fun lo hi _ => (intOf hi - intOf lo).toNat)
      case atStart => exact ⟨_, _, _, rfl, rfl, Int.le_refl _, HOK1.out.time1, HOK1.out.time0, by omega, rfl, Lib.hid ⟨by rw [← HLM.out]; exact HL.out, .inl rfl⟩⟩
      case round =>
        obtain ⟨l, u, k, rfl, rfl, hl1, hl2, hl3, hl4, rfl, HI⟩ := hrel
        by_cases he : l = u
        · subst he
          have hd : decide (l < l) = false := by simp
          go_wp2_with fail
          go_ret2
          exact ⟨l, 0, rfl, .inr (.inr ⟨HO.out, rfl, by rw [← HB1.out]; exact ⟨hl1, hl4, HI.out.1, HI.out.2⟩⟩), HR'.out.of rfl, grown_trans HG'.out (grown_drewN _ _ _)⟩
        · have hd : decide (l < u) = true := by simp; omega
          obtain ⟨m, hm⟩ : ∃ m, m = l + (u - l) / 2 := ⟨_, rfl⟩
          obtain ⟨am, ham⟩ : ∃ am, am = atL b1 m := ⟨_, rfl⟩
          have hge : (FloatKind.f64.format.order am cost == some .gt || FloatKind.f64.format.order am cost == some .eq) = decide (rv cost ≤ am) := order_ge _ _ (by rw [ham]; have := atL_le b1 m HOK1.out; have := HOK1.out.burst1; omega) HXN.out
          have hm1 : l ≤ m := by omega
          have hm2 : m < u := by omega
          have HM := Lib.hid hm
          have HAM := Lib.hid ham
          clear hm ham he
          by_cases hp : rv cost ≤ am
          · rw [decide_eq_true hp] at hge
            have HPY := Lib.hid hp
            clear hp
            go_wp2_with fail
            rw [← HM.out]
            refine (rat_any s (i * 6) b1 m _ (by exact BkAt.of HAT.out rfl) HOK1.out (by omega)).mono ?_
            rintro e w' ⟨rfl, n', rfl⟩
            rw [← HAM.out]
            go_wp2_with fail
            go_roundw
            case rel => exact ⟨l, m, _, rfl, rfl, hl1, hm1, hl3, by omega, rfl, Lib.hid ⟨by rw [← HAM.out]; exact HPY.out, HI.out.2⟩⟩
            case measure => simp [intOf]; omega
          · rw [decide_eq_false hp] at hge
            have HPY : Hid (am < rv cost) := Lib.hid (by omega)
            clear hp
            go_wp2_with fail
            rw [← HM.out]
            refine (rat_any s (i * 6) b1 m _ (by exact BkAt.of HAT.out rfl) HOK1.out (by omega)).mono ?_
            rintro e w' ⟨rfl, n', rfl⟩
            rw [← HAM.out]
            go_wp2_with fail
            go_roundw
            case rel => exact ⟨m + 1, u, _, rfl, rfl, by omega, by omega, by omega, hl4, rfl, Lib.hid ⟨HI.out.1, .inr (by rw [show m + 1 - 1 = m by omega, ← HAM.out]; exact HPY.out)⟩⟩
            case measure => simp [intOf]; omega
end
end Go.Proofs.Ytbpnhpjcepgiiaa
