/- QuotaPlays: the document's Set, Pay, Back, When. -/
import Derived.Test.YtbpnhpjcepgiiaaQw
import Derived.Test.YtbpnhpjcepgiiaaQh
import Derived.Deep.LoopGhost
namespace Go.Proofs.Ytbpnhpjcepgiiaa
open Go.RowKit Fl

/-- another quota -/
def setB (b : Bk) (r u : Nat) : Bk := { b with rate := r, burst := u, level := min b.level u }
theorem setB_ok (b : Bk) (r u : Nat) (h : BkOk b) (hq : quotaB r u = true) : BkOk (setB b r u) := by
  simp only [quotaB, Bool.and_eq_true, decide_eq_true_eq] at hq
  exact ⟨(nnW_iff r).1 hq.1, hq.2.1, hq.2.2, Nat.min_le_right _ _, h.time0, h.time1, h.paid⟩
/-- what Pay answers; what it leaves -/
def payN (b : Bk) (cost : Nat) (t : Int) : Int := if b.burst < rv cost then 370 else if atL b t < rv cost then 371 else 0
def payB (b : Bk) (cost : Nat) (t : Int) : Bk := if b.burst < rv cost then b else if atL b t < rv cost then onB b t else outB (onB b t) cost
theorem set_same {bs : List Bk} {i : Nat} {b : Bk} (h : bs[i]? = some b) : bs.set i b = bs := List.ext_getElem? fun j => by
  obtain ⟨hi, _⟩ := List.getElem?_eq_some_iff.1 h
  by_cases hij : i = j
  · subst hij; rw [List.getElem?_set_self hi, h]
  · rw [List.getElem?_set_ne hij]

section
variable {w : World} {s i : Nat} {T : TypeId} {bs : List Bk} {b : Bk}
set_option maxRecDepth 100000 in
set_option maxHeartbeats 400000 in
theorem rset_b (h : HasR w s T bs) (hb : bs[i]? = some b) (hok : BkOk b) (r u : Nat) (hu : u < inf) :
    Calls Try.prog 64 #[.pointer (some ⟨s, i * 6, none⟩), .agg #[.float .f64 r, .float .f64 u]] w fun e w' => e = .returned (.tuple #[]) ∧
      HasR w' s T (bs.set i (setB b r u)) ∧ w.grownBy w' (some s) := by
  obtain ⟨hi, rfl⟩ := List.getElem?_eq_some_iff.1 hb
  have hbk := h.bk i hi
  have hlt := h.lt
  obtain ⟨l, hl⟩ : ∃ l, l = (bs[i]'hi).level := ⟨_, rfl⟩
  have h0 := hbk.rate
  have h1 := hbk.burst
  have h2 := hbk.level
  have f0 := hbk.free (i * 6)
  have f1 := hbk.free (i * 6 + 1)
  have f2 := hbk.free (i * 6 + 2)
  rw [← hl] at h2
  have hmin := fun (W : World) => run_min W #[22, 22] 22 l u (by rw [hl]; have := hok.level; have := hok.burst1; omega) (Nat.le_of_lt hu)
  have hsf := run_store_float
  have H := Lib.hid h
  have HL := Lib.hid hl
  clear hb hbk hl hok h hu
  go_enter Try.func64, Try.ntmps64
  go_wp2_with fail
  go_region
  all_goals
    go_wp2_with fail
    go_end0
    refine ⟨rfl, ?_, ?_⟩
    · have s1 := H.out.store i 0 (.float .f64 r) { bs[i]'hi with rate := r } hi (by omega) rfl
      have s2 := s1.store i 1 (.float .f64 u) { bs[i]'hi with rate := r, burst := u } (by rw [List.length_set]; exact hi) (by omega) (by rw [List.getElem_set_self]; rfl)
      have s3 := s2.store i 2 (.float .f64 (min l u)) { bs[i]'hi with rate := r, burst := u, level := min l u } (by rw [List.length_set, List.length_set]; exact hi) (by omega) (by rw [List.getElem_set_self]; rfl)
      simp only [List.set_set] at s3
      rw [show setB (bs[i]'hi) r u = { bs[i]'hi with rate := r, burst := u, level := min l u } by rw [HL.out]; rfl]
      exact s3.of (Below.heap_alloc _ _ _ s3.lt)
    · exact grown_trans (grown_trans (grown_trans (grown_setCell _ _ _ _) (grown_setCell _ _ _ _)) (grown_setCell _ _ _ _)) (grown_below (((Below.refl _ _).alloc (Nat.le_refl _) _).drew) _)

set_option maxRecDepth 100000 in
set_option maxHeartbeats 400000 in
theorem rback_b (h : HasR w s T bs) (hb : bs[i]? = some b) (hok : BkOk b) (cost : Nat) (hx : NN cost) :
    Calls Try.prog 68 #[.pointer (some ⟨s, i * 6, none⟩), .float .f64 cost] w fun e w' => e = .returned (.tuple #[]) ∧
      HasR w' s T (bs.set i (backB b cost)) ∧ w.grownBy w' (some s) := by
  obtain ⟨hi, rfl⟩ := List.getElem?_eq_some_iff.1 hb
  have hbk := h.bk i hi
  have hadd := add_nn (bs[i]'hi).level cost (by have := hok.level; have := hok.burst1; omega) (hx.imp Nat.le_of_lt id)
  obtain ⟨l, hll⟩ : ∃ l, l = (bs[i]'hi).level := ⟨_, rfl⟩
  obtain ⟨u, huu⟩ : ∃ u, u = (bs[i]'hi).burst := ⟨_, rfl⟩
  obtain ⟨x, hss⟩ : ∃ x, x = fadd l (rv cost) := ⟨_, rfl⟩
  rw [← hll, ← hss] at hadd
  have h1 := hbk.burst
  have h2 := hbk.level
  have f2 := hbk.free (i * 6 + 2)
  rw [← hll] at h2
  rw [← huu] at h1
  have hra := fun (T : TypeId) (W : World) => run_float_arith (P := Try.prog) W .add T .f64 l cost x hadd
  obtain ⟨m, hm⟩ : ∃ m, m = min u x := ⟨_, rfl⟩
  have hmin := fun (W : World) => run_min W #[22, 22] 22 u x (by rw [huu]; exact Nat.le_of_lt hok.burst1) (by rw [hss]; exact fadd_le _ _)
  rw [← hm] at hmin
  have hsf := run_store_float
  have H := Lib.hid h
  have HM : Hid (m = (backB (bs[i]'hi) cost).level) := Lib.hid (by rw [hm, hss, hll, huu]; rfl)
  clear h hb hbk hadd hll huu hss hm hok hx
  go_enter Try.func68, Try.ntmps68
  go_wp2_with fail
  go_region
  all_goals
    go_wp2_with fail
    go_end0
    refine ⟨rfl, ?_, ?_⟩
    · have s1 := H.out.store i 2 (.float .f64 m) (backB (bs[i]'hi) cost) hi (by omega) (by rw [HM.out]; rfl)
      exact s1.of rfl
    · exact grown_trans (grown_setCell _ _ _ _) (grown_drewN _ 1 _)

set_option maxRecDepth 100000 in
set_option maxHeartbeats 400000 in
theorem rpay_b (h : HasR w s T bs) (hb : bs[i]? = some b) (hok : BkOk b) (cost : Nat) (t : Int) (hx : NN cost) (ht : t ≤ 9007199254740992) (hn0 : 0 ≤ b.times) (hn1 : b.times ≤ 1000000) :
    Calls Try.prog 66 #[.pointer (some ⟨s, i * 6, none⟩), .float .f64 cost, .int .i64 t] w fun e w' => e = .returned (.int .i64 (payN b cost t)) ∧
      HasR w' s T (bs.set i (payB b cost t)) ∧ w.grownBy w' (some s) := by
  unfold payN payB
  by_cases ho : b.burst < rv cost
  · rw [if_pos ho, if_pos ho, set_same hb]
    obtain ⟨hi, rfl⟩ := List.getElem?_eq_some_iff.1 hb
    have hbk := h.bk i hi
    have h1 := hbk.burst
    have hgt : (FloatKind.f64.format.order cost (bs[i]'hi).burst == some .gt) = true := by rw [order_gt _ _ hx hok.burst1]; simp [ho]
    have H := Lib.hid h
    clear hb hbk hok hx ht hn0 hn1 ho h
    go_enter Try.func66, Try.ntmps66
    go_wp2_with fail
    go_ret
    exact ⟨rfl, H.out, World.grownBy.refl _ _⟩
  · rw [if_neg ho, if_neg ho]
    have hlb := atL_le b t hok
    by_cases hl : atL b t < rv cost
    · rw [if_pos hl, if_pos hl]
      have hbk := h.bk i (List.getElem?_eq_some_iff.1 hb).1
      rw [(List.getElem?_eq_some_iff.1 hb).2] at hbk
      have h1 := hbk.burst
      have hgt : (FloatKind.f64.format.order cost b.burst == some .gt) = false := by rw [order_gt _ _ hx hok.burst1]; simp; omega
      have hlt : (FloatKind.f64.format.order (atL b t) cost == some .lt) = true := by rw [order_lt _ _ (by have := hok.burst1; omega) hx]; simp [hl]
      have HON := Lib.hid (ron_b h hb hok t ht)
      obtain ⟨lv, hlv⟩ : ∃ lv, lv = atL b t := ⟨_, rfl⟩
      rw [← hlv] at hlt
      have HLV := Lib.hid hlv
      have HB := Lib.hid hb
      have H := Lib.hid h
      clear hb hbk hok hx ht hn0 hn1 ho h hl hlb hlv
      go_enter Try.func66, Try.ntmps66
      go_wp2_with fail
      refine HON.out.mono ?_
      rintro e w' ⟨rfl, hr', hg'⟩
      have hbk := hr'.bk i (by rw [List.length_set]; exact (List.getElem?_eq_some_iff.1 HB.out).1)
      rw [List.getElem_set_self] at hbk
      have h2 := hbk.level
      rw [show (onB b t).level = lv from HLV.out.symm] at h2
      clear hbk
      go_wp2_with fail
      go_ret
      exact ⟨rfl, hr', hg'⟩
    · rw [if_neg hl, if_neg hl]
      have hbk := h.bk i (List.getElem?_eq_some_iff.1 hb).1
      rw [(List.getElem?_eq_some_iff.1 hb).2] at hbk
      have h1 := hbk.burst
      have hgt : (FloatKind.f64.format.order cost b.burst == some .gt) = false := by rw [order_gt _ _ hx hok.burst1]; simp; omega
      have hlt : (FloatKind.f64.format.order (atL b t) cost == some .lt) = false := by rw [order_lt _ _ (by have := hok.burst1; omega) hx]; simp; omega
      have hsub := sub_nn (atL b t) cost (by have := hok.burst1; omega) (by
        rcases hx with h1 | h1
        · left; rw [rv_small (Nat.le_of_lt h1)] at hl; omega
        · exact .inr h1)
      have hadd := add_nn b.paid cost hok.paid (hx.imp Nat.le_of_lt id)
      have HON := Lib.hid (ron_b h hb hok t ht)
      obtain ⟨lv, hlv⟩ : ∃ lv, lv = atL b t := ⟨_, rfl⟩
      obtain ⟨p, hpp⟩ : ∃ p, p = b.paid := ⟨_, rfl⟩
      obtain ⟨n, hnn⟩ : ∃ n, n = b.times := ⟨_, rfl⟩
      obtain ⟨l2, hl2⟩ : ∃ l2, l2 = fsub lv (rv cost) := ⟨_, rfl⟩
      obtain ⟨p2, hp2⟩ : ∃ p2, p2 = fadd p (rv cost) := ⟨_, rfl⟩
      rw [← hlv] at hlt
      rw [← hlv, ← hl2] at hsub
      rw [← hpp, ← hp2] at hadd
      rw [← hnn] at hn0 hn1
      have hrs := fun (T : TypeId) (W : World) => run_float_arith (P := Try.prog) W .sub T .f64 lv cost l2 hsub
      have hra := fun (T : TypeId) (W : World) => run_float_arith (P := Try.prog) W .add T .f64 p cost p2 hadd
      have hsf := run_store_float
      have HLV := Lib.hid hlv
      have HPP := Lib.hid hpp
      have HN := Lib.hid hnn
      have HL2 := Lib.hid hl2
      have HP2 := Lib.hid hp2
      have HB := Lib.hid hb
      have H := Lib.hid h
      clear hb hbk hok hx ht ho h hl hlb hlv hpp hnn hl2 hp2 hsub hadd
      go_enter Try.func66, Try.ntmps66
      go_wp2_with fail
      refine HON.out.mono ?_
      rintro e w' ⟨rfl, hr', hg'⟩
      have hi2 : i < (bs.set i (onB b t)).length := by rw [List.length_set]; exact (List.getElem?_eq_some_iff.1 HB.out).1
      have hbk := hr'.bk i hi2
      rw [List.getElem_set_self] at hbk
      have c2 := hbk.level
      have c4 := hbk.paid
      have c5 := hbk.times
      have f2 := hbk.free (i * 6 + 2)
      have f4 := hbk.free (i * 6 + 4)
      have f5 := hbk.free (i * 6 + 5)
      rw [show (onB b t).level = lv from HLV.out.symm] at c2
      rw [show (onB b t).paid = p from HPP.out.symm] at c4
      rw [show (onB b t).times = n from HN.out.symm] at c5
      clear hbk
      have HI2 := Lib.hid hi2
      clear hi2
      go_wp2_with fail
      go_ret
      refine ⟨rfl, ?_, ?_⟩
      · have s1 := hr'.store i 2 (.float .f64 l2) { onB b t with level := l2 } HI2.out (by omega) (by rw [List.getElem_set_self]; rfl)
        have s2 := s1.store i 4 (.float .f64 p2) { onB b t with level := l2, paid := p2 } (by rw [List.length_set]; exact HI2.out) (by omega) (by rw [List.getElem_set_self]; rfl)
        have s3 := s2.store i 5 (.int .i64 (n + 1)) { onB b t with level := l2, paid := p2, times := n + 1 } (by rw [List.length_set, List.length_set]; exact HI2.out) (by omega) (by rw [List.getElem_set_self]; rfl)
        simp only [List.set_set] at s3
        have e : ({ onB b t with level := l2, paid := p2, times := n + 1 } : Bk) = outB (onB b t) cost := by
          rw [HL2.out, HP2.out, HLV.out, HPP.out, HN.out]; rfl
        rw [← e]
        exact s3
      · exact grown_trans hg' (grown_trans (grown_trans (grown_setCell _ _ _ _) (grown_setCell _ _ _ _)) (grown_setCell _ _ _ _))
end
end Go.Proofs.Ytbpnhpjcepgiiaa
