/- QuotaHolds: the plain law: what a bucket holds and what was paid, in small whole numbers. -/
import Derived.Test.YtbpnhpjcepgiiaaQq
namespace Go.Proofs.Ytbpnhpjcepgiiaa
open Go.RowKit Fl

theorem on_time (b : Bk) (t : Int) : t ≤ (onB b t).time := by simp only [onB]; omega
theorem atL_on_self (b : Bk) (t : Int) : atL (onB b t) t = atL b t := by
  have h := on_time b t
  rw [show atL (onB b t) t = (onB b t).level by unfold atL; rw [if_pos h]]
  rfl
theorem onB_old (b : Bk) (t : Int) (h : t ≤ b.time) : onB b t = b := by
  unfold onB atL
  rw [if_pos h, Int.max_eq_left h]
theorem onB_onB (b : Bk) (t : Int) : onB (onB b t) t = onB b t := onB_old _ _ (on_time b t)
theorem onB_outB (b : Bk) (t : Int) (c : Nat) : onB (outB (onB b t) c) t = outB (onB b t) c := onB_old _ _ (on_time b t)

/-- a bucket of small whole numbers: what was paid and what is left -/
def Sm (b : Bk) : Prop := ∃ R B L P T : Nat, R < 1048576 ∧ B < 1048576 ∧ T < 1048576 ∧ rv b.rate = i2r R ∧ b.burst = i2r B ∧ b.level = i2r L ∧ b.paid = i2r P ∧ b.time = (T : Int) ∧ L ≤ B ∧ L + P ≤ B + R * T

theorem small_mul (R D : Nat) (hR : R < 1048576) (hD : D < 1048576) : R * D < 1099511627776 := by
  have h1 : R * D ≤ R * 1048576 := Nat.mul_le_mul_left R (Nat.le_of_lt hD)
  omega
theorem Sm.on {b : Bk} (h : Sm b) (t : Int) (ht : max b.time t < 1048576) : Sm (onB b t) := by
  obtain ⟨R, B, L, P, T, hR, hB, hT, h1, h2, h3, h4, h5, h6, h7⟩ := h
  by_cases hle : t ≤ b.time
  · rw [onB_old b t hle]
    exact ⟨R, B, L, P, T, hR, hB, hT, h1, h2, h3, h4, h5, h6, h7⟩
  · obtain ⟨D, hD⟩ : ∃ D : Nat, (D : Int) = t - b.time := ⟨(t - b.time).toNat, by omega⟩
    have hD' : (t - b.time).toNat = D := by omega
    have hDl : D < 1048576 := by omega
    have hTD : T + D < 1048576 := by omega
    have hm := small_mul R D hR hDl
    have hT2 := small_mul R T hR hT
    have e : atL b t = i2r (min B (L + R * D)) := by
      unfold atL
      rw [if_neg hle, hD', h1, h2, h3, i2r_mul R D (Nat.lt_trans hR (by decide)) (Nat.lt_trans hDl (by decide)) (Nat.lt_trans hm (by decide)),
        i2r_add L (R * D) (Nat.lt_of_lt_of_le (Nat.add_lt_add (Nat.lt_of_le_of_lt h6 hB) hm) (by decide))]
      rcases Nat.le_total B (L + R * D) with hb | hb
      · rw [Nat.min_eq_left hb, Nat.min_eq_left (i2r_mono hb)]
      · rw [Nat.min_eq_right hb, Nat.min_eq_right (i2r_mono hb)]
    refine ⟨R, B, min B (L + R * D), P, T + D, hR, hB, hTD, h1, h2, e, h4, ?_, Nat.min_le_left _ _, ?_⟩
    · show max b.time t = _
      omega
    · rw [Nat.mul_add]
      omega
theorem Sm.out {b : Bk} (h : Sm b) (c : Nat) (hc : Whole c) (hl : rv c ≤ b.level) : Sm (outB b c) := by
  obtain ⟨R, B, L, P, T, hR, hB, hT, h1, h2, h3, h4, h5, h6, h7⟩ := h
  obtain ⟨C, hC, hw⟩ := hc
  have hT2 := small_mul R T hR hT
  rw [hw, h3, i2r_le_iff C L (Nat.lt_trans hC (by decide)) (Nat.lt_of_le_of_lt h6 (Nat.lt_trans hB (by decide)))] at hl
  refine ⟨R, B, L - C, P + C, T, hR, hB, hT, h1, h2, ?_, ?_, h5, by omega, by omega⟩
  · show fsub b.level (rv c) = _
    rw [h3, hw, i2r_sub L C (Nat.lt_of_le_of_lt h6 (Nat.lt_trans hB (by decide))) hl]
  · show fadd b.paid (rv c) = _
    have : P + C < 9007199254740992 := by omega
    rw [h4, hw, i2r_add P C this]
theorem Sm.le {b : Bk} (h : Sm b) : b.paid ≤ fadd b.burst (fmul (rv b.rate) (i2r b.time.toNat)) := by
  obtain ⟨R, B, L, P, T, hR, hB, hT, h1, h2, h3, h4, h5, h6, h7⟩ := h
  have hT2 := small_mul R T hR hT
  have h8 : B + R * T < 9007199254740992 := by omega
  rw [h1, h2, h4, h5, Int.toNat_natCast, i2r_mul R T (Nat.lt_trans hR (by decide)) (Nat.lt_trans hT (by decide)) (Nat.lt_trans hT2 (by decide)), i2r_add B (R * T) h8]
  exact i2r_mono (by omega)
theorem Sm.new (r u : Nat) (hr : Whole r) (hu : Whole u) (h1 : u < inf) : Sm (newB r u 0) := by
  obtain ⟨R, hR, h2⟩ := hr
  obtain ⟨B, hB, h3⟩ := hu
  rw [rv_small (Nat.le_of_lt h1)] at h3
  exact ⟨R, B, B, 0, 0, hR, hB, by decide, h2, h3, h3, rfl, rfl, Nat.le_refl _, by omega⟩

/-- what stands at the head of each round -/
structure HI (r u : Nat) (b : Bk) (now : Int) (small : Bool) (k : Nat) : Prop where
  rate : b.rate = r
  burst : b.burst = u
  ok : BkOk b
  time : b.time = now
  times0 : 0 ≤ b.times
  times1 : b.times ≤ k
  small : small = true → Sm b

section
variable {r u : Nat} {b : Bk} {now : Int} {small : Bool} {k : Nat}
theorem HI.on (h : HI r u b now small k) (t : Int) (sm : Bool) (ht : t ≤ 9007199254740992) (hs : sm = true → small = true ∧ max now t < 1048576) : HI r u (onB b t) (max now t) sm (k + 1) :=
  ⟨h.rate, h.burst, onB_ok b t h.ok ht, by rw [← h.time]; rfl, h.times0, by have := h.times1; show b.times ≤ _; omega, fun e => (h.small (hs e).1).on t (by rw [h.time]; exact (hs e).2)⟩
theorem HI.out (h : HI r u b now small k) (t : Int) (sm : Bool) (c : Nat) (ht : t ≤ 9007199254740992) (hs : sm = true → small = true ∧ max now t < 1048576) (hw : sm = true → Whole c) (hl : rv c ≤ atL b t) : HI r u (outB (onB b t) c) (max now t) sm (k + 1) :=
  ⟨h.rate, h.burst, outB_ok _ c (onB_ok b t h.ok ht) hl, by rw [← h.time]; rfl, by have := h.times0; show 0 ≤ b.times + 1; omega, by have := h.times1; show b.times + 1 ≤ _; omega,
    fun e => ((h.small (hs e).1).on t (by rw [h.time]; exact (hs e).2)).out c (hw e) hl⟩
theorem HI.next (h : HI r u b now small k) : HI r u b now small (k + 1) := ⟨h.rate, h.burst, h.ok, h.time, h.times0, by have := h.times1; omega, h.small⟩
end
end Go.Proofs.Ytbpnhpjcepgiiaa
