/- Quota: whole numbers as floats: their sums, differences and products are exact. -/
import Derived.Test.YtbpnhpjcepgiiaaQn
namespace Go.Proofs.Ytbpnhpjcepgiiaa.Fl

theorem rgN_V (β m a r : Nat) (hr : 0 < r) (hm : m ≠ 0) (h : m * 2 ^ a = V r * 2 ^ β) : rgN β m a = r :=
  Nat.le_antisymm (rgN_le β m a r hm hr (Nat.le_of_eq h)) (rgN_ge β m a r hm (Nat.le_of_eq h.symm))

@[irreducible] def E74 : Nat := 1074
theorem E74_eq : E74 = 1074 := by unfold E74; rfl

theorem whole_at (n : Nat) (h0 : n ≠ 0) (h : n < 2 ^ 53) : ∃ r, 0 < r ∧ V r = n * 2 ^ E74 := by
  have hk : n.log2 < 53 := (Nat.log2_lt h0).2 h
  have h1 := log2_le n h0
  have h2 := lt_log2 n
  obtain ⟨k, hk'⟩ : ∃ k, k = n.log2 := ⟨_, rfl⟩
  rw [← hk'] at hk h1 h2
  clear hk'
  obtain ⟨m, hm⟩ : ∃ m, m = n * 2 ^ (52 - k) := ⟨_, rfl⟩
  have hm1 : 2 ^ 52 ≤ m := by
    rw [hm, show (2 : Nat) ^ 52 = 2 ^ k * 2 ^ (52 - k) by rw [← Nat.pow_add]; congr 1; omega]
    exact Nat.mul_le_mul_right _ h1
  have hm2 : m < 2 ^ 52 + 2 ^ 52 := by
    rw [hm, show (2 : Nat) ^ 52 + 2 ^ 52 = 2 ^ (k + 1) * 2 ^ (52 - k) by rw [← Nat.pow_add, show k + 1 + (52 - k) = 53 by omega]]
    exact Nat.mul_lt_mul_of_pos_right h2 (two_pos _)
  have hp : (0 : Nat) < 2 ^ 52 := two_pos _
  have hr : (1022 + k + 1) * 2 ^ 52 + (m - 2 ^ 52) = (m - 2 ^ 52) + 2 ^ 52 * (1022 + k + 1) := by rw [Nat.mul_comm]; exact Nat.add_comm _ _
  have hlt : m - 2 ^ 52 < 2 ^ 52 := Nat.sub_lt_left_of_lt_add hm1 hm2
  have hge : 2 ^ 52 ≤ (1022 + k + 1) * 2 ^ 52 := Nat.le_mul_of_pos_left _ (by omega)
  refine ⟨(1022 + k + 1) * 2 ^ 52 + (m - 2 ^ 52), Nat.lt_of_lt_of_le hp (Nat.le_trans hge (Nat.le_add_right _ _)), ?_⟩
  unfold V
  rw [if_neg (Nat.not_lt.2 (Nat.le_trans hge (Nat.le_add_right _ _))), hr, Nat.add_mul_mod_self_left, Nat.mod_eq_of_lt hlt, Nat.add_mul_div_left _ _ hp, Nat.div_eq_of_lt hlt,
    Nat.add_sub_cancel' hm1, hm, Nat.mul_assoc, ← Nat.pow_add]
  have he := E74_eq
  rw [show 52 - k + (0 + (1022 + k + 1) - 1) = E74 by omega]

theorem V_i2r (n : Nat) (h : n < 2 ^ 53) : V (i2r n) = n * 2 ^ E74 := by
  by_cases h0 : n = 0
  · subst h0; rw [Nat.zero_mul]; rfl
  · obtain ⟨r, hr, hv⟩ := whole_at n h0 h
    have e : rgN 0 n 1074 = r := rgN_V 0 n 1074 r hr h0 (by rw [hv, Nat.pow_zero, Nat.mul_one, E74_eq])
    have hi := i2r_fin n (Nat.le_of_lt h)
    have e2 : i2r n = min r inf := by unfold i2r; rw [if_neg h0, e]
    have e3 : i2r n = r := by omega
    rw [e3, hv]
theorem i2r_zero : i2r 0 = 0 := rfl
theorem i2r_of (n r : Nat) (h : n < 2 ^ 53) (hv : V r = n * 2 ^ E74) : r = i2r n := by
  rw [← V_i2r n h] at hv
  exact Nat.le_antisymm (V_le.1 (Nat.le_of_eq hv)) (V_le.1 (Nat.le_of_eq hv.symm))
theorem i2r_le_iff (a b : Nat) (ha : a < 2 ^ 53) (hb : b < 2 ^ 53) : i2r a ≤ i2r b ↔ a ≤ b := by
  rw [← V_le, V_i2r a ha, V_i2r b hb]
  exact Nat.mul_le_mul_right_iff (two_pos _)
theorem i2r_inj (a b : Nat) (ha : a < 2 ^ 53) (hb : b < 2 ^ 53) (h : i2r a = i2r b) : a = b :=
  Nat.le_antisymm ((i2r_le_iff a b ha hb).1 (Nat.le_of_eq h)) ((i2r_le_iff b a hb ha).1 (Nat.le_of_eq h.symm))
theorem i2r_pos (a : Nat) (h : 0 < a) (ha : a < 2 ^ 53) : i2r a ≠ 0 := by
  intro e
  have := i2r_inj a 0 ha (by decide) e
  omega
theorem i2r_lt_inf (a : Nat) (h : a < 2 ^ 53) : i2r a < inf := i2r_fin a (Nat.le_of_lt h)

theorem i2r_add (a b : Nat) (h : a + b < 2 ^ 53) : fadd (i2r a) (i2r b) = i2r (a + b) := by
  have ha := i2r_lt_inf a (by omega)
  have hb := i2r_lt_inf b (by omega)
  unfold fadd
  rw [if_neg (by omega)]
  by_cases h0 : a + b = 0
  · obtain rfl : a = 0 := by omega
    obtain rfl : b = 0 := by omega
    rw [if_pos ⟨rfl, rfl⟩]; rfl
  · rw [if_neg (by
      rintro ⟨h1, h2⟩
      by_cases ha0 : a = 0
      · exact i2r_pos b (by omega) (by omega) h2
      · exact i2r_pos a (by omega) (by omega) h1)]
    rw [V_i2r a (by omega), V_i2r b (by omega), ← Nat.add_mul, rgN_congr 0 ((a + b) * 2 ^ E74) 0 (a + b) 1074 (Nat.mul_ne_zero h0 (Nat.ne_of_gt (two_pos _))) h0 (by rw [Nat.pow_zero, Nat.mul_one, E74_eq])]
    unfold i2r
    rw [if_neg h0]

theorem i2r_sub (a b : Nat) (ha : a < 2 ^ 53) (h : b ≤ a) : fsub (i2r a) (i2r b) = i2r (a - b) := by
  unfold fsub
  by_cases e : a = b
  · subst e; rw [if_pos rfl, Nat.sub_self]; rfl
  · have h0 : a - b ≠ 0 := by omega
    rw [if_neg (fun h1 => e (i2r_inj a b ha (by omega) h1))]
    rw [V_i2r a ha, V_i2r b (by omega), ← Nat.sub_mul, rgN_congr 0 ((a - b) * 2 ^ E74) 0 (a - b) 1074 (Nat.mul_ne_zero h0 (Nat.ne_of_gt (two_pos _))) h0 (by rw [Nat.pow_zero, Nat.mul_one, E74_eq])]
    unfold i2r
    rw [if_neg h0]

theorem i2r_mul (a b : Nat) (ha : a < 2 ^ 53) (hb : b < 2 ^ 53) (h : a * b < 2 ^ 53) : fmul (i2r a) (i2r b) = i2r (a * b) := by
  unfold fmul
  by_cases ha0 : a = 0
  · subst ha0; rw [if_pos (.inl rfl), Nat.zero_mul]; rfl
  · by_cases hb0 : b = 0
    · subst hb0; rw [if_pos (.inr rfl), Nat.mul_zero]; rfl
    · have h0 : a * b ≠ 0 := Nat.mul_ne_zero ha0 hb0
      rw [if_neg (by
        rintro (h1 | h1)
        · exact i2r_pos a (by omega) ha h1
        · exact i2r_pos b (by omega) hb h1)]
      have hf := i2r_lt_inf (a * b) h
      have hv := V_i2r (a * b) h
      have e : rgN 1074 (V (i2r a) * V (i2r b)) 0 = i2r (a * b) := by
        refine rgN_V 1074 _ 0 _ (Nat.pos_of_ne_zero (i2r_pos _ (Nat.pos_of_ne_zero h0) h)) (Nat.mul_ne_zero (V_ne (i2r_pos a (by omega) ha)) (V_ne (i2r_pos b (by omega) hb))) ?_
        rw [hv, V_i2r a ha, V_i2r b hb, Nat.pow_zero, Nat.mul_one]
        rw [show (2 : Nat) ^ 1074 = 2 ^ E74 by rw [E74_eq]]
        exact (Nat.mul_mul_mul_comm _ _ _ _).trans (Nat.mul_assoc _ _ _).symm
      rw [e]
      omega
end Go.Proofs.Ytbpnhpjcepgiiaa.Fl
