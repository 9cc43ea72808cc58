/- Real: Ldexp of an odd number by its power: the float itself. -/
import Derived.Test.YthfgjibhpenfkaaDoorNf
import Derived.Test.YthfgjibhpenfkaaDoorRj
namespace Go.Proofs.YthfgjibhpenfkaaDoor
open Go.RowKit Fl

set_option maxRecDepth 100000 in
theorem ldexp_plain {r n : Nat} {ex : Int} (h : OddOf r n ex) (h0 : 0 < r) (hr : r < inf) (hn0 : 0 < n) (hn : n < 9007199254740992) :
    (∃ K : Nat, 1 ≤ K ∧ K ≤ 2046 ∧ r = K * 4503599627370496 + (n * 2 ^ (52 - n.log2) - 4503599627370496) ∧ (K : Int) = ex + 1023 + n.log2) ∨
    (r < 4503599627370496 ∧ ∃ D : Nat, 1 ≤ D ∧ D ≤ 52 ∧ r * 2 ^ D = n * 2 ^ (52 - n.log2) ∧ ex + 1023 + n.log2 = 1 - (D : Int)) := by
  obtain ⟨hL, h1, h2⟩ := log_norm hn0 hn
  obtain ⟨_, a, b, h3, h4⟩ := h
  have h5 : V r * 2 ^ (a + (52 - n.log2)) = n * 2 ^ (52 - n.log2) * 2 ^ b := by
    rw [Nat.pow_add, ← Nat.mul_assoc, h3, Nat.mul_assoc, Nat.mul_assoc, Nat.mul_comm (2 ^ b)]
  generalize hM : n * 2 ^ (52 - n.log2) = M at h1 h2 h5 ⊢
  generalize hl : n.log2 = L at hL h5 ⊢
  generalize hu : a + (52 - L) = u at h5
  by_cases hs : r < 4503599627370496
  · right
    refine ⟨hs, ?_⟩
    rw [V_sub hs] at h5
    rcases Nat.lt_or_ge b u with hub | hub
    · obtain ⟨D, hD⟩ : ∃ D, u = b + D := ⟨u - b, by omega⟩
      rw [hD, Nat.add_comm b D, Nat.pow_add, ← Nat.mul_assoc] at h5
      have h6 : r * 2 ^ D = M := Nat.eq_of_mul_eq_mul_right (Nat.two_pow_pos b) h5
      refine ⟨D, by omega, ?_, h6, by omega⟩
      rcases Nat.lt_or_ge 52 D with h7 | h7
      · have : 2 ^ 53 ≤ 2 ^ D := Nat.pow_le_pow_right (by decide) h7
        rw [show (2 : Nat) ^ 53 = 9007199254740992 from rfl] at this
        have : 2 ^ D ≤ r * 2 ^ D := Nat.le_mul_of_pos_left _ h0
        omega
      · exact h7
    · obtain ⟨D, hD⟩ : ∃ D, b = u + D := ⟨b - u, by omega⟩
      rw [hD, Nat.add_comm u D, Nat.pow_add, ← Nat.mul_assoc] at h5
      have h6 : r = M * 2 ^ D := Nat.eq_of_mul_eq_mul_right (Nat.two_pow_pos _) h5
      have : M ≤ M * 2 ^ D := Nat.le_mul_of_pos_right _ (Nat.two_pow_pos D)
      omega
  · left
    rw [V_normal (by omega), Nat.mul_assoc, ← Nat.pow_add] at h5
    obtain ⟨h6, h7⟩ := norm_unique (by omega) (by omega) h1 h2 h5
    rw [inf_val] at hr
    exact ⟨r / 4503599627370496, by omega, by omega, by omega, by omega⟩
theorem V_one : V 4607182418800017408 = 2 ^ E74 := by
  obtain ⟨c, hc⟩ : ∃ c, c = 1023 - 1 := ⟨_, rfl⟩
  have := (V_word 1023 4503599627370496 (by decide) (Nat.le_refl _) (by decide)).1
  rw [← hc, show 1023 * 4503599627370496 + (4503599627370496 - 4503599627370496) = 4607182418800017408 from rfl, show (4503599627370496 : Nat) = 2 ^ 52 from rfl, ← Nat.pow_add, show 52 + c = E74 by rw [E74_eq]; omega] at this
  exact this
theorem mul_one_r {r : Nat} (h0 : 0 < r) (hr : r < inf) : Ieee.double.mul 4607182418800017408 r = some r := by
  rw [mul_small _ _ (by decide) hr, fmul_exact (by decide) h0 h0 hr (by rw [V_one, Nat.mul_comm])]
theorem V_m53 (c : Nat) (hc : c = 970 - 1) : V 4368491638549381120 = 2 ^ (52 + c) := by
  have := (V_word 970 4503599627370496 (by decide) (Nat.le_refl _) (by decide)).1
  rw [← hc, show 970 * 4503599627370496 + (4503599627370496 - 4503599627370496) = 4368491638549381120 from rfl, show (4503599627370496 : Nat) = 2 ^ 52 from rfl, ← Nat.pow_add] at this
  exact this
theorem mul_m53 {r M D : Nat} (h0 : 0 < r) (hr : r < inf) (h1 : 4503599627370496 ≤ M) (h2 : M < 9007199254740992) (hD1 : 1 ≤ D) (hD : D ≤ 52) (hs : r < 4503599627370496) (h : r * 2 ^ D = M) :
    Ieee.double.mul 4368491638549381120 ((54 - D) * 4503599627370496 + (M - 4503599627370496)) = some r := by
  have v1 := (V_word (54 - D) M (by omega) h1 h2).1
  have hF : (54 - D) * 4503599627370496 + (M - 4503599627370496) < inf := by
    have : (54 - D) * 4503599627370496 ≤ 53 * 4503599627370496 := Nat.mul_le_mul_right _ (by omega)
    rw [inf_val]; omega
  have hp : 0 < (54 - D) * 4503599627370496 + (M - 4503599627370496) := by
    have : 4503599627370496 ≤ (54 - D) * 4503599627370496 := Nat.le_mul_of_pos_left _ (by omega)
    omega
  obtain ⟨c, hc⟩ : ∃ c, c = 970 - 1 := ⟨_, rfl⟩
  rw [mul_small _ _ (by decide) hF, fmul_exact (by decide) hp h0 hr]
  rw [v1, V_m53 c hc, V_sub hs, ← h, Nat.mul_comm, Nat.mul_assoc, Nat.mul_assoc, ← Nat.pow_add, ← Nat.pow_add]
  rw [show D + (54 - D - 1 + (52 + c)) = E74 by rw [E74_eq]; omega]
end Go.Proofs.YthfgjibhpenfkaaDoor
