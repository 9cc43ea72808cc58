/- Real: floats as odd numbers with a power of two: plain laws. -/
import Derived.Test.YthfgjibhpenfkaaDoorNa
namespace Go.Proofs.YthfgjibhpenfkaaDoor
open Fl

def E74 : Nat := 1074
theorem E74_eq : E74 = 1074 := rfl
theorem fmul_exact {r s t : Nat} (hr : 0 < r) (hs : 0 < s) (ht : 0 < t) (hti : t < inf) (h : V r * V s = V t * 2 ^ E74) : fmul r s = t := by
  unfold fmul
  rw [if_neg (by omega), ← E74_eq]
  have h0 : V r * V s ≠ 0 := Nat.mul_ne_zero (V_ne (by omega)) (V_ne (by omega))
  rw [rgN_congr E74 (V r * V s) 0 (mant t) (E74 + expo t) h0 (mant_pos ht) (by rw [Nat.pow_zero, Nat.mul_one, h, V_eq t, Nat.pow_add, Nat.mul_assoc, Nat.mul_comm (2 ^ expo t)]), rgN_self E74 t ht]
  exact Nat.min_eq_left (by omega)
/-- a normal word -/
theorem V_word (B m : Nat) (hB : 1 ≤ B) (h1 : 4503599627370496 ≤ m) (h2 : m < 9007199254740992) :
    V (B * 4503599627370496 + (m - 4503599627370496)) = m * 2 ^ (B - 1) ∧ (B * 4503599627370496 + (m - 4503599627370496)) / 4503599627370496 = B ∧ (B * 4503599627370496 + (m - 4503599627370496)) % 4503599627370496 = m - 4503599627370496 := by
  have hd : (B * 4503599627370496 + (m - 4503599627370496)) / 4503599627370496 = B := by omega
  have hm : (B * 4503599627370496 + (m - 4503599627370496)) % 4503599627370496 = m - 4503599627370496 := by omega
  refine ⟨?_, hd, hm⟩
  unfold V
  rw [p52, if_neg (by omega), hd, hm, show 4503599627370496 + (m - 4503599627370496) = m by omega]
theorem V_normal {r : Nat} (h : 4503599627370496 ≤ r) : V r = (4503599627370496 + r % 4503599627370496) * 2 ^ (r / 4503599627370496 - 1) := by
  unfold V
  rw [p52, if_neg (by omega)]
theorem V_sub {r : Nat} (h : r < 4503599627370496) : V r = r := by
  unfold V
  rw [p52, if_pos h]
theorem odd_unique_le {n n' x y : Nat} (h1 : n % 2 = 1) (hxy : x ≤ y) (h : n * 2 ^ x = n' * 2 ^ y) : x = y ∧ n = n' := by
  obtain ⟨d, rfl⟩ : ∃ d, y = x + d := ⟨y - x, by omega⟩
  rw [Nat.pow_add, Nat.mul_comm (2 ^ x), ← Nat.mul_assoc] at h
  have h3 : n = n' * 2 ^ d := Nat.eq_of_mul_eq_mul_right (Nat.two_pow_pos x) h
  cases d with
  | zero => exact ⟨rfl, by simpa using h3⟩
  | succ d =>
    rw [Nat.pow_succ, ← Nat.mul_assoc] at h3
    omega
theorem odd_unique {n n' x y : Nat} (h1 : n % 2 = 1) (h2 : n' % 2 = 1) (h : n * 2 ^ x = n' * 2 ^ y) : x = y ∧ n = n' := by
  rcases Nat.le_total x y with hxy | hxy
  · exact odd_unique_le h1 hxy h
  · obtain ⟨a, b⟩ := odd_unique_le h2 hxy h.symm
    exact ⟨a.symm, b.symm⟩
theorem norm_unique_le {m m' x y : Nat} (h1 : m < 9007199254740992) (h2 : 4503599627370496 ≤ m') (hxy : x ≤ y) (h : m * 2 ^ x = m' * 2 ^ y) : x = y ∧ m = m' := by
  obtain ⟨d, rfl⟩ : ∃ d, y = x + d := ⟨y - x, by omega⟩
  rw [Nat.pow_add, Nat.mul_comm (2 ^ x), ← Nat.mul_assoc] at h
  have h3 : m = m' * 2 ^ d := Nat.eq_of_mul_eq_mul_right (Nat.two_pow_pos x) h
  cases d with
  | zero => exact ⟨rfl, by simpa using h3⟩
  | succ d =>
    rw [Nat.pow_succ, ← Nat.mul_assoc] at h3
    have : m' ≤ m' * 2 ^ d := Nat.le_mul_of_pos_right _ (Nat.two_pow_pos d)
    omega
theorem norm_unique {m m' x y : Nat} (h1 : 4503599627370496 ≤ m) (h2 : m < 9007199254740992) (h3 : 4503599627370496 ≤ m') (h4 : m' < 9007199254740992) (h : m * 2 ^ x = m' * 2 ^ y) : x = y ∧ m = m' := by
  rcases Nat.le_total x y with hxy | hxy
  · exact norm_unique_le h2 h3 hxy h
  · obtain ⟨a, b⟩ := norm_unique_le h4 h1 hxy h.symm
    exact ⟨a.symm, b.symm⟩
/-- how a number lies between two powers -/
theorem log_norm {n : Nat} (h0 : 0 < n) (h : n < 9007199254740992) : n.log2 ≤ 52 ∧ 4503599627370496 ≤ n * 2 ^ (52 - n.log2) ∧ n * 2 ^ (52 - n.log2) < 9007199254740992 := by
  have h1 := log2_le n (by omega)
  have h2 := lt_log2 n
  have hL : n.log2 ≤ 52 := by
    rcases Nat.lt_or_ge 52 n.log2 with h3 | h3
    · have : 2 ^ 53 ≤ 2 ^ n.log2 := Nat.pow_le_pow_right (by decide) h3
      rw [show (2 : Nat) ^ 53 = 9007199254740992 by decide] at this
      omega
    · exact h3
  refine ⟨hL, ?_, ?_⟩
  · have := Nat.mul_le_mul_right (2 ^ (52 - n.log2)) h1
    rw [← Nat.pow_add, show n.log2 + (52 - n.log2) = 52 by omega] at this
    exact this
  · have := (Nat.mul_lt_mul_right (Nat.two_pow_pos (52 - n.log2))).2 h2
    rw [← Nat.pow_add, show n.log2 + 1 + (52 - n.log2) = 53 by omega] at this
    exact this

set_option maxRecDepth 100000 in
theorem norm_sub {r : Nat} (h0 : 0 < r) (h : r < 4503599627370496) : ∃ r2, 4503599627370496 ≤ r2 ∧ r2 < inf ∧ V r2 = r * 2 ^ 52 := by
  obtain ⟨hL, h1, h2⟩ := log_norm h0 (by omega)
  obtain ⟨hv, _, _⟩ := V_word (r.log2 + 1) (r * 2 ^ (52 - r.log2)) (by omega) h1 h2
  have e1 : 4503599627370496 ≤ (r.log2 + 1) * 4503599627370496 := Nat.le_mul_of_pos_left _ (by omega)
  have e2 : (r.log2 + 1) * 4503599627370496 ≤ 53 * 4503599627370496 := Nat.mul_le_mul_right _ (by omega)
  rw [Nat.mul_assoc, ← Nat.pow_add, show 52 - r.log2 + (r.log2 + 1 - 1) = 52 by omega] at hv
  obtain ⟨q, hq⟩ : ∃ q, q = (r.log2 + 1) * 4503599627370496 := ⟨_, rfl⟩
  obtain ⟨p, hp⟩ : ∃ p, p = r * 2 ^ (52 - r.log2) := ⟨_, rfl⟩
  rw [← hq] at e1 e2 hv
  rw [← hp] at h1 h2 hv
  refine ⟨q + (p - 4503599627370496), by omega, ?_, hv⟩
  rw [inf_val]
  omega

set_option maxRecDepth 100000 in
theorem i2r_word {n : Nat} (h0 : 0 < n) (h : n < 9007199254740992) : i2r n = (1023 + n.log2) * 4503599627370496 + (n * 2 ^ (52 - n.log2) - 4503599627370496) ∧ i2r n < inf ∧ V (i2r n) = n * 2 ^ E74 := by
  obtain ⟨hL, h1, h2⟩ := log_norm h0 h
  obtain ⟨hv, _, _⟩ := V_word (1023 + n.log2) (n * 2 ^ (52 - n.log2)) (by omega) h1 h2
  have hV : V ((1023 + n.log2) * 4503599627370496 + (n * 2 ^ (52 - n.log2) - 4503599627370496)) = n * 2 ^ E74 := by
    rw [hv, Nat.mul_assoc, ← Nat.pow_add, show 52 - n.log2 + (1023 + n.log2 - 1) = E74 by rw [E74_eq]; omega]
  have hlt : (1023 + n.log2) * 4503599627370496 + (n * 2 ^ (52 - n.log2) - 4503599627370496) < inf := by
    have : (1023 + n.log2) * 4503599627370496 ≤ 1075 * 4503599627370496 := Nat.mul_le_mul_right _ (by omega)
    rw [inf_val]
    omega
  have hpos : 0 < (1023 + n.log2) * 4503599627370496 + (n * 2 ^ (52 - n.log2) - 4503599627370496) := by
    have : 4503599627370496 ≤ (1023 + n.log2) * 4503599627370496 := Nat.le_mul_of_pos_left _ (by omega)
    omega
  have he : i2r n = (1023 + n.log2) * 4503599627370496 + (n * 2 ^ (52 - n.log2) - 4503599627370496) := by
    unfold i2r
    rw [if_neg (by omega), ← E74_eq]
    rw [rgN_congr 0 n E74 _ _ (by omega) (mant_pos hpos) (hV.symm.trans (V_eq _))]
    have := rgN_self 0 _ hpos
    rw [Nat.zero_add] at this
    rw [this]
    exact Nat.min_eq_left (by omega)
  exact ⟨he, by rw [he]; exact hlt, by rw [he]; exact hV⟩
/-- a float's odd number and its power -/
def OddOf (r n : Nat) (e : Int) : Prop := n % 2 = 1 ∧ ∃ a b : Nat, V r * 2 ^ a = n * 2 ^ b ∧ e = (b : Int) - a - 1074
theorem OddOf.unique {r n n' : Nat} {e e' : Int} (h : OddOf r n e) (h' : OddOf r n' e') : n = n' ∧ e = e' := by
  obtain ⟨o1, a, b, h1, h2⟩ := h
  obtain ⟨o2, a', b', h3, h4⟩ := h'
  have h5 : n * 2 ^ (b + a') = n' * 2 ^ (b' + a) := by
    rw [Nat.pow_add, ← Nat.mul_assoc, ← h1, Nat.pow_add, ← Nat.mul_assoc, ← h3]
    rw [Nat.mul_assoc, Nat.mul_assoc, Nat.mul_comm (2 ^ a)]
  obtain ⟨h6, h7⟩ := odd_unique o1 o2 h5
  exact ⟨h7, by omega⟩
end Go.Proofs.YthfgjibhpenfkaaDoor
