/- Words of binary64 that are not negative: their sums, differences, products, order. No program in sight. -/
import Derived.Test.YthfgjibhpenfkaaDoorFl
import GoSem.Core.Float
namespace Go.Proofs.YthfgjibhpenfkaaDoor.Fl
open Ieee

/-- the word of infinity, of -0 -/
def inf : Nat := 9218868437227405312
def nz : Nat := 9223372036854775808
theorem inf_eq : double.infRung = inf := rfl
theorem nz_eq : double.signWeight = nz := rfl
theorem bin_eq : double.binade = 2 ^ 52 := rfl
theorem least_eq : double.leastPlace = -1074 := by decide
theorem inf_lt_nz : inf < nz := by decide
theorem inf_val : inf = 9218868437227405312 := rfl
theorem nz_val : nz = 9223372036854775808 := rfl

theorem read_eq (x : Nat) : double.read x = (if x % nz < 2 ^ 52 then Datum.number (x / nz % 2 == 1) (x % nz) (-1074)
    else if x % nz < inf then .number (x / nz % 2 == 1) (2 ^ 52 + x % nz % 2 ^ 52) (-1074 + ((x % nz / 2 ^ 52 - 1 : Nat) : Int))
    else if x % nz = inf then .infinity (x / nz % 2 == 1) else .nan (x / nz % 2 == 1) (x % nz - inf)) := rfl
theorem read_small (x : Nat) (h : x < inf) : double.read x = .number false (mant x) ((expo x : Int) - 1074) := by
  have h1 : x < nz := Nat.lt_trans h inf_lt_nz
  have e1 : x / nz = 0 := Nat.div_eq_of_lt h1
  have e2 : x % nz = x := Nat.mod_eq_of_lt h1
  rw [read_eq, e1, e2]
  unfold mant expo
  by_cases hs : x < 2 ^ 52
  · simp [hs]
  · simp only [hs, if_false, h, if_true]
    congr 1

theorem read_inf : double.read inf = .infinity false := by decide +kernel
theorem read_nz : double.read nz = .number true 0 (-1074) := by decide +kernel
theorem read_zero : double.read 0 = .number false 0 (-1074) := by decide +kernel

theorem mant_zero : mant 0 = 0 := rfl
theorem expo_zero : expo 0 = 0 := rfl

/-! ### order -/
theorem cmp_V (r s : Nat) : compare (V r) (V s) = compare r s := by
  rcases Nat.lt_trichotomy r s with h | h | h
  · rw [Nat.compare_eq_lt.2 h, Nat.compare_eq_lt.2 (V_lt h)]
  · subst h; rw [Nat.compare_eq_eq.2 rfl, Nat.compare_eq_eq.2 rfl]
  · rw [Nat.compare_eq_gt.2 h, Nat.compare_eq_gt.2 (V_lt h)]

theorem V_inf_pos (r : Nat) (h : r < inf) : V r < V inf := V_lt h

theorem signed_shift (m e : Nat) (b : Int) (hb : b ≤ (e : Int) - 1074) (hb' : -1074 ≤ b) : (m <<< ((e : Int) - 1074 - b).toNat) * 2 ^ (b + 1074).toNat = m * 2 ^ e := by
  rw [Nat.shiftLeft_eq, Nat.mul_assoc, ← Nat.pow_add]
  congr 2
  omega

theorem compare_mul (a b c : Nat) (h : 0 < c) : compare (a * c) (b * c) = compare a b := by
  rcases Nat.lt_trichotomy a b with hl | hl | hl
  · rw [Nat.compare_eq_lt.2 hl, Nat.compare_eq_lt.2 (Nat.mul_lt_mul_of_pos_right hl h)]
  · subst hl; rw [Nat.compare_eq_eq.2 rfl, Nat.compare_eq_eq.2 rfl]
  · rw [Nat.compare_eq_gt.2 hl, Nat.compare_eq_gt.2 (Nat.mul_lt_mul_of_pos_right hl h)]

theorem compare_int (a b : Nat) : compare (a : Int) (b : Int) = compare a b := by
  rcases Nat.lt_trichotomy a b with hl | hl | hl
  · rw [Nat.compare_eq_lt.2 hl, Int.compare_eq_lt.2 (by omega)]
  · subst hl; rw [Nat.compare_eq_eq.2 rfl, Int.compare_eq_eq.2 rfl]
  · rw [Nat.compare_eq_gt.2 hl, Int.compare_eq_gt.2 (by omega)]

/-- not negative words: what stands for them in the order -/
def rv (x : Nat) : Nat := if x = nz then 0 else x
/-- finite and not negative, a minus nought too -/
def NN (x : Nat) : Prop := x < inf ∨ x = nz
theorem rv_small {x : Nat} (h : x ≤ inf) : rv x = x := by unfold rv; rw [if_neg (by have := inf_lt_nz; omega)]
theorem rv_nz : rv nz = 0 := by unfold rv; rw [if_pos rfl]

theorem order_small (x y : Nat) (hx : x < inf) (hy : y < inf) : double.order x y = some (compare x y) := by
  unfold Format.order
  rw [read_small x hx, read_small y hy]
  simp only [Datum.order, Ieee.signed]
  obtain ⟨b, hb⟩ : ∃ b : Int, b = min ((expo x : Int) - 1074) ((expo y : Int) - 1074) := ⟨_, rfl⟩
  rw [← hb]
  have h1 := signed_shift (mant x) (expo x) b (by omega) (by omega)
  have h2 := signed_shift (mant y) (expo y) b (by omega) (by omega)
  congr 1
  simp only [Bool.false_eq_true, if_false]
  rw [compare_int, ← compare_mul _ _ _ (two_pos (b + 1074).toNat), h1, h2, ← V_eq, ← V_eq, cmp_V]

theorem order_inf_right (x : Nat) (hx : x < inf) : double.order x inf = some .lt := by
  unfold Format.order
  rw [read_small x hx, read_inf]
  rfl
theorem order_inf_left (x : Nat) (hx : x < inf) : double.order inf x = some .gt := by
  unfold Format.order
  rw [read_small x hx, read_inf]
  rfl
theorem order_inf_inf : double.order inf inf = some .eq := by decide +kernel

theorem order_nz_left (y : Nat) (hy : y < inf) : double.order nz y = double.order 0 y := by
  unfold Format.order
  rw [read_small y hy, read_nz, read_zero]
  simp [Datum.order, Ieee.signed]
theorem order_nz_right (y : Nat) (hy : y < inf) : double.order y nz = double.order y 0 := by
  unfold Format.order
  rw [read_small y hy, read_nz, read_zero]
  simp [Datum.order, Ieee.signed]
theorem order_nz_nz : double.order nz nz = some .eq := by decide +kernel
theorem order_nz_inf : double.order nz inf = some .lt := by decide +kernel
theorem order_inf_nz : double.order inf nz = some .gt := by decide +kernel

/-- the order of words that are not negative (infinity too) -/
theorem order_nn (x y : Nat) (hx : x ≤ inf ∨ x = nz) (hy : y ≤ inf ∨ y = nz) : double.order x y = some (compare (rv x) (rv y)) := by
  have h0 : (0 : Nat) < inf := by decide
  have hc : ∀ a, a < inf → compare a inf = .lt := fun a h => Nat.compare_eq_lt.2 h
  have hd : ∀ a, a < inf → compare inf a = .gt := fun a h => Nat.compare_eq_gt.2 h
  rcases hx with hx | rfl
  · rw [rv_small hx]
    rcases hy with hy | rfl
    · rw [rv_small hy]
      by_cases h1 : x = inf
      · subst h1
        by_cases h2 : y = inf
        · subst h2; rw [order_inf_inf, Nat.compare_eq_eq.2 rfl]
        · rw [order_inf_left y (by omega), hd y (by omega)]
      · by_cases h2 : y = inf
        · subst h2; rw [order_inf_right x (by omega), hc x (by omega)]
        · exact order_small x y (by omega) (by omega)
    · rw [rv_nz]
      by_cases h1 : x = inf
      · subst h1; rw [order_inf_nz, hd 0 h0]
      · rw [order_nz_right x (by omega)]; exact order_small x 0 (by omega) h0
  · rw [rv_nz]
    rcases hy with hy | rfl
    · rw [rv_small hy]
      by_cases h2 : y = inf
      · subst h2; rw [order_nz_inf, hc 0 h0]
      · rw [order_nz_left y (by omega)]; exact order_small 0 y h0 (by omega)
    · rw [rv_nz, order_nz_nz, Nat.compare_eq_eq.2 rfl]

/-! ### sums, differences, products -/
def fadd (r s : Nat) : Nat := if r = inf ∨ s = inf then inf else if r = 0 ∧ s = 0 then 0 else min (rgN 0 (V r + V s) 0) inf
def fsub (r s : Nat) : Nat := if r = s then 0 else min (rgN 0 (V r - V s) 0) inf
def fmul (r s : Nat) : Nat := if r = 0 ∨ s = 0 then 0 else min (rgN 1074 (V r * V s) 0) inf

theorem rgN_congr (β m a m' a' : Nat) (hm : m ≠ 0) (hm' : m' ≠ 0) (h : m * 2 ^ a = m' * 2 ^ a') : rgN β m a = rgN β m' a' :=
  Nat.le_antisymm (rgN_mono β m a m' a' hm hm' (Nat.le_of_eq h)) (rgN_mono β m' a' m a hm' hm (Nat.le_of_eq h.symm))

theorem word_false (n : Nat) : double.word false n = n := rfl
theorem word_true_zero : double.word true 0 = nz := by decide +kernel
theorem nearest_zero (neg : Bool) (i : Int) : double.nearest neg 0 i = double.word neg 0 := by unfold Format.nearest; rw [if_pos rfl]

theorem V_ne {r : Nat} (h : r ≠ 0) : V r ≠ 0 := by have := V_pos (r := r) (by omega); omega

theorem add_small (r s : Nat) (hr : r < inf) (hs : s < inf) : double.add r s = some (fadd r s) := by
  unfold Format.add
  rw [read_small r hr, read_small s hs]
  simp only [Datum.sum, Ieee.signed, Bool.false_eq_true, if_false, Bool.and_false, Option.map_some]
  obtain ⟨b, hb⟩ : ∃ b : Int, b = min ((expo r : Int) - 1074) ((expo s : Int) - 1074) := ⟨_, rfl⟩
  rw [← hb]
  have h1 := signed_shift (mant r) (expo r) b (by omega) (by omega)
  have h2 := signed_shift (mant s) (expo s) b (by omega) (by omega)
  obtain ⟨p, hp⟩ : ∃ p, p = mant r <<< ((expo r : Int) - 1074 - b).toNat := ⟨_, rfl⟩
  obtain ⟨q, hq⟩ : ∃ q, q = mant s <<< ((expo s : Int) - 1074 - b).toNat := ⟨_, rfl⟩
  rw [← hp] at h1 ⊢
  rw [← hq] at h2 ⊢
  have hneg : (if (p : Int) + (q : Int) = 0 then false else decide ((p : Int) + (q : Int) < 0)) = false := by
    split
    · rfl
    · simp; omega
  have habs : ((p : Int) + (q : Int)).natAbs = p + q := by omega
  rw [hneg, habs]
  have hsum : (p + q) * 2 ^ (b + 1074).toNat = V r + V s := by rw [Nat.add_mul, h1, h2, ← V_eq, ← V_eq]
  show some (double.nearest false (p + q) b) = _
  congr 1
  unfold fadd
  rw [if_neg (by omega)]
  by_cases h0 : r = 0 ∧ s = 0
  · obtain ⟨rfl, rfl⟩ := h0
    have hpz : p = 0 := by rw [hp]; simp [mant_zero]
    have hqz : q = 0 := by rw [hq]; simp [mant_zero]
    rw [hpz, hqz, nearest_zero, word_false, if_pos ⟨rfl, rfl⟩]
  · rw [if_neg h0]
    have hv : V r + V s ≠ 0 := by
      by_cases hr0 : r = 0
      · have := V_pos (r := s) (by omega); omega
      · have := V_pos (r := r) (by omega); omega
    have hpq : p + q ≠ 0 := by
      intro e
      rw [e] at hsum
      omega
    rw [nearest_eq false (p + q) b 0 hpq (by omega), word_false, inf_eq]
    refine congrArg (fun z => min z inf) (rgN_congr 0 _ _ _ _ hpq hv ?_)
    rw [Nat.pow_zero, Nat.mul_one, ← hsum]
    congr 2

theorem sub_small (r s : Nat) (hr : r < inf) (hs : s ≤ r) : double.sub r s = some (fsub r s) := by
  unfold Format.sub
  rw [read_small r hr, read_small s (by omega)]
  simp only [Datum.opposite, Datum.sum, Ieee.signed, Bool.false_eq_true, if_false, Bool.false_and, Bool.not_false, if_true, Option.map_some]
  obtain ⟨b, hb⟩ : ∃ b : Int, b = min ((expo r : Int) - 1074) ((expo s : Int) - 1074) := ⟨_, rfl⟩
  rw [← hb]
  have h1 := signed_shift (mant r) (expo r) b (by omega) (by omega)
  have h2 := signed_shift (mant s) (expo s) b (by omega) (by omega)
  obtain ⟨p, hp⟩ : ∃ p, p = mant r <<< ((expo r : Int) - 1074 - b).toNat := ⟨_, rfl⟩
  obtain ⟨q, hq⟩ : ∃ q, q = mant s <<< ((expo s : Int) - 1074 - b).toNat := ⟨_, rfl⟩
  rw [← hp] at h1 ⊢
  rw [← hq] at h2 ⊢
  rw [← V_eq] at h1 h2
  have hle : q ≤ p := by
    have := V_le.2 hs
    rw [← h1, ← h2] at this
    exact Nat.le_of_mul_le_mul_right this (two_pos _)
  have hneg : (if (p : Int) + -(q : Int) = 0 then false else decide ((p : Int) + -(q : Int) < 0)) = false := by
    split
    · rfl
    · simp; omega
  have habs : ((p : Int) + -(q : Int)).natAbs = p - q := by omega
  rw [hneg, habs]
  have hsum : (p - q) * 2 ^ (b + 1074).toNat = V r - V s := by rw [Nat.sub_mul, h1, h2]
  show some (double.nearest false (p - q) b) = _
  congr 1
  unfold fsub
  by_cases h0 : r = s
  · subst h0
    have hz : p - q = 0 := by
      have : p * 2 ^ (b + 1074).toNat = q * 2 ^ (b + 1074).toNat := by rw [h1, h2]
      have := Nat.eq_of_mul_eq_mul_right (two_pos _) this
      omega
    rw [hz, nearest_zero, word_false, if_pos rfl]
  · rw [if_neg h0]
    have hv : V r - V s ≠ 0 := by have := V_lt (r := s) (s := r) (by omega); omega
    have hpq : p - q ≠ 0 := by
      intro e
      rw [e] at hsum
      omega
    rw [nearest_eq false (p - q) b 0 hpq (by omega), word_false, inf_eq]
    refine congrArg (fun z => min z inf) (rgN_congr 0 _ _ _ _ hpq hv ?_)
    rw [Nat.pow_zero, Nat.mul_one, ← hsum]
    congr 2

theorem mul_small (r s : Nat) (hr : r < inf) (hs : s < inf) : double.mul r s = some (fmul r s) := by
  unfold Format.mul
  rw [read_small r hr, read_small s hs]
  simp only [Datum.product, Bool.xor_false, Option.map_some]
  show some (double.nearest false (mant r * mant s) _) = _
  congr 1
  unfold fmul
  by_cases h0 : r = 0 ∨ s = 0
  · rw [if_pos h0]
    have hz : mant r * mant s = 0 := by rcases h0 with rfl | rfl <;> simp [mant_zero]
    rw [hz, nearest_zero, word_false]
  · rw [if_neg h0]
    have h1 : mant r ≠ 0 := mant_pos (by omega)
    have h2 : mant s ≠ 0 := mant_pos (by omega)
    have hpq : mant r * mant s ≠ 0 := Nat.mul_ne_zero h1 h2
    rw [nearest_eq false _ _ 1074 hpq (by omega), word_false, inf_eq]
    refine congrArg (fun z => min z inf) (rgN_congr 1074 _ _ _ _ hpq (Nat.mul_ne_zero (V_ne (by omega)) (V_ne (by omega))) ?_)
    rw [Nat.pow_zero, Nat.mul_one, V_eq r, V_eq s]
    have e : ((expo r : Int) - 1074 + ((expo s : Int) - 1074) + (1074 + ((1074 : Nat) : Int))).toNat = expo r + expo s := by omega
    rw [e, Nat.pow_add]
    simp only [Nat.mul_assoc, Nat.mul_left_comm]

theorem add_inf (r : Nat) (hr : r < inf) : double.add r inf = some inf := by
  unfold Format.add
  rw [read_small r hr, read_inf]
  rfl
theorem add_inf_left (r : Nat) (hr : r < inf) : double.add inf r = some inf := by
  unfold Format.add
  rw [read_small r hr, read_inf]
  rfl
theorem add_inf_inf : double.add inf inf = some inf := by decide +kernel
theorem add_le (r s : Nat) (hr : r ≤ inf) (hs : s ≤ inf) : double.add r s = some (fadd r s) := by
  by_cases h1 : r = inf
  · subst h1
    by_cases h2 : s = inf
    · subst h2; rw [add_inf_inf]; simp [fadd]
    · rw [add_inf_left s (by omega)]; simp [fadd]
  · by_cases h2 : s = inf
    · subst h2; rw [add_inf r (by omega)]; simp [fadd]
    · exact add_small r s (by omega) (by omega)

end Go.Proofs.YthfgjibhpenfkaaDoor.Fl
