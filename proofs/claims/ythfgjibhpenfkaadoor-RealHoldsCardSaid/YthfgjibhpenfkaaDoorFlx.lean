/- Words of binary64: minus nought, whole numbers, what every word is; and how the operations rise. No program in sight. -/
import Derived.Test.YthfgjibhpenfkaaDoorFlw
import Derived.Laws.FloatArith
namespace Go.Proofs.YthfgjibhpenfkaaDoor.Fl
open Ieee Go

/-! ### how they rise -/
theorem min_le_inf (a : Nat) : min a inf ≤ inf := Nat.min_le_right _ _
theorem zero_le_inf : 0 ≤ inf := Nat.zero_le _
theorem fadd_le (r s : Nat) : fadd r s ≤ inf := by unfold fadd; split; exact Nat.le_refl _; split; exact Nat.zero_le _; exact min_le_inf _
theorem fsub_le_inf (r s : Nat) : fsub r s ≤ inf := by unfold fsub; split; exact Nat.zero_le _; exact min_le_inf _
theorem fmul_le (r s : Nat) : fmul r s ≤ inf := by unfold fmul; split; exact Nat.zero_le _; exact min_le_inf _

theorem V_sum_ne {r s : Nat} (h : ¬ (r = 0 ∧ s = 0)) : V r + V s ≠ 0 := by
  by_cases h0 : r = 0
  · have := V_pos (r := s) (by omega); omega
  · have := V_pos (r := r) (by omega); omega

theorem fadd_ge (r s : Nat) (hr : r ≤ inf) : r ≤ fadd r s := by
  unfold fadd
  split
  · exact hr
  · split
    · omega
    · rename_i h
      refine Nat.le_min.2 ⟨?_, hr⟩
      refine rgN_ge 0 _ 0 r (V_sum_ne h) ?_
      omega
theorem fadd_ge_right (r s : Nat) (hs : s ≤ inf) : s ≤ fadd r s := by
  unfold fadd
  split
  · exact hs
  · split
    · omega
    · rename_i h
      refine Nat.le_min.2 ⟨?_, hs⟩
      refine rgN_ge 0 _ 0 s (V_sum_ne h) ?_
      omega
theorem fadd_zero (r : Nat) (hr : r ≤ inf) : fadd r 0 = r := by
  refine Nat.le_antisymm ?_ (fadd_ge r 0 hr)
  unfold fadd
  split
  · rename_i h
    rcases h with h | h
    · exact Nat.le_of_eq h.symm
    · exact absurd h (by decide)
  · split
    · omega
    · rename_i h1 h2
      refine Nat.le_trans (Nat.min_le_left _ _) ?_
      refine rgN_le 0 _ 0 r (V_sum_ne h2) (by omega) ?_
      rw [V_zero]; omega
theorem fadd_comm (r s : Nat) : fadd r s = fadd s r := by
  unfold fadd
  rw [Nat.add_comm (V r)]
  by_cases h : r = inf ∨ s = inf
  · rw [if_pos h, if_pos h.symm]
  · have h' : ¬ (s = inf ∨ r = inf) := fun e => h e.symm
    simp only [h, h', if_false]
    by_cases h0 : r = 0 ∧ s = 0
    · have h0' : s = 0 ∧ r = 0 := ⟨h0.2, h0.1⟩
      rw [if_pos h0, if_pos h0']
    · have h0' : ¬ (s = 0 ∧ r = 0) := fun e => h0 ⟨e.2, e.1⟩
      simp only [h0, h0', if_false]
theorem zero_fadd (r : Nat) (hr : r ≤ inf) : fadd 0 r = r := by rw [fadd_comm, fadd_zero r hr]
theorem fadd_mono (r s s' : Nat) (h : s ≤ s') (hs : s' ≤ inf) : fadd r s ≤ fadd r s' := by
  by_cases h1 : r = inf ∨ s' = inf
  · have : fadd r s' = inf := by unfold fadd; rw [if_pos h1]
    rw [this]; exact fadd_le r s
  · have h2 : ¬ (r = inf ∨ s = inf) := by omega
    by_cases h0 : r = 0 ∧ s = 0
    · have : fadd r s = 0 := by unfold fadd; rw [if_neg h2, if_pos h0]
      rw [this]; exact Nat.zero_le _
    · have h0' : ¬ (r = 0 ∧ s' = 0) := by omega
      unfold fadd
      rw [if_neg h1, if_neg h2, if_neg h0, if_neg h0']
      have := rgN_mono 0 (V r + V s) 0 (V r + V s') 0 (V_sum_ne h0) (V_sum_ne h0') (by have := V_le.2 h; omega)
      omega
theorem fsub_le (r s : Nat) (hs : s ≤ r) : fsub r s ≤ r := by
  unfold fsub
  split
  · omega
  · rename_i h
    refine Nat.le_trans (Nat.min_le_left _ _) ?_
    have := V_lt (r := s) (s := r) (by omega)
    refine rgN_le 0 _ 0 r (by omega) (by omega) ?_
    omega
theorem fsub_self (r : Nat) : fsub r r = 0 := by unfold fsub; rw [if_pos rfl]
theorem fsub_zero (r : Nat) (hr : r ≤ inf) : fsub r 0 = r := by
  unfold fsub
  split
  · omega
  · rename_i h
    rw [V_zero, Nat.sub_zero]
    have h1 := rgN_le 0 (V r) 0 r (V_ne h) (by omega) (by omega)
    have h2 := rgN_ge 0 (V r) 0 r (V_ne h) (by omega)
    omega
theorem fmul_mono (r s s' : Nat) (h : s ≤ s') : fmul r s ≤ fmul r s' := by
  by_cases h0 : r = 0 ∨ s = 0
  · have : fmul r s = 0 := by unfold fmul; rw [if_pos h0]
    rw [this]; exact Nat.zero_le _
  · have h0' : ¬ (r = 0 ∨ s' = 0) := by omega
    unfold fmul
    rw [if_neg h0, if_neg h0']
    have := rgN_mono 1074 (V r * V s) 0 (V r * V s') 0 (Nat.mul_ne_zero (V_ne (by omega)) (V_ne (by omega))) (Nat.mul_ne_zero (V_ne (by omega)) (V_ne (by omega)))
      (by rw [Nat.pow_zero, Nat.mul_one, Nat.mul_one]; exact Nat.mul_le_mul_left _ (V_le.2 h))
    omega

/-! ### minus nought -/
theorem add_nz_right (r : Nat) (hr : r < inf) : double.add r nz = double.add r 0 := by
  unfold Format.add
  rw [read_small r hr, read_nz, read_zero]
  simp [Datum.sum, Ieee.signed]
theorem add_inf_nz : double.add inf nz = some inf := by decide +kernel
/-- a sum with a word that is not negative -/
theorem add_nn (r z : Nat) (hr : r ≤ inf) (hz : z ≤ inf ∨ z = nz) : double.add r z = some (fadd r (rv z)) := by
  rcases hz with hz | rfl
  · rw [rv_small hz]; exact add_le r z hr hz
  · rw [rv_nz]
    by_cases h : r = inf
    · subst h; rw [add_inf_nz, fadd_zero inf (Nat.le_refl _)]
    · rw [add_nz_right r (by omega)]; exact add_le r 0 hr (Nat.zero_le _)
theorem sub_nz (r : Nat) (hr : r < inf) : double.sub r nz = double.add r 0 := by
  unfold Format.sub Format.add
  rw [read_small r hr, read_nz, read_zero]
  rfl
theorem sub_nn (r z : Nat) (hr : r < inf) (hz : z ≤ r ∨ z = nz) : double.sub r z = some (fsub r (rv z)) := by
  rcases hz with hz | rfl
  · rw [rv_small (by omega)]; exact sub_small r z hr hz
  · rw [rv_nz, sub_nz r hr, add_le r 0 (by omega) (Nat.zero_le _), fadd_zero r (by omega), fsub_zero r (by omega)]
theorem mul_nz (s : Nat) (hs : s < inf) : double.mul nz s = some nz := by
  unfold Format.mul
  rw [read_small s hs, read_nz]
  simp only [Datum.product, Nat.zero_mul, Option.map_some]
  show some (double.nearest true 0 _) = _
  rw [nearest_zero, word_true_zero]
/-- a product of a rate (finite, not negative) and a word -/
theorem mul_nn (x s : Nat) (hx : NN x) (hs : s < inf) : ∃ z, double.mul x s = some z ∧ (z ≤ inf ∨ z = nz) ∧ rv z = fmul (rv x) s := by
  rcases hx with hx | rfl
  · refine ⟨_, mul_small x s hx hs, .inl (fmul_le _ _), ?_⟩
    rw [rv_small (fmul_le _ _), rv_small (by omega)]
  · refine ⟨nz, mul_nz s hs, .inr rfl, ?_⟩
    rw [rv_nz]
    unfold fmul
    rw [if_pos (.inl rfl)]

/-! ### every word -/
theorem read_any (x : Nat) : double.read x = (if x % nz < inf then .number (x / nz % 2 == 1) (mant (x % nz)) ((expo (x % nz) : Int) - 1074)
    else if x % nz = inf then .infinity (x / nz % 2 == 1) else .nan (x / nz % 2 == 1) (x % nz - inf)) := by
  rw [read_eq]
  have hb : (2 : Nat) ^ 52 ≤ inf := by decide
  by_cases h1 : x % nz < inf
  · unfold mant expo
    by_cases h2 : x % nz < 2 ^ 52
    · simp only [h1, h2, if_true]; rfl
    · simp only [h2, if_false, h1, if_true]
      congr 1
  · rw [if_neg (by omega), if_neg h1, if_neg h1]

theorem lt_two (x : Nat) (h : x < 18446744073709551616) : x / nz = 0 ∧ x = x % nz ∨ x / nz = 1 ∧ x = nz + x % nz := by
  unfold nz
  omega

/-- finite? -/
def finW (x : Nat) : Bool := decide (x % nz < inf)
/-- finite and not negative? -/
def nnW (x : Nat) : Bool := decide (x < inf) || x == nz
theorem nnW_iff (x : Nat) : nnW x = true ↔ NN x := by simp [nnW, NN]

theorem sub_self (x : Nat) : double.sub x x = if finW x then some 0 else none := by
  unfold Format.sub finW
  rw [read_any]
  by_cases h1 : x % nz < inf
  · simp only [h1, if_true, decide_true]
    simp only [Datum.opposite, Datum.sum, Option.map_some]
    have hs : ∀ (b : Bool) (m k : Nat), Ieee.signed b m k + Ieee.signed (!b) m k = 0 := by
      intro b m k
      unfold Ieee.signed
      cases b <;> simp <;> omega
    rw [hs]
    simp only [if_true, Int.natAbs_zero]
    have : ((x / nz % 2 == 1) && !(x / nz % 2 == 1)) = false := by cases (x / nz % 2 == 1) <;> rfl
    rw [this]
    show some (double.nearest false 0 _) = _
    rw [nearest_zero, word_false]
  · simp only [h1, if_false, decide_false]
    by_cases h2 : x % nz = inf
    · simp only [h2, if_true, Datum.opposite, Datum.sum]
      cases (x / nz % 2 == 1) <;> simp
    · simp only [h2, if_false, Datum.opposite, Datum.sum]
      rfl

theorem order_self (x : Nat) : double.order x x = if x % nz ≤ inf then some .eq else none := by
  unfold Format.order
  rw [read_any]
  by_cases h1 : x % nz < inf
  · simp only [h1, if_true, show x % nz ≤ inf by omega]
    simp [Datum.order]
  · simp only [h1, if_false]
    by_cases h2 : x % nz = inf
    · simp [h2, Datum.order]
    · simp only [h2, if_false, show ¬ x % nz ≤ inf by omega]
      rfl

/-- a word against nought -/
theorem order_zero (x : Nat) (hx : x < 18446744073709551616) : double.order x 0 = (if x % nz > inf then none else if x % nz = 0 then some .eq else if x < nz then some .gt else some .lt) := by
  unfold Format.order
  rw [read_any, read_zero]
  rcases lt_two x hx with ⟨h0, hx0⟩ | ⟨h0, hx0⟩
  · have hxn : x < nz := by rw [hx0]; exact Nat.mod_lt _ (by decide)
    rw [h0]
    by_cases h1 : x % nz < inf
    · simp only [h1, if_true, show ¬ x % nz > inf by omega, if_false]
      by_cases hz : x % nz = 0
      · rw [hz]; simp [Datum.order, Ieee.signed, mant_zero]
      · have hm := mant_pos (r := x % nz) (by omega)
        simp only [hz, if_false, hxn, if_true, Datum.order, Ieee.signed, Nat.shiftLeft_eq]
        simp only [Nat.zero_mod, show (0 == 1) = false from rfl, Bool.false_eq_true, if_false]
        congr 1
        rw [compare_int]
        refine Nat.compare_eq_gt.2 ?_
        rw [Nat.zero_mul]
        exact Nat.mul_pos (by omega) (two_pos _)
    · simp only [h1, if_false]
      by_cases h2 : x % nz = inf
      · have h3 : ¬ inf = 0 := by decide
        simp only [h2, if_true, h3, if_false, Nat.lt_irrefl, gt_iff_lt, hxn]
        rfl
      · simp only [h2, if_false, show x % nz > inf by omega, if_true]
        rfl
  · have hxn : ¬ x < nz := by omega
    rw [h0]
    by_cases h1 : x % nz < inf
    · simp only [h1, if_true, show ¬ x % nz > inf by omega, if_false]
      by_cases hz : x % nz = 0
      · rw [hz]; simp [Datum.order, Ieee.signed, mant_zero]
      · have hm := mant_pos (r := x % nz) (by omega)
        simp only [hz, if_false, hxn, Datum.order, Ieee.signed, Nat.shiftLeft_eq]
        simp only [show (1 % 2 == 1) = true from rfl, Bool.false_eq_true, if_false, if_true]
        congr 1
        refine Int.compare_eq_lt.2 ?_
        rw [Nat.zero_mul]
        have hk : ∀ k : Nat, 0 < mant (x % nz) * 2 ^ k := fun k => Nat.mul_pos (by omega) (two_pos k)
        exact Int.neg_neg_of_pos (Int.natCast_pos.2 (hk _))
    · simp only [h1, if_false]
      by_cases h2 : x % nz = inf
      · have h3 : ¬ inf = 0 := by decide
        simp only [h2, if_true, h3, if_false, Nat.lt_irrefl, gt_iff_lt, hxn]
        rfl
      · simp only [h2, if_false, show x % nz > inf by omega, if_true]
        rfl

theorem ge_zero (x : Nat) (hx : x < 18446744073709551616) : (double.order x 0 == some .gt || double.order x 0 == some .eq) = (decide (x ≤ inf) || x == nz) := by
  rw [order_zero x hx]
  rcases lt_two x hx with ⟨h0, hx0⟩ | ⟨h0, hx0⟩
  · have hxn : x < nz := by rw [hx0]; exact Nat.mod_lt _ (by decide)
    rw [← hx0]
    have hne : (x == nz) = false := by rw [beq_eq_false_iff_ne]; omega
    rw [hne]
    by_cases h1 : x > inf
    · simp only [h1, if_true, show ¬ x ≤ inf by omega, decide_false]; rfl
    · simp only [h1, if_false, show x ≤ inf by omega, decide_true]
      by_cases hz : x = 0
      · simp [hz]
      · simp [hz, hxn]
  · have hxn : ¬ x < nz := by omega
    have hgt : ¬ x ≤ inf := by have := inf_lt_nz; omega
    rw [decide_eq_false hgt]
    by_cases h1 : x % nz > inf
    · have hne : (x == nz) = false := by
        rw [beq_eq_false_iff_ne]
        intro e
        rw [e] at h1
        simp at h1
      rw [hne]; simp [h1]
    · by_cases hz : x % nz = 0
      · have he : (x == nz) = true := by rw [beq_iff_eq]; omega
        rw [he]; simp [hz]
      · have hne : (x == nz) = false := by rw [beq_eq_false_iff_ne]; intro e; rw [e] at hz; simp at hz
        rw [hne]; simp [h1, hz, hxn]

theorem gt_zero (x : Nat) (hx : x < 18446744073709551616) : (double.order x 0 == some .gt) = (decide (0 < x) && decide (x ≤ inf)) := by
  rw [order_zero x hx]
  rcases lt_two x hx with ⟨h0, hx0⟩ | ⟨h0, hx0⟩
  · have hxn : x < nz := by rw [hx0]; exact Nat.mod_lt _ (by decide)
    rw [← hx0]
    by_cases h1 : x > inf
    · simp only [h1, if_true, show ¬ x ≤ inf by omega, decide_false]; simp
    · simp only [h1, if_false, show x ≤ inf by omega, decide_true]
      by_cases hz : x = 0
      · simp [hz]
      · simp [hz, hxn]; omega
  · have hxn : ¬ x < nz := by omega
    have hgt : ¬ x ≤ inf := by have := inf_lt_nz; omega
    rw [decide_eq_false hgt]
    by_cases h1 : x % nz > inf
    · simp [h1]
    · by_cases hz : x % nz = 0
      · simp [hz]
      · simp [h1, hz, hxn]

/-- 'x > MaxFloat64' -/
theorem gt_max (y : Nat) (hy : y < nz) : (double.order y 9218868437227405311 == some .gt) = decide (y = inf) := by
  have hm : (9218868437227405311 : Nat) < inf := by decide
  by_cases h1 : y ≤ inf
  · rw [order_nn y 9218868437227405311 (.inl h1) (.inl (by omega)), rv_small h1, rv_small (by omega)]
    by_cases h2 : y = inf
    · subst h2
      rw [Nat.compare_eq_gt.2 hm]
      simp
    · have : y ≤ 9218868437227405311 := by unfold inf at h1 h2; omega
      rcases Nat.lt_or_eq_of_le this with h3 | h3
      · rw [Nat.compare_eq_lt.2 h3]; simp [h2]
      · rw [Nat.compare_eq_eq.2 h3]; simp [h2]
  · unfold Format.order
    rw [read_any, Nat.mod_eq_of_lt hy, if_neg (by omega), if_neg (by omega)]
    have h2 : ¬ y = inf := by omega
    simp [Datum.order, h2]

/-! ### whole numbers -/
def i2r (n : Nat) : Nat := if n = 0 then 0 else min (rgN 0 n 1074) inf
theorem floatOfInt_nat (n : Nat) : floatOfInt .f64 (n : Int) = i2r n := by
  have hneg : decide ((n : Int) < 0) = false := by simp
  show double.nearest (decide ((n : Int) < 0)) ((n : Int).natAbs) 0 = _
  rw [hneg, Int.natAbs_natCast]
  unfold i2r
  by_cases h : n = 0
  · rw [if_pos h, h, nearest_zero, word_false]
  · rw [if_neg h, nearest_eq false n 0 0 h (by omega), word_false, inf_eq]
    rfl
theorem i2r_mono {m n : Nat} (h : m ≤ n) : i2r m ≤ i2r n := by
  unfold i2r
  by_cases h0 : m = 0
  · rw [if_pos h0]; exact Nat.zero_le _
  · rw [if_neg h0, if_neg (by omega)]
    have := rgN_mono 0 m 1074 n 1074 h0 (by omega) (Nat.mul_le_mul_right _ h)
    omega
theorem i2r_le (n : Nat) : i2r n ≤ inf := by unfold i2r; split; exact Nat.zero_le _; exact min_le_inf _

end Go.Proofs.YthfgjibhpenfkaaDoor.Fl
