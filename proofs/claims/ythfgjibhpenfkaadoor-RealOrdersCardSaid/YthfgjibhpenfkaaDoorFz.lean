/- The texts Fl, Flw, Flx in one. -/
import Ieee.Arith
import GoSem.Core.Float
import Derived.Laws.FloatArith
/- Floats: rounding to nearest rises with the number rounded, and leaves what the format has as it is. No program in sight. -/
namespace Go.Proofs.YthfgjibhpenfkaaDoor.Fl
open Ieee

theorem two_pos (k : Nat) : 0 < 2 ^ k := Nat.two_pow_pos k

/-! ### cut, halves to even -/
theorem cut_gap (neg : Bool) (n d : Nat) (h : d ≤ n.log2 + 2) : Toward.even.cut neg n d = n / 2 ^ d + (decide (2 ^ d < 2 * (n % 2 ^ d)) || (2 ^ d == 2 * (n % 2 ^ d) && n / 2 ^ d % 2 == 1)).toNat := by
  unfold Toward.cut
  rw [Nat.min_eq_left h, Nat.one_shiftLeft]

theorem cut_far (neg : Bool) (n d : Nat) (h : n.log2 + 2 < d) : Toward.even.cut neg n d = 0 := by
  unfold Toward.cut
  rw [Nat.min_eq_right (Nat.le_of_lt h), Nat.one_shiftLeft]
  have hl : n < 2 ^ (n.log2 + 1) := Nat.lt_log2_self
  have h2 : 2 ^ (n.log2 + 2) = 2 * 2 ^ (n.log2 + 1) := by rw [Nat.pow_succ 2 (n.log2 + 1), Nat.mul_comm]
  have hlow : n / 2 ^ (n.log2 + 2) = 0 := Nat.div_eq_of_lt (by omega)
  have hrest : n % 2 ^ (n.log2 + 2) = n := Nat.mod_eq_of_lt (by omega)
  simp only [hlow, hrest]
  have h3 : ¬ 2 ^ (n.log2 + 2) < 2 * n := by omega
  have h4 : (2 ^ (n.log2 + 2) == 2 * n) = false := by rw [beq_eq_false_iff_ne]; omega
  simp [h3, h4]

theorem cut_aux (n g q r k : Nat) (hn : g * q + r = n) (hr : r < g) :
    q + (decide (g < 2 * r) || (g == 2 * r && q % 2 == 1)).toNat ≤ k ↔ (2 * n < (2 * k + 1) * g ∨ (2 * n = (2 * k + 1) * g ∧ k % 2 = 0)) := by
  have e2 : (2 * k + 1) * g = 2 * (g * k) + g := by rw [Nat.add_mul, Nat.mul_assoc, Nat.one_mul, Nat.mul_comm k g]
  rw [e2]
  rcases Nat.lt_trichotomy q k with hlt | heq | hgt
  · have : g * q + g ≤ g * k := by rw [← Nat.mul_succ]; exact Nat.mul_le_mul_left g hlt
    have hb : (decide (g < 2 * r) || (g == 2 * r && q % 2 == 1)).toNat ≤ 1 := Bool.toNat_le _
    constructor
    · intro _; left; omega
    · intro _; omega
  · subst heq
    by_cases c1 : g < 2 * r
    · rw [decide_eq_true c1, Bool.true_or, Bool.toNat_true]
      omega
    · rw [decide_eq_false c1, Bool.false_or]
      by_cases c2 : g = 2 * r
      · rw [beq_iff_eq.2 c2, Bool.true_and]
        by_cases c3 : q % 2 = 1
        · rw [beq_iff_eq.2 c3, Bool.toNat_true]; omega
        · rw [beq_eq_false_iff_ne.2 c3, Bool.toNat_false]; omega
      · rw [beq_eq_false_iff_ne.2 c2, Bool.false_and, Bool.toNat_false]; omega
  · have : g * k + g ≤ g * q := by rw [← Nat.mul_succ]; exact Nat.mul_le_mul_left g hgt
    constructor
    · intro h2; omega
    · intro h2; omega

/-- what comes of cutting is at most k just where twice the number is below 2k+1 places, or there, and k is even -/
theorem cut_le (neg : Bool) (n d k : Nat) : Toward.even.cut neg n d ≤ k ↔ (2 * n < (2 * k + 1) * 2 ^ d ∨ (2 * n = (2 * k + 1) * 2 ^ d ∧ k % 2 = 0)) := by
  by_cases h : d ≤ n.log2 + 2
  · rw [cut_gap neg n d h]
    exact cut_aux n (2 ^ d) _ _ k (Nat.div_add_mod n _) (Nat.mod_lt n (two_pos d))
  · rw [cut_far neg n d (by omega)]
    have hl : n < 2 ^ (n.log2 + 1) := Nat.lt_log2_self
    have h2 : 2 ^ (n.log2 + 1) ≤ 2 ^ (d - 1) := Nat.pow_le_pow_right (by decide) (by omega)
    have h3 : 2 ^ d = 2 * 2 ^ (d - 1) := by
      rw [← Nat.pow_succ']
      congr 1
      omega
    have h4 : 2 ^ d ≤ (2 * k + 1) * 2 ^ d := Nat.le_mul_of_pos_left _ (by omega)
    constructor
    · intro _; left; omega
    · intro _; omega

theorem cut_zero (neg : Bool) (n : Nat) : Toward.even.cut neg n 0 = n := by
  have h1 := (cut_le neg n 0 n).2 (.inl (by omega))
  by_cases h : Toward.even.cut neg n 0 = n
  · exact h
  · have h2 := (cut_le neg n 0 (n - 1)).1 (by omega)
    by_cases h0 : n = 0
    · omega
    · rcases h2 with h2 | ⟨h2, _⟩ <;> (simp at h2; omega)

theorem cut_mono (neg neg' : Bool) (n d n' d' : Nat) (h : n * 2 ^ d' ≤ n' * 2 ^ d) : Toward.even.cut neg n d ≤ Toward.even.cut neg' n' d' := by
  obtain ⟨k, hk⟩ : ∃ k, k = Toward.even.cut neg' n' d' := ⟨_, rfl⟩
  have h1 := (cut_le neg' n' d' k).1 (by omega)
  rw [← hk]
  rw [cut_le]
  have p := two_pos d
  have p' := two_pos d'
  obtain ⟨g, hg⟩ : ∃ g, g = 2 ^ d := ⟨_, rfl⟩
  obtain ⟨g', hg'⟩ : ∃ g', g' = 2 ^ d' := ⟨_, rfl⟩
  rw [← hg] at h p ⊢
  rw [← hg'] at h h1 p'
  have hle : 2 * n * g' ≤ 2 * n' * g := by rw [Nat.mul_assoc, Nat.mul_assoc]; omega
  have hx : (2 * k + 1) * g' * g = (2 * k + 1) * g * g' := by rw [Nat.mul_assoc, Nat.mul_comm g' g, ← Nat.mul_assoc]
  rcases h1 with h1 | ⟨h1, h2⟩
  · left
    have : 2 * n' * g < (2 * k + 1) * g' * g := Nat.mul_lt_mul_of_pos_right h1 p
    have h3 : 2 * n * g' < (2 * k + 1) * g * g' := by rw [← hx]; omega
    exact Nat.lt_of_mul_lt_mul_right h3
  · have : 2 * n' * g = (2 * k + 1) * g' * g := by rw [h1]
    have h3 : 2 * n * g' ≤ (2 * k + 1) * g * g' := by rw [← hx]; omega
    have h4 := Nat.le_of_mul_le_mul_right h3 p'
    by_cases h5 : 2 * n = (2 * k + 1) * g
    · exact .inr ⟨h5, h2⟩
    · left; omega


/-! ### rungs of binary64 -/
/-- the place of the last digit kept, and the rung, of m * 2^a, places counted from β below the least one -/
def lastN (β m a : Nat) : Nat := max (a + m.log2 - 52) β
def rgN (β m a : Nat) : Nat := (lastN β m a - β) * 2 ^ 52 + Toward.even.cut false (m * 2 ^ (a - lastN β m a)) (lastN β m a - a)

theorem nearest_eq (neg : Bool) (m : Nat) (i : Int) (β : Nat) (hm : m ≠ 0) (hi : -(1074 + (β : Int)) ≤ i) :
    double.nearest neg m i = double.word neg (min (rgN β m (i + (1074 + (β : Int))).toNat) double.infRung) := by
  obtain ⟨a, ha⟩ : ∃ a : Nat, (a : Int) = i + (1074 + (β : Int)) := ⟨(i + (1074 + (β : Int))).toNat, by omega⟩
  have ha' : (i + (1074 + (β : Int))).toNat = a := by omega
  have hL : max (i + (m.log2 : Int) - (double.fractionBits : Int)) double.leastPlace = (lastN β m a : Int) - (1074 + (β : Int)) := by
    have h1 : (double.fractionBits : Int) = 52 := rfl
    have h2 : double.leastPlace = -1074 := by decide
    rw [h1, h2]
    unfold lastN
    omega
  have hb : double.binade = 2 ^ 52 := rfl
  have h2 : double.leastPlace = -1074 := by decide
  unfold Format.nearest
  rw [if_neg hm, ha']
  simp only [hL]
  simp only [h2, hb]
  have e1 : (i - ((lastN β m a : Int) - (1074 + (β : Int)))).toNat = a - lastN β m a := by omega
  have e2 : ((lastN β m a : Int) - (1074 + (β : Int)) - i).toNat = lastN β m a - a := by omega
  have e3 : ((lastN β m a : Int) - (1074 + (β : Int)) - -1074).toNat = lastN β m a - β := by omega
  rw [e1, e2, e3, Nat.shiftLeft_eq]
  rfl

theorem log2_le (m : Nat) (h : m ≠ 0) : 2 ^ m.log2 ≤ m := Nat.log2_self_le h
theorem lt_log2 (m : Nat) : m < 2 ^ (m.log2 + 1) := Nat.lt_log2_self

theorem p52 : (2 : Nat) ^ 52 = 4503599627370496 := rfl
theorem gx_lin (A g x y : Nat) (hp : 0 < g) (h : 2 * y = A + g) (h5 : y ≤ x) (h6 : 2 * x < A ∨ 2 * x = A) : False := by omega
theorem gx_absurd (K g x : Nat) (hp : 0 < g) (h5 : (K + 1) * g ≤ x) (h6 : 2 * x < (2 * K + 1) * g ∨ 2 * x = (2 * K + 1) * g) : False := by
  refine gx_lin ((2 * K + 1) * g) g x ((K + 1) * g) hp ?_ h5 h6
  rw [← Nat.succ_mul, ← Nat.mul_assoc]
  congr 1
theorem kept_aux (n d : Nat) (neg : Bool) (hp : 0 < 2 ^ d) (h5 : (4503599627370495 + 1) * 2 ^ d ≤ n) : 2 ^ 52 ≤ Toward.even.cut neg n d := by
  rw [p52]
  by_cases hc : 4503599627370496 ≤ Toward.even.cut neg n d
  · exact hc
  · have h6 := (cut_le neg n d 4503599627370495).1 (by omega)
    exact (gx_absurd 4503599627370495 _ n hp h5 (h6.imp id And.left)).elim
theorem shift_eq (m a l : Nat) : m * 2 ^ (a - l) * 2 ^ l = m * 2 ^ a * 2 ^ (l - a) := by
  by_cases h : l ≤ a
  · rw [show l - a = 0 by omega, Nat.pow_zero, Nat.mul_one, Nat.mul_assoc, ← Nat.pow_add]
    congr 2
    omega
  · rw [show a - l = 0 by omega, Nat.pow_zero, Nat.mul_one, Nat.mul_assoc, ← Nat.pow_add]
    congr 2
    omega

theorem pow_lt_of {a b : Nat} (h : 2 ^ a < 2 ^ b) : a < b := (Nat.pow_lt_pow_iff_right (by decide)).1 h

theorem kept_le (β m a : Nat) (_hm : m ≠ 0) : Toward.even.cut false (m * 2 ^ (a - lastN β m a)) (lastN β m a - a) ≤ 2 ^ 53 := by
  rw [cut_le]
  left
  obtain ⟨l, hl⟩ : ∃ l, l = lastN β m a := ⟨_, rfl⟩
  rw [← hl]
  have hlb : a + m.log2 + 1 ≤ l + 53 := by rw [hl]; unfold lastN; omega
  have h1 : m * 2 ^ a < 2 ^ (m.log2 + 1) * 2 ^ a := Nat.mul_lt_mul_of_pos_right (lt_log2 m) (two_pos a)
  rw [← Nat.pow_add] at h1
  have h2 : 2 ^ (m.log2 + 1 + a) ≤ 2 ^ (l + 53) := Nat.pow_le_pow_right (by decide) (by omega)
  have h5 : m * 2 ^ (a - l) < 2 ^ 53 * 2 ^ (l - a) := by
    refine Nat.lt_of_mul_lt_mul_right (a := 2 ^ l) ?_
    rw [shift_eq, Nat.mul_right_comm (2 ^ 53) (2 ^ (l - a)) (2 ^ l), ← Nat.pow_add 2 53 l, Nat.add_comm 53 l]
    exact Nat.mul_lt_mul_of_pos_right (by omega) (two_pos _)
  have h6 : (2 * 2 ^ 53 + 1) * 2 ^ (l - a) = 2 * (2 ^ 53 * 2 ^ (l - a)) + 2 ^ (l - a) := by rw [Nat.add_mul, Nat.one_mul, Nat.mul_assoc]
  omega

theorem kept_ge (β m a : Nat) (hm : m ≠ 0) (hl : β < lastN β m a) : 2 ^ 52 ≤ Toward.even.cut false (m * 2 ^ (a - lastN β m a)) (lastN β m a - a) := by
  obtain ⟨l, hl'⟩ : ∃ l, l = lastN β m a := ⟨_, rfl⟩
  rw [← hl'] at hl ⊢
  have hlb : a + m.log2 = l + 52 := by rw [hl'] at hl ⊢; unfold lastN at hl ⊢; omega
  have h1 : 2 ^ m.log2 * 2 ^ a ≤ m * 2 ^ a := Nat.mul_le_mul_right _ (log2_le m hm)
  rw [← Nat.pow_add] at h1
  have h3 := shift_eq m a l
  have h4 : 2 ^ (l + 52) * 2 ^ (l - a) ≤ m * 2 ^ a * 2 ^ (l - a) := Nat.mul_le_mul_right _ (by rw [← hlb, Nat.add_comm]; exact h1)
  rw [← h3] at h4
  have h5 : 2 ^ 52 * 2 ^ (l - a) ≤ m * 2 ^ (a - l) := by
    refine Nat.le_of_mul_le_mul_right (c := 2 ^ l) ?_ (two_pos l)
    rw [Nat.mul_right_comm (2 ^ 52) (2 ^ (l - a)) (2 ^ l), ← Nat.pow_add 2 52 l, Nat.add_comm 52 l]
    exact h4
  exact kept_aux _ _ _ (two_pos _) (by rw [p52] at h5; exact h5)

/-- rounding rises -/
theorem rgN_mono (β m a m' a' : Nat) (hm : m ≠ 0) (hm' : m' ≠ 0) (h : m * 2 ^ a ≤ m' * 2 ^ a') : rgN β m a ≤ rgN β m' a' := by
  have hlog : a + m.log2 ≤ a' + m'.log2 := by
    have h1 : 2 ^ m.log2 * 2 ^ a ≤ m * 2 ^ a := Nat.mul_le_mul_right _ (log2_le m hm)
    have h2 : m' * 2 ^ a' < 2 ^ (m'.log2 + 1) * 2 ^ a' := Nat.mul_lt_mul_of_pos_right (lt_log2 m') (two_pos a')
    rw [← Nat.pow_add] at h1 h2
    have := pow_lt_of (Nat.lt_of_le_of_lt (Nat.le_trans h1 h) h2)
    omega
  have hl : lastN β m a ≤ lastN β m' a' := by unfold lastN; omega
  have hlb : β ≤ lastN β m a := by unfold lastN; omega
  by_cases he : lastN β m a = lastN β m' a'
  · unfold rgN
    rw [← he]
    have : Toward.even.cut false (m * 2 ^ (a - lastN β m a)) (lastN β m a - a) ≤ Toward.even.cut false (m' * 2 ^ (a' - lastN β m a)) (lastN β m a - a') := by
      refine cut_mono _ _ _ _ _ _ ?_
      obtain ⟨l, hl'⟩ : ∃ l, l = lastN β m a := ⟨_, rfl⟩
      rw [← hl']
      refine Nat.le_of_mul_le_mul_right (c := 2 ^ l) ?_ (two_pos l)
      rw [Nat.mul_right_comm, shift_eq, Nat.mul_right_comm _ (2 ^ (l - a)) (2 ^ l), shift_eq, Nat.mul_right_comm _ (2 ^ (l - a')) (2 ^ (l - a))]
      exact Nat.mul_le_mul_right _ (Nat.mul_le_mul_right _ h)
    omega
  · have k1 := kept_le β m a hm
    have k2 := kept_ge β m' a' hm' (by omega)
    unfold rgN
    have h3 : (lastN β m a - β) * 2 ^ 52 + 2 ^ 52 ≤ (lastN β m' a' - β) * 2 ^ 52 := by
      rw [← Nat.succ_mul]
      exact Nat.mul_le_mul_right _ (by omega)
    omega

/-- the value of a rung, in units of the least place -/
def V (r : Nat) : Nat := if r < 2 ^ 52 then r else (2 ^ 52 + r % 2 ^ 52) * 2 ^ (r / 2 ^ 52 - 1)

theorem V_succ (r : Nat) : V r < V (r + 1) := by
  unfold V
  by_cases h1 : r + 1 < 2 ^ 52
  · rw [if_pos (by omega), if_pos h1]; omega
  · by_cases h2 : r < 2 ^ 52
    · rw [if_pos h2, if_neg h1]
      have : r + 1 = 2 ^ 52 := by omega
      rw [this]
      simp
      omega
    · rw [if_neg h2, if_neg h1]
      by_cases h3 : r % 2 ^ 52 + 1 < 2 ^ 52
      · have e1 : (r + 1) / 2 ^ 52 = r / 2 ^ 52 := by omega
        have e2 : (r + 1) % 2 ^ 52 = r % 2 ^ 52 + 1 := by omega
        rw [e1, e2]
        exact Nat.mul_lt_mul_of_pos_right (by omega) (two_pos _)
      · have e1 : (r + 1) / 2 ^ 52 = r / 2 ^ 52 + 1 := by omega
        have e2 : (r + 1) % 2 ^ 52 = 0 := by omega
        have e3 : r % 2 ^ 52 = 2 ^ 52 - 1 := by omega
        rw [e1, e2, e3]
        have e4 : r / 2 ^ 52 + 1 - 1 = (r / 2 ^ 52 - 1) + 1 := by omega
        rw [e4]
        generalize r / 2 ^ 52 - 1 = q
        rw [show 2 ^ (q + 1) = 2 * 2 ^ q from by rw [Nat.pow_succ, Nat.mul_comm], ← Nat.mul_assoc]
        exact Nat.mul_lt_mul_of_pos_right (by omega) (two_pos _)

theorem V_lt {r s : Nat} (h : r < s) : V r < V s := by
  induction s with
  | zero => omega
  | succ s ih =>
    have := V_succ s
    by_cases he : r = s
    · subst he; exact this
    · have := ih (by omega); omega
theorem V_le {r s : Nat} : V r ≤ V s ↔ r ≤ s := by
  constructor
  · intro h
    by_cases hc : r ≤ s
    · exact hc
    · have := V_lt (r := s) (s := r) (by omega); omega
  · intro h
    by_cases he : r = s
    · subst he; exact Nat.le_refl _
    · exact Nat.le_of_lt (V_lt (by omega))
theorem V_zero : V 0 = 0 := rfl
theorem V_pos {r : Nat} (h : 0 < r) : 0 < V r := by have := V_lt h; rw [V_zero] at this; exact this

/-- the number of a rung, as a mantissa and a place above the least one -/
def mant (r : Nat) : Nat := if r < 2 ^ 52 then r else 2 ^ 52 + r % 2 ^ 52
def expo (r : Nat) : Nat := if r < 2 ^ 52 then 0 else r / 2 ^ 52 - 1
theorem V_eq (r : Nat) : V r = mant r * 2 ^ expo r := by
  unfold V mant expo
  split <;> simp

theorem rgN_self (β r : Nat) (hr : 0 < r) : rgN β (mant r) (β + expo r) = r := by
  unfold rgN mant expo
  by_cases h : r < 2 ^ 52
  · rw [if_pos h, if_pos h]
    have hl : r.log2 < 52 := (Nat.log2_lt (by omega)).2 h
    have hL : lastN β r (β + 0) = β := by unfold lastN; omega
    rw [hL]
    simp [cut_zero]
  · rw [if_neg h, if_neg h]
    have hl : (2 ^ 52 + r % 2 ^ 52).log2 = 52 := by
      have h1 : 52 ≤ (2 ^ 52 + r % 2 ^ 52).log2 := (Nat.le_log2 (by omega)).2 (by omega)
      have h2 : (2 ^ 52 + r % 2 ^ 52).log2 < 53 := (Nat.log2_lt (by omega)).2 (by omega)
      omega
    have hL : lastN β (2 ^ 52 + r % 2 ^ 52) (β + (r / 2 ^ 52 - 1)) = β + (r / 2 ^ 52 - 1) := by unfold lastN; omega
    rw [hL]
    simp only [Nat.sub_self, Nat.pow_zero, Nat.mul_one, cut_zero]
    have : β + (r / 2 ^ 52 - 1) - β = r / 2 ^ 52 - 1 := by omega
    rw [this]
    omega

theorem mant_pos {r : Nat} (h : 0 < r) : mant r ≠ 0 := by unfold mant; split <;> omega

/-- what is at most a rung's number is rounded to at most that rung; what is at least it, to at least it -/
theorem rgN_le (β m a r : Nat) (hm : m ≠ 0) (hr : 0 < r) (h : m * 2 ^ a ≤ V r * 2 ^ β) : rgN β m a ≤ r := by
  have := rgN_mono β m a (mant r) (β + expo r) hm (mant_pos hr) (by rw [Nat.add_comm β, Nat.pow_add, ← Nat.mul_assoc, ← V_eq]; exact h)
  rwa [rgN_self β r hr] at this
theorem rgN_ge (β m a r : Nat) (hm : m ≠ 0) (h : V r * 2 ^ β ≤ m * 2 ^ a) : r ≤ rgN β m a := by
  by_cases hr : 0 < r
  · have := rgN_mono β (mant r) (β + expo r) m a (mant_pos hr) hm (by rw [Nat.add_comm β, Nat.pow_add, ← Nat.mul_assoc, ← V_eq]; exact h)
    rwa [rgN_self β r hr] at this
  · omega

end Go.Proofs.YthfgjibhpenfkaaDoor.Fl
/- Words of binary64 that are not negative: their sums, differences, products, order. No program in sight. -/
namespace Go.Proofs.YthfgjibhpenfkaaDoor.Fl
open Ieee

/-- the word of infinity, of -0 -/
def inf : Nat := 9218868437227405312
def nz : Nat := 9223372036854775808
theorem inf_eq : double.infRung = inf := rfl
theorem nz_eq : double.signWeight = nz := rfl
theorem bin_eq : double.binade = 2 ^ 52 := rfl
theorem least_eq : double.leastPlace = -1074 := by decide
theorem inf_lt_nz : inf < nz := by decide
theorem inf_val : inf = 9218868437227405312 := rfl
theorem nz_val : nz = 9223372036854775808 := rfl

theorem read_eq (x : Nat) : double.read x = (if x % nz < 2 ^ 52 then Datum.number (x / nz % 2 == 1) (x % nz) (-1074)
    else if x % nz < inf then .number (x / nz % 2 == 1) (2 ^ 52 + x % nz % 2 ^ 52) (-1074 + ((x % nz / 2 ^ 52 - 1 : Nat) : Int))
    else if x % nz = inf then .infinity (x / nz % 2 == 1) else .nan (x / nz % 2 == 1) (x % nz - inf)) := rfl
theorem read_small (x : Nat) (h : x < inf) : double.read x = .number false (mant x) ((expo x : Int) - 1074) := by
  have h1 : x < nz := Nat.lt_trans h inf_lt_nz
  have e1 : x / nz = 0 := Nat.div_eq_of_lt h1
  have e2 : x % nz = x := Nat.mod_eq_of_lt h1
  rw [read_eq, e1, e2]
  unfold mant expo
  by_cases hs : x < 2 ^ 52
  · simp [hs]
  · simp only [hs, if_false, h, if_true]
    congr 1

theorem read_inf : double.read inf = .infinity false := by decide +kernel
theorem read_nz : double.read nz = .number true 0 (-1074) := by decide +kernel
theorem read_zero : double.read 0 = .number false 0 (-1074) := by decide +kernel

theorem mant_zero : mant 0 = 0 := rfl
theorem expo_zero : expo 0 = 0 := rfl

/-! ### order -/
theorem cmp_V (r s : Nat) : compare (V r) (V s) = compare r s := by
  rcases Nat.lt_trichotomy r s with h | h | h
  · rw [Nat.compare_eq_lt.2 h, Nat.compare_eq_lt.2 (V_lt h)]
  · subst h; rw [Nat.compare_eq_eq.2 rfl, Nat.compare_eq_eq.2 rfl]
  · rw [Nat.compare_eq_gt.2 h, Nat.compare_eq_gt.2 (V_lt h)]

theorem V_inf_pos (r : Nat) (h : r < inf) : V r < V inf := V_lt h

theorem signed_shift (m e : Nat) (b : Int) (hb : b ≤ (e : Int) - 1074) (hb' : -1074 ≤ b) : (m <<< ((e : Int) - 1074 - b).toNat) * 2 ^ (b + 1074).toNat = m * 2 ^ e := by
  rw [Nat.shiftLeft_eq, Nat.mul_assoc, ← Nat.pow_add]
  congr 2
  omega

theorem compare_mul (a b c : Nat) (h : 0 < c) : compare (a * c) (b * c) = compare a b := by
  rcases Nat.lt_trichotomy a b with hl | hl | hl
  · rw [Nat.compare_eq_lt.2 hl, Nat.compare_eq_lt.2 (Nat.mul_lt_mul_of_pos_right hl h)]
  · subst hl; rw [Nat.compare_eq_eq.2 rfl, Nat.compare_eq_eq.2 rfl]
  · rw [Nat.compare_eq_gt.2 hl, Nat.compare_eq_gt.2 (Nat.mul_lt_mul_of_pos_right hl h)]

theorem compare_int (a b : Nat) : compare (a : Int) (b : Int) = compare a b := by
  rcases Nat.lt_trichotomy a b with hl | hl | hl
  · rw [Nat.compare_eq_lt.2 hl, Int.compare_eq_lt.2 (by omega)]
  · subst hl; rw [Nat.compare_eq_eq.2 rfl, Int.compare_eq_eq.2 rfl]
  · rw [Nat.compare_eq_gt.2 hl, Int.compare_eq_gt.2 (by omega)]

/-- not negative words: what stands for them in the order -/
def rv (x : Nat) : Nat := if x = nz then 0 else x
/-- finite and not negative, a minus nought too -/
def NN (x : Nat) : Prop := x < inf ∨ x = nz
theorem rv_small {x : Nat} (h : x ≤ inf) : rv x = x := by unfold rv; rw [if_neg (by have := inf_lt_nz; omega)]
theorem rv_nz : rv nz = 0 := by unfold rv; rw [if_pos rfl]

theorem order_small (x y : Nat) (hx : x < inf) (hy : y < inf) : double.order x y = some (compare x y) := by
  unfold Format.order
  rw [read_small x hx, read_small y hy]
  simp only [Datum.order, Ieee.signed]
  obtain ⟨b, hb⟩ : ∃ b : Int, b = min ((expo x : Int) - 1074) ((expo y : Int) - 1074) := ⟨_, rfl⟩
  rw [← hb]
  have h1 := signed_shift (mant x) (expo x) b (by omega) (by omega)
  have h2 := signed_shift (mant y) (expo y) b (by omega) (by omega)
  congr 1
  simp only [Bool.false_eq_true, if_false]
  rw [compare_int, ← compare_mul _ _ _ (two_pos (b + 1074).toNat), h1, h2, ← V_eq, ← V_eq, cmp_V]

theorem order_inf_right (x : Nat) (hx : x < inf) : double.order x inf = some .lt := by
  unfold Format.order
  rw [read_small x hx, read_inf]
  rfl
theorem order_inf_left (x : Nat) (hx : x < inf) : double.order inf x = some .gt := by
  unfold Format.order
  rw [read_small x hx, read_inf]
  rfl
theorem order_inf_inf : double.order inf inf = some .eq := by decide +kernel

theorem order_nz_left (y : Nat) (hy : y < inf) : double.order nz y = double.order 0 y := by
  unfold Format.order
  rw [read_small y hy, read_nz, read_zero]
  simp [Datum.order, Ieee.signed]
theorem order_nz_right (y : Nat) (hy : y < inf) : double.order y nz = double.order y 0 := by
  unfold Format.order
  rw [read_small y hy, read_nz, read_zero]
  simp [Datum.order, Ieee.signed]
theorem order_nz_nz : double.order nz nz = some .eq := by decide +kernel
theorem order_nz_inf : double.order nz inf = some .lt := by decide +kernel
theorem order_inf_nz : double.order inf nz = some .gt := by decide +kernel

/-- the order of words that are not negative (infinity too) -/
theorem order_nn (x y : Nat) (hx : x ≤ inf ∨ x = nz) (hy : y ≤ inf ∨ y = nz) : double.order x y = some (compare (rv x) (rv y)) := by
  have h0 : (0 : Nat) < inf := by decide
  have hc : ∀ a, a < inf → compare a inf = .lt := fun a h => Nat.compare_eq_lt.2 h
  have hd : ∀ a, a < inf → compare inf a = .gt := fun a h => Nat.compare_eq_gt.2 h
  rcases hx with hx | rfl
  · rw [rv_small hx]
    rcases hy with hy | rfl
    · rw [rv_small hy]
      by_cases h1 : x = inf
      · subst h1
        by_cases h2 : y = inf
        · subst h2; rw [order_inf_inf, Nat.compare_eq_eq.2 rfl]
        · rw [order_inf_left y (by omega), hd y (by omega)]
      · by_cases h2 : y = inf
        · subst h2; rw [order_inf_right x (by omega), hc x (by omega)]
        · exact order_small x y (by omega) (by omega)
    · rw [rv_nz]
      by_cases h1 : x = inf
      · subst h1; rw [order_inf_nz, hd 0 h0]
      · rw [order_nz_right x (by omega)]; exact order_small x 0 (by omega) h0
  · rw [rv_nz]
    rcases hy with hy | rfl
    · rw [rv_small hy]
      by_cases h2 : y = inf
      · subst h2; rw [order_nz_inf, hc 0 h0]
      · rw [order_nz_left y (by omega)]; exact order_small 0 y h0 (by omega)
    · rw [rv_nz, order_nz_nz, Nat.compare_eq_eq.2 rfl]

/-! ### sums, differences, products -/
def fadd (r s : Nat) : Nat := if r = inf ∨ s = inf then inf else if r = 0 ∧ s = 0 then 0 else min (rgN 0 (V r + V s) 0) inf
def fsub (r s : Nat) : Nat := if r = s then 0 else min (rgN 0 (V r - V s) 0) inf
def fmul (r s : Nat) : Nat := if r = 0 ∨ s = 0 then 0 else min (rgN 1074 (V r * V s) 0) inf

theorem rgN_congr (β m a m' a' : Nat) (hm : m ≠ 0) (hm' : m' ≠ 0) (h : m * 2 ^ a = m' * 2 ^ a') : rgN β m a = rgN β m' a' :=
  Nat.le_antisymm (rgN_mono β m a m' a' hm hm' (Nat.le_of_eq h)) (rgN_mono β m' a' m a hm' hm (Nat.le_of_eq h.symm))

theorem word_false (n : Nat) : double.word false n = n := rfl
theorem word_true_zero : double.word true 0 = nz := by decide +kernel
theorem nearest_zero (neg : Bool) (i : Int) : double.nearest neg 0 i = double.word neg 0 := by unfold Format.nearest; rw [if_pos rfl]

theorem V_ne {r : Nat} (h : r ≠ 0) : V r ≠ 0 := by have := V_pos (r := r) (by omega); omega

theorem add_small (r s : Nat) (hr : r < inf) (hs : s < inf) : double.add r s = some (fadd r s) := by
  unfold Format.add
  rw [read_small r hr, read_small s hs]
  simp only [Datum.sum, Ieee.signed, Bool.false_eq_true, if_false, Bool.and_false, Option.map_some]
  obtain ⟨b, hb⟩ : ∃ b : Int, b = min ((expo r : Int) - 1074) ((expo s : Int) - 1074) := ⟨_, rfl⟩
  rw [← hb]
  have h1 := signed_shift (mant r) (expo r) b (by omega) (by omega)
  have h2 := signed_shift (mant s) (expo s) b (by omega) (by omega)
  obtain ⟨p, hp⟩ : ∃ p, p = mant r <<< ((expo r : Int) - 1074 - b).toNat := ⟨_, rfl⟩
  obtain ⟨q, hq⟩ : ∃ q, q = mant s <<< ((expo s : Int) - 1074 - b).toNat := ⟨_, rfl⟩
  rw [← hp] at h1 ⊢
  rw [← hq] at h2 ⊢
  have hneg : (if (p : Int) + (q : Int) = 0 then false else decide ((p : Int) + (q : Int) < 0)) = false := by
    split
    · rfl
    · simp; omega
  have habs : ((p : Int) + (q : Int)).natAbs = p + q := by omega
  rw [hneg, habs]
  have hsum : (p + q) * 2 ^ (b + 1074).toNat = V r + V s := by rw [Nat.add_mul, h1, h2, ← V_eq, ← V_eq]
  show some (double.nearest false (p + q) b) = _
  congr 1
  unfold fadd
  rw [if_neg (by omega)]
  by_cases h0 : r = 0 ∧ s = 0
  · obtain ⟨rfl, rfl⟩ := h0
    have hpz : p = 0 := by rw [hp]; simp [mant_zero]
    have hqz : q = 0 := by rw [hq]; simp [mant_zero]
    rw [hpz, hqz, nearest_zero, word_false, if_pos ⟨rfl, rfl⟩]
  · rw [if_neg h0]
    have hv : V r + V s ≠ 0 := by
      by_cases hr0 : r = 0
      · have := V_pos (r := s) (by omega); omega
      · have := V_pos (r := r) (by omega); omega
    have hpq : p + q ≠ 0 := by
      intro e
      rw [e] at hsum
      omega
    rw [nearest_eq false (p + q) b 0 hpq (by omega), word_false, inf_eq]
    refine congrArg (fun z => min z inf) (rgN_congr 0 _ _ _ _ hpq hv ?_)
    rw [Nat.pow_zero, Nat.mul_one, ← hsum]
    congr 2

theorem sub_small (r s : Nat) (hr : r < inf) (hs : s ≤ r) : double.sub r s = some (fsub r s) := by
  unfold Format.sub
  rw [read_small r hr, read_small s (by omega)]
  simp only [Datum.opposite, Datum.sum, Ieee.signed, Bool.false_eq_true, if_false, Bool.false_and, Bool.not_false, if_true, Option.map_some]
  obtain ⟨b, hb⟩ : ∃ b : Int, b = min ((expo r : Int) - 1074) ((expo s : Int) - 1074) := ⟨_, rfl⟩
  rw [← hb]
  have h1 := signed_shift (mant r) (expo r) b (by omega) (by omega)
  have h2 := signed_shift (mant s) (expo s) b (by omega) (by omega)
  obtain ⟨p, hp⟩ : ∃ p, p = mant r <<< ((expo r : Int) - 1074 - b).toNat := ⟨_, rfl⟩
  obtain ⟨q, hq⟩ : ∃ q, q = mant s <<< ((expo s : Int) - 1074 - b).toNat := ⟨_, rfl⟩
  rw [← hp] at h1 ⊢
  rw [← hq] at h2 ⊢
  rw [← V_eq] at h1 h2
  have hle : q ≤ p := by
    have := V_le.2 hs
    rw [← h1, ← h2] at this
    exact Nat.le_of_mul_le_mul_right this (two_pos _)
  have hneg : (if (p : Int) + -(q : Int) = 0 then false else decide ((p : Int) + -(q : Int) < 0)) = false := by
    split
    · rfl
    · simp; omega
  have habs : ((p : Int) + -(q : Int)).natAbs = p - q := by omega
  rw [hneg, habs]
  have hsum : (p - q) * 2 ^ (b + 1074).toNat = V r - V s := by rw [Nat.sub_mul, h1, h2]
  show some (double.nearest false (p - q) b) = _
  congr 1
  unfold fsub
  by_cases h0 : r = s
  · subst h0
    have hz : p - q = 0 := by
      have : p * 2 ^ (b + 1074).toNat = q * 2 ^ (b + 1074).toNat := by rw [h1, h2]
      have := Nat.eq_of_mul_eq_mul_right (two_pos _) this
      omega
    rw [hz, nearest_zero, word_false, if_pos rfl]
  · rw [if_neg h0]
    have hv : V r - V s ≠ 0 := by have := V_lt (r := s) (s := r) (by omega); omega
    have hpq : p - q ≠ 0 := by
      intro e
      rw [e] at hsum
      omega
    rw [nearest_eq false (p - q) b 0 hpq (by omega), word_false, inf_eq]
    refine congrArg (fun z => min z inf) (rgN_congr 0 _ _ _ _ hpq hv ?_)
    rw [Nat.pow_zero, Nat.mul_one, ← hsum]
    congr 2

theorem mul_small (r s : Nat) (hr : r < inf) (hs : s < inf) : double.mul r s = some (fmul r s) := by
  unfold Format.mul
  rw [read_small r hr, read_small s hs]
  simp only [Datum.product, Bool.xor_false, Option.map_some]
  show some (double.nearest false (mant r * mant s) _) = _
  congr 1
  unfold fmul
  by_cases h0 : r = 0 ∨ s = 0
  · rw [if_pos h0]
    have hz : mant r * mant s = 0 := by rcases h0 with rfl | rfl <;> simp [mant_zero]
    rw [hz, nearest_zero, word_false]
  · rw [if_neg h0]
    have h1 : mant r ≠ 0 := mant_pos (by omega)
    have h2 : mant s ≠ 0 := mant_pos (by omega)
    have hpq : mant r * mant s ≠ 0 := Nat.mul_ne_zero h1 h2
    rw [nearest_eq false _ _ 1074 hpq (by omega), word_false, inf_eq]
    refine congrArg (fun z => min z inf) (rgN_congr 1074 _ _ _ _ hpq (Nat.mul_ne_zero (V_ne (by omega)) (V_ne (by omega))) ?_)
    rw [Nat.pow_zero, Nat.mul_one, V_eq r, V_eq s]
    have e : ((expo r : Int) - 1074 + ((expo s : Int) - 1074) + (1074 + ((1074 : Nat) : Int))).toNat = expo r + expo s := by omega
    rw [e, Nat.pow_add]
    simp only [Nat.mul_assoc, Nat.mul_left_comm]

theorem add_inf (r : Nat) (hr : r < inf) : double.add r inf = some inf := by
  unfold Format.add
  rw [read_small r hr, read_inf]
  rfl
theorem add_inf_left (r : Nat) (hr : r < inf) : double.add inf r = some inf := by
  unfold Format.add
  rw [read_small r hr, read_inf]
  rfl
theorem add_inf_inf : double.add inf inf = some inf := by decide +kernel
theorem add_le (r s : Nat) (hr : r ≤ inf) (hs : s ≤ inf) : double.add r s = some (fadd r s) := by
  by_cases h1 : r = inf
  · subst h1
    by_cases h2 : s = inf
    · subst h2; rw [add_inf_inf]; simp [fadd]
    · rw [add_inf_left s (by omega)]; simp [fadd]
  · by_cases h2 : s = inf
    · subst h2; rw [add_inf r (by omega)]; simp [fadd]
    · exact add_small r s (by omega) (by omega)

end Go.Proofs.YthfgjibhpenfkaaDoor.Fl
/- Words of binary64: minus nought, whole numbers, what every word is; and how the operations rise. No program in sight. -/
namespace Go.Proofs.YthfgjibhpenfkaaDoor.Fl
open Ieee Go

/-! ### how they rise -/
theorem min_le_inf (a : Nat) : min a inf ≤ inf := Nat.min_le_right _ _
theorem zero_le_inf : 0 ≤ inf := Nat.zero_le _
theorem fadd_le (r s : Nat) : fadd r s ≤ inf := by unfold fadd; split; exact Nat.le_refl _; split; exact Nat.zero_le _; exact min_le_inf _
theorem fsub_le_inf (r s : Nat) : fsub r s ≤ inf := by unfold fsub; split; exact Nat.zero_le _; exact min_le_inf _
theorem fmul_le (r s : Nat) : fmul r s ≤ inf := by unfold fmul; split; exact Nat.zero_le _; exact min_le_inf _

theorem V_sum_ne {r s : Nat} (h : ¬ (r = 0 ∧ s = 0)) : V r + V s ≠ 0 := by
  by_cases h0 : r = 0
  · have := V_pos (r := s) (by omega); omega
  · have := V_pos (r := r) (by omega); omega

theorem fadd_ge (r s : Nat) (hr : r ≤ inf) : r ≤ fadd r s := by
  unfold fadd
  split
  · exact hr
  · split
    · omega
    · rename_i h
      refine Nat.le_min.2 ⟨?_, hr⟩
      refine rgN_ge 0 _ 0 r (V_sum_ne h) ?_
      omega
theorem fadd_ge_right (r s : Nat) (hs : s ≤ inf) : s ≤ fadd r s := by
  unfold fadd
  split
  · exact hs
  · split
    · omega
    · rename_i h
      refine Nat.le_min.2 ⟨?_, hs⟩
      refine rgN_ge 0 _ 0 s (V_sum_ne h) ?_
      omega
theorem fadd_zero (r : Nat) (hr : r ≤ inf) : fadd r 0 = r := by
  refine Nat.le_antisymm ?_ (fadd_ge r 0 hr)
  unfold fadd
  split
  · rename_i h
    rcases h with h | h
    · exact Nat.le_of_eq h.symm
    · exact absurd h (by decide)
  · split
    · omega
    · rename_i h1 h2
      refine Nat.le_trans (Nat.min_le_left _ _) ?_
      refine rgN_le 0 _ 0 r (V_sum_ne h2) (by omega) ?_
      rw [V_zero]; omega
theorem fadd_comm (r s : Nat) : fadd r s = fadd s r := by
  unfold fadd
  rw [Nat.add_comm (V r)]
  by_cases h : r = inf ∨ s = inf
  · rw [if_pos h, if_pos h.symm]
  · have h' : ¬ (s = inf ∨ r = inf) := fun e => h e.symm
    simp only [h, h', if_false]
    by_cases h0 : r = 0 ∧ s = 0
    · have h0' : s = 0 ∧ r = 0 := ⟨h0.2, h0.1⟩
      rw [if_pos h0, if_pos h0']
    · have h0' : ¬ (s = 0 ∧ r = 0) := fun e => h0 ⟨e.2, e.1⟩
      simp only [h0, h0', if_false]
theorem zero_fadd (r : Nat) (hr : r ≤ inf) : fadd 0 r = r := by rw [fadd_comm, fadd_zero r hr]
theorem fadd_mono (r s s' : Nat) (h : s ≤ s') (hs : s' ≤ inf) : fadd r s ≤ fadd r s' := by
  by_cases h1 : r = inf ∨ s' = inf
  · have : fadd r s' = inf := by unfold fadd; rw [if_pos h1]
    rw [this]; exact fadd_le r s
  · have h2 : ¬ (r = inf ∨ s = inf) := by omega
    by_cases h0 : r = 0 ∧ s = 0
    · have : fadd r s = 0 := by unfold fadd; rw [if_neg h2, if_pos h0]
      rw [this]; exact Nat.zero_le _
    · have h0' : ¬ (r = 0 ∧ s' = 0) := by omega
      unfold fadd
      rw [if_neg h1, if_neg h2, if_neg h0, if_neg h0']
      have := rgN_mono 0 (V r + V s) 0 (V r + V s') 0 (V_sum_ne h0) (V_sum_ne h0') (by have := V_le.2 h; omega)
      omega
theorem fsub_le (r s : Nat) (hs : s ≤ r) : fsub r s ≤ r := by
  unfold fsub
  split
  · omega
  · rename_i h
    refine Nat.le_trans (Nat.min_le_left _ _) ?_
    have := V_lt (r := s) (s := r) (by omega)
    refine rgN_le 0 _ 0 r (by omega) (by omega) ?_
    omega
theorem fsub_self (r : Nat) : fsub r r = 0 := by unfold fsub; rw [if_pos rfl]
theorem fsub_zero (r : Nat) (hr : r ≤ inf) : fsub r 0 = r := by
  unfold fsub
  split
  · omega
  · rename_i h
    rw [V_zero, Nat.sub_zero]
    have h1 := rgN_le 0 (V r) 0 r (V_ne h) (by omega) (by omega)
    have h2 := rgN_ge 0 (V r) 0 r (V_ne h) (by omega)
    omega
theorem fmul_mono (r s s' : Nat) (h : s ≤ s') : fmul r s ≤ fmul r s' := by
  by_cases h0 : r = 0 ∨ s = 0
  · have : fmul r s = 0 := by unfold fmul; rw [if_pos h0]
    rw [this]; exact Nat.zero_le _
  · have h0' : ¬ (r = 0 ∨ s' = 0) := by omega
    unfold fmul
    rw [if_neg h0, if_neg h0']
    have := rgN_mono 1074 (V r * V s) 0 (V r * V s') 0 (Nat.mul_ne_zero (V_ne (by omega)) (V_ne (by omega))) (Nat.mul_ne_zero (V_ne (by omega)) (V_ne (by omega)))
      (by rw [Nat.pow_zero, Nat.mul_one, Nat.mul_one]; exact Nat.mul_le_mul_left _ (V_le.2 h))
    omega

/-! ### minus nought -/
theorem add_nz_right (r : Nat) (hr : r < inf) : double.add r nz = double.add r 0 := by
  unfold Format.add
  rw [read_small r hr, read_nz, read_zero]
  simp [Datum.sum, Ieee.signed]
theorem add_inf_nz : double.add inf nz = some inf := by decide +kernel
/-- a sum with a word that is not negative -/
theorem add_nn (r z : Nat) (hr : r ≤ inf) (hz : z ≤ inf ∨ z = nz) : double.add r z = some (fadd r (rv z)) := by
  rcases hz with hz | rfl
  · rw [rv_small hz]; exact add_le r z hr hz
  · rw [rv_nz]
    by_cases h : r = inf
    · subst h; rw [add_inf_nz, fadd_zero inf (Nat.le_refl _)]
    · rw [add_nz_right r (by omega)]; exact add_le r 0 hr (Nat.zero_le _)
theorem sub_nz (r : Nat) (hr : r < inf) : double.sub r nz = double.add r 0 := by
  unfold Format.sub Format.add
  rw [read_small r hr, read_nz, read_zero]
  rfl
theorem sub_nn (r z : Nat) (hr : r < inf) (hz : z ≤ r ∨ z = nz) : double.sub r z = some (fsub r (rv z)) := by
  rcases hz with hz | rfl
  · rw [rv_small (by omega)]; exact sub_small r z hr hz
  · rw [rv_nz, sub_nz r hr, add_le r 0 (by omega) (Nat.zero_le _), fadd_zero r (by omega), fsub_zero r (by omega)]
theorem mul_nz (s : Nat) (hs : s < inf) : double.mul nz s = some nz := by
  unfold Format.mul
  rw [read_small s hs, read_nz]
  simp only [Datum.product, Nat.zero_mul, Option.map_some]
  show some (double.nearest true 0 _) = _
  rw [nearest_zero, word_true_zero]
/-- a product of a rate (finite, not negative) and a word -/
theorem mul_nn (x s : Nat) (hx : NN x) (hs : s < inf) : ∃ z, double.mul x s = some z ∧ (z ≤ inf ∨ z = nz) ∧ rv z = fmul (rv x) s := by
  rcases hx with hx | rfl
  · refine ⟨_, mul_small x s hx hs, .inl (fmul_le _ _), ?_⟩
    rw [rv_small (fmul_le _ _), rv_small (by omega)]
  · refine ⟨nz, mul_nz s hs, .inr rfl, ?_⟩
    rw [rv_nz]
    unfold fmul
    rw [if_pos (.inl rfl)]

/-! ### every word -/
theorem read_any (x : Nat) : double.read x = (if x % nz < inf then .number (x / nz % 2 == 1) (mant (x % nz)) ((expo (x % nz) : Int) - 1074)
    else if x % nz = inf then .infinity (x / nz % 2 == 1) else .nan (x / nz % 2 == 1) (x % nz - inf)) := by
  rw [read_eq]
  have hb : (2 : Nat) ^ 52 ≤ inf := by decide
  by_cases h1 : x % nz < inf
  · unfold mant expo
    by_cases h2 : x % nz < 2 ^ 52
    · simp only [h1, h2, if_true]; rfl
    · simp only [h2, if_false, h1, if_true]
      congr 1
  · rw [if_neg (by omega), if_neg h1, if_neg h1]

theorem lt_two (x : Nat) (h : x < 18446744073709551616) : x / nz = 0 ∧ x = x % nz ∨ x / nz = 1 ∧ x = nz + x % nz := by
  unfold nz
  omega

/-- finite? -/
def finW (x : Nat) : Bool := decide (x % nz < inf)
/-- finite and not negative? -/
def nnW (x : Nat) : Bool := decide (x < inf) || x == nz
theorem nnW_iff (x : Nat) : nnW x = true ↔ NN x := by simp [nnW, NN]

theorem sub_self (x : Nat) : double.sub x x = if finW x then some 0 else none := by
  unfold Format.sub finW
  rw [read_any]
  by_cases h1 : x % nz < inf
  · simp only [h1, if_true, decide_true]
    simp only [Datum.opposite, Datum.sum, Option.map_some]
    have hs : ∀ (b : Bool) (m k : Nat), Ieee.signed b m k + Ieee.signed (!b) m k = 0 := by
      intro b m k
      unfold Ieee.signed
      cases b <;> simp <;> omega
    rw [hs]
    simp only [if_true, Int.natAbs_zero]
    have : ((x / nz % 2 == 1) && !(x / nz % 2 == 1)) = false := by cases (x / nz % 2 == 1) <;> rfl
    rw [this]
    show some (double.nearest false 0 _) = _
    rw [nearest_zero, word_false]
  · simp only [h1, if_false, decide_false]
    by_cases h2 : x % nz = inf
    · simp only [h2, if_true, Datum.opposite, Datum.sum]
      cases (x / nz % 2 == 1) <;> simp
    · simp only [h2, if_false, Datum.opposite, Datum.sum]
      rfl

theorem order_self (x : Nat) : double.order x x = if x % nz ≤ inf then some .eq else none := by
  unfold Format.order
  rw [read_any]
  by_cases h1 : x % nz < inf
  · simp only [h1, if_true, show x % nz ≤ inf by omega]
    simp [Datum.order]
  · simp only [h1, if_false]
    by_cases h2 : x % nz = inf
    · simp [h2, Datum.order]
    · simp only [h2, if_false, show ¬ x % nz ≤ inf by omega]
      rfl

/-- a word against nought -/
theorem order_zero (x : Nat) (hx : x < 18446744073709551616) : double.order x 0 = (if x % nz > inf then none else if x % nz = 0 then some .eq else if x < nz then some .gt else some .lt) := by
  unfold Format.order
  rw [read_any, read_zero]
  rcases lt_two x hx with ⟨h0, hx0⟩ | ⟨h0, hx0⟩
  · have hxn : x < nz := by rw [hx0]; exact Nat.mod_lt _ (by decide)
    rw [h0]
    by_cases h1 : x % nz < inf
    · simp only [h1, if_true, show ¬ x % nz > inf by omega, if_false]
      by_cases hz : x % nz = 0
      · rw [hz]; simp [Datum.order, Ieee.signed, mant_zero]
      · have hm := mant_pos (r := x % nz) (by omega)
        simp only [hz, if_false, hxn, if_true, Datum.order, Ieee.signed, Nat.shiftLeft_eq]
        simp only [Nat.zero_mod, show (0 == 1) = false from rfl, Bool.false_eq_true, if_false]
        congr 1
        rw [compare_int]
        refine Nat.compare_eq_gt.2 ?_
        rw [Nat.zero_mul]
        exact Nat.mul_pos (by omega) (two_pos _)
    · simp only [h1, if_false]
      by_cases h2 : x % nz = inf
      · have h3 : ¬ inf = 0 := by decide
        simp only [h2, if_true, h3, if_false, Nat.lt_irrefl, gt_iff_lt, hxn]
        rfl
      · simp only [h2, if_false, show x % nz > inf by omega, if_true]
        rfl
  · have hxn : ¬ x < nz := by omega
    rw [h0]
    by_cases h1 : x % nz < inf
    · simp only [h1, if_true, show ¬ x % nz > inf by omega, if_false]
      by_cases hz : x % nz = 0
      · rw [hz]; simp [Datum.order, Ieee.signed, mant_zero]
      · have hm := mant_pos (r := x % nz) (by omega)
        simp only [hz, if_false, hxn, Datum.order, Ieee.signed, Nat.shiftLeft_eq]
        simp only [show (1 % 2 == 1) = true from rfl, Bool.false_eq_true, if_false, if_true]
        congr 1
        refine Int.compare_eq_lt.2 ?_
        rw [Nat.zero_mul]
        have hk : ∀ k : Nat, 0 < mant (x % nz) * 2 ^ k := fun k => Nat.mul_pos (by omega) (two_pos k)
        exact Int.neg_neg_of_pos (Int.natCast_pos.2 (hk _))
    · simp only [h1, if_false]
      by_cases h2 : x % nz = inf
      · have h3 : ¬ inf = 0 := by decide
        simp only [h2, if_true, h3, if_false, Nat.lt_irrefl, gt_iff_lt, hxn]
        rfl
      · simp only [h2, if_false, show x % nz > inf by omega, if_true]
        rfl

theorem ge_zero (x : Nat) (hx : x < 18446744073709551616) : (double.order x 0 == some .gt || double.order x 0 == some .eq) = (decide (x ≤ inf) || x == nz) := by
  rw [order_zero x hx]
  rcases lt_two x hx with ⟨h0, hx0⟩ | ⟨h0, hx0⟩
  · have hxn : x < nz := by rw [hx0]; exact Nat.mod_lt _ (by decide)
    rw [← hx0]
    have hne : (x == nz) = false := by rw [beq_eq_false_iff_ne]; omega
    rw [hne]
    by_cases h1 : x > inf
    · simp only [h1, if_true, show ¬ x ≤ inf by omega, decide_false]; rfl
    · simp only [h1, if_false, show x ≤ inf by omega, decide_true]
      by_cases hz : x = 0
      · simp [hz]
      · simp [hz, hxn]
  · have hxn : ¬ x < nz := by omega
    have hgt : ¬ x ≤ inf := by have := inf_lt_nz; omega
    rw [decide_eq_false hgt]
    by_cases h1 : x % nz > inf
    · have hne : (x == nz) = false := by
        rw [beq_eq_false_iff_ne]
        intro e
        rw [e] at h1
        simp at h1
      rw [hne]; simp [h1]
    · by_cases hz : x % nz = 0
      · have he : (x == nz) = true := by rw [beq_iff_eq]; omega
        rw [he]; simp [hz]
      · have hne : (x == nz) = false := by rw [beq_eq_false_iff_ne]; intro e; rw [e] at hz; simp at hz
        rw [hne]; simp [h1, hz, hxn]

theorem gt_zero (x : Nat) (hx : x < 18446744073709551616) : (double.order x 0 == some .gt) = (decide (0 < x) && decide (x ≤ inf)) := by
  rw [order_zero x hx]
  rcases lt_two x hx with ⟨h0, hx0⟩ | ⟨h0, hx0⟩
  · have hxn : x < nz := by rw [hx0]; exact Nat.mod_lt _ (by decide)
    rw [← hx0]
    by_cases h1 : x > inf
    · simp only [h1, if_true, show ¬ x ≤ inf by omega, decide_false]; simp
    · simp only [h1, if_false, show x ≤ inf by omega, decide_true]
      by_cases hz : x = 0
      · simp [hz]
      · simp [hz, hxn]; omega
  · have hxn : ¬ x < nz := by omega
    have hgt : ¬ x ≤ inf := by have := inf_lt_nz; omega
    rw [decide_eq_false hgt]
    by_cases h1 : x % nz > inf
    · simp [h1]
    · by_cases hz : x % nz = 0
      · simp [hz]
      · simp [h1, hz, hxn]

/-- 'x > MaxFloat64' -/
theorem gt_max (y : Nat) (hy : y < nz) : (double.order y 9218868437227405311 == some .gt) = decide (y = inf) := by
  have hm : (9218868437227405311 : Nat) < inf := by decide
  by_cases h1 : y ≤ inf
  · rw [order_nn y 9218868437227405311 (.inl h1) (.inl (by omega)), rv_small h1, rv_small (by omega)]
    by_cases h2 : y = inf
    · subst h2
      rw [Nat.compare_eq_gt.2 hm]
      simp
    · have : y ≤ 9218868437227405311 := by unfold inf at h1 h2; omega
      rcases Nat.lt_or_eq_of_le this with h3 | h3
      · rw [Nat.compare_eq_lt.2 h3]; simp [h2]
      · rw [Nat.compare_eq_eq.2 h3]; simp [h2]
  · unfold Format.order
    rw [read_any, Nat.mod_eq_of_lt hy, if_neg (by omega), if_neg (by omega)]
    have h2 : ¬ y = inf := by omega
    simp [Datum.order, h2]

/-! ### whole numbers -/
def i2r (n : Nat) : Nat := if n = 0 then 0 else min (rgN 0 n 1074) inf
theorem floatOfInt_nat (n : Nat) : floatOfInt .f64 (n : Int) = i2r n := by
  have hneg : decide ((n : Int) < 0) = false := by simp
  show double.nearest (decide ((n : Int) < 0)) ((n : Int).natAbs) 0 = _
  rw [hneg, Int.natAbs_natCast]
  unfold i2r
  by_cases h : n = 0
  · rw [if_pos h, h, nearest_zero, word_false]
  · rw [if_neg h, nearest_eq false n 0 0 h (by omega), word_false, inf_eq]
    rfl
theorem i2r_mono {m n : Nat} (h : m ≤ n) : i2r m ≤ i2r n := by
  unfold i2r
  by_cases h0 : m = 0
  · rw [if_pos h0]; exact Nat.zero_le _
  · rw [if_neg h0, if_neg (by omega)]
    have := rgN_mono 0 m 1074 n 1074 h0 (by omega) (Nat.mul_le_mul_right _ h)
    omega
theorem i2r_le (n : Nat) : i2r n ≤ inf := by unfold i2r; split; exact Nat.zero_le _; exact min_le_inf _

end Go.Proofs.YthfgjibhpenfkaaDoor.Fl
