/- Floats: rounding to nearest rises with the number rounded, and leaves what the format has as it is. No program in sight. -/
import Ieee.Arith
namespace Go.Proofs.YthfgjibhpenfkaaDoor.Fl
open Ieee

theorem two_pos (k : Nat) : 0 < 2 ^ k := Nat.two_pow_pos k

/-! ### cut, halves to even -/
theorem cut_gap (neg : Bool) (n d : Nat) (h : d ≤ n.log2 + 2) : Toward.even.cut neg n d = n / 2 ^ d + (decide (2 ^ d < 2 * (n % 2 ^ d)) || (2 ^ d == 2 * (n % 2 ^ d) && n / 2 ^ d % 2 == 1)).toNat := by
  unfold Toward.cut
  rw [Nat.min_eq_left h, Nat.one_shiftLeft]

theorem cut_far (neg : Bool) (n d : Nat) (h : n.log2 + 2 < d) : Toward.even.cut neg n d = 0 := by
  unfold Toward.cut
  rw [Nat.min_eq_right (Nat.le_of_lt h), Nat.one_shiftLeft]
  have hl : n < 2 ^ (n.log2 + 1) := Nat.lt_log2_self
  have h2 : 2 ^ (n.log2 + 2) = 2 * 2 ^ (n.log2 + 1) := by rw [Nat.pow_succ 2 (n.log2 + 1), Nat.mul_comm]
  have hlow : n / 2 ^ (n.log2 + 2) = 0 := Nat.div_eq_of_lt (by omega)
  have hrest : n % 2 ^ (n.log2 + 2) = n := Nat.mod_eq_of_lt (by omega)
  simp only [hlow, hrest]
  have h3 : ¬ 2 ^ (n.log2 + 2) < 2 * n := by omega
  have h4 : (2 ^ (n.log2 + 2) == 2 * n) = false := by rw [beq_eq_false_iff_ne]; omega
  simp [h3, h4]

theorem cut_aux (n g q r k : Nat) (hn : g * q + r = n) (hr : r < g) :
    q + (decide (g < 2 * r) || (g == 2 * r && q % 2 == 1)).toNat ≤ k ↔ (2 * n < (2 * k + 1) * g ∨ (2 * n = (2 * k + 1) * g ∧ k % 2 = 0)) := by
  have e2 : (2 * k + 1) * g = 2 * (g * k) + g := by rw [Nat.add_mul, Nat.mul_assoc, Nat.one_mul, Nat.mul_comm k g]
  rw [e2]
  rcases Nat.lt_trichotomy q k with hlt | heq | hgt
  · have : g * q + g ≤ g * k := by rw [← Nat.mul_succ]; exact Nat.mul_le_mul_left g hlt
    have hb : (decide (g < 2 * r) || (g == 2 * r && q % 2 == 1)).toNat ≤ 1 := Bool.toNat_le _
    constructor
    · intro _; left; omega
    · intro _; omega
  · subst heq
    by_cases c1 : g < 2 * r
    · rw [decide_eq_true c1, Bool.true_or, Bool.toNat_true]
      omega
    · rw [decide_eq_false c1, Bool.false_or]
      by_cases c2 : g = 2 * r
      · rw [beq_iff_eq.2 c2, Bool.true_and]
        by_cases c3 : q % 2 = 1
        · rw [beq_iff_eq.2 c3, Bool.toNat_true]; omega
        · rw [beq_eq_false_iff_ne.2 c3, Bool.toNat_false]; omega
      · rw [beq_eq_false_iff_ne.2 c2, Bool.false_and, Bool.toNat_false]; omega
  · have : g * k + g ≤ g * q := by rw [← Nat.mul_succ]; exact Nat.mul_le_mul_left g hgt
    constructor
    · intro h2; omega
    · intro h2; omega

/-- what comes of cutting is at most k just where twice the number is below 2k+1 places, or there, and k is even -/
theorem cut_le (neg : Bool) (n d k : Nat) : Toward.even.cut neg n d ≤ k ↔ (2 * n < (2 * k + 1) * 2 ^ d ∨ (2 * n = (2 * k + 1) * 2 ^ d ∧ k % 2 = 0)) := by
  by_cases h : d ≤ n.log2 + 2
  · rw [cut_gap neg n d h]
    exact cut_aux n (2 ^ d) _ _ k (Nat.div_add_mod n _) (Nat.mod_lt n (two_pos d))
  · rw [cut_far neg n d (by omega)]
    have hl : n < 2 ^ (n.log2 + 1) := Nat.lt_log2_self
    have h2 : 2 ^ (n.log2 + 1) ≤ 2 ^ (d - 1) := Nat.pow_le_pow_right (by decide) (by omega)
    have h3 : 2 ^ d = 2 * 2 ^ (d - 1) := by
      rw [← Nat.pow_succ']
      congr 1
      omega
    have h4 : 2 ^ d ≤ (2 * k + 1) * 2 ^ d := Nat.le_mul_of_pos_left _ (by omega)
    constructor
    · intro _; left; omega
    · intro _; omega

theorem cut_zero (neg : Bool) (n : Nat) : Toward.even.cut neg n 0 = n := by
  have h1 := (cut_le neg n 0 n).2 (.inl (by omega))
  by_cases h : Toward.even.cut neg n 0 = n
  · exact h
  · have h2 := (cut_le neg n 0 (n - 1)).1 (by omega)
    by_cases h0 : n = 0
    · omega
    · rcases h2 with h2 | ⟨h2, _⟩ <;> (simp at h2; omega)

theorem cut_mono (neg neg' : Bool) (n d n' d' : Nat) (h : n * 2 ^ d' ≤ n' * 2 ^ d) : Toward.even.cut neg n d ≤ Toward.even.cut neg' n' d' := by
  obtain ⟨k, hk⟩ : ∃ k, k = Toward.even.cut neg' n' d' := ⟨_, rfl⟩
  have h1 := (cut_le neg' n' d' k).1 (by omega)
  rw [← hk]
  rw [cut_le]
  have p := two_pos d
  have p' := two_pos d'
  obtain ⟨g, hg⟩ : ∃ g, g = 2 ^ d := ⟨_, rfl⟩
  obtain ⟨g', hg'⟩ : ∃ g', g' = 2 ^ d' := ⟨_, rfl⟩
  rw [← hg] at h p ⊢
  rw [← hg'] at h h1 p'
  have hle : 2 * n * g' ≤ 2 * n' * g := by rw [Nat.mul_assoc, Nat.mul_assoc]; omega
  have hx : (2 * k + 1) * g' * g = (2 * k + 1) * g * g' := by rw [Nat.mul_assoc, Nat.mul_comm g' g, ← Nat.mul_assoc]
  rcases h1 with h1 | ⟨h1, h2⟩
  · left
    have : 2 * n' * g < (2 * k + 1) * g' * g := Nat.mul_lt_mul_of_pos_right h1 p
    have h3 : 2 * n * g' < (2 * k + 1) * g * g' := by rw [← hx]; omega
    exact Nat.lt_of_mul_lt_mul_right h3
  · have : 2 * n' * g = (2 * k + 1) * g' * g := by rw [h1]
    have h3 : 2 * n * g' ≤ (2 * k + 1) * g * g' := by rw [← hx]; omega
    have h4 := Nat.le_of_mul_le_mul_right h3 p'
    by_cases h5 : 2 * n = (2 * k + 1) * g
    · exact .inr ⟨h5, h2⟩
    · left; omega


/-! ### rungs of binary64 -/
/-- the place of the last digit kept, and the rung, of m * 2^a, places counted from β below the least one -/
def lastN (β m a : Nat) : Nat := max (a + m.log2 - 52) β
def rgN (β m a : Nat) : Nat := (lastN β m a - β) * 2 ^ 52 + Toward.even.cut false (m * 2 ^ (a - lastN β m a)) (lastN β m a - a)

theorem nearest_eq (neg : Bool) (m : Nat) (i : Int) (β : Nat) (hm : m ≠ 0) (hi : -(1074 + (β : Int)) ≤ i) :
    double.nearest neg m i = double.word neg (min (rgN β m (i + (1074 + (β : Int))).toNat) double.infRung) := by
  obtain ⟨a, ha⟩ : ∃ a : Nat, (a : Int) = i + (1074 + (β : Int)) := ⟨(i + (1074 + (β : Int))).toNat, by omega⟩
  have ha' : (i + (1074 + (β : Int))).toNat = a := by omega
  have hL : max (i + (m.log2 : Int) - (double.fractionBits : Int)) double.leastPlace = (lastN β m a : Int) - (1074 + (β : Int)) := by
    have h1 : (double.fractionBits : Int) = 52 := rfl
    have h2 : double.leastPlace = -1074 := by decide
    rw [h1, h2]
    unfold lastN
    omega
  have hb : double.binade = 2 ^ 52 := rfl
  have h2 : double.leastPlace = -1074 := by decide
  unfold Format.nearest
  rw [if_neg hm, ha']
  simp only [hL]
  simp only [h2, hb]
  have e1 : (i - ((lastN β m a : Int) - (1074 + (β : Int)))).toNat = a - lastN β m a := by omega
  have e2 : ((lastN β m a : Int) - (1074 + (β : Int)) - i).toNat = lastN β m a - a := by omega
  have e3 : ((lastN β m a : Int) - (1074 + (β : Int)) - -1074).toNat = lastN β m a - β := by omega
  rw [e1, e2, e3, Nat.shiftLeft_eq]
  rfl

theorem log2_le (m : Nat) (h : m ≠ 0) : 2 ^ m.log2 ≤ m := Nat.log2_self_le h
theorem lt_log2 (m : Nat) : m < 2 ^ (m.log2 + 1) := Nat.lt_log2_self

theorem p52 : (2 : Nat) ^ 52 = 4503599627370496 := rfl
theorem gx_lin (A g x y : Nat) (hp : 0 < g) (h : 2 * y = A + g) (h5 : y ≤ x) (h6 : 2 * x < A ∨ 2 * x = A) : False := by omega
theorem gx_absurd (K g x : Nat) (hp : 0 < g) (h5 : (K + 1) * g ≤ x) (h6 : 2 * x < (2 * K + 1) * g ∨ 2 * x = (2 * K + 1) * g) : False := by
  refine gx_lin ((2 * K + 1) * g) g x ((K + 1) * g) hp ?_ h5 h6
  rw [← Nat.succ_mul, ← Nat.mul_assoc]
  congr 1
theorem kept_aux (n d : Nat) (neg : Bool) (hp : 0 < 2 ^ d) (h5 : (4503599627370495 + 1) * 2 ^ d ≤ n) : 2 ^ 52 ≤ Toward.even.cut neg n d := by
  rw [p52]
  by_cases hc : 4503599627370496 ≤ Toward.even.cut neg n d
  · exact hc
  · have h6 := (cut_le neg n d 4503599627370495).1 (by omega)
    exact (gx_absurd 4503599627370495 _ n hp h5 (h6.imp id And.left)).elim
theorem shift_eq (m a l : Nat) : m * 2 ^ (a - l) * 2 ^ l = m * 2 ^ a * 2 ^ (l - a) := by
  by_cases h : l ≤ a
  · rw [show l - a = 0 by omega, Nat.pow_zero, Nat.mul_one, Nat.mul_assoc, ← Nat.pow_add]
    congr 2
    omega
  · rw [show a - l = 0 by omega, Nat.pow_zero, Nat.mul_one, Nat.mul_assoc, ← Nat.pow_add]
    congr 2
    omega

theorem pow_lt_of {a b : Nat} (h : 2 ^ a < 2 ^ b) : a < b := (Nat.pow_lt_pow_iff_right (by decide)).1 h

theorem kept_le (β m a : Nat) (_hm : m ≠ 0) : Toward.even.cut false (m * 2 ^ (a - lastN β m a)) (lastN β m a - a) ≤ 2 ^ 53 := by
  rw [cut_le]
  left
  obtain ⟨l, hl⟩ : ∃ l, l = lastN β m a := ⟨_, rfl⟩
  rw [← hl]
  have hlb : a + m.log2 + 1 ≤ l + 53 := by rw [hl]; unfold lastN; omega
  have h1 : m * 2 ^ a < 2 ^ (m.log2 + 1) * 2 ^ a := Nat.mul_lt_mul_of_pos_right (lt_log2 m) (two_pos a)
  rw [← Nat.pow_add] at h1
  have h2 : 2 ^ (m.log2 + 1 + a) ≤ 2 ^ (l + 53) := Nat.pow_le_pow_right (by decide) (by omega)
  have h5 : m * 2 ^ (a - l) < 2 ^ 53 * 2 ^ (l - a) := by
    refine Nat.lt_of_mul_lt_mul_right (a := 2 ^ l) ?_
    rw [shift_eq, Nat.mul_right_comm (2 ^ 53) (2 ^ (l - a)) (2 ^ l), ← Nat.pow_add 2 53 l, Nat.add_comm 53 l]
    exact Nat.mul_lt_mul_of_pos_right (by omega) (two_pos _)
  have h6 : (2 * 2 ^ 53 + 1) * 2 ^ (l - a) = 2 * (2 ^ 53 * 2 ^ (l - a)) + 2 ^ (l - a) := by rw [Nat.add_mul, Nat.one_mul, Nat.mul_assoc]
  omega

theorem kept_ge (β m a : Nat) (hm : m ≠ 0) (hl : β < lastN β m a) : 2 ^ 52 ≤ Toward.even.cut false (m * 2 ^ (a - lastN β m a)) (lastN β m a - a) := by
  obtain ⟨l, hl'⟩ : ∃ l, l = lastN β m a := ⟨_, rfl⟩
  rw [← hl'] at hl ⊢
  have hlb : a + m.log2 = l + 52 := by rw [hl'] at hl ⊢; unfold lastN at hl ⊢; omega
  have h1 : 2 ^ m.log2 * 2 ^ a ≤ m * 2 ^ a := Nat.mul_le_mul_right _ (log2_le m hm)
  rw [← Nat.pow_add] at h1
  have h3 := shift_eq m a l
  have h4 : 2 ^ (l + 52) * 2 ^ (l - a) ≤ m * 2 ^ a * 2 ^ (l - a) := Nat.mul_le_mul_right _ (by rw [← hlb, Nat.add_comm]; exact h1)
  rw [← h3] at h4
  have h5 : 2 ^ 52 * 2 ^ (l - a) ≤ m * 2 ^ (a - l) := by
    refine Nat.le_of_mul_le_mul_right (c := 2 ^ l) ?_ (two_pos l)
    rw [Nat.mul_right_comm (2 ^ 52) (2 ^ (l - a)) (2 ^ l), ← Nat.pow_add 2 52 l, Nat.add_comm 52 l]
    exact h4
  exact kept_aux _ _ _ (two_pos _) (by rw [p52] at h5; exact h5)

/-- rounding rises -/
theorem rgN_mono (β m a m' a' : Nat) (hm : m ≠ 0) (hm' : m' ≠ 0) (h : m * 2 ^ a ≤ m' * 2 ^ a') : rgN β m a ≤ rgN β m' a' := by
  have hlog : a + m.log2 ≤ a' + m'.log2 := by
    have h1 : 2 ^ m.log2 * 2 ^ a ≤ m * 2 ^ a := Nat.mul_le_mul_right _ (log2_le m hm)
    have h2 : m' * 2 ^ a' < 2 ^ (m'.log2 + 1) * 2 ^ a' := Nat.mul_lt_mul_of_pos_right (lt_log2 m') (two_pos a')
    rw [← Nat.pow_add] at h1 h2
    have := pow_lt_of (Nat.lt_of_le_of_lt (Nat.le_trans h1 h) h2)
    omega
  have hl : lastN β m a ≤ lastN β m' a' := by unfold lastN; omega
  have hlb : β ≤ lastN β m a := by unfold lastN; omega
  by_cases he : lastN β m a = lastN β m' a'
  · unfold rgN
    rw [← he]
    have : Toward.even.cut false (m * 2 ^ (a - lastN β m a)) (lastN β m a - a) ≤ Toward.even.cut false (m' * 2 ^ (a' - lastN β m a)) (lastN β m a - a') := by
      refine cut_mono _ _ _ _ _ _ ?_
      obtain ⟨l, hl'⟩ : ∃ l, l = lastN β m a := ⟨_, rfl⟩
      rw [← hl']
      refine Nat.le_of_mul_le_mul_right (c := 2 ^ l) ?_ (two_pos l)
      rw [Nat.mul_right_comm, shift_eq, Nat.mul_right_comm _ (2 ^ (l - a)) (2 ^ l), shift_eq, Nat.mul_right_comm _ (2 ^ (l - a')) (2 ^ (l - a))]
      exact Nat.mul_le_mul_right _ (Nat.mul_le_mul_right _ h)
    omega
  · have k1 := kept_le β m a hm
    have k2 := kept_ge β m' a' hm' (by omega)
    unfold rgN
    have h3 : (lastN β m a - β) * 2 ^ 52 + 2 ^ 52 ≤ (lastN β m' a' - β) * 2 ^ 52 := by
      rw [← Nat.succ_mul]
      exact Nat.mul_le_mul_right _ (by omega)
    omega

/-- the value of a rung, in units of the least place -/
def V (r : Nat) : Nat := if r < 2 ^ 52 then r else (2 ^ 52 + r % 2 ^ 52) * 2 ^ (r / 2 ^ 52 - 1)

theorem V_succ (r : Nat) : V r < V (r + 1) := by
  unfold V
  by_cases h1 : r + 1 < 2 ^ 52
  · rw [if_pos (by omega), if_pos h1]; omega
  · by_cases h2 : r < 2 ^ 52
    · rw [if_pos h2, if_neg h1]
      have : r + 1 = 2 ^ 52 := by omega
      rw [this]
      simp
      omega
    · rw [if_neg h2, if_neg h1]
      by_cases h3 : r % 2 ^ 52 + 1 < 2 ^ 52
      · have e1 : (r + 1) / 2 ^ 52 = r / 2 ^ 52 := by omega
        have e2 : (r + 1) % 2 ^ 52 = r % 2 ^ 52 + 1 := by omega
        rw [e1, e2]
        exact Nat.mul_lt_mul_of_pos_right (by omega) (two_pos _)
      · have e1 : (r + 1) / 2 ^ 52 = r / 2 ^ 52 + 1 := by omega
        have e2 : (r + 1) % 2 ^ 52 = 0 := by omega
        have e3 : r % 2 ^ 52 = 2 ^ 52 - 1 := by omega
        rw [e1, e2, e3]
        have e4 : r / 2 ^ 52 + 1 - 1 = (r / 2 ^ 52 - 1) + 1 := by omega
        rw [e4]
        generalize r / 2 ^ 52 - 1 = q
        rw [show 2 ^ (q + 1) = 2 * 2 ^ q from by rw [Nat.pow_succ, Nat.mul_comm], ← Nat.mul_assoc]
        exact Nat.mul_lt_mul_of_pos_right (by omega) (two_pos _)

theorem V_lt {r s : Nat} (h : r < s) : V r < V s := by
  induction s with
  | zero => omega
  | succ s ih =>
    have := V_succ s
    by_cases he : r = s
    · subst he; exact this
    · have := ih (by omega); omega
theorem V_le {r s : Nat} : V r ≤ V s ↔ r ≤ s := by
  constructor
  · intro h
    by_cases hc : r ≤ s
    · exact hc
    · have := V_lt (r := s) (s := r) (by omega); omega
  · intro h
    by_cases he : r = s
    · subst he; exact Nat.le_refl _
    · exact Nat.le_of_lt (V_lt (by omega))
theorem V_zero : V 0 = 0 := rfl
theorem V_pos {r : Nat} (h : 0 < r) : 0 < V r := by have := V_lt h; rw [V_zero] at this; exact this

/-- the number of a rung, as a mantissa and a place above the least one -/
def mant (r : Nat) : Nat := if r < 2 ^ 52 then r else 2 ^ 52 + r % 2 ^ 52
def expo (r : Nat) : Nat := if r < 2 ^ 52 then 0 else r / 2 ^ 52 - 1
theorem V_eq (r : Nat) : V r = mant r * 2 ^ expo r := by
  unfold V mant expo
  split <;> simp

theorem rgN_self (β r : Nat) (hr : 0 < r) : rgN β (mant r) (β + expo r) = r := by
  unfold rgN mant expo
  by_cases h : r < 2 ^ 52
  · rw [if_pos h, if_pos h]
    have hl : r.log2 < 52 := (Nat.log2_lt (by omega)).2 h
    have hL : lastN β r (β + 0) = β := by unfold lastN; omega
    rw [hL]
    simp [cut_zero]
  · rw [if_neg h, if_neg h]
    have hl : (2 ^ 52 + r % 2 ^ 52).log2 = 52 := by
      have h1 : 52 ≤ (2 ^ 52 + r % 2 ^ 52).log2 := (Nat.le_log2 (by omega)).2 (by omega)
      have h2 : (2 ^ 52 + r % 2 ^ 52).log2 < 53 := (Nat.log2_lt (by omega)).2 (by omega)
      omega
    have hL : lastN β (2 ^ 52 + r % 2 ^ 52) (β + (r / 2 ^ 52 - 1)) = β + (r / 2 ^ 52 - 1) := by unfold lastN; omega
    rw [hL]
    simp only [Nat.sub_self, Nat.pow_zero, Nat.mul_one, cut_zero]
    have : β + (r / 2 ^ 52 - 1) - β = r / 2 ^ 52 - 1 := by omega
    rw [this]
    omega

theorem mant_pos {r : Nat} (h : 0 < r) : mant r ≠ 0 := by unfold mant; split <;> omega

/-- what is at most a rung's number is rounded to at most that rung; what is at least it, to at least it -/
theorem rgN_le (β m a r : Nat) (hm : m ≠ 0) (hr : 0 < r) (h : m * 2 ^ a ≤ V r * 2 ^ β) : rgN β m a ≤ r := by
  have := rgN_mono β m a (mant r) (β + expo r) hm (mant_pos hr) (by rw [Nat.add_comm β, Nat.pow_add, ← Nat.mul_assoc, ← V_eq]; exact h)
  rwa [rgN_self β r hr] at this
theorem rgN_ge (β m a r : Nat) (hm : m ≠ 0) (h : V r * 2 ^ β ≤ m * 2 ^ a) : r ≤ rgN β m a := by
  by_cases hr : 0 < r
  · have := rgN_mono β (mant r) (β + expo r) m a (mant_pos hr) hm (by rw [Nat.add_comm β, Nat.pow_add, ← Nat.mul_assoc, ← V_eq]; exact h)
    rwa [rgN_self β r hr] at this
  · omega

end Go.Proofs.YthfgjibhpenfkaaDoor.Fl
