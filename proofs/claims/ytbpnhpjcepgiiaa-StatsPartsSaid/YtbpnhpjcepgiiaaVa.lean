/- Whole numbers as floats, negative ones too: sums, differences, products with 1 are exact. -/
import Derived.Test.YtbpnhpjcepgiiaaQp
namespace Go.Proofs.Ytbpnhpjcepgiiaa
open Fl Ieee

/-- a whole number as a float -/
def fi (a : Int) : Nat := floatOfInt .f64 a
def sg (n : Bool) (v : Nat) : Int := if n then -(v : Int) else (v : Int)
theorem word_eq (n : Bool) (r : Nat) : double.word n r = if n then nz + r else r := by cases n <;> rfl
theorem read_word (n : Bool) (r : Nat) (hr : r < inf) : double.read (double.word n r) = .number n (mant r) ((expo r : Int) - 1074) := by
  have h1 := inf_lt_nz
  rw [word_eq]
  cases n with
  | false =>
    simp only [Bool.false_eq_true, if_false]
    exact read_small r hr
  | true =>
    simp only [if_true]
    rw [read_any]
    have e1 : (nz + r) % nz = r := by rw [Nat.add_mod_left, Nat.mod_eq_of_lt (by omega)]
    have e2 : (nz + r) / nz = 1 := by rw [Nat.add_div_left _ (by decide), Nat.div_eq_of_lt (by omega)]
    rw [e1, e2, if_pos hr]
    rfl
theorem fi_word (a : Int) : fi a = double.word (decide (a < 0)) (i2r a.natAbs) := by
  show double.nearest (decide (a < 0)) a.natAbs 0 = _
  unfold i2r
  by_cases h : a.natAbs = 0
  · rw [if_pos h, h, nearest_zero]
  · rw [if_neg h, nearest_eq _ a.natAbs 0 0 h (by omega), inf_eq]
    rfl
theorem fi_nat (n : Nat) : fi (n : Int) = i2r n := floatOfInt_nat n
theorem fi_lt (a : Int) : fi a < 18446744073709551616 := by
  have h1 := i2r_le a.natAbs
  rw [fi_word, word_eq]
  unfold inf at h1
  unfold nz
  split <;> omega
/-- the sum of two numbers, each with its sign, written -/
theorem sum_word (n1 n2 : Bool) (r s : Nat) (c : Int) (hc : c = sg n1 (V r) + sg n2 (V s)) :
    (Datum.sum (.number n1 (mant r) ((expo r : Int) - 1074)) (.number n2 (mant s) ((expo s : Int) - 1074))).map double.write =
      some (if c = 0 then double.word (n1 && n2) 0 else double.word (decide (c < 0)) (min (rgN 0 c.natAbs 0) inf)) := by
  simp only [Datum.sum, Option.map_some]
  obtain ⟨b, hb⟩ : ∃ b : Int, b = min ((expo r : Int) - 1074) ((expo s : Int) - 1074) := ⟨_, rfl⟩
  rw [← hb]
  have h1 := signed_shift (mant r) (expo r) b (by omega) (by omega)
  have h2 := signed_shift (mant s) (expo s) b (by omega) (by omega)
  unfold Ieee.signed
  obtain ⟨p, hp⟩ : ∃ p, p = mant r <<< ((expo r : Int) - 1074 - b).toNat := ⟨_, rfl⟩
  obtain ⟨q, hq⟩ : ∃ q, q = mant s <<< ((expo s : Int) - 1074 - b).toNat := ⟨_, rfl⟩
  rw [← hp] at h1 ⊢
  rw [← hq] at h2 ⊢
  rw [← V_eq] at h1 h2
  obtain ⟨P, hP⟩ : ∃ P, P = 2 ^ (b + 1074).toNat := ⟨_, rfl⟩
  have hP0 : 0 < P := by rw [hP]; exact two_pos _
  rw [← hP] at h1 h2
  obtain ⟨t, ht⟩ : ∃ t : Int, t = (if n1 = true then -(p : Int) else (p : Int)) + (if n2 = true then -(q : Int) else (q : Int)) := ⟨_, rfl⟩
  rw [← ht]
  have htc : c = t * (P : Int) := by
    rw [hc, ht, ← h1, ← h2]
    unfold sg
    cases n1 <;> cases n2 <;> simp [Int.add_mul, Int.natCast_mul, Int.neg_mul]
  have hz : c = 0 ↔ t = 0 := by
    rw [htc]
    constructor
    · intro h
      rcases Int.mul_eq_zero.1 h with h | h
      · exact h
      · omega
    · rintro rfl; simp
  have hlt : c < 0 ↔ t < 0 := by
    rw [htc]
    constructor
    · intro h
      by_cases h0 : 0 ≤ t
      · exact absurd (Int.mul_nonneg h0 (by omega : (0 : Int) ≤ P)) (by omega)
      · omega
    · intro h; exact Int.mul_neg_of_neg_of_pos h (by omega)
  show some (double.nearest _ t.natAbs b) = _
  congr 1
  by_cases h0 : t = 0
  · rw [if_pos h0, if_pos (hz.2 h0), h0]
    show double.nearest _ 0 b = _
    rw [nearest_zero]
  · have hc0 : ¬ c = 0 := fun e => h0 (hz.1 e)
    rw [if_neg h0, if_neg hc0]
    have hta : t.natAbs ≠ 0 := by omega
    have hca : c.natAbs ≠ 0 := by omega
    rw [nearest_eq _ t.natAbs b 0 hta (by omega), inf_eq]
    have hd : decide (t < 0) = decide (c < 0) := by simp [hlt]
    rw [hd]
    refine congrArg (fun z => double.word _ (min z inf)) (rgN_congr 0 _ _ _ _ hta hca ?_)
    rw [Nat.pow_zero, Nat.mul_one, htc, Int.natAbs_mul, hP]
    rfl
theorem V_fi (a : Int) (h : a.natAbs < 2 ^ 53) : sg (decide (a < 0)) (V (i2r a.natAbs)) = a * ((2 ^ E74 : Nat) : Int) := by
  rw [V_i2r _ h]
  unfold sg
  by_cases h0 : a < 0
  · rw [decide_eq_true h0, if_pos rfl, Int.natCast_mul, ← Int.neg_mul]
    congr 1
    omega
  · rw [decide_eq_false h0, if_neg (by simp), Int.natCast_mul]
    congr 1
    omega
theorem sum_fi (c d : Int) (n : Bool) (hn : d = 0 → n = false) (hc : c = d * ((2 ^ E74 : Nat) : Int)) :
    (if c = 0 then double.word n 0 else double.word (decide (c < 0)) (min (rgN 0 c.natAbs 0) inf)) = fi d := by
  have hE : (0 : Int) < ((2 ^ E74 : Nat) : Int) := by have := two_pos E74; omega
  obtain ⟨E, hEE⟩ : ∃ E, E = 2 ^ E74 := ⟨_, rfl⟩
  rw [← hEE] at hc hE
  by_cases h0 : d = 0
  · have : c = 0 := by rw [hc, h0, Int.zero_mul]
    rw [if_pos this, hn h0, h0]
    rfl
  · have hz : ¬ c = 0 := by
      rw [hc]; intro h
      rcases Int.mul_eq_zero.1 h with h | h
      · exact h0 h
      · omega
    have hlt : c < 0 ↔ d < 0 := by
      rw [hc]
      constructor
      · intro h
        by_cases h1 : 0 ≤ d
        · exact absurd (Int.mul_nonneg h1 (Int.le_of_lt hE)) (by omega)
        · omega
      · intro h; exact Int.mul_neg_of_neg_of_pos h hE
    rw [if_neg hz, fi_word]
    have hd : decide (c < 0) = decide (d < 0) := by simp [hlt]
    rw [hd]
    unfold i2r
    rw [if_neg (by omega)]
    refine congrArg (fun z => double.word _ (min z inf)) (rgN_congr 0 _ _ _ _ (by omega) (by omega) ?_)
    rw [Nat.pow_zero, Nat.mul_one, hc, Int.natAbs_mul, hEE, E74_eq]
    rfl
theorem fi_fin (a : Int) (h : a.natAbs < 2 ^ 53) : i2r a.natAbs < inf := i2r_lt_inf _ h
theorem add_fi (a b : Int) (ha : a.natAbs < 2 ^ 53) (hb : b.natAbs < 2 ^ 53) : double.add (fi a) (fi b) = some (fi (a + b)) := by
  unfold Format.add
  rw [fi_word a, fi_word b, read_word _ _ (fi_fin a ha), read_word _ _ (fi_fin b hb)]
  rw [sum_word _ _ _ _ _ rfl]
  congr 1
  refine sum_fi _ (a + b) _ ?_ ?_
  · intro h
    by_cases h1 : a < 0
    · rw [decide_eq_false (by omega : ¬ b < 0), Bool.and_false]
    · rw [decide_eq_false h1, Bool.false_and]
  · rw [V_fi a ha, V_fi b hb, Int.add_mul]
theorem sub_fi (a b : Int) (ha : a.natAbs < 2 ^ 53) (hb : b.natAbs < 2 ^ 53) : double.sub (fi a) (fi b) = some (fi (a - b)) := by
  unfold Format.sub
  rw [fi_word a, fi_word b, read_word _ _ (fi_fin a ha), read_word _ _ (fi_fin b hb)]
  rw [show Datum.opposite (.number (decide (b < 0)) (mant (i2r b.natAbs)) ((expo (i2r b.natAbs) : Int) - 1074)) = .number (!decide (b < 0)) (mant (i2r b.natAbs)) ((expo (i2r b.natAbs) : Int) - 1074) from rfl]
  rw [sum_word _ _ _ _ _ rfl]
  congr 1
  refine sum_fi _ (a - b) _ ?_ ?_
  · intro h
    have : a = b := by omega
    subst this
    cases decide (a < 0) <;> rfl
  · have : sg (!decide (b < 0)) (V (i2r b.natAbs)) = - sg (decide (b < 0)) (V (i2r b.natAbs)) := by unfold sg; cases decide (b < 0) <;> simp
    rw [this, V_fi a ha, V_fi b hb, Int.sub_mul, Int.sub_eq_add_neg]
theorem mul_word (n : Bool) (r s : Nat) (hr : r < inf) (hs : s < inf) : double.mul r (double.word n s) = some (double.word n (fmul r s)) := by
  unfold Format.mul
  rw [read_small r hr, read_word n s hs]
  simp only [Datum.product, Bool.false_xor, Option.map_some]
  show some (double.nearest n (mant r * mant s) _) = _
  congr 1
  unfold fmul
  by_cases h0 : r = 0 ∨ s = 0
  · rw [if_pos h0]
    have hz : mant r * mant s = 0 := by rcases h0 with rfl | rfl <;> simp [mant_zero]
    rw [hz, nearest_zero]
  · rw [if_neg h0]
    have h1 : mant r ≠ 0 := mant_pos (by omega)
    have h2 : mant s ≠ 0 := mant_pos (by omega)
    have hpq : mant r * mant s ≠ 0 := Nat.mul_ne_zero h1 h2
    rw [nearest_eq n _ _ 1074 hpq (by omega), inf_eq]
    refine congrArg (fun z => double.word n (min z inf)) (rgN_congr 1074 _ _ _ _ hpq (Nat.mul_ne_zero (V_ne (by omega)) (V_ne (by omega))) ?_)
    rw [Nat.pow_zero, Nat.mul_one, V_eq r, V_eq s]
    have e : ((expo r : Int) - 1074 + ((expo s : Int) - 1074) + (1074 + ((1074 : Nat) : Int))).toNat = expo r + expo s := by omega
    rw [e, Nat.pow_add]
    simp only [Nat.mul_assoc, Nat.mul_left_comm]
theorem one_i2r : i2r 1 = 4607182418800017408 := by decide +kernel
theorem mul_one_fi (a : Int) (ha : a.natAbs < 2 ^ 53) : double.mul 4607182418800017408 (fi a) = some (fi a) := by
  rw [fi_word, mul_word _ _ _ (by decide) (fi_fin a ha), ← one_i2r, i2r_mul 1 _ (by decide) ha (by omega), Nat.one_mul]
theorem order_fi (a : Int) (ha : a.natAbs < 2 ^ 53) : double.order (fi a) (fi a) = some .eq := by
  have h := fi_fin a ha
  have h1 := inf_lt_nz
  rw [order_self, if_pos]
  rw [fi_word, word_eq]
  split
  · rw [Nat.add_mod_left, Nat.mod_eq_of_lt (by omega)]; omega
  · rw [Nat.mod_eq_of_lt (by omega)]; omega
end Go.Proofs.Ytbpnhpjcepgiiaa
