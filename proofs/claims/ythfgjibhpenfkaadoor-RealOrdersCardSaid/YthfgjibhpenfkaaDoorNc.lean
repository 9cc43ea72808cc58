/- Real: Frexp of any finite float above zero. -/
import Derived.Test.YthfgjibhpenfkaaDoorNb
import Derived.Test.YthfgjibhpenfkaaDoorRe
namespace Go.Proofs.YthfgjibhpenfkaaDoor
open Go.RowKit Fl

theorem and_low (y : Nat) (h : y ≤ 2047) : bits .and .u64 (y : Int) 2047 = (y : Int) := by
  rw [show (2047 : Int) = ((2047 : Nat) : Int) from rfl, bits_and_u64_nat _ _ (by omega) (by decide), show (2047 : Nat) = 2 ^ 11 - 1 from rfl, Nat.and_two_pow_sub_one_eq_mod]
  have : y % 2 ^ 11 = y := Nat.mod_eq_of_lt (by omega)
  rw [this]
theorem and_low_i (y : Nat) (h : y ≤ 2047) : bits .and .i64 (y : Int) 2047 = (y : Int) := by
  rw [show (2047 : Int) = ((2047 : Nat) : Int) from rfl, (bits_nat .i64 11 (by decide) (fun n h0 h1 => by rw [IntKind.wrap_i64]; omega) y 2047 (by omega) (by decide)).1, show (2047 : Nat) = 2 ^ 11 - 1 from rfl, Nat.and_two_pow_sub_one_eq_mod]
  have : y % 2 ^ 11 = y := Nat.mod_eq_of_lt (by omega)
  rw [this]
theorem and_frac (y : Nat) (h : y < 9223372036854775808) : y &&& (18446744073709551615 - 9218868437227405312) = y % 4503599627370496 := by
  rw [show (18446744073709551615 - 9218868437227405312 : Nat) = 2 ^ 63 ||| (2 ^ 52 - 1) by decide, show (4503599627370496 : Nat) = 2 ^ 52 from rfl]
  apply Nat.eq_of_testBit_eq
  intro i
  rw [Nat.testBit_and, Nat.testBit_or, Nat.testBit_two_pow, Nat.testBit_two_pow_sub_one, Nat.testBit_mod_two_pow]
  by_cases e : 63 = i
  · subst e
    have : y.testBit 63 = false := Nat.testBit_lt_two_pow (by omega)
    simp [this]
  · simp [e, Bool.and_comm]
theorem andNot_frac (y : Nat) (h : y < 9223372036854775808) : bits .andNot .u64 (y : Int) 9218868437227405312 = ((y % 4503599627370496 : Nat) : Int) := by
  have h1 := u64_andNot_nat y 9218868437227405312 (by omega) (by decide)
  rw [and_frac y h] at h1
  exact h1
theorem or_frac (f K : Nat) (hf : f < 4503599627370496) (hK : K < 4096) : bits .or .u64 (f : Int) ((K * 4503599627370496 : Nat) : Int) = ((K * 4503599627370496 + f : Nat) : Int) := by
  rw [bits_or_u64_nat _ _ (by omega) (by omega), Nat.or_comm]
  have := Nat.two_pow_add_eq_or_of_lt (b := f) (i := 52) hf K
  rw [show (2 : Nat) ^ 52 = 4503599627370496 from rfl, Nat.mul_comm] at this
  rw [this]
/-- what normalize hands back -/
def NormOf (r r2 : Nat) (s : Nat) : Prop := 4503599627370496 ≤ r2 ∧ r2 < inf ∧ V r2 = V r * 2 ^ s ∧ (s = 0 ∧ r2 = r ∨ s = 52 ∧ r < 4503599627370496)
theorem order_r (r : Nat) (hr : r < inf) (c : Nat) (hc : c < inf) : (FloatKind.f64.format.order r c == some .lt) = decide (r < c) := by
  show (Ieee.double.order r c == some .lt) = _
  rw [order_small r c hr hc]
  by_cases h : r < c
  · rw [Nat.compare_eq_lt.2 h]; simp [h]
  · rcases Nat.lt_or_ge c r with h1 | h1
    · rw [Nat.compare_eq_gt.2 h1]; simp [h]
    · obtain rfl : r = c := by omega
      rw [Nat.compare_eq_eq.2 rfl]; simp
theorem V_c52 : V 4841369599423283200 = 4503599627370496 * 2 ^ E74 := by
  have := (V_word 1075 4503599627370496 (by decide) (Nat.le_refl _) (by decide)).1
  rw [show 1075 * 4503599627370496 + (4503599627370496 - 4503599627370496) = 4841369599423283200 from rfl, show 1075 - 1 = E74 from rfl] at this
  exact this
set_option maxRecDepth 100000 in
theorem normalize_any (r : Nat) (w : World) (h0 : 0 < r) (hr : r < inf) :
    Calls Tryd.prog 74 #[.float .f64 r] w fun e w' => ∃ r2 s : Nat, NormOf r r2 s ∧ e = .returned (.tuple #[.float .f64 r2, .int .i64 (-(s : Int))]) ∧ w = w' := by
  have hnz : r % nz = r := Nat.mod_eq_of_lt (by have := inf_lt_nz; omega)
  by_cases hlt : r < 4503599627370496
  · obtain ⟨r2, a, b, c⟩ := norm_sub h0 hlt
    have hm : Ieee.double.mul r 4841369599423283200 = some r2 := by
      rw [mul_small r _ hr (by decide), fmul_exact h0 (by decide) (by omega) b (by rw [V_c52, V_sub hlt, c, ← Nat.mul_assoc, p52])]
    have hmul := fun (T : TypeId) (W : World) => run_float_arith (P := Tryd.prog) W .mul T .f64 r 4841369599423283200 r2 hm
    have ho : (FloatKind.f64.format.order r 4503599627370496 == some .lt) = true := by rw [order_r r hr _ (by decide)]; simp [hlt]
    have H := Lib.hid (show NormOf r r2 52 from ⟨a, b, by rw [c, V_sub hlt], .inr ⟨rfl, hlt⟩⟩)
    have HR : Hid (r < 18446744073709551616) := Lib.hid (by omega)
    have HNZ := Lib.hid hnz
    clear hlt a b c hm h0 hr hnz
    go_enter Tryd.func74, Tryd.ntmps74
    go_wp2_with fail
    refine (abs_any r _ HR.out).mono ?_
    rintro e w' ⟨rfl, rfl⟩
    rw [HNZ.out]
    go_wp2_with fail
    go_ret2
    exact ⟨r2, 52, H.out, rfl, rfl⟩
  · refine (normalize_c r w (by have := inf_val; omega) ?_).mono ?_
    · rw [hnz]
      have := order_r r hr 4503599627370496 (by decide)
      rw [show FloatKind.f64.format.order r 4503599627370496 = Ieee.double.order r 4503599627370496 from rfl] at this
      rw [this]
      simp; omega
    · rintro e w' ⟨rfl, rfl⟩
      exact ⟨r, 0, ⟨by omega, hr, by simp, .inl ⟨rfl, rfl⟩⟩, rfl, rfl⟩
set_option maxRecDepth 100000 in
theorem frexp_any (r : Nat) (w : World) (h0 : 0 < r) (hr : r < inf) :
    Calls Tryd.prog 60 #[.float .f64 r] w fun e w' => ∃ r2 s : Nat, NormOf r r2 s ∧ e = .returned (.tuple #[.float .f64 (1022 * 4503599627370496 + r2 % 4503599627370496), .int .i64 ((r2 / 4503599627370496 : Nat) - 1022 - (s : Int))]) ∧ w = w' := by
  have hi := inf_val
  have hnz : r % nz = r := Nat.mod_eq_of_lt (by have := inf_lt_nz; omega)
  have o1 : (FloatKind.f64.format.order r 0 == some .eq) = false := by
    show (Ieee.double.order r 0 == some .eq) = false
    rw [order_small r 0 hr (by decide), Nat.compare_eq_gt.2 h0]
    rfl
  have i1 : decide (r % nz = inf) = false := by rw [hnz]; simp; omega
  have i2 : (!decide (r % nz ≤ inf)) = false := by rw [hnz]; simp; omega
  have H1 := Lib.hid (And.intro i1 i2)
  have HR : Hid (r < 18446744073709551616) := Lib.hid (by omega)
  have H0 := Lib.hid (And.intro h0 hr)
  clear i1 i2 h0 hr hnz hi
  go_enter Tryd.func60, Tryd.ntmps60
  go_wp2_with fail
  refine (isinf_any r _ HR.out).mono ?_
  rintro e w' ⟨rfl, rfl⟩
  rw [H1.out.1]
  go_wp2_with fail
  refine (isnan_any r _).mono ?_
  rintro e w' ⟨rfl, rfl⟩
  rw [H1.out.2]
  go_wp2_with fail
  refine (normalize_any r _ H0.out.1 H0.out.2).mono ?_
  rintro e w' ⟨r2, s, hn, rfl, rfl⟩
  have hlt := hn.2.1
  rw [inf_val] at hlt
  have hs : s = 0 ∨ s = 52 := by rcases hn.2.2.2 with ⟨h, _⟩ | ⟨h, _⟩ <;> omega
  have HN := Lib.hid hn
  obtain ⟨q, hq⟩ : ∃ q, q = r2 / 4503599627370496 := ⟨_, rfl⟩
  obtain ⟨p, hp⟩ : ∃ p, p = r2 % 4503599627370496 := ⟨_, rfl⟩
  have hq2 : q ≤ 2046 := by omega
  have hsh : (r2 : Int) / 4503599627370496 = (q : Int) := by omega
  have a3 := and_low q (by omega)
  have a1 := andNot_frac r2 (by omega)
  rw [← hp] at a1
  have a2 := or_frac p 1022 (by omega) (by decide)
  obtain ⟨F, hF⟩ : ∃ F, F = 1022 * 4503599627370496 + p := ⟨_, rfl⟩
  rw [← hF, show ((1022 * 4503599627370496 : Nat) : Int) = 4602678819172646912 from rfl] at a2
  have hb := f64bits r2
  have hf := f64frombits F
  have HQ := Lib.hid (And.intro hq (And.intro hp hF))
  clear hF
  clear hn hlt hq hp
  go_wp2
  go_ret2
  refine ⟨r2, s, HN.out, ?_, rfl⟩
  rw [← HQ.out.1, ← HQ.out.2.1, ← HQ.out.2.2]
  have : -(s : Int) + ((q : Int) - 1023 + 1) = (q : Int) - 1022 - (s : Int) := by omega
  rw [← this]
  rfl
theorem Frexp_any (r : Nat) (w : World) (h0 : 0 < r) (hr : r < inf) :
    Calls Tryd.prog 41 #[.float .f64 r] w fun e w' => ∃ r2 s : Nat, NormOf r r2 s ∧ e = .returned (.tuple #[.float .f64 (1022 * 4503599627370496 + r2 % 4503599627370496), .int .i64 ((r2 / 4503599627370496 : Nat) - 1022 - (s : Int))]) ∧ w = w' := by
  have H0 := Lib.hid (And.intro h0 hr)
  clear h0 hr
  go_enter Tryd.func41, Tryd.ntmps41
  go_wp2_with fail
  refine (frexp_any r _ H0.out.1 H0.out.2).mono ?_
  rintro e w' ⟨r2, s, hn, rfl, rfl⟩
  have HN := Lib.hid hn
  clear hn
  obtain ⟨F, hF⟩ : ∃ F, F = 1022 * 4503599627370496 + r2 % 4503599627370496 := ⟨_, rfl⟩
  obtain ⟨E, hE⟩ : ∃ E : Int, E = (r2 / 4503599627370496 : Nat) - 1022 - (s : Int) := ⟨_, rfl⟩
  rw [← hF, ← hE]
  have HF := Lib.hid (And.intro hF hE)
  clear hF hE
  go_wp2_with fail
  go_ret2
  exact ⟨r2, s, HN.out, by rw [← HF.out.1, ← HF.out.2]; rfl, rfl⟩
end Go.Proofs.YthfgjibhpenfkaaDoor
