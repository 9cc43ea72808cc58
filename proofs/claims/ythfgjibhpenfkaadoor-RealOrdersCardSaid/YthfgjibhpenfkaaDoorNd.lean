/- Real: the text of any float. -/
import Derived.Test.YthfgjibhpenfkaaDoorNc
import Derived.Test.YthfgjibhpenfkaaDoorRh
import Derived.Deep.CutRange
namespace Go.Proofs.YthfgjibhpenfkaaDoor
open Go.RowKit Fl

theorem top_bit (x : Nat) (hx : x < 18446744073709551616) : x.testBit 63 = decide (nz ≤ x) := by
  rw [Nat.testBit_eq_decide_div_mod_eq, nz_val, show (2 : Nat) ^ 63 = 9223372036854775808 from rfl]
  by_cases h : 9223372036854775808 ≤ x
  · simp only [h, decide_true, decide_eq_true_eq]; omega
  · simp only [h, decide_false, decide_eq_false_iff_not]; omega
theorem neg_top (x : Nat) (h : nz ≤ x) (hx : x < 18446744073709551616) : Op.negFloat .f64 x = x % nz := by
  show x ^^^ 2 ^ 63 = x % nz
  rw [show nz = 2 ^ 63 from rfl]
  apply Nat.eq_of_testBit_eq
  intro i
  rw [Nat.testBit_xor, Nat.testBit_two_pow, Nat.testBit_mod_two_pow]
  by_cases e : 63 = i
  · subst e
    rw [top_bit x hx]
    simp [h]
  · by_cases e2 : i < 63
    · simp [e, e2]
    · have : x.testBit i = false := Nat.testBit_lt_two_pow (Nat.lt_of_lt_of_le hx (by
        rw [show (18446744073709551616 : Nat) = 2 ^ 64 from rfl]
        exact Nat.pow_le_pow_right (by decide) (by omega)))
      simp [e, e2, this]
theorem neg_low (x : Nat) (h : x < nz) : Op.negFloat .f64 x = nz + x := by
  show x ^^^ 2 ^ 63 = nz + x
  have h2 := Nat.two_pow_add_eq_or_of_lt (b := x) (i := 63) h 1
  rw [show nz = 2 ^ 63 * 1 from rfl, h2, Nat.mul_one]
  apply Nat.eq_of_testBit_eq
  intro i
  rw [Nat.testBit_xor, Nat.testBit_or, Nat.testBit_two_pow]
  by_cases e : 63 = i
  · subst e
    have : x.testBit 63 = false := Nat.testBit_lt_two_pow h
    simp [this]
  · simp [e]
theorem signbit_any (x : Nat) (w : World) (hx : x < 18446744073709551616) :
    Calls Tryd.prog 39 #[.float .f64 x] w fun e w' => e = .returned (.bool (decide (nz ≤ x))) ∧ w = w' := by
  have h1 := f64bits x
  have hw : Hid (decide (wrap64 (x : Int) < 0) = decide (nz ≤ x)) := Lib.hid (by
    unfold wrap64
    rw [nz_val]
    by_cases h : 9223372036854775808 ≤ x
    · simp only [h, decide_true, decide_eq_true_eq]; omega
    · simp only [h, decide_false, decide_eq_false_iff_not]; omega)
  clear hx
  go_enter Tryd.func39, Tryd.ntmps39
  go_wp2
  go_ret
  exact ⟨by rw [← hw.out]; rfl, rfl⟩
theorem isinf1_any (r : Nat) (w : World) (hr : r < nz) : Calls Tryd.prog 40 #[.float .f64 r, .int .i64 1] w fun e w' => e = .returned (.bool (decide (r = inf))) ∧ w = w' := by
  have o : (FloatKind.f64.format.order r 9218868437227405311 == some .gt) = decide (r = inf) := gt_max r hr
  obtain ⟨z, hz⟩ : ∃ z, z = decide (r = inf) := ⟨_, rfl⟩
  rw [← hz] at o ⊢
  clear hr hz
  cases z
  all_goals
    go_enter Tryd.func40, Tryd.ntmps40
    go_wp2
    go_ret
    exact ⟨rfl, rfl⟩
theorem Text_nan (x : Nat) (w : World) (hn : inf < x % nz) : Calls Tryd.prog 16 #[.float .f64 x] w fun e w' => e = .returned (.string ⟨#[110, 97, 110]⟩) ∧ w = w' := by
  have o : (FloatKind.f64.format.order x x == some .eq) = false := by
    show (Ieee.double.order x x == some .eq) = false
    rw [order_self, if_neg (by omega)]
    rfl
  have o2 : (FloatKind.f64.format.order x x != some .eq) = true := by rw [bne, o]; rfl
  clear hn
  go_enter Tryd.func16, Tryd.ntmps16
  go_wp2_with fail
  go_ret
  exact ⟨rfl, rfl⟩
end Go.Proofs.YthfgjibhpenfkaaDoor
