/- Real: the text of 6. -/
import Derived.Test.YthfgjibhpenfkaaDoorRe
import Derived.Test.YthfgjibhpenfkaaDoorRf
namespace Go.Proofs.YthfgjibhpenfkaaDoor
open Go.RowKit Fl

theorem isinf1_6 (w : World) : Calls Tryd.prog 40 #[.float .f64 4618441417868443648, .int .i64 1] w fun e w' => e = .returned (.bool false) ∧ w = w' := by
  have o : (FloatKind.f64.format.order 4618441417868443648 9218868437227405311 == some .gt) = false := by decide +kernel
  go_enter Tryd.func40, Tryd.ntmps40
  go_wp2
  go_ret
  exact ⟨rfl, rfl⟩
theorem and_even (y : Nat) (h : 2 * y < 18446744073709551616) : bits .and .u64 ((2 * y : Nat) : Int) 1 = 0 := by
  rw [show (1 : Int) = ((1 : Nat) : Int) from rfl, bits_and_u64_nat _ _ h (by decide), Nat.and_one_is_mod]
  omega
set_option maxRecDepth 100000 in
set_option maxHeartbeats 1000000 in
theorem text_6 (w : World) : Calls Tryd.prog 16 #[.float .f64 4618441417868443648] w fun e w' => e = .returned (.string ⟨#[51, 112, 49]⟩) ∧ w = w' := by
  have o1 : FloatKind.f64.format.order 4618441417868443648 4618441417868443648 = some .eq := by decide +kernel
  have o2 : (FloatKind.f64.format.order 4618441417868443648 0 == some .eq) = false := by decide +kernel
  have hmul := fun (T : TypeId) (W : World) => run_float_arith (P := Tryd.prog) W .mul T .f64 4604930618986332160 4845873199050653696 4843621399236968448 (by decide +kernel)
  have hci := fun (W : World) => run_convert_float_int (P := Tryd.prog) (w := W) 26 56 .f64 .u64 4843621399236968448 6755399441055744 (by rw [Tryd.underlying26]; rfl) Tryd.underlying56 (by decide +kernel)
  go_enter Tryd.func16, Tryd.ntmps16
  go_wp2_with fail
  refine (signbit_c 4618441417868443648 false _ (.inr rfl)).mono ?_
  rintro e w' ⟨rfl, rfl⟩
  go_wp2_with fail
  refine (isinf1_6 _).mono ?_
  rintro e w' ⟨rfl, rfl⟩
  go_wp2_with fail
  refine (Frexp_6 _).mono ?_
  rintro e w' ⟨rfl, rfl⟩
  go_wp2_with fail
  go_loopg [5, 6] 51 (fun g s5 s6 wr => ∃ j : Nat, s5 = .int .i64 ((j : Int) - 50) ∧ s6 = .int .u64 ((3 * 2 ^ (51 - j) : Nat) : Int) ∧ g = 51 - j ∧ j ≤ 51 ∧ w = wr)
  case atStart => exact ⟨0, rfl, by rw [show (3 * 2 ^ (51 - 0) : Nat) = 6755399441055744 by decide]; rfl, rfl, by omega, rfl⟩
  case round =>
    obtain ⟨j, rfl, rfl, hg, hj, rfl⟩ := hrel
    by_cases hlt : j < 51
    · obtain ⟨y, hy⟩ : ∃ y, y = 3 * 2 ^ (51 - (j + 1)) := ⟨_, rfl⟩
      have hyx : 3 * 2 ^ (51 - j) = 2 * y := by
        rw [hy, show 51 - j = (51 - (j + 1)) + 1 by omega, Nat.pow_succ]; omega
      have hyb : 2 * y < 18446744073709551616 := by
        rw [← hyx]
        have : 2 ^ (51 - j) ≤ 2 ^ 51 := Nat.pow_le_pow_right (by decide) (by omega)
        rw [show (2 : Nat) ^ 51 = 2251799813685248 by decide] at this
        omega
      have ha := and_even y hyb
      rw [hyx]
      obtain ⟨z, hz⟩ : ∃ z : Int, z = ((2 * y : Nat) : Int) := ⟨_, rfl⟩
      rw [← hz] at ha ⊢
      have hz2 : z / 2 = (y : Int) := by omega
      have HY := Lib.hid hy
      clear hy hyx hz
      go_wp2_with fail
      go_roundg (51 - (j + 1))
      case measure => omega
      case rel => exact ⟨j + 1, by go_num, by rw [← HY.out], rfl, by omega, rfl⟩
    · obtain rfl : j = 51 := by omega
      have hb : bits .and .u64 3 1 = 1 := by decide +kernel
      rw [show ((3 * 2 ^ (51 - 51) : Nat) : Int) = 3 by decide]
      go_wp2_with fail
      refine (fmtuint_3 _).mono ?_
      rintro e w' ⟨rfl, rfl⟩
      go_wp2_with fail
      refine (itoa_1 _).mono ?_
      rintro e w' ⟨rfl, rfl⟩
      go_wp2_with fail
      go_ret
      exact ⟨rfl, rfl⟩
end Go.Proofs.YthfgjibhpenfkaaDoor
