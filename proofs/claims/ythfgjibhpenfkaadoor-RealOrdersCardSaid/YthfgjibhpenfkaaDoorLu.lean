/- Real: the text of 0.75. -/
import Derived.Test.YthfgjibhpenfkaaDoorRh
import Derived.Test.YthfgjibhpenfkaaDoorLt
namespace Go.Proofs.YthfgjibhpenfkaaDoor
open Go.RowKit Fl

theorem isinf1_34 (w : World) : Calls Tryd.prog 40 #[.float .f64 4604930618986332160, .int .i64 1] w fun e w' => e = .returned (.bool false) ∧ w = w' := by
  have o : (FloatKind.f64.format.order 4604930618986332160 9218868437227405311 == some .gt) = false := by decide +kernel
  go_enter Tryd.func40, Tryd.ntmps40
  go_wp2
  go_ret
  exact ⟨rfl, rfl⟩
theorem signbit_34 (w : World) : Calls Tryd.prog 39 #[.float .f64 4604930618986332160] w fun e w' => e = .returned (.bool false) ∧ w = w' := by
  have h := f64bits 4604930618986332160
  have a : bits .and .u64 4604930618986332160 9223372036854775808 = 0 := by decide +kernel
  go_enter Tryd.func39, Tryd.ntmps39
  go_wp2
  go_ret
  exact ⟨rfl, rfl⟩
set_option maxRecDepth 100000 in
set_option maxHeartbeats 1000000 in
theorem text_34 (w : World) (ht : Pow10 w) : Calls Tryd.prog 16 #[.float .f64 4604930618986332160] w fun e w' => e = .returned (.string ⟨#[51, 112, 45, 50]⟩) ∧ Below w.heap.size w w' := by
  have o1 : FloatKind.f64.format.order 4604930618986332160 4604930618986332160 = some .eq := by decide +kernel
  have o2 : (FloatKind.f64.format.order 4604930618986332160 0 == some .eq) = false := by decide +kernel
  have hmul := fun (T : TypeId) (W : World) => run_float_arith (P := Tryd.prog) W .mul T .f64 4604930618986332160 4845873199050653696 4843621399236968448 (by decide +kernel)
  have hci := fun (W : World) => run_convert_float_int (P := Tryd.prog) (w := W) 26 56 .f64 .u64 4843621399236968448 6755399441055744 (by rw [Tryd.underlying26]; rfl) Tryd.underlying56 (by decide +kernel)
  go_enter Tryd.func16, Tryd.ntmps16
  go_wp2_with fail
  refine (signbit_34 _).mono ?_
  rintro e w' ⟨rfl, rfl⟩
  go_wp2_with fail
  refine (isinf1_34 _).mono ?_
  rintro e w' ⟨rfl, rfl⟩
  go_wp2_with fail
  refine (Frexp_34 _).mono ?_
  rintro e w' ⟨rfl, rfl⟩
  go_wp2_with fail
  go_loopg [5, 6] 51 (fun g s5 s6 wr => ∃ j : Nat, s5 = .int .i64 ((j : Int) - 53) ∧ s6 = .int .u64 ((3 * 2 ^ (51 - j) : Nat) : Int) ∧ g = 51 - j ∧ j ≤ 51 ∧ w = wr)
  case atStart => exact ⟨0, rfl, by rw [show (3 * 2 ^ (51 - 0) : Nat) = 6755399441055744 by decide]; rfl, rfl, by omega, rfl⟩
  case round =>
    obtain ⟨j, rfl, rfl, hg, hj, rfl⟩ := hrel
    by_cases hlt : j < 51
    · obtain ⟨y, hy⟩ : ∃ y, y = 3 * 2 ^ (51 - (j + 1)) := ⟨_, rfl⟩
      have hyx : 3 * 2 ^ (51 - j) = 2 * y := by
        rw [hy, show 51 - j = (51 - (j + 1)) + 1 by omega, Nat.pow_succ]; omega
      have hyb : 2 * y < 18446744073709551616 := by
        rw [← hyx]
        have : 2 ^ (51 - j) ≤ 2 ^ 51 := Nat.pow_le_pow_right (by decide) (by omega)
        rw [show (2 : Nat) ^ 51 = 2251799813685248 by decide] at this
        omega
      have ha := and_even y hyb
      rw [hyx]
      obtain ⟨z, hz⟩ : ∃ z : Int, z = ((2 * y : Nat) : Int) := ⟨_, rfl⟩
      rw [← hz] at ha ⊢
      have hz2 : z / 2 = (y : Int) := by omega
      have HY := Lib.hid hy
      clear hy hyx hz
      go_wp2_with fail
      go_roundg (51 - (j + 1))
      case measure => omega
      case rel => exact ⟨j + 1, by go_num, by rw [← HY.out], rfl, by omega, rfl⟩
    · obtain rfl : j = 51 := by omega
      have hb : bits .and .u64 3 1 = 1 := by decide +kernel
      rw [show ((3 * 2 ^ (51 - 51) : Nat) : Int) = 3 by decide]
      go_wp2_with fail
      refine (fmtuint_3 _).mono ?_
      rintro e w' ⟨rfl, rfl⟩
      go_wp2_with fail
      refine (itoa_b _ (by decide) (by decide) _ ht).mono ?_
      rintro e w' ⟨rfl, hb⟩
      rw [itoa_m2]
      go_wp2_with fail
      go_ret
      exact ⟨rfl, hb⟩
end Go.Proofs.YthfgjibhpenfkaaDoor
