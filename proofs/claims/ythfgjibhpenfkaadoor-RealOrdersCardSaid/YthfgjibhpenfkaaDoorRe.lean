/- Real: Frexp of single numbers. -/
import Derived.Test.YthfgjibhpenfkaaDoorRa
namespace Go.Proofs.YthfgjibhpenfkaaDoor
open Go.RowKit Fl

theorem signbit_c (x : Nat) (b : Bool) (w : World) (h : (x, b) = (4604930618986332160, false) ∨ (x, b) = (4618441417868443648, false)) :
    Calls Tryd.prog 39 #[.float .f64 x] w fun e w' => e = .returned (.bool b) ∧ w = w' := by
  have h1 := f64bits x
  rcases h with h | h
  · obtain ⟨rfl, rfl⟩ := Prod.mk.inj h
    clear h
    go_enter Tryd.func39, Tryd.ntmps39
    go_wp2
    go_ret
    exact ⟨rfl, rfl⟩
  · obtain ⟨rfl, rfl⟩ := Prod.mk.inj h
    clear h
    go_enter Tryd.func39, Tryd.ntmps39
    go_wp2
    go_ret
    exact ⟨rfl, rfl⟩
theorem normalize_c (x : Nat) (w : World) (hx : x < 18446744073709551616) (h : (Ieee.double.order (x % nz) 4503599627370496 == some .lt) = false) :
    Calls Tryd.prog 74 #[.float .f64 x] w fun e w' => e = .returned (.tuple #[.float .f64 x, .int .i64 0]) ∧ w = w' := by
  have HX := Lib.hid hx
  have h' : (FloatKind.f64.format.order (x % nz) 4503599627370496 == some .lt) = false := h
  clear hx h
  go_enter Tryd.func74, Tryd.ntmps74
  go_wp2_with fail
  refine (abs_any x _ HX.out).mono ?_
  rintro e w' ⟨rfl, rfl⟩
  go_wp2_with fail
  go_ret2
  exact ⟨rfl, rfl⟩
set_option maxRecDepth 100000 in
theorem frexp_6 (w : World) : Calls Tryd.prog 60 #[.float .f64 4618441417868443648] w fun e w' => e = .returned (.tuple #[.float .f64 4604930618986332160, .int .i64 3]) ∧ w = w' := by
  have hb := f64bits 4618441417868443648
  have hf : ∀ w : World, (callFunc 36 #[.int .u64 4604930618986332160]).run Tryd.prog w = .ok (.value (.float .f64 4604930618986332160)) w := f64frombits 4604930618986332160
  have o1 : (FloatKind.f64.format.order 4618441417868443648 0 == some .eq) = false := by decide +kernel
  have a1 : bits .andNot .u64 4618441417868443648 9218868437227405312 = 2251799813685248 := by decide +kernel
  have a2 : bits .or .u64 2251799813685248 4602678819172646912 = 4604930618986332160 := by decide +kernel
  have a3 : bits .and .u64 1025 2047 = 1025 := by decide +kernel
  go_enter Tryd.func60, Tryd.ntmps60
  go_wp2_with fail
  refine (isinf_any 4618441417868443648 _ (by decide)).mono ?_
  rintro e w' ⟨rfl, rfl⟩
  rw [show decide (4618441417868443648 % nz = inf) = false by decide +kernel]
  go_wp2_with fail
  refine (isnan_any 4618441417868443648 _).mono ?_
  rintro e w' ⟨rfl, rfl⟩
  rw [show (!decide (4618441417868443648 % nz ≤ inf)) = false by decide +kernel]
  go_wp2_with fail
  refine (normalize_c 4618441417868443648 _ (by decide) (by decide +kernel)).mono ?_
  rintro e w' ⟨rfl, rfl⟩
  go_wp2
  go_ret2
  exact ⟨rfl, rfl⟩
theorem Frexp_6 (w : World) : Calls Tryd.prog 41 #[.float .f64 4618441417868443648] w fun e w' => e = .returned (.tuple #[.float .f64 4604930618986332160, .int .i64 3]) ∧ w = w' := by
  go_enter Tryd.func41, Tryd.ntmps41
  go_wp2_with fail
  refine (frexp_6 _).mono ?_
  rintro e w' ⟨rfl, rfl⟩
  go_wp2_with fail
  go_ret2
  exact ⟨rfl, rfl⟩
set_option maxRecDepth 100000 in
theorem frexp_34 (w : World) : Calls Tryd.prog 60 #[.float .f64 4604930618986332160] w fun e w' => e = .returned (.tuple #[.float .f64 4604930618986332160, .int .i64 0]) ∧ w = w' := by
  have hb := f64bits 4604930618986332160
  have hf : ∀ w : World, (callFunc 36 #[.int .u64 4604930618986332160]).run Tryd.prog w = .ok (.value (.float .f64 4604930618986332160)) w := f64frombits 4604930618986332160
  have o1 : (FloatKind.f64.format.order 4604930618986332160 0 == some .eq) = false := by decide +kernel
  have a1 : bits .andNot .u64 4604930618986332160 9218868437227405312 = 2251799813685248 := by decide +kernel
  have a2 : bits .or .u64 2251799813685248 4602678819172646912 = 4604930618986332160 := by decide +kernel
  have a3 : bits .and .u64 1022 2047 = 1022 := by decide +kernel
  go_enter Tryd.func60, Tryd.ntmps60
  go_wp2_with fail
  refine (isinf_any 4604930618986332160 _ (by decide)).mono ?_
  rintro e w' ⟨rfl, rfl⟩
  rw [show decide (4604930618986332160 % nz = inf) = false by decide +kernel]
  go_wp2_with fail
  refine (isnan_any 4604930618986332160 _).mono ?_
  rintro e w' ⟨rfl, rfl⟩
  rw [show (!decide (4604930618986332160 % nz ≤ inf)) = false by decide +kernel]
  go_wp2_with fail
  refine (normalize_c 4604930618986332160 _ (by decide) (by decide +kernel)).mono ?_
  rintro e w' ⟨rfl, rfl⟩
  go_wp2
  go_ret2
  exact ⟨rfl, rfl⟩
theorem Frexp_34 (w : World) : Calls Tryd.prog 41 #[.float .f64 4604930618986332160] w fun e w' => e = .returned (.tuple #[.float .f64 4604930618986332160, .int .i64 0]) ∧ w = w' := by
  go_enter Tryd.func41, Tryd.ntmps41
  go_wp2_with fail
  refine (frexp_34 _).mono ?_
  rintro e w' ⟨rfl, rfl⟩
  go_wp2_with fail
  go_ret2
  exact ⟨rfl, rfl⟩
end Go.Proofs.YthfgjibhpenfkaaDoor
