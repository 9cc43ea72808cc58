/- Real: Ldexp of 3 by 1. -/
import Derived.Test.YthfgjibhpenfkaaDoorRe
namespace Go.Proofs.YthfgjibhpenfkaaDoor
open Go.RowKit Fl

set_option maxRecDepth 100000 in
theorem ldexp_3 (w : World) : Calls Tryd.prog 57 #[.float .f64 4613937818241073152, .int .i64 1] w fun e w' => e = .returned (.float .f64 4618441417868443648) ∧ w = w' := by
  have hb := f64bits 4613937818241073152
  have hf : ∀ w : World, (callFunc 36 #[.int .u64 4618441417868443648]).run Tryd.prog w = .ok (.value (.float .f64 4618441417868443648)) w := f64frombits 4618441417868443648
  have o1 : (FloatKind.f64.format.order 4613937818241073152 0 == some .eq) = false := by decide +kernel
  have a1 : bits .andNot .u64 4613937818241073152 9218868437227405312 = 2251799813685248 := by decide +kernel
  have a3 : bits .and .i64 1024 2047 = 1024 := by decide +kernel
  have a2 : bits .or .u64 2251799813685248 4616189618054758400 = 4618441417868443648 := by decide +kernel
  have hmul := fun (T : TypeId) (W : World) => run_float_arith (P := Tryd.prog) W .mul T .f64 4607182418800017408 4618441417868443648 4618441417868443648 (by decide +kernel)
  go_enter Tryd.func57, Tryd.ntmps57
  go_wp2_with fail
  refine (isinf_any 4613937818241073152 _ (by decide)).mono ?_
  rintro e w' ⟨rfl, rfl⟩
  rw [show decide (4613937818241073152 % nz = inf) = false by decide +kernel]
  go_wp2_with fail
  refine (isnan_any 4613937818241073152 _).mono ?_
  rintro e w' ⟨rfl, rfl⟩
  rw [show (!decide (4613937818241073152 % nz ≤ inf)) = false by decide +kernel]
  go_wp2_with fail
  refine (normalize_c 4613937818241073152 _ (by decide) (by decide +kernel)).mono ?_
  rintro e w' ⟨rfl, rfl⟩
  go_wp2
  go_ret
  exact ⟨rfl, rfl⟩
theorem Ldexp_3 (w : World) : Calls Tryd.prog 38 #[.float .f64 4613937818241073152, .int .i64 1] w fun e w' => e = .returned (.float .f64 4618441417868443648) ∧ w = w' := by
  go_enter Tryd.func38, Tryd.ntmps38
  go_wp2_with fail
  refine (ldexp_3 _).mono ?_
  rintro e w' ⟨rfl, rfl⟩
  go_wp2_with fail
  go_ret
  exact ⟨rfl, rfl⟩
end Go.Proofs.YthfgjibhpenfkaaDoor
