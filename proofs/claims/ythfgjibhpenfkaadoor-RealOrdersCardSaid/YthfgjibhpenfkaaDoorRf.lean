/- Real: FormatUint, Itoa of single numbers. -/
import Derived.Test.YthfgjibhpenfkaaDoorRa
namespace Go.Proofs.YthfgjibhpenfkaaDoor
open Go.RowKit Fl

set_option maxRecDepth 100000 in
theorem small_3 (w : World) : Calls Tryd.prog 75 #[.int .i64 3] w fun e w' => e = .returned (.string ⟨#[51]⟩) ∧ w = w' := by
  go_enter Tryd.func75, Tryd.ntmps75
  go_wp2
  go_ret
  exact ⟨rfl, rfl⟩
set_option maxRecDepth 100000 in
theorem small_1 (w : World) : Calls Tryd.prog 75 #[.int .i64 1] w fun e w' => e = .returned (.string ⟨#[49]⟩) ∧ w = w' := by
  go_enter Tryd.func75, Tryd.ntmps75
  go_wp2
  go_ret
  exact ⟨rfl, rfl⟩
set_option maxRecDepth 100000 in
theorem fmtuint_3 (w : World) : Calls Tryd.prog 42 #[.int .u64 3, .int .i64 10] w fun e w' => e = .returned (.string ⟨#[51]⟩) ∧ w = w' := by
  have h : ∀ w : World, Calls Tryd.prog 61 #[.int .u64 3, .int .i64 10] w fun e w' => e = .returned (.string ⟨#[51]⟩) ∧ w = w' := fun w => by
    go_enter Tryd.func61, Tryd.ntmps61
    go_wp2_with fail
    refine (small_3 _).mono ?_
    rintro e w' ⟨rfl, rfl⟩
    go_wp2_with fail
    go_ret
    exact ⟨rfl, rfl⟩
  go_enter Tryd.func42, Tryd.ntmps42
  go_wp2_with fail
  refine (h _).mono ?_
  rintro e w' ⟨rfl, rfl⟩
  go_wp2_with fail
  go_ret
  exact ⟨rfl, rfl⟩
set_option maxRecDepth 100000 in
theorem itoa_1 (w : World) : Calls Tryd.prog 43 #[.int .i64 1] w fun e w' => e = .returned (.string ⟨#[49]⟩) ∧ w = w' := by
  have h : ∀ w : World, Calls Tryd.prog 79 #[.int .i64 1, .int .i64 10] w fun e w' => e = .returned (.string ⟨#[49]⟩) ∧ w = w' := fun w => by
    go_enter Tryd.func79, Tryd.ntmps79
    go_wp2_with fail
    refine (small_1 _).mono ?_
    rintro e w' ⟨rfl, rfl⟩
    go_wp2_with fail
    go_ret
    exact ⟨rfl, rfl⟩
  have h2 : ∀ w : World, Calls Tryd.prog 62 #[.int .i64 1] w fun e w' => e = .returned (.string ⟨#[49]⟩) ∧ w = w' := fun w => by
    go_enter Tryd.func62, Tryd.ntmps62
    go_wp2_with fail
    refine (h _).mono ?_
    rintro e w' ⟨rfl, rfl⟩
    go_wp2_with fail
    go_ret
    exact ⟨rfl, rfl⟩
  go_enter Tryd.func43, Tryd.ntmps43
  go_wp2_with fail
  refine (h2 _).mono ?_
  rintro e w' ⟨rfl, rfl⟩
  go_wp2_with fail
  go_ret
  exact ⟨rfl, rfl⟩
end Go.Proofs.YthfgjibhpenfkaaDoor
