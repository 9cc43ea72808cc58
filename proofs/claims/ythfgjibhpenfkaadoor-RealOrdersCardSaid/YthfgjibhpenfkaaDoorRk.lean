/- Real: Read of "3p1". -/
import Derived.Test.YthfgjibhpenfkaaDoorRh
import Derived.Test.YthfgjibhpenfkaaDoorRj
import Derived.Test.YthfgjibhpenfkaaDoorKitd
namespace Go.Proofs.YthfgjibhpenfkaaDoor
open Go.RowKit Fl

/-- The frame of Read at a label: what stands in the slots that matter. -/
def rdF (u : Nat → Value) (s x a m e d : Value) : Act := { tmps := #[s, u 1, u 2, u 3, x, a, m, e, d, u 9, u 10, u 11, u 12, u 13, u 14, u 15, u 16, u 17, u 18, u 19, u 20, u 21, u 22, u 23, u 24, u 25, u 26, u 27, u 28, u 29, u 30, u 31, u 32, u 33, u 34, u 35, u 36, u 37, u 38, u 39, u 40, u 41, u 42, u 43, u 44, u 45, u 46, u 47, u 48, u 49, u 50, u 51, u 52, u 53, u 54, u 55, u 56, u 57, u 58, u 59, u 60, u 61, u 62, u 63, u 64, u 65, u 66, u 67, u 68, u 69, u 70, u 71, u 72, u 73, u 74, u 75, u 76, u 77, u 78, u 79, u 80, u 81, u 82, u 83, u 84, u 85, u 86, u 87, u 88, u 89, u 90, u 91, u 92, u 93, u 94, u 95, u 96, u 97, u 98, u 99, u 100, u 101, u 102, u 103, u 104, u 105, u 106, u 107, u 108, u 109, u 110, u 111, u 112, u 113, u 114, u 115, u 116, u 117, u 118, u 119, u 120, u 121, u 122, u 123, u 124, u 125, u 126, u 127, u 128, u 129, u 130, u 131], defers := [] }
def rdU (a : Act) : Nat → Value := fun i => a.tmps.getD i undef
def rdA (a : Act) : Int := match a.tmps.getD 5 undef with | .int _ n => n | _ => 0
set_option maxRecDepth 100000 in
set_option maxHeartbeats 1000000 in
theorem read_3 (w : World) : Calls Tryd.prog 15 #[.string ⟨#[51, 112, 49]⟩] w fun e w' => e = .returned (.tuple #[.float .f64 4618441417868443648, .int .i64 0]) ∧ w = w' := by
  have b0 : ((⟨#[51, 112, 49]⟩ : ByteArray)[0]'(by decide)).toNat = 51 := by decide
  have b1 : ((⟨#[51, 112, 49]⟩ : ByteArray)[1]'(by decide)).toNat = 112 := by decide
  have b2 : ((⟨#[51, 112, 49]⟩ : ByteArray)[2]'(by decide)).toNat = 49 := by decide
  go_enter Tryd.func15, Tryd.ntmps15
  go_wp2
  refine wp_scope_labels (fun l a w' => w = w' ∧ ((l = 1 ∧ a = rdF (rdU a) (.string ⟨#[51, 112, 49]⟩) (.float .f64 0) (.int .i64 1) (.int .u64 3) (.int .i64 0) (.bool false)) ∨ (l = 2 ∧ a = rdF (rdU a) (.string ⟨#[51, 112, 49]⟩) (.float .f64 0) (.int .i64 3) (.int .u64 3) (.int .i64 1) (.bool false)))) (fun l a w => (3 - rdA a).toNat) ?_ ?_
  · go_wp2
    go_step3
    go_wp2
    go_step3
    exact ⟨rfl, .inl ⟨rfl, rfl⟩⟩
  · rintro l a w' ⟨rfl, ⟨rfl, ha⟩ | ⟨rfl, ha⟩⟩
    · refine ⟨_, rfl, ?_⟩
      obtain ⟨u, hu⟩ : ∃ u, u = rdU a := ⟨_, rfl⟩
      rw [← hu] at ha
      clear hu
      subst ha
      unfold rdF
      go_wp2
      go_step3
      go_wp2
      go_step3
      exact ⟨⟨rfl, .inr ⟨rfl, rfl⟩⟩, of_decide_eq_true rfl⟩
    · refine ⟨_, rfl, ?_⟩
      obtain ⟨u, hu⟩ : ∃ u, u = rdU a := ⟨_, rfl⟩
      rw [← hu] at ha
      clear hu
      subst ha
      unfold rdF
      have hci : ∀ W : World, (convert 56 26 (Value.int .u64 3)).run Tryd.prog W = .ok (.float .f64 4613937818241073152) W := fun W =>
        (run_convert_int_float (P := Tryd.prog) (w := W) 56 26 .u64 .f64 3 (by rw [Tryd.underlying56]; rfl) Tryd.underlying26).trans (by rw [show floatOfInt .f64 3 = 4613937818241073152 by decide +kernel])
      go_wp2_with fail
      refine (Ldexp_3 _).mono ?_
      rintro e w' ⟨rfl, rfl⟩
      go_wp2_with fail
      go_step3
      go_wp2_with fail
      refine (text_6 _).mono ?_
      rintro e w' ⟨rfl, rfl⟩
      go_wp2_with fail
      unfold Exit.jumps
      go_ret2
      exact ⟨rfl, rfl⟩
end Go.Proofs.YthfgjibhpenfkaaDoor
