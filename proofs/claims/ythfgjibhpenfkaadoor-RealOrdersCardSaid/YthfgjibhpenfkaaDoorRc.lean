/- Real: numbers of errors, likeness, lists that are too long, a search. -/
import Derived.Test.YthfgjibhpenfkaaDoorSe
namespace Go.Proofs.YthfgjibhpenfkaaDoor
open Go.RowKit Fl

theorem num_any (n : Int) (w : World) : Calls Tryd.prog 10 #[.int .i64 n] w fun e w' => e = .returned (.int .i64 n) ∧ w = w' := by
  go_enter Tryd.func10, Tryd.ntmps10
  go_wp2
  go_ret
  exact ⟨rfl, rfl⟩
theorem rlike_any (x y : Nat) (w : World) (hx : x < 18446744073709551616) (hy : y < 18446744073709551616) :
    Calls Tryd.prog 17 #[.float .f64 x, .float .f64 y] w fun e w' => e = .returned (.bool (placeW x == placeW y)) ∧ w = w' := by
  have HX := Lib.hid hx
  have HY := Lib.hid hy
  clear hx hy
  go_enter Tryd.func17, Tryd.ntmps17
  go_wp2_with fail
  refine (rplace_any x _ HX.out).mono ?_
  rintro e w' ⟨rfl, rfl⟩
  go_wp2_with fail
  refine (rplace_any y _ HY.out).mono ?_
  rintro e w' ⟨rfl, rfl⟩
  go_wp2_with fail
  go_ret
  exact ⟨rfl, rfl⟩
theorem sort_long (oa : Option Addr) (n c : Nat) (w : World) (hn : 65536 < n) :
    Calls Tryd.prog 8 #[.slice oa n c] w fun e w' => e = .returned (.tuple #[.slice none 0 0, .int .i64 3]) ∧ w = w' := by
  have hd : decide ((65536 : Int) < (n : Int)) = true := by rw [decide_eq_true_eq]; omega
  clear hn
  go_enter Tryd.func8, Tryd.ntmps8
  go_wp2_with fail
  go_ret2
  exact ⟨rfl, rfl⟩
theorem nth_long (k : Int) (oa : Option Addr) (n c : Nat) (w : World) (hn : 65536 < n) :
    Calls Tryd.prog 9 #[.int .i64 k, .slice oa n c] w fun e w' => e = .returned (.tuple #[.float .f64 0, .int .i64 3]) ∧ w = w' := by
  have HN := Lib.hid hn
  clear hn
  go_enter Tryd.func9, Tryd.ntmps9
  go_wp2_with fail
  refine (sort_long oa n c _ HN.out).mono ?_
  rintro e w' ⟨rfl, rfl⟩
  go_wp2_with fail
  go_ret2
  exact ⟨rfl, rfl⟩
end Go.Proofs.YthfgjibhpenfkaaDoor
