/- Quota: like; a client; what QuotaWaits comes to. -/
import Derived.Test.YtbpnhpjcepgiiaaQj
namespace Go.Proofs.Ytbpnhpjcepgiiaa
open Go.RowKit Fl

def placeW (x : Nat) : Int := if x % nz > inf then 18446744073709551615 else if x < nz then (x : Int) + 9223372036854775808 else 18446744073709551615 - (x : Int)

theorem nan_any (x : Nat) (w : World) :
    Calls Try.prog 92 #[.float .f64 x] w fun e w' => e = .returned (.bool (!decide (x % nz ≤ inf))) ∧ w = w' := by
  have H := Lib.hid (order_self x)
  go_enter Try.func92, Try.ntmps92
  go_wp2
  go_ret
  refine ⟨ret_bool ?_, rfl⟩
  rw [ord, H.out]
  by_cases h : x % nz ≤ inf <;> simp [h]

set_option maxRecDepth 100000 in
theorem place_any (x : Nat) (w : World) (hx : x < 18446744073709551616) :
    Calls Try.prog 80 #[.float .f64 x] w fun e w' => e = .returned (.int .u64 (placeW x)) ∧ w = w' := by
  have hfb := f64bits x
  by_cases h1 : x % nz ≤ inf
  · have H1 : Hid ((!decide (x % nz ≤ inf)) = false) := Lib.hid (by simp [h1])
    by_cases h2 : x < nz
    · have hd : decide ((9223372036854775808 : Int) ≤ (x : Int)) = false := by rw [decide_eq_false_iff_not]; unfold nz at h2; omega
      have HV : Hid ((x : Int) + 9223372036854775808 = placeW x) := Lib.hid (by unfold placeW; rw [if_neg (by omega), if_pos h2])
      have hb : (x : Int) + 9223372036854775808 < 18446744073709551616 := by unfold nz at h2; omega
      clear h1 h2 hx
      go_enter Try.func80, Try.ntmps80
      go_wp2_with (go_at_call 92; refine (nan_any x _).mono ?_; rintro e w' ⟨rfl, rfl⟩; rw [H1.out])
      go_ret
      exact ⟨ret_int HV.out, rfl⟩
    · have hd : decide ((9223372036854775808 : Int) ≤ (x : Int)) = true := by rw [decide_eq_true_eq]; unfold nz at h2; omega
      have HV : Hid ((18446744073709551615 : Int) - (x : Int) = placeW x) := Lib.hid (by unfold placeW; rw [if_neg (by omega), if_neg h2])
      have hb : (x : Int) ≤ 18446744073709551615 := by omega
      clear h1 h2 hx
      go_enter Try.func80, Try.ntmps80
      go_wp2_with (go_at_call 92; refine (nan_any x _).mono ?_; rintro e w' ⟨rfl, rfl⟩; rw [H1.out])
      go_ret
      exact ⟨ret_int HV.out, rfl⟩
  · have H1 : Hid ((!decide (x % nz ≤ inf)) = true) := Lib.hid (by simp; omega)
    have HV : Hid ((18446744073709551615 : Int) = placeW x) := Lib.hid (by unfold placeW; rw [if_pos (by omega)])
    clear h1 hx
    go_enter Try.func80, Try.ntmps80
    go_wp2_with (go_at_call 92; refine (nan_any x _).mono ?_; rintro e w' ⟨rfl, rfl⟩; rw [H1.out])
    go_ret
    exact ⟨ret_int HV.out, rfl⟩

theorem reflike_any (x y : Nat) (w : World) (hx : x < 18446744073709551616) (hy : y < 18446744073709551616) :
    Calls Try.prog 60 #[.float .f64 x, .float .f64 y] w fun e w' => e = .returned (.bool (placeW x == placeW y)) ∧ w = w' := by
  have HX := Lib.hid hx
  have HY := Lib.hid hy
  clear hx hy
  go_enter Try.func60, Try.ntmps60
  go_wp2_with fail
  refine (place_any x _ HX.out).mono ?_
  rintro e w' ⟨rfl, rfl⟩
  go_wp2_with fail
  refine (place_any y _ HY.out).mono ?_
  rintro e w' ⟨rfl, rfl⟩
  go_wp2_with fail
  go_ret
  exact ⟨rfl, rfl⟩

theorem like_any (x y : Nat) (w : World) (hx : x < 18446744073709551616) (hy : y < 18446744073709551616) :
    Calls Try.prog 25 #[.float .f64 x, .float .f64 y] w fun e w' => e = .returned (.bool (placeW x == placeW y)) ∧ w = w' := by
  have HX := Lib.hid hx
  have HY := Lib.hid hy
  clear hx hy
  go_enter Try.func25, Try.ntmps25
  go_wp2_with fail
  refine (reflike_any x y _ HX.out HY.out).mono ?_
  rintro e w' ⟨rfl, rfl⟩
  go_wp2_with fail
  go_ret
  exact ⟨rfl, rfl⟩
theorem like_same (x : Nat) (w : World) (hx : x < 18446744073709551616) :
    Calls Try.prog 25 #[.float .f64 x, .float .f64 x] w fun e w' => e = .returned (.bool true) ∧ w = w' :=
  (like_any x x w hx hx).mono fun _ _ ⟨h, h'⟩ => ⟨by rw [h, beq_self_eq_true], h'⟩

def clientB (c : Int) : Bool := decide (0 ≤ c) && decide (c < 64)
theorem client_any (c : Int) (w : World) :
    Calls Try.prog 22 #[.int .i64 c] w fun e w' => e = .returned (.bool (clientB c)) ∧ w = w' := by
  by_cases h : 0 ≤ c
  · have hd : decide (0 ≤ c) = true := by simp [h]
    clear h
    go_enter Try.func22, Try.ntmps22
    go_wp2
    go_ret
    exact ⟨ret_bool (by simp [clientB, hd]), rfl⟩
  · have hd : decide (0 ≤ c) = false := by simp; omega
    clear h
    go_enter Try.func22, Try.ntmps22
    go_wp2
    go_ret
    exact ⟨ret_bool (by simp [clientB, hd]), rfl⟩

theorem add_nz_left (a : Nat) (ha : a < inf) : Ieee.double.add nz a = Ieee.double.add 0 a := by
  unfold Ieee.Format.add
  rw [read_small a ha, read_nz, read_zero]
  simp [Ieee.Datum.sum, Ieee.signed]
theorem add_nn_left (x a : Nat) (hx : NN x) (ha : a < inf) : Ieee.double.add x a = some (fadd (rv x) a) := by
  rcases hx with h | rfl
  · rw [rv_small (Nat.le_of_lt h)]; exact add_le x a (Nat.le_of_lt h) (Nat.le_of_lt ha)
  · rw [rv_nz, add_nz_left a ha]; exact add_le 0 a (Nat.zero_le _) (Nat.le_of_lt ha)
end Go.Proofs.Ytbpnhpjcepgiiaa
