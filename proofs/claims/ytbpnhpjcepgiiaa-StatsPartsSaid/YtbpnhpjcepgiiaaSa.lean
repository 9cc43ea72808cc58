/- Stats: a float's place, the order, the least and the greatest of some. -/
import Derived.Test.YtbpnhpjcepgiiaaQz1
import Derived.Test.YtbpnhpjcepgiiaaQs
import Derived.Laws.Bits64
import Derived.Laws.Bits64b
namespace Go.Proofs.Ytbpnhpjcepgiiaa
open Go.RowKit Fl

theorem xor_top (x : Nat) (h : x < 18446744073709551616) : x ^^^ 18446744073709551615 = 18446744073709551615 - x := by
  have h1 : (BitVec.ofNat 64 x ^^^ BitVec.allOnes 64).toNat = x ^^^ 18446744073709551615 := by
    rw [BitVec.toNat_xor, BitVec.toNat_ofNat, BitVec.toNat_allOnes]
    rw [Nat.mod_eq_of_lt (by simpa using h)]
  rw [← h1, BitVec.xor_allOnes, BitVec.toNat_not, BitVec.toNat_ofNat]
  rw [Nat.mod_eq_of_lt (by simpa using h)]
theorem or_top (x : Nat) (h : x < 9223372036854775808) : x ||| 9223372036854775808 = x + 9223372036854775808 := by
  have := @Nat.two_pow_add_eq_or_of_lt 63 x (by simpa using h) 1
  rw [Nat.or_comm, Nat.add_comm]
  simpa using this.symm

set_option maxRecDepth 100000 in
theorem rplace_any (x : Nat) (w : World) (hx : x < 18446744073709551616) :
    Calls Try.prog 91 #[.float .f64 x] w fun e w' => e = .returned (.int .u64 (placeW x)) ∧ w = w' := by
  have hfb := f64bits x
  have hself : (FloatKind.f64.format.order x x != some .eq) = !decide (x % nz ≤ inf) := by
    rw [ord, order_self x]
    by_cases h : x % nz ≤ inf <;> simp [h]
  by_cases h1 : x % nz ≤ inf
  · rw [decide_eq_true h1, Bool.not_true] at hself
    by_cases h2 : x < nz
    · have hd : decide ((9223372036854775808 : Int) ≤ (x : Int)) = false := by rw [decide_eq_false_iff_not]; unfold nz at h2; omega
      have hor : bits .or .u64 (x : Int) 9223372036854775808 = placeW x := by
        rw [show (9223372036854775808 : Int) = ((9223372036854775808 : Nat) : Int) from rfl, bits_or_u64_nat x _ hx (by decide), or_top x (by unfold nz at h2; exact h2)]
        unfold placeW; rw [if_neg (by omega), if_pos h2]; omega
      clear h1 h2 hx
      go_enter Try.func91, Try.ntmps91
      go_wp2
      go_ret
      exact ⟨rfl, rfl⟩
    · have hd : decide ((9223372036854775808 : Int) ≤ (x : Int)) = true := by rw [decide_eq_true_eq]; unfold nz at h2; omega
      have hxor : bits .xor .u64 (x : Int) 18446744073709551615 = placeW x := by
        rw [show (18446744073709551615 : Int) = ((18446744073709551615 : Nat) : Int) from rfl, bits_xor_u64_nat x _ hx (by decide), xor_top x hx]
        unfold placeW; rw [if_neg (by omega), if_neg h2]; omega
      clear h1 h2 hx
      go_enter Try.func91, Try.ntmps91
      go_wp2
      go_ret
      exact ⟨rfl, rfl⟩
  · rw [decide_eq_false h1, Bool.not_false] at hself
    have HV : Hid ((18446744073709551615 : Int) = placeW x) := Lib.hid (by unfold placeW; rw [if_pos (by omega)])
    clear h1 hx
    go_enter Try.func91, Try.ntmps91
    go_wp2
    go_ret
    exact ⟨ret_int HV.out, rfl⟩

def cmpI (x y : Int) : Int := if x < y then -1 else if y < x then 1 else 0
theorem isnanU_any (x : Int) (w : World) : Calls Try.prog 99 #[.int .u64 x] w fun e w' => e = .returned (.bool false) ∧ w = w' := by
  have hxx : (x == x) = true := by simp
  go_enter Try.func99, Try.ntmps99
  go_wp2
  go_ret
  exact ⟨rfl, rfl⟩
theorem compare_any (x y : Int) (w : World) : Calls Try.prog 90 #[.int .u64 x, .int .u64 y] w fun e w' => e = .returned (.int .i64 (cmpI x y)) ∧ w = w' := by
  have HV := Lib.hid (show cmpI x y = if x < y then -1 else if y < x then 1 else 0 from rfl)
  by_cases h1 : x < y
  · have hd1 : decide (x < y) = true := decide_eq_true h1
    have HR : Hid ((-1 : Int) = cmpI x y) := Lib.hid (by rw [HV.out, if_pos h1])
    clear h1 HV
    go_enter Try.func90, Try.ntmps90
    go_wp2_with fail
    refine (isnanU_any x _).mono ?_
    rintro e w' ⟨rfl, rfl⟩
    go_wp2_with fail
    refine (isnanU_any y _).mono ?_
    rintro e w' ⟨rfl, rfl⟩
    go_wp2_with fail
    go_ret
    exact ⟨ret_int HR.out, rfl⟩
  · have hd1 : decide (x < y) = false := decide_eq_false h1
    by_cases h2 : y < x
    · have hd2 : decide (y < x) = true := decide_eq_true h2
      have HR : Hid ((1 : Int) = cmpI x y) := Lib.hid (by rw [HV.out, if_neg h1, if_pos h2])
      clear h1 h2 HV
      go_enter Try.func90, Try.ntmps90
      go_wp2_with fail
      refine (isnanU_any x _).mono ?_
      rintro e w' ⟨rfl, rfl⟩
      go_wp2_with fail
      refine (isnanU_any y _).mono ?_
      rintro e w' ⟨rfl, rfl⟩
      go_wp2_with fail
      go_ret
      exact ⟨ret_int HR.out, rfl⟩
    · have hd2 : decide (y < x) = false := decide_eq_false h2
      have HR : Hid ((0 : Int) = cmpI x y) := Lib.hid (by rw [HV.out, if_neg h1, if_neg h2])
      clear h1 h2 HV
      go_enter Try.func90, Try.ntmps90
      go_wp2_with fail
      refine (isnanU_any x _).mono ?_
      rintro e w' ⟨rfl, rfl⟩
      go_wp2_with fail
      refine (isnanU_any y _).mono ?_
      rintro e w' ⟨rfl, rfl⟩
      go_wp2_with fail
      go_ret
      exact ⟨ret_int HR.out, rfl⟩
/-- the order of two floats -/
def ordF (x y : Nat) : Int := cmpI (placeW x) (placeW y)
theorem rorder_any (x y : Nat) (w : World) (hx : x < 18446744073709551616) (hy : y < 18446744073709551616) :
    Calls Try.prog 78 #[.float .f64 x, .float .f64 y] w fun e w' => e = .returned (.int .i64 (ordF x y)) ∧ w = w' := by
  have HX := Lib.hid hx
  have HY := Lib.hid hy
  clear hx hy
  go_enter Try.func78, Try.ntmps78
  go_wp2_with fail
  refine (rplace_any x _ HX.out).mono ?_
  rintro e w' ⟨rfl, rfl⟩
  go_wp2_with fail
  refine (rplace_any y _ HY.out).mono ?_
  rintro e w' ⟨rfl, rfl⟩
  go_wp2_with fail
  refine (compare_any (placeW x) (placeW y) _).mono ?_
  rintro e w' ⟨rfl, rfl⟩
  go_wp2_with fail
  go_ret
  exact ⟨rfl, rfl⟩

/-- the least, the greatest of the first k + 1 -/
def minTo (f : Nat → Nat) : Nat → Nat
  | 0 => f 0
  | k + 1 => if ordF (f (k + 1)) (minTo f k) < 0 then f (k + 1) else minTo f k
def maxTo (f : Nat → Nat) : Nat → Nat
  | 0 => f 0
  | k + 1 => if 0 < ordF (f (k + 1)) (maxTo f k) then f (k + 1) else maxTo f k
theorem minTo_lt (f : Nat → Nat) (n : Nat) (h : ∀ i, i ≤ n → f i < 18446744073709551616) : minTo f n < 18446744073709551616 := by
  induction n with
  | zero => exact h 0 (Nat.le_refl _)
  | succ n ih =>
    have h1 := ih fun i hi => h i (by omega)
    have h2 := h (n + 1) (Nat.le_refl _)
    unfold minTo; split <;> assumption
theorem maxTo_lt (f : Nat → Nat) (n : Nat) (h : ∀ i, i ≤ n → f i < 18446744073709551616) : maxTo f n < 18446744073709551616 := by
  induction n with
  | zero => exact h 0 (Nat.le_refl _)
  | succ n ih =>
    have h1 := ih fun i hi => h i (by omega)
    have h2 := h (n + 1) (Nat.le_refl _)
    unfold maxTo; split <;> assumption
end Go.Proofs.Ytbpnhpjcepgiiaa
