/- Quota: the leaves: what is finite, a price, a time. -/
import Derived.Test.YtbpnhpjcepgiiaaProg
import Derived.Test.YtbpnhpjcepgiiaaKit
import Derived.Test.YtbpnhpjcepgiiaaFz
import Derived.Deep.QuietTactic
import Derived.BigQuiet
namespace Go.Proofs.Ytbpnhpjcepgiiaa
open Go.RowKit Fl

theorem ret_bool {a b : Bool} (h : a = b) : Ending.returned (.bool a) = .returned (.bool b) := by rw [h]
theorem ret_int {k : IntKind} {a b : Int} (h : a = b) : Ending.returned (.int k a) = .returned (.int k b) := by rw [h]
theorem ret_float {k : FloatKind} {a b : Nat} (h : a = b) : Ending.returned (.float k a) = .returned (.float k b) := by rw [h]

theorem ord (x y : Nat) : FloatKind.f64.format.order x y = Ieee.double.order x y := rfl

theorem f64bits (x : Nat) (w : World) : (callFunc 93 #[.float .f64 x]).run Try.prog w = .ok (.value (.int .u64 (x : Int))) w :=
  (run_callFunc_extern Try.func93 (by kernel_rfl) rfl (by kernel_rfl) (e := Extern.MathFloatBits.float64bits) (by kernel_rfl) _ w).trans rfl
theorem f64frombits (x : Nat) (w : World) : (callFunc 102 #[.int .u64 (x : Int)]).run Try.prog w = .ok (.value (.float .f64 x)) w :=
  (run_callFunc_extern Try.func102 (by kernel_rfl) rfl (by kernel_rfl) (e := Extern.MathFloatBits.float64frombits) (by kernel_rfl) _ w).trans rfl

theorem isnan_any (x : Nat) (w : World) :
    Calls Try.prog 83 #[.float .f64 x] w fun e w' => e = .returned (.bool (!decide (x % nz ≤ inf))) ∧ w = w' := by
  have H := Lib.hid (order_self x)
  go_enter Try.func83, Try.ntmps83
  go_wp2
  go_ret
  refine ⟨ret_bool ?_, rfl⟩
  rw [ord, H.out]
  by_cases h : x % nz ≤ inf <;> simp [h]

theorem andNot_sign (x : Nat) (hx : x < 18446744073709551616) : bits .andNot .u64 (x : Int) 9223372036854775808 = ((x % nz : Nat) : Int) := by
  have h := u64_andNot_nat x 9223372036854775808 hx (by decide)
  rw [show (18446744073709551615 - 9223372036854775808 : Nat) = 2 ^ 63 - 1 from by decide, Nat.and_two_pow_sub_one_eq_mod] at h
  exact h

set_option maxRecDepth 100000 in
theorem abs_any (x : Nat) (w : World) (hx : x < 18446744073709551616) :
    Calls Try.prog 96 #[.float .f64 x] w fun e w' => e = .returned (.float .f64 (x % nz)) ∧ w = w' := by
  obtain ⟨y, hy⟩ : ∃ y, y = x % nz := ⟨_, rfl⟩
  have ha := andNot_sign x hx
  rw [← hy] at ha ⊢
  have h1 := f64bits x
  have h2 := f64frombits y
  clear hx hy
  go_enter Try.func96, Try.ntmps96
  go_wp2
  go_ret
  exact ⟨rfl, rfl⟩

set_option maxRecDepth 100000 in
theorem isinf_any (x : Nat) (w : World) (hx : x < 18446744073709551616) :
    Calls Try.prog 84 #[.float .f64 x, .int .i64 0] w fun e w' => e = .returned (.bool (decide (x % nz = inf))) ∧ w = w' := by
  have H := Lib.hid (gt_max (x % nz) (Nat.mod_lt _ (by decide)))
  have HX := Lib.hid hx
  clear hx
  go_enter Try.func84, Try.ntmps84
  go_wp2_with (go_at_call 96; refine (abs_any x _ HX.out).mono ?_; rintro e w' ⟨rfl, rfl⟩)
  go_ret
  refine ⟨ret_bool ?_, rfl⟩
  rw [ord, H.out]

theorem finite_any (x : Nat) (w : World) (hx : x < 18446744073709551616) :
    Calls Try.prog 61 #[.float .f64 x] w fun e w' => e = .returned (.bool (finW x)) ∧ w = w' := by
  have HX := Lib.hid hx
  clear hx
  by_cases h1 : x % nz ≤ inf
  · have hd : (!decide (x % nz ≤ inf)) = false := by simp [h1]
    have HF : Hid ((!decide (x % nz = inf)) = finW x) := by
      refine Lib.hid ?_
      unfold finW
      by_cases h2 : x % nz = inf
      · simp [h2]
      · simp [h2]; omega
    clear h1
    go_enter Try.func61, Try.ntmps61
    go_wp2_with (first | (go_at_call 83; refine (isnan_any x _).mono ?_; rintro e w' ⟨rfl, rfl⟩; rw [hd]) | (go_at_call 84; refine (isinf_any x _ HX.out).mono ?_; rintro e w' ⟨rfl, rfl⟩))
    go_ret
    exact ⟨ret_bool HF.out, rfl⟩
  · have hd : (!decide (x % nz ≤ inf)) = true := by simp; omega
    have HF : Hid (false = finW x) := Lib.hid (by unfold finW; simp; omega)
    clear h1
    go_enter Try.func61, Try.ntmps61
    go_wp2_with (first | (go_at_call 83; refine (isnan_any x _).mono ?_; rintro e w' ⟨rfl, rfl⟩; rw [hd]) | (go_at_call 84; refine (isinf_any x _ HX.out).mono ?_; rintro e w' ⟨rfl, rfl⟩))
    go_ret
    exact ⟨ret_bool HF.out, rfl⟩

theorem nnW_of (x : Nat) (hx : x < 18446744073709551616) : (finW x && (decide (x ≤ inf) || x == nz)) = nnW x := by
  have hi := inf_lt_nz
  unfold finW nnW
  rcases lt_two x hx with ⟨_, h⟩ | ⟨_, h⟩
  · by_cases h1 : x < inf
    · have : x % nz < inf := by omega
      simp [h1, this, Nat.le_of_lt h1]
    · have h2 : ¬ x % nz < inf := by omega
      have h3 : (x == nz) = false := by rw [beq_eq_false_iff_ne]; have := Nat.mod_lt x (show 0 < nz by decide); omega
      simp [h1, h2, h3]
  · have h1 : ¬ x < inf := by omega
    have h2 : ¬ x ≤ inf := by omega
    by_cases h3 : x = nz
    · subst h3; simp; decide
    · have h4 : (x == nz) = false := by rw [beq_eq_false_iff_ne]; exact h3
      simp [h1, h2, h4]

theorem price_any (x : Nat) (w : World) (hx : x < 18446744073709551616) :
    Calls Try.prog 57 #[.float .f64 x] w fun e w' => e = .returned (.bool (nnW x)) ∧ w = w' := by
  have HX := Lib.hid hx
  have HN := Lib.hid (nnW_of x hx)
  have HG := Lib.hid (ge_zero x hx)
  clear hx
  cases hf : finW x with
  | true =>
    have HF := Lib.hid hf
    clear hf
    go_enter Try.func57, Try.ntmps57
    go_wp2_with (go_at_call 61; refine (finite_any x _ HX.out).mono ?_; rintro e w' ⟨rfl, rfl⟩; rw [HF.out])
    go_ret
    refine ⟨ret_bool ?_, rfl⟩
    rw [ord, HG.out, ← HN.out, HF.out, Bool.true_and]
  | false =>
    have HF := Lib.hid hf
    clear hf
    go_enter Try.func57, Try.ntmps57
    go_wp2_with (go_at_call 61; refine (finite_any x _ HX.out).mono ?_; rintro e w' ⟨rfl, rfl⟩; rw [HF.out])
    go_ret
    refine ⟨ret_bool ?_, rfl⟩
    rw [← HN.out, HF.out, Bool.false_and]

/-- a time that may be -/
def timeB (t : Int) : Bool := decide (0 ≤ t) && decide (t ≤ 9007199254740992)

set_option maxRecDepth 100000 in
theorem clock_any (t : Int) (w : World) :
    Calls Try.prog 55 #[.int .i64 t] w fun e w' => e = .returned (.bool (timeB t)) ∧ w = w' := by
  by_cases h : 0 ≤ t
  · have hd : decide (0 ≤ t) = true := by simp [h]
    clear h
    go_enter Try.func55, Try.ntmps55
    go_wp2
    go_ret
    exact ⟨ret_bool (by simp [timeB, hd]), rfl⟩
  · have hd : decide (0 ≤ t) = false := by simp; omega
    clear h
    go_enter Try.func55, Try.ntmps55
    go_wp2
    go_ret
    exact ⟨ret_bool (by simp [timeB, hd]), rfl⟩

set_option maxRecDepth 100000 in
theorem reftime_any (t : Int) (w : World) :
    Calls Try.prog 16 #[.int .i64 t] w fun e w' => e = .returned (.bool (timeB t)) ∧ w = w' := by
  by_cases h : 0 ≤ t
  · have hd : decide (0 ≤ t) = true := by simp [h]
    clear h
    go_enter Try.func16, Try.ntmps16
    go_wp2
    go_ret
    exact ⟨ret_bool (by simp [timeB, hd]), rfl⟩
  · have hd : decide (0 ≤ t) = false := by simp; omega
    clear h
    go_enter Try.func16, Try.ntmps16
    go_wp2
    go_ret
    exact ⟨ret_bool (by simp [timeB, hd]), rfl⟩

theorem nan_word (t : Nat) : inf < ((t % 2) * 2 ^ 63 + 0x7ff0000000000000 + 1 + (t / 2) % (2 ^ 52 - 1)) % nz ∧ ((t % 2) * 2 ^ 63 + 0x7ff0000000000000 + 1 + (t / 2) % (2 ^ 52 - 1)) < 18446744073709551616 := by
  have hu : t / 2 % (2 ^ 52 - 1) < 2 ^ 52 - 1 := Nat.mod_lt _ (by decide)
  have hs : t % 2 < 2 := Nat.mod_lt _ (by decide)
  generalize t / 2 % (2 ^ 52 - 1) = u at hu ⊢
  generalize t % 2 = s at hs ⊢
  unfold inf nz
  rcases (show s = 0 ∨ s = 1 by omega) with rfl | rfl <;> omega
theorem run_sub_nan (w : World) (ty : TypeId) (x y : Nat) (h : Ieee.double.sub x y = none) :
    ∃ q, (binOp .sub ty (.float .f64 x) (.float .f64 y)).run Try.prog w = .ok (.float .f64 q) w.drew ∧ Ieee.double.order q 0 = none := by
  obtain ⟨q, hq⟩ : ∃ q, q = (Question.nanBits .f64 x y).cut (w.tape w.drawn (.nanBits .f64 x y)) := ⟨_, rfl⟩
  have h' : FloatKind.f64.format.sub x y = none := h
  refine ⟨q, ?_, ?_⟩
  · simp [binOp, Op.floatArith, h', Question.forced, hq]
  · have hn := nan_word (w.tape w.drawn (.nanBits .f64 x y))
    have hq' : q = ((w.tape w.drawn (.nanBits .f64 x y)) % 2) * 2 ^ 63 + 0x7ff0000000000000 + 1 + ((w.tape w.drawn (.nanBits .f64 x y)) / 2) % (2 ^ 52 - 1) := hq
    rw [← hq'] at hn
    rw [order_zero q hn.2, if_pos hn.1]

/-- the reference's finite: a NaN may be drawn on the way -/
theorem reffinite_any (x : Nat) (w : World) :
    Calls Try.prog 54 #[.float .f64 x] w fun e w' => e = .returned (.bool (finW x)) ∧ ∃ n, w' = w.drewN n := by
  have hs := sub_self x
  cases hf : finW x with
  | true =>
    rw [hf] at hs
    have hr := fun (t : TypeId) (W : World) => run_float_arith (P := Try.prog) W .sub t .f64 x x 0 hs
    have ho : FloatKind.f64.format.order 0 0 = some .eq := by decide +kernel
    clear hs hf
    go_enter Try.func54, Try.ntmps54
    go_wp2
    go_ret
    exact ⟨rfl, 0, rfl⟩
  | false =>
    rw [hf] at hs
    obtain ⟨q, hr, hq⟩ := run_sub_nan w 22 x x hs
    have ho : (FloatKind.f64.format.order q 0 == some .eq) = false := by rw [ord, hq]; rfl
    clear hs hf hq
    go_enter Try.func54, Try.ntmps54
    go_wp2
    go_ret
    exact ⟨rfl, 1, rfl⟩
end Go.Proofs.Ytbpnhpjcepgiiaa
