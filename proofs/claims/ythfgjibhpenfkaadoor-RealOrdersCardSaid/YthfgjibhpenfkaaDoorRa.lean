/- Real: a float's place, the order (laws taken over from the quota seat's texts). -/
import Derived.Test.YthfgjibhpenfkaaDoorProg
import Derived.Test.YthfgjibhpenfkaaDoorKit
import Derived.Test.YthfgjibhpenfkaaDoorFz
import Derived.Deep.QuietTactic
import Derived.BigQuiet
import Derived.Deep.LoopGhost
import Derived.Deep.CutRange
import Derived.Laws.Bits64
import Derived.Laws.Bits64b
import Derived.OwnWalk
namespace Go.Proofs.YthfgjibhpenfkaaDoor
open Go.RowKit Fl

theorem ret_bool {a b : Bool} (h : a = b) : Ending.returned (.bool a) = .returned (.bool b) := by rw [h]
theorem ret_int {k : IntKind} {a b : Int} (h : a = b) : Ending.returned (.int k a) = .returned (.int k b) := by rw [h]
theorem ret_float {k : FloatKind} {a b : Nat} (h : a = b) : Ending.returned (.float k a) = .returned (.float k b) := by rw [h]
theorem ord (x y : Nat) : FloatKind.f64.format.order x y = Ieee.double.order x y := rfl
theorem f64bits (x : Nat) (w : World) : (callFunc 48 #[.float .f64 x]).run Tryd.prog w = .ok (.value (.int .u64 (x : Int))) w :=
  (run_callFunc_extern Tryd.func48 (by kernel_rfl) rfl (by kernel_rfl) (e := Extern.MathFloatBits.float64bits) (by kernel_rfl) _ w).trans rfl
theorem f64frombits (x : Nat) (w : World) : (callFunc 36 #[.int .u64 (x : Int)]).run Tryd.prog w = .ok (.value (.float .f64 x)) w :=
  (run_callFunc_extern Tryd.func36 (by kernel_rfl) rfl (by kernel_rfl) (e := Extern.MathFloatBits.float64frombits) (by kernel_rfl) _ w).trans rfl
theorem isnan_any (x : Nat) (w : World) :
    Calls Tryd.prog 73 #[.float .f64 x] w fun e w' => e = .returned (.bool (!decide (x % nz ≤ inf))) ∧ w = w' := by
  have H := Lib.hid (order_self x)
  go_enter Tryd.func73, Tryd.ntmps73
  go_wp2
  go_ret
  refine ⟨ret_bool ?_, rfl⟩
  rw [ord, H.out]
  by_cases h : x % nz ≤ inf <;> simp [h]
theorem andNot_sign (x : Nat) (hx : x < 18446744073709551616) : bits .andNot .u64 (x : Int) 9223372036854775808 = ((x % nz : Nat) : Int) := by
  have h := u64_andNot_nat x 9223372036854775808 hx (by decide)
  rw [show (18446744073709551615 - 9223372036854775808 : Nat) = 2 ^ 63 - 1 from by decide, Nat.and_two_pow_sub_one_eq_mod] at h
  exact h
set_option maxRecDepth 100000 in
theorem abs_any (x : Nat) (w : World) (hx : x < 18446744073709551616) :
    Calls Tryd.prog 58 #[.float .f64 x] w fun e w' => e = .returned (.float .f64 (x % nz)) ∧ w = w' := by
  obtain ⟨y, hy⟩ : ∃ y, y = x % nz := ⟨_, rfl⟩
  have ha := andNot_sign x hx
  rw [← hy] at ha ⊢
  have h1 := f64bits x
  have h2 := f64frombits y
  clear hx hy
  go_enter Tryd.func58, Tryd.ntmps58
  go_wp2
  go_ret
  exact ⟨rfl, rfl⟩
set_option maxRecDepth 100000 in
theorem isinf_any (x : Nat) (w : World) (hx : x < 18446744073709551616) :
    Calls Tryd.prog 40 #[.float .f64 x, .int .i64 0] w fun e w' => e = .returned (.bool (decide (x % nz = inf))) ∧ w = w' := by
  have H := Lib.hid (gt_max (x % nz) (Nat.mod_lt _ (by decide)))
  have HX := Lib.hid hx
  clear hx
  go_enter Tryd.func40, Tryd.ntmps40
  go_wp2_with (go_at_call 58; refine (abs_any x _ HX.out).mono ?_; rintro e w' ⟨rfl, rfl⟩)
  go_ret
  refine ⟨ret_bool ?_, rfl⟩
  rw [ord, H.out]
theorem i2r_fin (n : Nat) (h : n ≤ 9007199254740992) : i2r n < inf := by
  have h1 := i2r_mono h
  have h2 : i2r 9007199254740992 < inf := by decide +kernel
  omega
theorem run_store_float (a : Addr) (b : Nat) (W : World) : (store a (.float .f64 b)).run Tryd.prog W = stored Tryd.prog W a (.float .f64 b) .plain := run_store Tryd.prog W a _ _ rfl
theorem grown_trans {w w1 w2 : World} {row : Option Nat} (h : w.grownBy w1 row) (g : w1.grownBy w2 row) : w.grownBy w2 row :=
  ⟨g.os.trans h.os, g.tape.trans h.tape, g.output.trans h.output, Nat.le_trans h.size g.size, fun k hk hne => (g.block k (by have := h.size; omega) hne).trans (h.block k hk hne)⟩
theorem grown_setCell (w : World) (q o : Nat) (v : Value) : w.grownBy (w.setCell ⟨q, o, none⟩ v) (some q) :=
  ⟨rfl, rfl, rfl, by simp [World.setCell], fun k _ hne => Below.heap_setCell _ _ _ _ (fun e => hne (by simp [e]))⟩
theorem grown_below {w w' : World} (h : Below w.heap.size w w') (row : Option Nat) : w.grownBy w' row := ⟨h.os, h.tape, h.output, h.size, fun k hk _ => h.block k hk⟩

/-- brought on -/
def FloatsAt (w : World) (a : Option Addr) (n : Nat) (f : Nat → Nat) : Prop := ∀ i, i < n → ∃ ad, a = some ad ∧ w.cell? (ad.add i) = some (.float .f64 (f i)) ∧ ad.block < w.heap.size ∧ f i < 18446744073709551616
theorem FloatsAt.below {w w' : World} {a : Option Addr} {n : Nat} {f : Nat → Nat} (h : FloatsAt w a n f) (b : Below w.heap.size w w') : FloatsAt w' a n f := fun i hi => by
  obtain ⟨ad, h1, h2, h3, h4⟩ := h i hi
  exact ⟨ad, h1, by rw [b.cell (p := ad.add i) (by rw [show (ad.add i).block = ad.block by unfold Addr.add; split <;> rfl]; exact h3)]; exact h2, Nat.lt_of_lt_of_le h3 b.size, h4⟩
def placeW (x : Nat) : Int := if x % nz > inf then 18446744073709551615 else if x < nz then (x : Int) + 9223372036854775808 else 18446744073709551615 - (x : Int)
theorem nan_any (x : Nat) (w : World) :
    Calls Tryd.prog 44 #[.float .f64 x] w fun e w' => e = .returned (.bool (!decide (x % nz ≤ inf))) ∧ w = w' := by
  have H := Lib.hid (order_self x)
  go_enter Tryd.func44, Tryd.ntmps44
  go_wp2
  go_ret
  refine ⟨ret_bool ?_, rfl⟩
  rw [ord, H.out]
  by_cases h : x % nz ≤ inf <;> simp [h]
set_option maxRecDepth 100000 in
theorem place_any (x : Nat) (w : World) (hx : x < 18446744073709551616) :
    Calls Tryd.prog 47 #[.float .f64 x] w fun e w' => e = .returned (.int .u64 (placeW x)) ∧ w = w' := by
  have hfb := f64bits x
  by_cases h1 : x % nz ≤ inf
  · have H1 : Hid ((!decide (x % nz ≤ inf)) = false) := Lib.hid (by simp [h1])
    by_cases h2 : x < nz
    · have hd : decide ((9223372036854775808 : Int) ≤ (x : Int)) = false := by rw [decide_eq_false_iff_not]; unfold nz at h2; omega
      have HV : Hid ((x : Int) + 9223372036854775808 = placeW x) := Lib.hid (by unfold placeW; rw [if_neg (by omega), if_pos h2])
      have hb : (x : Int) + 9223372036854775808 < 18446744073709551616 := by unfold nz at h2; omega
      clear h1 h2 hx
      go_enter Tryd.func47, Tryd.ntmps47
      go_wp2_with (go_at_call 44; refine (nan_any x _).mono ?_; rintro e w' ⟨rfl, rfl⟩; rw [H1.out])
      go_ret
      exact ⟨ret_int HV.out, rfl⟩
    · have hd : decide ((9223372036854775808 : Int) ≤ (x : Int)) = true := by rw [decide_eq_true_eq]; unfold nz at h2; omega
      have HV : Hid ((18446744073709551615 : Int) - (x : Int) = placeW x) := Lib.hid (by unfold placeW; rw [if_neg (by omega), if_neg h2])
      have hb : (x : Int) ≤ 18446744073709551615 := by omega
      clear h1 h2 hx
      go_enter Tryd.func47, Tryd.ntmps47
      go_wp2_with (go_at_call 44; refine (nan_any x _).mono ?_; rintro e w' ⟨rfl, rfl⟩; rw [H1.out])
      go_ret
      exact ⟨ret_int HV.out, rfl⟩
  · have H1 : Hid ((!decide (x % nz ≤ inf)) = true) := Lib.hid (by simp; omega)
    have HV : Hid ((18446744073709551615 : Int) = placeW x) := Lib.hid (by unfold placeW; rw [if_pos (by omega)])
    clear h1 hx
    go_enter Tryd.func47, Tryd.ntmps47
    go_wp2_with (go_at_call 44; refine (nan_any x _).mono ?_; rintro e w' ⟨rfl, rfl⟩; rw [H1.out])
    go_ret
    exact ⟨ret_int HV.out, rfl⟩
theorem reflike_any (x y : Nat) (w : World) (hx : x < 18446744073709551616) (hy : y < 18446744073709551616) :
    Calls Tryd.prog 21 #[.float .f64 x, .float .f64 y] w fun e w' => e = .returned (.bool (placeW x == placeW y)) ∧ w = w' := by
  have HX := Lib.hid hx
  have HY := Lib.hid hy
  clear hx hy
  go_enter Tryd.func21, Tryd.ntmps21
  go_wp2_with fail
  refine (place_any x _ HX.out).mono ?_
  rintro e w' ⟨rfl, rfl⟩
  go_wp2_with fail
  refine (place_any y _ HY.out).mono ?_
  rintro e w' ⟨rfl, rfl⟩
  go_wp2_with fail
  go_ret
  exact ⟨rfl, rfl⟩
theorem xor_top (x : Nat) (h : x < 18446744073709551616) : x ^^^ 18446744073709551615 = 18446744073709551615 - x := by
  have h1 : (BitVec.ofNat 64 x ^^^ BitVec.allOnes 64).toNat = x ^^^ 18446744073709551615 := by
    rw [BitVec.toNat_xor, BitVec.toNat_ofNat, BitVec.toNat_allOnes]
    rw [Nat.mod_eq_of_lt (by simpa using h)]
  rw [← h1, BitVec.xor_allOnes, BitVec.toNat_not, BitVec.toNat_ofNat]
  rw [Nat.mod_eq_of_lt (by simpa using h)]
theorem or_top (x : Nat) (h : x < 9223372036854775808) : x ||| 9223372036854775808 = x + 9223372036854775808 := by
  have := @Nat.two_pow_add_eq_or_of_lt 63 x (by simpa using h) 1
  rw [Nat.or_comm, Nat.add_comm]
  simpa using this.symm
set_option maxRecDepth 100000 in
theorem rplace_any (x : Nat) (w : World) (hx : x < 18446744073709551616) :
    Calls Tryd.prog 33 #[.float .f64 x] w fun e w' => e = .returned (.int .u64 (placeW x)) ∧ w = w' := by
  have hfb := f64bits x
  have hself : (FloatKind.f64.format.order x x != some .eq) = !decide (x % nz ≤ inf) := by
    rw [ord, order_self x]
    by_cases h : x % nz ≤ inf <;> simp [h]
  by_cases h1 : x % nz ≤ inf
  · rw [decide_eq_true h1, Bool.not_true] at hself
    by_cases h2 : x < nz
    · have hd : decide ((9223372036854775808 : Int) ≤ (x : Int)) = false := by rw [decide_eq_false_iff_not]; unfold nz at h2; omega
      have hor : bits .or .u64 (x : Int) 9223372036854775808 = placeW x := by
        rw [show (9223372036854775808 : Int) = ((9223372036854775808 : Nat) : Int) from rfl, bits_or_u64_nat x _ hx (by decide), or_top x (by unfold nz at h2; exact h2)]
        unfold placeW; rw [if_neg (by omega), if_pos h2]; omega
      clear h1 h2 hx
      go_enter Tryd.func33, Tryd.ntmps33
      go_wp2
      go_ret
      exact ⟨rfl, rfl⟩
    · have hd : decide ((9223372036854775808 : Int) ≤ (x : Int)) = true := by rw [decide_eq_true_eq]; unfold nz at h2; omega
      have hxor : bits .xor .u64 (x : Int) 18446744073709551615 = placeW x := by
        rw [show (18446744073709551615 : Int) = ((18446744073709551615 : Nat) : Int) from rfl, bits_xor_u64_nat x _ hx (by decide), xor_top x hx]
        unfold placeW; rw [if_neg (by omega), if_neg h2]; omega
      clear h1 h2 hx
      go_enter Tryd.func33, Tryd.ntmps33
      go_wp2
      go_ret
      exact ⟨rfl, rfl⟩
  · rw [decide_eq_false h1, Bool.not_false] at hself
    have HV : Hid ((18446744073709551615 : Int) = placeW x) := Lib.hid (by unfold placeW; rw [if_pos (by omega)])
    clear h1 hx
    go_enter Tryd.func33, Tryd.ntmps33
    go_wp2
    go_ret
    exact ⟨ret_int HV.out, rfl⟩
def cmpI (x y : Int) : Int := if x < y then -1 else if y < x then 1 else 0
theorem isnanU_any (x : Int) (w : World) : Calls Tryd.prog 55 #[.int .u64 x] w fun e w' => e = .returned (.bool false) ∧ w = w' := by
  have hxx : (x == x) = true := by simp
  go_enter Tryd.func55, Tryd.ntmps55
  go_wp2
  go_ret
  exact ⟨rfl, rfl⟩
theorem compare_any (x y : Int) (w : World) : Calls Tryd.prog 34 #[.int .u64 x, .int .u64 y] w fun e w' => e = .returned (.int .i64 (cmpI x y)) ∧ w = w' := by
  have HV := Lib.hid (show cmpI x y = if x < y then -1 else if y < x then 1 else 0 from rfl)
  by_cases h1 : x < y
  · have hd1 : decide (x < y) = true := decide_eq_true h1
    have HR : Hid ((-1 : Int) = cmpI x y) := Lib.hid (by rw [HV.out, if_pos h1])
    clear h1 HV
    go_enter Tryd.func34, Tryd.ntmps34
    go_wp2_with fail
    refine (isnanU_any x _).mono ?_
    rintro e w' ⟨rfl, rfl⟩
    go_wp2_with fail
    refine (isnanU_any y _).mono ?_
    rintro e w' ⟨rfl, rfl⟩
    go_wp2_with fail
    go_ret
    exact ⟨ret_int HR.out, rfl⟩
  · have hd1 : decide (x < y) = false := decide_eq_false h1
    by_cases h2 : y < x
    · have hd2 : decide (y < x) = true := decide_eq_true h2
      have HR : Hid ((1 : Int) = cmpI x y) := Lib.hid (by rw [HV.out, if_neg h1, if_pos h2])
      clear h1 h2 HV
      go_enter Tryd.func34, Tryd.ntmps34
      go_wp2_with fail
      refine (isnanU_any x _).mono ?_
      rintro e w' ⟨rfl, rfl⟩
      go_wp2_with fail
      refine (isnanU_any y _).mono ?_
      rintro e w' ⟨rfl, rfl⟩
      go_wp2_with fail
      go_ret
      exact ⟨ret_int HR.out, rfl⟩
    · have hd2 : decide (y < x) = false := decide_eq_false h2
      have HR : Hid ((0 : Int) = cmpI x y) := Lib.hid (by rw [HV.out, if_neg h1, if_neg h2])
      clear h1 h2 HV
      go_enter Tryd.func34, Tryd.ntmps34
      go_wp2_with fail
      refine (isnanU_any x _).mono ?_
      rintro e w' ⟨rfl, rfl⟩
      go_wp2_with fail
      refine (isnanU_any y _).mono ?_
      rintro e w' ⟨rfl, rfl⟩
      go_wp2_with fail
      go_ret
      exact ⟨ret_int HR.out, rfl⟩
/-- the order of two floats -/
def ordF (x y : Nat) : Int := cmpI (placeW x) (placeW y)
theorem rorder_any (x y : Nat) (w : World) (hx : x < 18446744073709551616) (hy : y < 18446744073709551616) :
    Calls Tryd.prog 13 #[.float .f64 x, .float .f64 y] w fun e w' => e = .returned (.int .i64 (ordF x y)) ∧ w = w' := by
  have HX := Lib.hid hx
  have HY := Lib.hid hy
  clear hx hy
  go_enter Tryd.func13, Tryd.ntmps13
  go_wp2_with fail
  refine (rplace_any x _ HX.out).mono ?_
  rintro e w' ⟨rfl, rfl⟩
  go_wp2_with fail
  refine (rplace_any y _ HY.out).mono ?_
  rintro e w' ⟨rfl, rfl⟩
  go_wp2_with fail
  refine (compare_any (placeW x) (placeW y) _).mono ?_
  rintro e w' ⟨rfl, rfl⟩
  go_wp2_with fail
  go_ret
  exact ⟨rfl, rfl⟩

/-- the least, the greatest of the first k + 1 -/
def minTo (f : Nat → Nat) : Nat → Nat
  | 0 => f 0
  | k + 1 => if ordF (f (k + 1)) (minTo f k) < 0 then f (k + 1) else minTo f k
def maxTo (f : Nat → Nat) : Nat → Nat
  | 0 => f 0
  | k + 1 => if 0 < ordF (f (k + 1)) (maxTo f k) then f (k + 1) else maxTo f k
theorem minTo_lt (f : Nat → Nat) (n : Nat) (h : ∀ i, i ≤ n → f i < 18446744073709551616) : minTo f n < 18446744073709551616 := by
  induction n with
  | zero => exact h 0 (Nat.le_refl _)
  | succ n ih =>
    have h1 := ih fun i hi => h i (by omega)
    have h2 := h (n + 1) (Nat.le_refl _)
    unfold minTo; split <;> assumption
theorem maxTo_lt (f : Nat → Nat) (n : Nat) (h : ∀ i, i ≤ n → f i < 18446744073709551616) : maxTo f n < 18446744073709551616 := by
  induction n with
  | zero => exact h 0 (Nat.le_refl _)
  | succ n ih =>
    have h1 := ih fun i hi => h i (by omega)
    have h2 := h (n + 1) (Nat.le_refl _)
    unfold maxTo; split <;> assumption
end Go.Proofs.YthfgjibhpenfkaaDoor
