/- Stats: every float operation, a NaN's too: what it gives, what it draws. -/
import Derived.Test.YtbpnhpjcepgiiaaSc
namespace Go.Proofs.Ytbpnhpjcepgiiaa
open Go.RowKit Fl

/-- the word a NaN is drawn as -/
def nanW (x y : Nat) (W : World) : Nat := (Question.nanBits .f64 x y).cut (W.tape W.drawn (.nanBits .f64 x y))
/-- an operation's result; how many draws it takes -/
def fresO (o : Option Nat) (x y : Nat) (W : World) : Nat := match o with
  | some z => z
  | none => nanW x y W
def fkO (o : Option Nat) : Nat := match o with
  | some _ => 0
  | none => 1
/-- a result is right: the word, or some NaN -/
def FopIs (o : Option Nat) (r : Nat) : Prop := r < 18446744073709551616 ∧ (o = some r ∨ o = none ∧ inf < r % nz)
theorem nanW_nan (x y : Nat) (W : World) : inf < nanW x y W % nz ∧ nanW x y W < 18446744073709551616 := nan_word _
theorem FopIs.mk (o : Option Nat) (x y : Nat) (W : World) (h : ∀ z, o = some z → z < 18446744073709551616) : FopIs o (fresO o x y W) := by
  cases o with
  | some z => exact ⟨h z rfl, .inl rfl⟩
  | none => exact ⟨(nanW_nan x y W).2, .inr ⟨rfl, (nanW_nan x y W).1⟩⟩
theorem fop_lt (x y : Nat) : (∀ z, Ieee.double.add x y = some z → z < 18446744073709551616) ∧ (∀ z, Ieee.double.sub x y = some z → z < 18446744073709551616) ∧
    (∀ z, Ieee.double.mul x y = some z → z < 18446744073709551616) ∧ (∀ z, Ieee.double.div x y = some z → z < 18446744073709551616) := by
  refine ⟨?_, ?_, ?_, ?_⟩ <;> (intro z hz; obtain ⟨d, _, rfl⟩ := Option.map_eq_some_iff.1 hz; exact Ieee.double.write_lt d)
theorem run_add (T : TypeId) (x y : Nat) (W : World) : (binOp .add T (.float .f64 x) (.float .f64 y)).run Try.prog W = .ok (.float .f64 (fresO (Ieee.double.add x y) x y W)) (W.drewN (fkO (Ieee.double.add x y))) := by
  cases h : Ieee.double.add x y with
  | some z => exact run_float_arith (P := Try.prog) W .add T .f64 x y z h
  | none =>
    have h' : FloatKind.f64.format.add x y = none := h
    simp [binOp, Op.floatArith, h', Question.forced, fresO, fkO, nanW]
    rfl
theorem run_sub (T : TypeId) (x y : Nat) (W : World) : (binOp .sub T (.float .f64 x) (.float .f64 y)).run Try.prog W = .ok (.float .f64 (fresO (Ieee.double.sub x y) x y W)) (W.drewN (fkO (Ieee.double.sub x y))) := by
  cases h : Ieee.double.sub x y with
  | some z => exact run_float_arith (P := Try.prog) W .sub T .f64 x y z h
  | none =>
    have h' : FloatKind.f64.format.sub x y = none := h
    simp [binOp, Op.floatArith, h', Question.forced, fresO, fkO, nanW]
    rfl
theorem run_mul (T : TypeId) (x y : Nat) (W : World) : (binOp .mul T (.float .f64 x) (.float .f64 y)).run Try.prog W = .ok (.float .f64 (fresO (Ieee.double.mul x y) x y W)) (W.drewN (fkO (Ieee.double.mul x y))) := by
  cases h : Ieee.double.mul x y with
  | some z => exact run_float_arith (P := Try.prog) W .mul T .f64 x y z h
  | none =>
    have h' : FloatKind.f64.format.mul x y = none := h
    simp [binOp, Op.floatArith, h', Question.forced, fresO, fkO, nanW]
    rfl
theorem run_quo (T : TypeId) (x y : Nat) (W : World) : (binOp .quo T (.float .f64 x) (.float .f64 y)).run Try.prog W = .ok (.float .f64 (fresO (Ieee.double.div x y) x y W)) (W.drewN (fkO (Ieee.double.div x y))) := by
  cases h : Ieee.double.div x y with
  | some z => exact run_float_arith (P := Try.prog) W .quo T .f64 x y z h
  | none =>
    have h' : FloatKind.f64.format.div x y = none := h
    simp [binOp, Op.floatArith, h', Question.forced, fresO, fkO, nanW]
    rfl
end Go.Proofs.Ytbpnhpjcepgiiaa
