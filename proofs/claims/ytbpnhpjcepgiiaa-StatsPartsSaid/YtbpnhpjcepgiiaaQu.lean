/- QuotaHolds: the inputs that are refused; the arguments opened. -/
import Derived.Test.YtbpnhpjcepgiiaaQs
import Derived.Test.YtbpnhpjcepgiiaaQn
import Derived.Deep.Slices
namespace Go.Proofs.Ytbpnhpjcepgiiaa.quotaHolds
open Go.ChangeShapes Go.WideShapes Go.ChangeAt Go.RowKit Go.Joins
open Fl

set_option maxRecDepth 100000 in
set_option maxHeartbeats 1000000 in
theorem holds_no (r u : Nat) (ac at_ : Option Addr) (lc cc lt ct : Nat) (w : World) (hr : r < 18446744073709551616) (hu : u < 18446744073709551616)
    (H0 : quotaB r u = false ∨ quotaB r u = true ∧ (60 < lc ∨ lc ≤ 60 ∧ 60 < lt)) :
    Calls Try.prog 3 #[.agg #[.float .f64 r, .float .f64 u], .slice ac lc cc, .slice at_ lt ct] w fun e w' => e = .returned (.bool true) ∧ Below w.heap.size w w' := by
  have HR := Lib.hid hr
  have HU := Lib.hid hu
  have H : quotaB r u = false ∨ quotaB r u = true ∧ decide ((60 : Int) < (lc : Int)) = true ∨ quotaB r u = true ∧ decide ((60 : Int) < (lc : Int)) = false ∧ decide ((60 : Int) < (lt : Int)) = true := by
    rcases H0 with h | ⟨h, h1 | ⟨h1, h2⟩⟩
    · exact .inl h
    · exact .inr (.inl ⟨h, by simp; omega⟩)
    · exact .inr (.inr ⟨h, by simp; omega, by simp; omega⟩)
  clear H0 hr hu
  rcases H with h | ⟨h, hd1⟩ | ⟨h, hd1, hd2⟩
  · have HB := Lib.hid h
    clear h
    go_enter Try.func3, Try.ntmps3
    go_wp2_with fail
    refine (may_any r u _ HR.out HU.out).mono ?_
    rintro e w1 ⟨rfl, hb1⟩
    rw [HB.out]
    have W1 : Hid (Below w.heap.size w w1) := Lib.hid (((Below.refl _ _).alloc (Nat.le_refl _) _).trans (hb1.mono (by simp)))
    clear hb1
    go_wp2_with fail
    refine (works_any _).mono ?_
    rintro e w9 ⟨rfl, hb9⟩
    go_wp2_with fail
    go_ret
    exact ⟨rfl, W1.out.trans (hb9.mono W1.out.size)⟩
  · have HB := Lib.hid h
    clear h
    go_enter Try.func3, Try.ntmps3
    go_wp2_with fail
    refine (may_any r u _ HR.out HU.out).mono ?_
    rintro e w1 ⟨rfl, hb1⟩
    rw [HB.out]
    have W1 : Hid (Below w.heap.size w w1) := Lib.hid (((Below.refl _ _).alloc (Nat.le_refl _) _).trans (hb1.mono (by simp)))
    clear hb1
    go_wp2_with fail
    refine (works_any _).mono ?_
    rintro e w9 ⟨rfl, hb9⟩
    go_wp2_with fail
    go_ret
    exact ⟨rfl, W1.out.trans (hb9.mono W1.out.size)⟩
  · have HB := Lib.hid h
    clear h
    go_enter Try.func3, Try.ntmps3
    go_wp2_with fail
    refine (may_any r u _ HR.out HU.out).mono ?_
    rintro e w1 ⟨rfl, hb1⟩
    rw [HB.out]
    have W1 : Hid (Below w.heap.size w w1) := Lib.hid (((Below.refl _ _).alloc (Nat.le_refl _) _).trans (hb1.mono (by simp)))
    clear hb1
    go_wp2_with fail
    refine (works_any _).mono ?_
    rintro e w9 ⟨rfl, hb9⟩
    go_wp2_with fail
    go_ret
    exact ⟨rfl, W1.out.trans (hb9.mono W1.out.size)⟩

/-- what the law's arguments read as -/
def IsQuota (v : Value) : Prop := ∃ r u : Nat, v = .agg #[.float .f64 r, .float .f64 u] ∧ r < 18446744073709551616 ∧ u < 18446744073709551616
def IsFloats (w : World) (v : Value) : Prop := ∃ (a : Option Addr) (n c : Nat) (f : Nat → Nat), v = .slice a n c ∧ FloatsAt w a n f
def IsTimes (w : World) (v : Value) : Prop := ∃ (a : Option Addr) (n c : Nat) (f : Nat → Int), v = .slice a n c ∧ TimesAt w a n f

section
variable {H : Type} {enc : TypeId × Value → H} {w : World} {base b1 : Nat} {spare : Nat → Bool} {held : Bool} {rc : Reach} {v : Value} {d : DataW H} {p : List MemPlace}
set_option maxRecDepth 100000 in
theorem isQuota (hv : Value.okWide Try.prog w rc b1 24 v) (h : DataW.Trod enc Try.prog w base spare held 24 v d p) : IsQuota v := by
  obtain ⟨cs, rfl, hsz⟩ := okWide_struct Try.underlying24 hv
  obtain ⟨fuel, hf⟩ := h
  obtain ⟨l⟩ := cs
  rw [quotaWaits.cells_quota] at hsz
  match l, hsz with
  | [c0, c1], _ =>
    obtain ⟨r, b, rfl, rfl, hr, hb⟩ := quotaWaits.open_quota (W := w) hf
    exact ⟨r, b, rfl, hr, hb⟩
set_option maxRecDepth 100000 in
theorem isFloats (hv : Value.okWide Try.prog w rc b1 25 v) (h : DataW.Trod enc Try.prog w base spare held 25 v d p) : IsFloats w v := by
  obtain ⟨ax, n, c, rfl⟩ := okWide_slice Try.underlying25 hv
  obtain ⟨fuel, hf⟩ := h
  rcases Deep.open_slice1 Try.underlying25 quotaWaits.cells_float hf with ⟨hc, _⟩ | ⟨a, len, cap, m, k, V, D, Pl, hc, _, hl, hm, hmm, hx, hall⟩
  · have hc' : [Value.slice ax n c] = [.slice none 0 0] := hc
    simp only [List.cons.injEq, and_true, Value.slice.injEq] at hc'
    obtain ⟨rfl, rfl, rfl⟩ := hc'
    exact ⟨none, 0, 0, fun _ => 0, rfl, fun i hi => absurd hi (Nat.not_lt_zero i)⟩
  · have hc' : [Value.slice ax n c] = [.slice (some a) len cap] := hc
    simp only [List.cons.injEq, and_true, Value.slice.injEq] at hc'
    obtain ⟨rfl, rfl, rfl⟩ := hc'
    have hlm : n ≤ m := by rw [hmm]; split <;> omega
    obtain ⟨f, hF⟩ := Deep.choose_lt (n := n) (p := fun i x => V i = .float .f64 x ∧ x < 18446744073709551616) fun i hi => quotaWaits.trod_float Try.underlying22 (hall i (by omega)).2
    refine ⟨some a, _, _, f, rfl, fun i hi => ⟨a, rfl, ?_, ?_, (hF i hi).2⟩⟩
    · rw [(hall i (by omega)).1, (hF i hi).1]
    · have := World.block_lt_of_cell? w _ (hall i (by omega)).1
      rwa [show (a.add i).block = a.block by unfold Addr.add; split <;> rfl] at this
set_option maxRecDepth 100000 in
theorem isTimes (hv : Value.okWide Try.prog w rc b1 26 v) (h : DataW.Trod enc Try.prog w base spare held 26 v d p) : IsTimes w v := by
  obtain ⟨ax, n, c, rfl⟩ := okWide_slice Try.underlying26 hv
  obtain ⟨fuel, hf⟩ := h
  rcases Deep.open_slice1 Try.underlying26 quotaWaits.cells_i64 hf with ⟨hc, _⟩ | ⟨a, len, cap, m, k, V, D, Pl, hc, _, hl, hm, hmm, hx, hall⟩
  · have hc' : [Value.slice ax n c] = [.slice none 0 0] := hc
    simp only [List.cons.injEq, and_true, Value.slice.injEq] at hc'
    obtain ⟨rfl, rfl, rfl⟩ := hc'
    exact ⟨none, 0, 0, fun _ => 0, rfl, fun i hi => absurd hi (Nat.not_lt_zero i)⟩
  · have hc' : [Value.slice ax n c] = [.slice (some a) len cap] := hc
    simp only [List.cons.injEq, and_true, Value.slice.injEq] at hc'
    obtain ⟨rfl, rfl, rfl⟩ := hc'
    have hlm : n ≤ m := by rw [hmm]; split <;> omega
    obtain ⟨f, hF⟩ := Deep.choose_lt (n := n) (p := fun i x => V i = .int .i64 x) fun i hi => by
      obtain ⟨x, hx, _⟩ := DataW.trod_int Try.underlying2 (hall i (by omega)).2
      exact ⟨x, by simpa using hx⟩
    refine ⟨some a, _, _, f, rfl, fun i hi => ⟨a, rfl, ?_, ?_⟩⟩
    · rw [(hall i (by omega)).1, hF i hi]
    · have := World.block_lt_of_cell? w _ (hall i (by omega)).1
      rwa [show (a.add i).block = a.block by unfold Addr.add; split <;> rfl] at this
end
end Go.Proofs.Ytbpnhpjcepgiiaa.quotaHolds
