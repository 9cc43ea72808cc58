/- QuotaWaits: the argument opened. -/
import Derived.Test.YtbpnhpjcepgiiaaQm
import Derived.ProofKit
import Derived.OpenShut
import Derived.Lib.SmallJoins
import Derived.ChangeOld
import Derived.Below
namespace Go.Proofs.Ytbpnhpjcepgiiaa.quotaWaits
open Go.ChangeShapes Go.WideShapes Go.ChangeAt Go.RowKit Go.Joins
open Fl

theorem own : ownKnob Try.prog.godebug = none := by kernel_rfl
theorem laidOut : laidOutB Try.prog = true := by kernel_rfl

theorem waits_any (r b cost : Nat) (soon later A B : Int) (w : World) (hr : r < 18446744073709551616) (hb : b < 18446744073709551616) (hc : cost < 18446744073709551616) :
    Calls Try.prog 4 #[.agg #[.float .f64 r, .float .f64 b, .float .f64 cost, .int .i64 soon, .int .i64 later, .int .i64 A, .int .i64 B]] w fun e w' => e = .returned (.bool true) ∧ Below w.heap.size w w' := by
  cases h0 : quotaB r b with
  | false => exact waits_no0 r b cost soon later A B w hr hb hc h0
  | true =>
  cases h1 : nnW cost with
  | false => exact waits_no1 r b cost soon later A B w hr hb hc h0 h1
  | true =>
  cases h2 : timeB soon with
  | false => exact waits_no2 r b cost soon later A B w hr hb hc h0 h1 h2
  | true =>
  cases h3 : timeB later with
  | false => exact waits_no3 r b cost soon later A B w hr hb hc h0 h1 h2 h3
  | true =>
  cases h4 : (!decide (later < soon)) with
  | false => exact waits_no4 r b cost soon later A B w hr hb hc h0 h1 h2 h3 h4
  | true =>
  cases h5 : clientB A with
  | false => exact waits_no5 r b cost soon later A B w hr hb hc h0 h1 h2 h3 h4 h5
  | true =>
  cases h6 : clientB B with
  | false => exact waits_no6 r b cost soon later A B w hr hb hc h0 h1 h2 h3 h4 h5 h6
  | true =>
  cases h7 : (!(A == B)) with
  | false => exact waits_no7 r b cost soon later A B w hr hb hc h0 h1 h2 h3 h4 h5 h6 h7
  | true =>
  cases h8 : (!(FloatKind.f64.format.order cost b == some .gt)) with
  | false => exact waits_no8 r b cost soon later A B w hr hb hc h0 h1 h2 h3 h4 h5 h6 h7 h8
  | true =>
  have hA : 0 ≤ A := by have := h5; simp [clientB] at this; omega
  have hB : 0 ≤ B := by have := h6; simp [clientB] at this; omega
  obtain ⟨a1, rfl⟩ := Int.eq_ofNat_of_zero_le hA
  obtain ⟨a2, rfl⟩ := Int.eq_ofNat_of_zero_le hB
  exact waits_yes r b cost soon later a1 a2 w hr hb hc h0 h1 h2 h3 h4 h5 h6 h7 h8

section
variable {H : Type} {enc : TypeId × Value → H} {P : Program} {w : World} {base : Nat} {spare : Nat → Bool} {held : Bool}
theorem trod_float {n : Nat} {t : TypeId} {v : Value} {y : DataW H × List MemPlace} (ht : P.underlying t = some (.float .f64)) (h : DataW.trod enc P w base spare held n t [v] = some y) : ∃ b, v = .float .f64 b ∧ b < 18446744073709551616 := by
  cases n with
  | zero => simp [DataW.trod] at h
  | succ n =>
    simp only [DataW.trod, ht] at h
    cases v <;> simp at h
    rename_i k bits
    obtain ⟨⟨rfl, hw⟩, _⟩ := h
    refine ⟨bits, rfl, ?_⟩
    simpa [Lit.wf] using hw

theorem cells_waits : Try.prog.cellsOf 46 = 7 := by kernel_rfl
theorem cells_quota : Try.prog.cellsOf 24 = 2 := by kernel_rfl
theorem cells_float : Try.prog.cellsOf 22 = 1 := by kernel_rfl
theorem cells_i64 : Try.prog.cellsOf 2 = 1 := by kernel_rfl
theorem cells_int : Try.prog.cellsOf 3 = 1 := by kernel_rfl

set_option maxHeartbeats 400000 in
theorem open_quota {W : World} {n : Nat} {c0 c1 : Value} {y : DataW H × List MemPlace} (h : DataW.trod enc Try.prog W base spare held n 24 [c0, c1] = some y) :
    ∃ r b, c0 = .float .f64 r ∧ c1 = .float .f64 b ∧ r < 18446744073709551616 ∧ b < 18446744073709551616 := by
  obtain ⟨xs, m, _, _, _, hlen, hg⟩ := DataW.trod_struct Try.underlying24 h
  match xs, hlen with
  | [y0, y1], _ =>
    have g0 := hg 0 { name := "Rate", type := 22, offset := 0, embedded := false, tag := "", pkgPath := "", byteOffset := 0 } rfl
    have g1 := hg 1 { name := "Burst", type := 22, offset := 1, embedded := false, tag := "", pkgPath := "", byteOffset := 8 } rfl
    simp only [cells_float, List.drop_zero, List.take_succ_cons, List.take_zero, List.drop_succ_cons, List.getElem?_cons_zero, List.getElem?_cons_succ] at g0 g1
    obtain ⟨r, hr1, hr2⟩ := trod_float Try.underlying22 g0
    obtain ⟨b, hb1, hb2⟩ := trod_float Try.underlying22 g1
    exact ⟨r, b, hr1, hb1, hr2, hb2⟩

set_option maxHeartbeats 400000 in
theorem open_waits {W : World} {n : Nat} {c0 c1 c2 c3 c4 c5 c6 : Value} {y : DataW H × List MemPlace} (h : DataW.trod enc Try.prog W base spare held n 46 [c0, c1, c2, c3, c4, c5, c6] = some y) :
    ∃ r b cost soon later A B, c0 = .float .f64 r ∧ c1 = .float .f64 b ∧ c2 = .float .f64 cost ∧ c3 = .int .i64 soon ∧ c4 = .int .i64 later ∧ c5 = .int .i64 A ∧ c6 = .int .i64 B ∧
      r < 18446744073709551616 ∧ b < 18446744073709551616 ∧ cost < 18446744073709551616 := by
  obtain ⟨xs, m, _, _, _, hlen, hg⟩ := DataW.trod_struct Try.underlying46 h
  match xs, hlen with
  | [y0, y1, y2, y3, y4, y5], _ =>
    have g0 := hg 0 { name := "Q", type := 24, offset := 0, embedded := false, tag := "", pkgPath := "", byteOffset := 0 } rfl
    have g1 := hg 1 { name := "Cost", type := 22, offset := 2, embedded := false, tag := "", pkgPath := "", byteOffset := 16 } rfl
    have g2 := hg 2 { name := "Soon", type := 2, offset := 3, embedded := false, tag := "", pkgPath := "", byteOffset := 24 } rfl
    have g3 := hg 3 { name := "Later", type := 2, offset := 4, embedded := false, tag := "", pkgPath := "", byteOffset := 32 } rfl
    have g4 := hg 4 { name := "A", type := 3, offset := 5, embedded := false, tag := "", pkgPath := "", byteOffset := 40 } rfl
    have g5 := hg 5 { name := "B", type := 3, offset := 6, embedded := false, tag := "", pkgPath := "", byteOffset := 48 } rfl
    simp only [cells_quota, cells_float, cells_i64, cells_int, List.drop_zero, List.take_succ_cons, List.take_zero, List.drop_succ_cons, List.getElem?_cons_zero, List.getElem?_cons_succ] at g0 g1 g2 g3 g4 g5
    obtain ⟨r, b, hr1, hb1, hr2, hb2⟩ := open_quota g0
    obtain ⟨cost, hc1, hc2⟩ := trod_float Try.underlying22 g1
    obtain ⟨soon, hs, _, _⟩ := DataW.trod_int Try.underlying2 g2
    obtain ⟨later, hl, _, _⟩ := DataW.trod_int Try.underlying2 g3
    obtain ⟨A, hA, _, _⟩ := DataW.trod_int Try.underlying3 g4
    obtain ⟨B, hB, _, _⟩ := DataW.trod_int Try.underlying3 g5
    simp only [List.cons.injEq, and_true] at hs hl hA hB
    exact ⟨r, b, cost, soon, later, A, B, hr1, hb1, hc1, hs, hl, hA, hB, hr2, hb2, hc2⟩
end

/-- what an argument of the law reads as -/
def IsWaits (v : Value) : Prop := ∃ (r b cost : Nat) (soon later A B : Int), v = .agg #[.float .f64 r, .float .f64 b, .float .f64 cost, .int .i64 soon, .int .i64 later, .int .i64 A, .int .i64 B] ∧ r < 18446744073709551616 ∧ b < 18446744073709551616 ∧ cost < 18446744073709551616

set_option maxRecDepth 100000 in
set_option maxHeartbeats 400000 in
theorem isWaits {H : Type} {enc : TypeId × Value → H} {W : World} {v : Value} {d : DataW H} {p : List MemPlace} {base : Nat} {b1 : Nat} {spare : Nat → Bool} {held : Bool} {rc : Reach} (hv : Value.okWide Try.prog W rc b1 46 v)
    (h : DataW.Trod enc Try.prog W base spare held 46 v d p) : IsWaits v := by
  obtain ⟨cs, rfl, hsz⟩ := okWide_struct Try.underlying46 hv
  obtain ⟨fuel, hf⟩ := h
  obtain ⟨l⟩ := cs
  rw [cells_waits] at hsz
  match l, hsz with
  | [c0, c1, c2, c3, c4, c5, c6], _ =>
    obtain ⟨r, b, cost, soon, later, A, B, rfl, rfl, rfl, rfl, rfl, rfl, rfl, hr, hb, hc⟩ := open_waits (W := W) hf
    exact ⟨r, b, cost, soon, later, A, B, rfl, hr, hb, hc⟩

set_option maxRecDepth 100000 in
theorem walk (v : Value) (w : World) (h : IsWaits v) : Calls Try.prog 4 #[v] w fun e w' => e = .returned (.bool true) ∧ Below w.heap.size w w' := by
  obtain ⟨r, b, cost, soon, later, A, B, rfl, hr, hb, hc⟩ := h
  exact waits_any r b cost soon later A B w hr hb hc
end Go.Proofs.Ytbpnhpjcepgiiaa.quotaWaits
