/- RealOrders: its argument, opened. -/
import Derived.Test.YthfgjibhpenfkaaDoorMf
import Derived.Test.YthfgjibhpenfkaaDoorMa
import Derived.OpenShut
namespace Go.Proofs.YthfgjibhpenfkaaDoor
open Go.ChangeShapes Go.WideShapes Go.ChangeAt Go.RowKit Go.Joins Fl

theorem div_push (m n k : Nat) (h : n < 256) : (m * 256 + n) / 256 ^ (k + 1) % 256 = m / 256 ^ k % 256 := by
  rw [Nat.pow_succ', ← Nat.div_div_eq_div_mul, show (m * 256 + n) / 256 = m by omega]
theorem div_last (m n : Nat) (h : n < 256) : (m * 256 + n) / 256 ^ 0 % 256 = n := by
  rw [Nat.pow_zero, Nat.div_one]; omega
theorem key_bytes (n0 n1 n2 n3 n4 n5 n6 n7 : Nat) (h0 : n0 < 256) (h1 : n1 < 256) (h2 : n2 < 256) (h3 : n3 < 256) (h4 : n4 < 256) (h5 : n5 < 256) (h6 : n6 < 256) (h7 : n7 < 256) :
    ∃ N, N < 18446744073709551616 ∧ kB N 0 = n0 ∧ kB N 1 = n1 ∧ kB N 2 = n2 ∧ kB N 3 = n3 ∧ kB N 4 = n4 ∧ kB N 5 = n5 ∧ kB N 6 = n6 ∧ kB N 7 = n7 := by
  refine ⟨((((((n0 * 256 + n1) * 256 + n2) * 256 + n3) * 256 + n4) * 256 + n5) * 256 + n6) * 256 + n7, by omega, ?_, ?_, ?_, ?_, ?_, ?_, ?_, ?_⟩
  all_goals unfold kB
  · rw [show 7 - 0 = 7 from rfl, div_push _ _ 6 h7, div_push _ _ 5 h6, div_push _ _ 4 h5, div_push _ _ 3 h4, div_push _ _ 2 h3, div_push _ _ 1 h2, div_push _ _ 0 h1, Nat.pow_zero, Nat.div_one, Nat.mod_eq_of_lt h0]
  · rw [show 7 - 1 = 6 from rfl, div_push _ _ 5 h7, div_push _ _ 4 h6, div_push _ _ 3 h5, div_push _ _ 2 h4, div_push _ _ 1 h3, div_push _ _ 0 h2, div_last _ _ h1]
  · rw [show 7 - 2 = 5 from rfl, div_push _ _ 4 h7, div_push _ _ 3 h6, div_push _ _ 2 h5, div_push _ _ 1 h4, div_push _ _ 0 h3, div_last _ _ h2]
  · rw [show 7 - 3 = 4 from rfl, div_push _ _ 3 h7, div_push _ _ 2 h6, div_push _ _ 1 h5, div_push _ _ 0 h4, div_last _ _ h3]
  · rw [show 7 - 4 = 3 from rfl, div_push _ _ 2 h7, div_push _ _ 1 h6, div_push _ _ 0 h5, div_last _ _ h4]
  · rw [show 7 - 5 = 2 from rfl, div_push _ _ 1 h7, div_push _ _ 0 h6, div_last _ _ h5]
  · rw [show 7 - 6 = 1 from rfl, div_push _ _ 0 h7, div_last _ _ h6]
  · rw [show 7 - 7 = 0 from rfl, div_last _ _ h7]
/-- the law's argument, as it came in -/
def IsFour (v : Value) : Prop := ∃ (x y N : Nat) (s : ByteArray), v = .agg #[.float .f64 x, .float .f64 y, kV N 0, kV N 1, kV N 2, kV N 3, kV N 4, kV N 5, kV N 6, kV N 7, .string s] ∧ x < 18446744073709551616 ∧ y < 18446744073709551616 ∧ N < 18446744073709551616 ∧ s.size ≤ 9223372036854775807
theorem cells_key : Tryd.prog.cellsOf 31 = 8 := by kernel_rfl
theorem cells_u8 : Tryd.prog.cellsOf 5 = 1 := by kernel_rfl
theorem cells_str : Tryd.prog.cellsOf 9 = 1 := by kernel_rfl
theorem cells_four : Tryd.prog.cellsOf 41 = 11 := by kernel_rfl
section
variable {H : Type} {enc : TypeId × Value → H} {w : World} {base b1 : Nat} {spare : Nat → Bool} {held : Bool} {rc : Reach} {v : Value} {d : DataW H} {p : List MemPlace}
theorem open_u8 {n : Nat} {c : Value} {y : Option (DataW H × List MemPlace)} (h : DataW.trod enc Tryd.prog w base spare held n 5 [c] = y) (hy : y ≠ none) : ∃ b : Nat, c = .int .u8 (b : Int) ∧ b < 256 := by
  cases y with
  | none => exact absurd rfl hy
  | some y =>
    obtain ⟨k, hk, _, hw⟩ := DataW.trod_int Tryd.underlying5 h
    simp only [List.cons.injEq, and_true] at hk
    obtain ⟨b1, b2⟩ := bounds_u8 hw
    exact ⟨k.toNat, by rw [hk, Int.toNat_of_nonneg b1], by omega⟩
set_option maxRecDepth 100000 in
set_option maxHeartbeats 400000 in
theorem open_key {n : Nat} {c0 c1 c2 c3 c4 c5 c6 c7 : Value} {y : DataW H × List MemPlace} (h : DataW.trod enc Tryd.prog w base spare held n 31 [c0, c1, c2, c3, c4, c5, c6, c7] = some y) :
    ∃ N, N < 18446744073709551616 ∧ c0 = kV N 0 ∧ c1 = kV N 1 ∧ c2 = kV N 2 ∧ c3 = kV N 3 ∧ c4 = kV N 4 ∧ c5 = kV N 5 ∧ c6 = kV N 6 ∧ c7 = kV N 7 := by
  obtain ⟨xs, m, _, _, _, hlen, hg⟩ := DataW.trod_array Tryd.underlying31 h
  match xs, hlen with
  | [y0, y1, y2, y3, y4, y5, y6, y7], _ =>
    rw [cells_u8] at hg
    obtain ⟨n0, rfl, h0⟩ := open_u8 (c := c0) (hg 0 (by decide)) (by simp)
    obtain ⟨n1, rfl, h1⟩ := open_u8 (c := c1) (hg 1 (by decide)) (by simp)
    obtain ⟨n2, rfl, h2⟩ := open_u8 (c := c2) (hg 2 (by decide)) (by simp)
    obtain ⟨n3, rfl, h3⟩ := open_u8 (c := c3) (hg 3 (by decide)) (by simp)
    obtain ⟨n4, rfl, h4⟩ := open_u8 (c := c4) (hg 4 (by decide)) (by simp)
    obtain ⟨n5, rfl, h5⟩ := open_u8 (c := c5) (hg 5 (by decide)) (by simp)
    obtain ⟨n6, rfl, h6⟩ := open_u8 (c := c6) (hg 6 (by decide)) (by simp)
    obtain ⟨n7, rfl, h7⟩ := open_u8 (c := c7) (hg 7 (by decide)) (by simp)
    obtain ⟨N, hN, e0, e1, e2, e3, e4, e5, e6, e7⟩ := key_bytes n0 n1 n2 n3 n4 n5 n6 n7 h0 h1 h2 h3 h4 h5 h6 h7
    refine ⟨N, hN, ?_, ?_, ?_, ?_, ?_, ?_, ?_, ?_⟩ <;> unfold kV
    · rw [e0]
    · rw [e1]
    · rw [e2]
    · rw [e3]
    · rw [e4]
    · rw [e5]
    · rw [e6]
    · rw [e7]
set_option maxRecDepth 100000 in
set_option maxHeartbeats 400000 in
theorem open_four {n : Nat} {c0 c1 c2 c3 c4 c5 c6 c7 c8 c9 c10 : Value} {y : DataW H × List MemPlace} (h : DataW.trod enc Tryd.prog w base spare held n 41 [c0, c1, c2, c3, c4, c5, c6, c7, c8, c9, c10] = some y) :
    ∃ (x y N : Nat) (s : ByteArray), c0 = .float .f64 x ∧ c1 = .float .f64 y ∧ (c2 = kV N 0 ∧ c3 = kV N 1 ∧ c4 = kV N 2 ∧ c5 = kV N 3 ∧ c6 = kV N 4 ∧ c7 = kV N 5 ∧ c8 = kV N 6 ∧ c9 = kV N 7) ∧ c10 = .string s ∧ x < 18446744073709551616 ∧ y < 18446744073709551616 ∧ N < 18446744073709551616 ∧ s.size ≤ 9223372036854775807 := by
  obtain ⟨xs, m, _, _, _, hlen, hg⟩ := DataW.trod_struct Tryd.underlying41 h
  match xs, hlen with
  | [y0, y1, y2, y3], _ =>
    have g0 := hg 0 { name := "X", type := 26, offset := 0, embedded := false, tag := "", pkgPath := "", byteOffset := 0 } rfl
    have g1 := hg 1 { name := "Y", type := 26, offset := 1, embedded := false, tag := "", pkgPath := "", byteOffset := 8 } rfl
    have g2 := hg 2 { name := "K", type := 31, offset := 2, embedded := false, tag := "", pkgPath := "", byteOffset := 16 } rfl
    have g3 := hg 3 { name := "S", type := 9, offset := 10, embedded := false, tag := "", pkgPath := "", byteOffset := 24 } rfl
    simp only [cells_float, cells_key, cells_str, List.drop_zero, List.take_succ_cons, List.take_zero, List.drop_succ_cons, List.getElem?_cons_zero, List.getElem?_cons_succ] at g0 g1 g2 g3
    obtain ⟨a, ha1, ha2⟩ := trod_float Tryd.underlying26 g0
    obtain ⟨b, hb1, hb2⟩ := trod_float Tryd.underlying26 g1
    obtain ⟨N, hN, hk⟩ := open_key g2
    obtain ⟨s, hs, _, hs2⟩ := DataW.trod_string Tryd.underlying9 g3
    simp only [List.cons.injEq, and_true] at hs
    exact ⟨a, b, N, s, ha1, hb1, hk, hs, ha2, hb2, hN, by unfold maxLen at hs2; omega⟩
set_option maxRecDepth 100000 in
set_option maxHeartbeats 400000 in
theorem isFour (h : DataW.Trod enc Tryd.prog w base spare held 41 v d p) (hv : Value.okWide Tryd.prog w rc b1 41 v) : IsFour v := by
  obtain ⟨cs, rfl, hsz⟩ := okWide_struct Tryd.underlying41 hv
  obtain ⟨fuel, hf⟩ := h
  obtain ⟨l⟩ := cs
  rw [cells_four] at hsz
  match l, hsz with
  | [c0, c1, c2, c3, c4, c5, c6, c7, c8, c9, c10], _ =>
    obtain ⟨x, y, N, s, rfl, rfl, ⟨rfl, rfl, rfl, rfl, rfl, rfl, rfl, rfl⟩, rfl, hx, hy, hN, hs⟩ := open_four (w := w) hf
    exact ⟨x, y, N, s, rfl, hx, hy, hN, hs⟩
end
end Go.Proofs.YthfgjibhpenfkaaDoor
