/- Real: keys as numbers: order and equality of keys. -/
import Derived.Test.YthfgjibhpenfkaaDoorNo
import Derived.Test.YthfgjibhpenfkaaDoorMb
import Derived.ChangeKeysEq
namespace Go.Proofs.YthfgjibhpenfkaaDoor
open Go.RowKit Fl

/-- bytes as a number -/
def val : List UInt8 → Nat
  | [] => 0
  | b :: l => b.toNat * 256 ^ l.length + val l
theorem val_lt : ∀ l : List UInt8, val l < 256 ^ l.length
  | [] => by decide
  | b :: l => by
    have h := val_lt l
    have hb : b.toNat < 256 := b.toNat_lt
    rw [val, List.length_cons, Nat.pow_succ, Nat.mul_comm _ 256]
    have : b.toNat * 256 ^ l.length ≤ 255 * 256 ^ l.length := Nat.mul_le_mul_right _ (by omega)
    omega
theorem val_less : ∀ (a b : List UInt8), a.length = b.length → Op.bytesLess a b = decide (val a < val b)
  | [], [], _ => rfl
  | x :: a, y :: b, h => by
    have hl : a.length = b.length := by simpa using h
    have ih := val_less a b hl
    have ha := val_lt a
    have hb := val_lt b
    rw [Op.bytesLess, val, val, ih, hl]
    rw [hl] at ha
    generalize 256 ^ b.length = K at *
    rcases Nat.lt_trichotomy x.toNat y.toNat with h1 | h1 | h1
    · have h2 : x < y := h1
      have : x.toNat * K + K ≤ y.toNat * K := by rw [← Nat.succ_mul]; exact Nat.mul_le_mul_right _ h1
      have h3 : x.toNat * K + val a < y.toNat * K + val b := by omega
      simp [h2, h3]
    · obtain rfl : x = y := UInt8.toNat_inj.1 h1
      have h2 : ¬ x < x := Nat.lt_irrefl x.toNat
      simp [h2]
    · have h2 : ¬ x < y := fun h => absurd (show x.toNat < y.toNat from h) (by omega)
      have h4 : (x == y) = false := by
        rw [beq_eq_false_iff_ne]
        rintro rfl
        omega
      have : y.toNat * K + K ≤ x.toNat * K := by rw [← Nat.succ_mul]; exact Nat.mul_le_mul_right _ h1
      have h3 : ¬ x.toNat * K + val a < y.toNat * K + val b := by omega
      simp [h2, h3, h4]
theorem val_inj : ∀ (a b : List UInt8), a.length = b.length → val a = val b → a = b
  | [], [], _, _ => rfl
  | x :: a, y :: b, h, hv => by
    have hl : a.length = b.length := by simpa using h
    have ha := val_lt a
    have hb := val_lt b
    rw [val, val, hl] at hv
    rw [hl] at ha
    generalize 256 ^ b.length = K at *
    have h1 : x.toNat = y.toNat := by
      rcases Nat.lt_trichotomy x.toNat y.toNat with h1 | h1 | h1
      · have : x.toNat * K + K ≤ y.toNat * K := by rw [← Nat.succ_mul]; exact Nat.mul_le_mul_right _ h1
        omega
      · exact h1
      · have : y.toNat * K + K ≤ x.toNat * K := by rw [← Nat.succ_mul]; exact Nat.mul_le_mul_right _ h1
        omega
    rw [h1] at hv
    rw [UInt8.toNat_inj.1 h1, val_inj a b hl (by omega)]
theorem kB_byte (P j : Nat) : (UInt8.ofNat (kB P j)).toNat = kB P j := UInt8.toNat_ofNat_of_lt' (by show kB P j < 256; exact Nat.mod_lt _ (by decide))
theorem val_keyL (P : Nat) (h : P < 18446744073709551616) : val (keyL P) = P := by
  unfold keyL
  simp only [val, List.length_cons, List.length_nil, kB_byte]
  unfold kB
  simp only [Nat.reduceSub, Nat.reducePow, Nat.reduceAdd, Nat.div_one, Nat.pow_zero, Nat.mul_one, Nat.pow_one]
  omega
theorem part8_0 (a0 a1 a2 a3 a4 a5 a6 a7 : Int) (W : World) : (part 5 #[.int .u8 a0, .int .u8 a1, .int .u8 a2, .int .u8 a3, .int .u8 a4, .int .u8 a5, .int .u8 a6, .int .u8 a7] 0).run Tryd.prog W = .ok (.int .u8 a0) W := by kernel_rfl
theorem part8_1 (a0 a1 a2 a3 a4 a5 a6 a7 : Int) (W : World) : (part 5 #[.int .u8 a0, .int .u8 a1, .int .u8 a2, .int .u8 a3, .int .u8 a4, .int .u8 a5, .int .u8 a6, .int .u8 a7] 1).run Tryd.prog W = .ok (.int .u8 a1) W := by kernel_rfl
theorem part8_2 (a0 a1 a2 a3 a4 a5 a6 a7 : Int) (W : World) : (part 5 #[.int .u8 a0, .int .u8 a1, .int .u8 a2, .int .u8 a3, .int .u8 a4, .int .u8 a5, .int .u8 a6, .int .u8 a7] 2).run Tryd.prog W = .ok (.int .u8 a2) W := by kernel_rfl
theorem part8_3 (a0 a1 a2 a3 a4 a5 a6 a7 : Int) (W : World) : (part 5 #[.int .u8 a0, .int .u8 a1, .int .u8 a2, .int .u8 a3, .int .u8 a4, .int .u8 a5, .int .u8 a6, .int .u8 a7] 3).run Tryd.prog W = .ok (.int .u8 a3) W := by kernel_rfl
theorem part8_4 (a0 a1 a2 a3 a4 a5 a6 a7 : Int) (W : World) : (part 5 #[.int .u8 a0, .int .u8 a1, .int .u8 a2, .int .u8 a3, .int .u8 a4, .int .u8 a5, .int .u8 a6, .int .u8 a7] 4).run Tryd.prog W = .ok (.int .u8 a4) W := by kernel_rfl
theorem part8_5 (a0 a1 a2 a3 a4 a5 a6 a7 : Int) (W : World) : (part 5 #[.int .u8 a0, .int .u8 a1, .int .u8 a2, .int .u8 a3, .int .u8 a4, .int .u8 a5, .int .u8 a6, .int .u8 a7] 5).run Tryd.prog W = .ok (.int .u8 a5) W := by kernel_rfl
theorem part8_6 (a0 a1 a2 a3 a4 a5 a6 a7 : Int) (W : World) : (part 5 #[.int .u8 a0, .int .u8 a1, .int .u8 a2, .int .u8 a3, .int .u8 a4, .int .u8 a5, .int .u8 a6, .int .u8 a7] 6).run Tryd.prog W = .ok (.int .u8 a6) W := by kernel_rfl
theorem part8_7 (a0 a1 a2 a3 a4 a5 a6 a7 : Int) (W : World) : (part 5 #[.int .u8 a0, .int .u8 a1, .int .u8 a2, .int .u8 a3, .int .u8 a4, .int .u8 a5, .int .u8 a6, .int .u8 a7] 7).run Tryd.prog W = .ok (.int .u8 a7) W := by kernel_rfl
theorem info_u8o : ∃ i, Tryd.prog.info? 5 = some i := by
  cases h : Tryd.prog.info? 5 with
  | none => exact absurd (info_u8) (by rw [h]; simp)
  | some i => exact ⟨i, rfl⟩
theorem eq8 (a0 a1 a2 a3 a4 a5 a6 a7 b0 b1 b2 b3 b4 b5 b6 b7 : Int) (W : World) :
    (Op.equalIn 10000 31 (.agg #[.int .u8 a0, .int .u8 a1, .int .u8 a2, .int .u8 a3, .int .u8 a4, .int .u8 a5, .int .u8 a6, .int .u8 a7]) (.agg #[.int .u8 b0, .int .u8 b1, .int .u8 b2, .int .u8 b3, .int .u8 b4, .int .u8 b5, .int .u8 b6, .int .u8 b7])).run Tryd.prog W
      = .ok (a0 == b0 && (a1 == b1 && (a2 == b2 && (a3 == b3 && (a4 == b4 && (a5 == b5 && (a6 == b6 && (a7 == b7)))))))) W := by
  obtain ⟨i, hi⟩ := info_u8o
  have hc : Tryd.prog.cellsOf 5 = 1 := by kernel_rfl
  have he : ∀ a b : Int, (Op.equalIn 9999 5 (.int .u8 a) (.int .u8 b)).run Tryd.prog W = .ok (a == b) W := fun a b => run_equalIn_int W 9998 5 .u8 .u8 a b Tryd.underlying5
  rw [show (10000 : Nat) = 9999 + 1 from rfl, run_equalIn_array W 9999 _ _ Tryd.underlying31 hi, hc]
  simp only [show List.range 8 = [0, 1, 2, 3, 4, 5, 6, 7] from rfl, Op.eqItems, Nat.mul_one]
  rw [Sem.run_bind, part8_0, Result.andThen_ok, Sem.run_bind, part8_0, Result.andThen_ok, Sem.run_bind, he, Result.andThen_ok]
  cases a0 == b0
  · rfl
  simp only [Bool.not_true, Bool.false_eq_true, if_false, Bool.true_and]
  rw [Sem.run_bind, part8_1, Result.andThen_ok, Sem.run_bind, part8_1, Result.andThen_ok, Sem.run_bind, he, Result.andThen_ok]
  cases a1 == b1
  · rfl
  simp only [Bool.not_true, Bool.false_eq_true, if_false, Bool.true_and]
  rw [Sem.run_bind, part8_2, Result.andThen_ok, Sem.run_bind, part8_2, Result.andThen_ok, Sem.run_bind, he, Result.andThen_ok]
  cases a2 == b2
  · rfl
  simp only [Bool.not_true, Bool.false_eq_true, if_false, Bool.true_and]
  rw [Sem.run_bind, part8_3, Result.andThen_ok, Sem.run_bind, part8_3, Result.andThen_ok, Sem.run_bind, he, Result.andThen_ok]
  cases a3 == b3
  · rfl
  simp only [Bool.not_true, Bool.false_eq_true, if_false, Bool.true_and]
  rw [Sem.run_bind, part8_4, Result.andThen_ok, Sem.run_bind, part8_4, Result.andThen_ok, Sem.run_bind, he, Result.andThen_ok]
  cases a4 == b4
  · rfl
  simp only [Bool.not_true, Bool.false_eq_true, if_false, Bool.true_and]
  rw [Sem.run_bind, part8_5, Result.andThen_ok, Sem.run_bind, part8_5, Result.andThen_ok, Sem.run_bind, he, Result.andThen_ok]
  cases a5 == b5
  · rfl
  simp only [Bool.not_true, Bool.false_eq_true, if_false, Bool.true_and]
  rw [Sem.run_bind, part8_6, Result.andThen_ok, Sem.run_bind, part8_6, Result.andThen_ok, Sem.run_bind, he, Result.andThen_ok]
  cases a6 == b6
  · rfl
  simp only [Bool.not_true, Bool.false_eq_true, if_false, Bool.true_and]
  rw [Sem.run_bind, part8_7, Result.andThen_ok, Sem.run_bind, part8_7, Result.andThen_ok, Sem.run_bind, he, Result.andThen_ok]
  cases a7 == b7
  · rfl
  simp only [Bool.not_true, Bool.false_eq_true, if_false]
  rfl
theorem u8_cells_inj {a b : List UInt8} (h : byteCells a = byteCells b) : a = b := by
  unfold byteCells at h
  refine List.map_inj_right (fun x y hxy => ?_) |>.1 h
  simp only [Value.int.injEq, true_and] at hxy
  exact UInt8.toNat_inj.1 (by omega)
/-- keys are one where their numbers are -/
theorem key_eqB {P Q : Nat} (hP : P < 18446744073709551616) (hQ : Q < 18446744073709551616) {a0 a1 a2 a3 a4 a5 a6 a7 b0 b1 b2 b3 b4 b5 b6 b7 : Int}
    (ha : byteCells (keyL P) = [.int .u8 a0, .int .u8 a1, .int .u8 a2, .int .u8 a3, .int .u8 a4, .int .u8 a5, .int .u8 a6, .int .u8 a7])
    (hb : byteCells (keyL Q) = [.int .u8 b0, .int .u8 b1, .int .u8 b2, .int .u8 b3, .int .u8 b4, .int .u8 b5, .int .u8 b6, .int .u8 b7]) :
    (a0 == b0 && (a1 == b1 && (a2 == b2 && (a3 == b3 && (a4 == b4 && (a5 == b5 && (a6 == b6 && a7 == b7))))))) = decide (P = Q) := by
  have h1 : (byteCells (keyL P) = byteCells (keyL Q)) ↔ P = Q := by
    refine ⟨fun h => ?_, fun h => by rw [h]⟩
    have h2 := congrArg val (u8_cells_inj h)
    rwa [val_keyL P hP, val_keyL Q hQ] at h2
  rw [ha, hb] at h1
  simp only [List.cons.injEq, Value.int.injEq, true_and, and_true] at h1
  by_cases h : P = Q
  · have := h1.2 h
    simp [h, this]
  · rw [decide_eq_false h, Bool.eq_false_iff]
    intro h3
    simp only [Bool.and_eq_true, beq_iff_eq] at h3
    exact h (h1.1 h3)
theorem key_less {P Q : Nat} (hP : P < 18446744073709551616) (hQ : Q < 18446744073709551616) : Op.bytesLess (keyL P) (keyL Q) = decide (P < Q) := by
  rw [val_less _ _ (show (keyL P).length = (keyL Q).length from rfl), val_keyL P hP, val_keyL Q hQ]
end Go.Proofs.YthfgjibhpenfkaaDoor
