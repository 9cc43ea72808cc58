/- Quota: whole. -/
import Derived.Test.YtbpnhpjcepgiiaaQp
import Derived.Laws.FloatArith
namespace Go.Proofs.Ytbpnhpjcepgiiaa
open Go.RowKit Fl

def Whole (x : Nat) : Prop := ∃ n, n < 1048576 ∧ rv x = i2r n

theorem cut_zw (m d : Nat) : Ieee.Toward.cut .zero false m d = m / 2 ^ d := by
  show m / (1 <<< min d (m.log2 + 2)) + 0 = _
  rw [Nat.add_zero, Nat.one_shiftLeft]
  rcases Nat.le_total d (m.log2 + 2) with h | h
  · rw [Nat.min_eq_left h]
  · rw [Nat.min_eq_right h]
    have h1 : m < 2 ^ (m.log2 + 2) := Nat.lt_trans (lt_log2 m) (Nat.pow_lt_pow_right (by decide) (by omega))
    rw [Nat.div_eq_of_lt h1, Nat.div_eq_of_lt (Nat.lt_of_lt_of_le h1 (Nat.pow_le_pow_right (by decide) h))]

theorem to_int_small (x : Nat) (hx : x < 4697254411347427328) : ∃ n : Nat, n < 1048576 ∧ (Ieee.double.read x).toInt .zero = some (n : Int) := by
  have hxi : x < inf := by unfold inf; omega
  have he : expo x ≤ 1041 := by unfold expo; split <;> omega
  have hm : mant x < 2 ^ 53 := by unfold mant; split <;> omega
  refine ⟨mant x / 2 ^ (1074 - expo x), ?_, ?_⟩
  · rw [Nat.div_lt_iff_lt_mul (Nat.two_pow_pos _)]
    refine Nat.lt_of_lt_of_le hm ?_
    rw [show (1048576 : Nat) = 2 ^ 20 from rfl, ← Nat.pow_add]
    exact Nat.pow_le_pow_right (by decide) (by omega)
  · rw [read_small x hxi]
    show some (Ieee.signed false (Ieee.Toward.cut .zero false (mant x <<< ((expo x : Int) - 1074).toNat) (-((expo x : Int) - 1074)).toNat) 0) = _
    rw [show ((expo x : Int) - 1074).toNat = 0 by omega, show (-((expo x : Int) - 1074)).toNat = 1074 - expo x by omega]
    simp only [Nat.shiftLeft_zero, cut_zw]
    simp [Ieee.signed]
theorem to_int_nz : (Ieee.double.read nz).toInt .zero = some 0 := by decide +kernel
theorem whole_int (x : Nat) (hx : NN x) (h : rv x < 4697254411347427328) : ∃ n : Nat, n < 1048576 ∧ floatToIntVal .f64 x .i64 = some (n : Int) := by
  have h1 : ∃ n : Nat, n < 1048576 ∧ (FloatKind.f64.decode x).toInt .zero = some (n : Int) := by
    rcases hx with h2 | rfl
    · rw [rv_small (Nat.le_of_lt h2)] at h
      exact to_int_small x h
    · exact ⟨0, by decide, to_int_nz⟩
  obtain ⟨n, hn, h1⟩ := h1
  refine ⟨n, hn, ?_⟩
  unfold floatToIntVal
  rw [h1]
  exact if_pos ⟨by show (-9223372036854775808 : Int) ≤ n; omega, by show (n : Int) ≤ 9223372036854775807; omega⟩

set_option maxRecDepth 100000 in
set_option maxHeartbeats 400000 in
theorem whole_any (x : Nat) (w : World) (hx : NN x) (hx2 : x < 18446744073709551616) :
    Calls Try.prog 14 #[.float .f64 x] w fun e w' => ∃ b, e = .returned (.bool b) ∧ (b = true → Whole x) ∧ w = w' := by
  have hge : (FloatKind.f64.format.order x 0 == some .gt || FloatKind.f64.format.order x 0 == some .eq) = true := by
    rw [ord, ge_zero x hx2]
    rcases hx with h | h
    · simp [Nat.le_of_lt h]
    · simp [h]
  have hlt : (FloatKind.f64.format.order x 4697254411347427328 == some .lt) = decide (rv x < 4697254411347427328) := by
    rw [ord, order_nn x _ (hx.imp Nat.le_of_lt id) (.inl (by decide)), rv_small (x := 4697254411347427328) (by decide)]
    rcases Nat.lt_trichotomy (rv x) 4697254411347427328 with h | h | h
    · rw [Nat.compare_eq_lt.2 h]; simp [h]
    · rw [Nat.compare_eq_eq.2 h]; simp; omega
    · rw [Nat.compare_eq_gt.2 h]; simp; omega
  by_cases hs : rv x < 4697254411347427328
  · have hlt' : (FloatKind.f64.format.order x 4697254411347427328 == some .lt) = true := by rw [hlt]; simp [hs]
    obtain ⟨n, hn, hv⟩ := whole_int x hx hs
    have hcv := fun (W : World) => run_convert_float_int (P := Try.prog) W 22 2 .f64 .i64 x (n : Int) (by kernel_rfl) Try.underlying2 hv
    obtain ⟨y, hy⟩ : ∃ y, y = i2r n := ⟨_, rfl⟩
    have hback : floatOfInt .f64 (n : Int) = y := by rw [floatOfInt_nat, hy]
    have HE : Hid ((FloatKind.f64.format.order x y == some .eq) = decide (rv x = y)) := by
      refine Lib.hid ?_
      have hyi : y ≤ inf := by rw [hy]; exact i2r_le n
      rw [ord, order_nn x y (hx.imp Nat.le_of_lt id) (.inl hyi), rv_small hyi]
      rcases Nat.lt_trichotomy (rv x) y with h | h | h
      · rw [Nat.compare_eq_lt.2 h]; simp; omega
      · rw [Nat.compare_eq_eq.2 h]; simp [h]
      · rw [Nat.compare_eq_gt.2 h]; simp; omega
    have HW : Hid (rv x = y → Whole x) := Lib.hid (fun h => ⟨n, hn, by rw [h, hy]⟩)
    clear hx hx2 hlt hs hn hv hy
    go_enter Try.func14, Try.ntmps14
    go_wp2
    go_ret
    exact ⟨_, rfl, fun h => HW.out (by rw [HE.out] at h; exact of_decide_eq_true h), rfl⟩
  · have hlt' : (FloatKind.f64.format.order x 4697254411347427328 == some .lt) = false := by rw [hlt]; simp; omega
    clear hx hx2 hlt hs
    go_enter Try.func14, Try.ntmps14
    go_wp2
    go_ret
    exact ⟨false, rfl, fun h => by simp at h, rfl⟩
end Go.Proofs.Ytbpnhpjcepgiiaa
