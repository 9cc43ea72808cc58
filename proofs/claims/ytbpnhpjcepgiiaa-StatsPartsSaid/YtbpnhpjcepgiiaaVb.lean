/- Stats: Quantile, of any share and any floats. -/
import Derived.Test.YtbpnhpjcepgiiaaSg
import Derived.Test.YtbpnhpjcepgiiaaVa
import Derived.Test.YtbpnhpjcepgiiaaQq
import Derived.Test.YtbpnhpjcepgiiaaUk
namespace Go.Proofs.Ytbpnhpjcepgiiaa
open Go.RowKit Fl Go.Shelf
open Go.Sort (pdq_sorts)

/-! ### the floats as a row -/
def toW (x : Nat) : W64 := if h : x < 18446744073709551616 then ⟨x, h⟩ else default
theorem toW_val {x : Nat} (h : x < 18446744073709551616) : (toW x).1 = x := by unfold toW; rw [dif_pos h]
def dF (f : Nat → Nat) (n : Nat) : Array W64 := (Array.range n).map fun i => toW (f i)
theorem dF_size (f : Nat → Nat) (n : Nat) : (dF f n).size = n := by simp [dF]
theorem dF_row {w : World} {ad : Addr} {n : Nat} {f : Nat → Nat} (h : FloatsAt w (some ad) n f) : RowF w ad (dF f n) := ⟨fun j v hv => by
  unfold flC dF at hv
  rw [List.getElem?_map, Array.getElem?_toList, Array.getElem?_map] at hv
  by_cases hj : j < n
  · obtain ⟨ad2, h1, h2, _, h4⟩ := h j hj
    obtain rfl := Option.some.inj h1
    rw [Array.getElem?_range, if_pos hj] at hv
    obtain rfl : encW (toW (f j)) = v := by simpa using hv
    rw [h2]
    unfold encW
    rw [toW_val h4]
  · rw [Array.getElem?_range, if_neg hj] at hv
    simp at hv⟩
/-- the floats in order -/
def sF (f : Nat → Nat) (n : Nat) : Array W64 := Sort.pdq (ltOf cmpW) (dF f n) 0 (dF f n).size (Lib.bitLen (dF f n).size) true true
theorem sF_sorts (f : Nat → Nat) (n : Nat) : Sort.PermIn 0 (dF f n).size (dF f n) (sF f n) ∧ Sort.SortedIn (ltOf cmpW) 0 (dF f n).size (sF f n) :=
  pdq_sorts (ltOf cmpW) swoW (dF f n) 0 (dF f n).size (Lib.bitLen (dF f n).size) true true (Nat.zero_le _) (Nat.le_refl _) (Or.inl rfl)
theorem sF_size (f : Nat → Nat) (n : Nat) : (sF f n).size = n := by rw [(sF_sorts f n).1.1, dF_size]
theorem sF_le (f : Nat → Nat) (n i j : Nat) (h : i ≤ j) (hj : j < n) : placeW (sF f n)[i]!.1 ≤ placeW (sF f n)[j]!.1 := by
  rcases Nat.lt_or_ge i j with h1 | h1
  · have := (sF_sorts f n).2 i j (Nat.zero_le _) h1 (by rw [dF_size]; exact hj)
    rw [ltW] at this
    simp only [decide_eq_false_iff_not, Int.not_lt] at this
    exact this
  · obtain rfl : i = j := by omega
    exact Int.le_refl _
/-! ### which number -/
theorem trunc_small (x : Nat) (hx : x < 4697254411347427328) : V x / 2 ^ E74 < 1048576 ∧ (Ieee.double.read x).toInt .zero = some ((V x / 2 ^ E74 : Nat) : Int) := by
  have hxi : x < inf := by unfold inf; omega
  have he : expo x ≤ 1041 := by unfold expo; split <;> omega
  have hm : mant x < 2 ^ 53 := by unfold mant; split <;> omega
  have hv : V x / 2 ^ E74 = mant x / 2 ^ (1074 - expo x) := by
    obtain ⟨k, hk⟩ : ∃ k, E74 = expo x + k := ⟨E74 - expo x, by rw [E74_eq]; omega⟩
    have hk2 : 1074 - expo x = k := by rw [E74_eq] at hk; omega
    rw [hk2, hk, V_eq, Nat.pow_add, Nat.mul_comm (mant x), Nat.mul_div_mul_left _ _ (Nat.two_pow_pos _)]
  rw [hv]
  refine ⟨?_, ?_⟩
  · rw [Nat.div_lt_iff_lt_mul (Nat.two_pow_pos _)]
    refine Nat.lt_of_lt_of_le hm ?_
    rw [show (1048576 : Nat) = 2 ^ 20 from rfl, ← Nat.pow_add]
    exact Nat.pow_le_pow_right (by decide) (by omega)
  · rw [read_small x hxi]
    show some (Ieee.signed false (Ieee.Toward.cut .zero false (mant x <<< ((expo x : Int) - 1074).toNat) (-((expo x : Int) - 1074)).toNat) 0) = _
    rw [show ((expo x : Int) - 1074).toNat = 0 by omega, show (-((expo x : Int) - 1074)).toNat = 1074 - expo x by omega]
    simp only [Nat.shiftLeft_zero, cut_zw]
    simp [Ieee.signed]
theorem trunc_int (x : Nat) (hx : NN x) (h : rv x < 4697254411347427328) : floatToIntVal .f64 x .i64 = some ((V (rv x) / 2 ^ E74 : Nat) : Int) := by
  have h1 : V (rv x) / 2 ^ E74 < 1048576 ∧ (FloatKind.f64.decode x).toInt .zero = some ((V (rv x) / 2 ^ E74 : Nat) : Int) := by
    rcases hx with h2 | rfl
    · rw [rv_small (Nat.le_of_lt h2)] at h ⊢
      exact trunc_small x h
    · rw [rv_nz, V_zero, Nat.zero_div]
      exact ⟨by decide, to_int_nz⟩
  unfold floatToIntVal
  rw [h1.2]
  have := h1.1
  obtain ⟨m, hm⟩ : ∃ m, m = V (rv x) / 2 ^ E74 := ⟨_, rfl⟩
  rw [← hm] at this ⊢
  exact if_pos ⟨by show (-9223372036854775808 : Int) ≤ (m : Int); omega, by show (m : Int) ≤ 9223372036854775807; omega⟩
/-- a share -/
def QOk (q : Nat) : Prop := NN q ∧ rv q ≤ 4607182418800017408
/-- the place of a share among n -/
def kq (q n : Nat) : Nat := V (fmul (rv q) (i2r (n - 1))) / 2 ^ E74
theorem fmul_comm (r s : Nat) : fmul r s = fmul s r := by
  unfold fmul
  rw [Nat.mul_comm (V r)]
  by_cases h : r = 0 ∨ s = 0
  · rw [if_pos h, if_pos h.symm]
  · rw [if_neg h, if_neg (fun e => h e.symm)]
theorem fmul_share {q n : Nat} (h : QOk q) (hn : n ≤ 300) : fmul (rv q) (i2r (n - 1)) ≤ i2r (n - 1) := by
  have h1 := fmul_mono (i2r (n - 1)) _ _ h.2
  have e : fmul (i2r (n - 1)) 4607182418800017408 = i2r (n - 1) := by
    rw [← one_i2r, i2r_mul _ 1 (by omega) (by decide) (by omega), Nat.mul_one]
  rw [e] at h1
  rw [fmul_comm]; exact h1
theorem kq_lt {q n : Nat} (h : QOk q) (hn : n ≤ 300) (h0 : 0 < n) : kq q n < n := by
  have h1 := V_le.2 (fmul_share h hn)
  rw [V_i2r _ (by omega)] at h1
  unfold kq
  refine Nat.lt_of_le_of_lt (Nat.div_le_div_right h1) ?_
  rw [Nat.mul_div_cancel _ (two_pos _)]
  omega
theorem kq_mono {p q n : Nat} (h : rv p ≤ rv q) : kq p n ≤ kq q n := by
  unfold kq
  refine Nat.div_le_div_right (V_le.2 ?_)
  rw [fmul_comm (rv p), fmul_comm (rv q)]
  exact fmul_mono _ _ _ h
theorem share_ge (q : Nat) (hq : q < 18446744073709551616) : (Ieee.double.order q 0 == some .gt || Ieee.double.order q 0 == some .eq) = (decide (q ≤ inf) || q == nz) := ge_zero q hq
theorem share_le (q : Nat) (h : q ≤ inf ∨ q = nz) : (Ieee.double.order q 4607182418800017408 == some .lt || Ieee.double.order q 4607182418800017408 == some .eq) = decide (rv q ≤ 4607182418800017408) := by
  rw [order_nn q _ h (.inl (by decide)), rv_small (x := 4607182418800017408) (by decide)]
  rcases Nat.lt_trichotomy (rv q) 4607182418800017408 with h | h | h
  · rw [Nat.compare_eq_lt.2 h]; simp; omega
  · rw [Nat.compare_eq_eq.2 h]; simp; omega
  · rw [Nat.compare_eq_gt.2 h]; simp; omega
theorem list_false (oa : Option Addr) (n c : Nat) (w : World) : Calls Try.prog 77 #[.bool false, .slice oa n c] w fun e w' => e = .returned (.int .i64 2) ∧ w = w' := by
  go_enter Try.func77, Try.ntmps77
  go_wp2_with fail
  go_ret
  exact ⟨rfl, rfl⟩
theorem list_empty (oa : Option Addr) (c : Nat) (w : World) : Calls Try.prog 77 #[.bool true, .slice oa 0 c] w fun e w' => e = .returned (.int .i64 4) ∧ w = w' := by
  go_enter Try.func77, Try.ntmps77
  go_wp2_with fail
  go_ret
  exact ⟨rfl, rfl⟩

def QuantPost (q n : Nat) (f : Nat → Nat) (w : World) (e : Ending) (w' : World) : Prop :=
  ∃ x er, e = .returned (.tuple #[.float .f64 x, .int .i64 er]) ∧ Below w.heap.size w w' ∧ ((er = 0 ∧ QOk q ∧ 0 < n ∧ x = ((sF f n)[kq q n]!).1) ∨ (er ≠ 0 ∧ ¬ (QOk q ∧ 0 < n)))
set_option maxRecDepth 100000 in
set_option maxHeartbeats 400000 in
theorem quant_no (q n c : Nat) (oa : Option Addr) (f : Nat → Nat) (w : World) (hq : q < 18446744073709551616) (hno : ¬ QOk q) :
    Calls Try.prog 47 #[.float .f64 q, .slice oa n c] w (QuantPost q n f w) := by
  have hg := share_ge q hq
  by_cases h1 : q ≤ inf ∨ q = nz
  · have hge : (FloatKind.f64.format.order q 0 == some .gt || FloatKind.f64.format.order q 0 == some .eq) = true := by
      rw [ord, hg]
      rcases h1 with h | h
      · simp [h]
      · simp [h]
    have hle : (FloatKind.f64.format.order q 4607182418800017408 == some .lt || FloatKind.f64.format.order q 4607182418800017408 == some .eq) = false := by
      rw [ord, share_le q h1]
      by_cases h2 : rv q ≤ 4607182418800017408
      · exfalso
        refine hno ⟨?_, h2⟩
        rcases h1 with h | h
        · by_cases h3 : q = inf
          · rw [h3, rv_small (Nat.le_refl _)] at h2
            exact absurd h2 (by decide)
          · exact .inl (by omega)
        · exact .inr h
      · exact decide_eq_false h2
    have HNO := Lib.hid hno
    clear hg h1 hno hq
    go_enter Try.func47, Try.ntmps47
    go_wp2_with fail
    refine (list_false oa n c _).mono ?_
    rintro e w' ⟨rfl, rfl⟩
    go_wp2_with fail
    go_ret2
    exact ⟨_, _, rfl, Below.refl _ _, .inr ⟨by decide, fun h => HNO.out h.1⟩⟩
  · have hge : (FloatKind.f64.format.order q 0 == some .gt || FloatKind.f64.format.order q 0 == some .eq) = false := by
      rw [ord, hg]
      simp only [Bool.or_eq_false_iff, decide_eq_false_iff_not, beq_eq_false_iff_ne]
      exact ⟨fun h => h1 (.inl h), fun h => h1 (.inr h)⟩
    have HNO := Lib.hid hno
    clear hg h1 hno hq
    go_enter Try.func47, Try.ntmps47
    go_wp2_with fail
    refine (list_false oa n c _).mono ?_
    rintro e w' ⟨rfl, rfl⟩
    go_wp2_with fail
    go_ret2
    exact ⟨_, _, rfl, Below.refl _ _, .inr ⟨by decide, fun h => HNO.out h.1⟩⟩
set_option maxRecDepth 100000 in
set_option maxHeartbeats 400000 in
theorem quant_yes (q n c : Nat) (oa : Option Addr) (f : Nat → Nat) (w : World) (hf : FloatsAt w oa n f) (hn : n ≤ 300) (hq : q < 18446744073709551616) (hok : QOk q) :
    Calls Try.prog 47 #[.float .f64 q, .slice oa n c] w (QuantPost q n f w) := by
  have h1 : q ≤ inf ∨ q = nz := hok.1.imp Nat.le_of_lt id
  have hge : (FloatKind.f64.format.order q 0 == some .gt || FloatKind.f64.format.order q 0 == some .eq) = true := by
    rw [ord, share_ge q hq]
    rcases h1 with h | h
    · simp [h]
    · simp [h]
  have hle : (FloatKind.f64.format.order q 4607182418800017408 == some .lt || FloatKind.f64.format.order q 4607182418800017408 == some .eq) = true := by
    rw [ord, share_le q h1]
    exact decide_eq_true hok.2
  have HOK := Lib.hid hok
  by_cases h0 : n = 0
  · subst h0
    clear h1 hok hq hf
    go_enter Try.func47, Try.ntmps47
    go_wp2_with fail
    refine (list_empty oa c _).mono ?_
    rintro e w' ⟨rfl, rfl⟩
    go_wp2_with fail
    go_ret2
    exact ⟨_, _, rfl, Below.refl _ _, .inr ⟨by decide, fun h => Nat.lt_irrefl _ h.2⟩⟩
  · obtain ⟨ad, rfl, -⟩ := hf 0 (by omega)
    obtain ⟨z, hz, hzz, hzr⟩ := mul_nn q (i2r (n - 1)) hok.1 (i2r_lt_inf _ (by omega))
    have hsm : fmul (rv q) (i2r (n - 1)) < 4697254411347427328 := by
      refine Nat.lt_of_le_of_lt (fmul_share hok hn) ?_
      refine Nat.lt_of_le_of_lt (i2r_mono (m := n - 1) (n := 300) (by omega)) ?_
      decide +kernel
    have hzn : NN z := by
      rcases hzz with h | h
      · refine .inl ?_
        rw [rv_small h] at hzr
        rw [hzr]; unfold inf; omega
      · exact .inr h
    have hci0 := trunc_int z hzn (by rw [hzr]; exact hsm)
    rw [hzr] at hci0
    obtain ⟨k, hk⟩ : ∃ k, k = kq q n := ⟨_, rfl⟩
    have hci1 : floatToIntVal .f64 z .i64 = some (k : Int) := by rw [hci0, hk]; rfl
    have hkn : k < n := by rw [hk]; exact kq_lt hok hn (by omega)
    obtain ⟨s, hs⟩ : ∃ s, s = i2r (n - 1) := ⟨_, rfl⟩
    rw [← hs] at hz
    have hcv : floatOfInt .f64 ((n : Int) - 1) = s := by
      rw [show (n : Int) - 1 = ((n - 1 : Nat) : Int) by omega, floatOfInt_nat, hs]
    have hmul := fun (T : TypeId) (W : World) => run_float_arith (P := Try.prog) W .mul T .f64 q s z hz
    have hci := fun (W : World) => run_convert_float_int (P := Try.prog) (w := W) 22 3 .f64 .i64 z k (by rw [Try.underlying22]; rfl) Try.underlying3 hci1
    have HF := Lib.hid hf
    have HK := Lib.hid hk
    have HKN := Lib.hid hkn
    clear h1 hok hq hf hz hzz hzr hzn hci0 hci1 hs hk hsm hkn
    go_enter Try.func47, Try.ntmps47
    go_wp2_with fail
    refine (list_ok ad n c _ (by omega) (by omega)).mono ?_
    rintro e w' ⟨rfl, rfl⟩
    go_wp2_with fail
    have hnth := nth_b k ad c (dF f n) w (dF_row HF.out) (by rw [dF_size]; exact HKN.out) (by rw [dF_size]; omega)
    rw [dF_size] at hnth
    refine hnth.mono ?_
    rintro e w1 ⟨d', rfl, hs, hb⟩
    have HS := Lib.hid hs
    have HB := Lib.hid hb
    clear hs hb hnth
    go_wp2_with fail
    go_ret2
    exact ⟨_, _, rfl, HB.out, .inl ⟨rfl, HOK.out, by omega, by rw [HS.out.2.2, HK.out]; rfl⟩⟩
theorem quant_any (q n c : Nat) (oa : Option Addr) (f : Nat → Nat) (w : World) (hf : FloatsAt w oa n f) (hn : n ≤ 300) (hq : q < 18446744073709551616) :
    Calls Try.prog 47 #[.float .f64 q, .slice oa n c] w (QuantPost q n f w) := by
  by_cases h : QOk q
  · exact quant_yes q n c oa f w hf hn hq h
  · exact quant_no q n c oa f w hq h
end Go.Proofs.Ytbpnhpjcepgiiaa
