/- Real: the text of any finite float. -/
import Derived.Test.YthfgjibhpenfkaaDoorNd
import Derived.Test.YthfgjibhpenfkaaDoorNa
import Derived.Lib.ItoaLen
namespace Go.Proofs.YthfgjibhpenfkaaDoor
open Go.RowKit Fl

theorem add_str (a b : ByteArray) (W : World) (h : a.size + b.size ≤ 9223372036854775807) : (binOp .add 9 (.string a) (.string b)).run Tryd.prog W = .ok (.string (a ++ b)) W := by
  have := run_string_add_sum (P := Tryd.prog) (w := W) a b h
  first
    | exact this
    | (simp [binOp, this]; done)
/-- a float's sign in its text -/
def sgB (x : Nat) : ByteArray := if nz ≤ x then ⟨#[45]⟩ else ⟨#[]⟩
theorem sgB_size (x : Nat) : (sgB x).size ≤ 1 := by unfold sgB; split <;> decide
def dB (n : Nat) : ByteArray := ⟨(Lib.decDigits n).toArray⟩
def iB (e : Int) : ByteArray := ⟨(Lib.itoa e).toArray⟩
theorem dB_size (n : Nat) (h : n < 18446744073709551616) : (dB n).size ≤ 20 := by
  show (Lib.decDigits n).toArray.size ≤ 20
  rw [List.size_toArray, Lib.decDigits_length]
  exact Lib.nDigits_le20 n h
theorem iB_size (e : Int) (h0 : -9223372036854775808 ≤ e) (h1 : e ≤ 9223372036854775807) : (iB e).size ≤ 21 := by
  show (Lib.itoa e).toArray.size ≤ 21
  rw [List.size_toArray]
  exact Lib.itoa_length_le e h0 h1
def pB : ByteArray := ⟨#[112]⟩
def textB (x n : Nat) (e : Int) : ByteArray := sgB x ++ dB n ++ pB ++ iB e
/-- what the loop strips off -/
theorem odd_pow {M : Nat} (h : 0 < M) (hM : M < 9007199254740992) : ∃ n k, n % 2 = 1 ∧ n * 2 ^ k = M ∧ k ≤ 52 ∧ 0 < n ∧ n < 9007199254740992 := by
  have key : ∀ j M, 0 < M → M < 2 ^ j → ∃ n k, n % 2 = 1 ∧ n * 2 ^ k = M ∧ k < j ∧ 0 < n ∧ n ≤ M := by
    intro j
    induction j with
    | zero => intro M h1 h2; simp at h2; omega
    | succ j ih =>
      intro M h1 h2
      rcases Nat.mod_two_eq_zero_or_one M with h3 | h3
      · obtain ⟨n, k, a, b, c, d, e⟩ := ih (M / 2) (by omega) (by rw [Nat.pow_succ] at h2; omega)
        refine ⟨n, k + 1, a, ?_, by omega, d, by omega⟩
        rw [Nat.pow_succ, ← Nat.mul_assoc, b]
        omega
      · exact ⟨M, 0, h3, by simp, by omega, h1, Nat.le_refl _⟩
  obtain ⟨n, k, a, b, c, d, e⟩ := key 53 M h (by rw [show (2 : Nat) ^ 53 = 9007199254740992 from rfl]; exact hM)
  exact ⟨n, k, a, b, by omega, d, by omega⟩
theorem and_one (y : Nat) (h : y < 18446744073709551616) : bits .and .u64 (y : Int) 1 = ((y % 2 : Nat) : Int) := by
  rw [show (1 : Int) = ((1 : Nat) : Int) from rfl, bits_and_u64_nat _ _ h (by decide), Nat.and_one_is_mod]
theorem cut_zw (m d : Nat) : Ieee.Toward.cut .zero false m d = m / 2 ^ d := by
  show m / (1 <<< min d (m.log2 + 2)) + 0 = _
  rw [Nat.add_zero, Nat.one_shiftLeft]
  rcases Nat.le_total d (m.log2 + 2) with h | h
  · rw [Nat.min_eq_left h]
  · rw [Nat.min_eq_right h]
    have h1 : m < 2 ^ (m.log2 + 2) := Nat.lt_trans (lt_log2 m) (Nat.pow_lt_pow_right (by decide) (by omega))
    rw [Nat.div_eq_of_lt h1, Nat.div_eq_of_lt (Nat.lt_of_lt_of_le h1 (Nat.pow_le_pow_right (by decide) h))]
theorem conv_T (m : Nat) (h1 : 4503599627370496 ≤ m) (h2 : m < 9007199254740992) : floatToIntVal .f64 (1075 * 4503599627370496 + (m - 4503599627370496)) .u64 = some (m : Int) := by
  obtain ⟨T, hT⟩ : ∃ T, T = 1075 * 4503599627370496 + (m - 4503599627370496) := ⟨_, rfl⟩
  have hTi : T < inf := by rw [inf_val]; omega
  have he : expo T = 1074 := by unfold expo; rw [p52, if_neg (by omega)]; omega
  have hm : mant T = m := by unfold mant; rw [p52, if_neg (by omega)]; omega
  have h1 : (FloatKind.f64.decode T).toInt .zero = some (m : Int) := by
    show (Ieee.double.read T).toInt .zero = _
    rw [read_small T hTi, he, hm]
    show some (Ieee.signed false (Ieee.Toward.cut .zero false (m <<< (((1074 : Nat) : Int) - 1074).toNat) (-(((1074 : Nat) : Int) - 1074)).toNat) 0) = _
    rw [show ((((1074 : Nat) : Int) - 1074).toNat) = 0 by decide, show (-(((1074 : Nat) : Int) - 1074)).toNat = 0 by decide]
    simp only [Nat.shiftLeft_zero, cut_zw]
    simp [Ieee.signed]
  rw [← hT]
  unfold floatToIntVal
  rw [h1]
  exact if_pos ⟨by show (0 : Int) ≤ (m : Int); omega, by show (m : Int) ≤ 18446744073709551615; omega⟩
theorem V_c53 : V 4845873199050653696 = 4503599627370496 * 2 ^ (1076 - 1) := by
  have := (V_word 1076 4503599627370496 (by decide) (Nat.le_refl _) (by decide)).1
  rw [show 1076 * 4503599627370496 + (4503599627370496 - 4503599627370496) = 4845873199050653696 from rfl] at this
  exact this
theorem mul_frac (m : Nat) (h1 : 4503599627370496 ≤ m) (h2 : m < 9007199254740992) : Ieee.double.mul (1022 * 4503599627370496 + (m - 4503599627370496)) 4845873199050653696 = some (1075 * 4503599627370496 + (m - 4503599627370496)) := by
  have v1 := (V_word 1022 m (by decide) h1 h2).1
  have v2 := (V_word 1075 m (by decide) h1 h2).1
  have hF : 1022 * 4503599627370496 + (m - 4503599627370496) < inf := by rw [inf_val]; omega
  have hT : 1075 * 4503599627370496 + (m - 4503599627370496) < inf := by rw [inf_val]; omega
  rw [mul_small _ _ hF (by decide), fmul_exact (by omega) (by decide) (by omega) hT]
  obtain ⟨a, ha⟩ : ∃ a, a = 1022 - 1 := ⟨_, rfl⟩
  obtain ⟨b, hb⟩ : ∃ b, b = 1076 - 1 := ⟨_, rfl⟩
  obtain ⟨c, hc⟩ : ∃ c, c = 1075 - 1 := ⟨_, rfl⟩
  rw [v1, v2, V_c53, ← ha, ← hb, ← hc, show (4503599627370496 : Nat) = 2 ^ 52 from rfl]
  rw [Nat.mul_assoc, ← Nat.pow_add, ← Nat.pow_add, Nat.mul_assoc, ← Nat.pow_add]
  rw [show a + (52 + b) = c + E74 by rw [E74_eq]; omega]
set_option maxRecDepth 100000 in
set_option maxHeartbeats 2000000 in
theorem Text_fin (x : Nat) (w : World) (hx : x < 18446744073709551616) (ht : Pow10 w) (h0 : 0 < x % nz) (hi : x % nz < inf) :
    Calls Tryd.prog 16 #[.float .f64 x] w fun e w' => ∃ (n : Nat) (ex : Int), OddOf (x % nz) n ex ∧ (0 < n ∧ n < 9007199254740992 ∧ -1200 ≤ ex ∧ ex ≤ 1200) ∧ e = .returned (.string (textB x n ex)) ∧ Below w.heap.size w w' := by
  have hiv := inf_val
  have hnv := nz_val
  have o1 : FloatKind.f64.format.order x x = some .eq := by
    show Ieee.double.order x x = some .eq
    rw [order_self, if_pos (by omega)]
  obtain ⟨r, hr⟩ : ∃ r, r = x % nz := ⟨_, rfl⟩
  rw [← hr] at h0 hi
  have o2 : FloatKind.f64.format.order r r = some .eq := by
    show Ieee.double.order r r = some .eq
    rw [order_self, if_pos (by have : r % nz = r := Nat.mod_eq_of_lt (by omega)
                               omega)]
  have o3 : (FloatKind.f64.format.order r 0 == some .eq) = false := by
    show (Ieee.double.order r 0 == some .eq) = false
    rw [order_small r 0 hi (by decide), Nat.compare_eq_gt.2 h0]
    rfl
  have hinf : decide (r = inf) = false := by simp; omega
  have HX := Lib.hid (And.intro hx (And.intro h0 (And.intro hi hr)))
  have HINF := Lib.hid hinf
  have HT := Lib.hid ht
  have HN : Hid (Op.negFloat .f64 x = r ∨ ¬ nz ≤ x) := Lib.hid (by
    by_cases h : nz ≤ x
    · exact .inl (by rw [neg_top x h hx, hr])
    · exact .inr h)
  obtain ⟨S, hS⟩ : ∃ S, S = sgB x := ⟨_, rfl⟩
  have HS := Lib.hid hS
  have hlow : Hid (¬ nz ≤ x → r = x) := Lib.hid (by intro h; rw [hr]; exact Nat.mod_eq_of_lt (by omega))
  clear h0 hi hr hx ht hinf hS hiv hnv
  go_enter Tryd.func16, Tryd.ntmps16
  go_wp2_with fail
  refine (signbit_any x _ HX.out.1).mono ?_
  rintro e w' ⟨rfl, rfl⟩
  obtain ⟨z, hz⟩ : ∃ z, z = decide (nz ≤ x) := ⟨_, rfl⟩
  rw [← hz]
  have HZ := Lib.hid hz
  clear hz
  go_upto_if 13 with fail
  go_cut [0, 3, 13] from 7 to 15 (fun s0 s3 s13 wx => s0 = .float .f64 r ∧ s3 = .string S ∧ w = wx)
  case first =>
    cases z
    · have hz := of_decide_eq_false HZ.out.symm
      have hrx := hlow.out hz
      subst hrx
      have hS : S = ⟨#[]⟩ := by rw [HS.out]; unfold sgB; rw [if_neg hz]
      go_wp2_with fail
      go_meet
      exact ⟨rfl, by rw [hS], rfl⟩
    · have hz := of_decide_eq_true HZ.out.symm
      have hng : Op.negFloat .f64 x = r := by rcases HN.out with h | h; exact h; exact absurd hz h
      have hS : S = ⟨#[45]⟩ := by rw [HS.out]; unfold sgB; rw [if_pos hz]
      have hneg : ∀ W : World, (Op.unary .neg (.float .f64 x)).run Tryd.prog W = .ok (.float .f64 r) W := fun W => by rw [← hng]; rfl
      clear hng
      go_wp2_with fail
      go_meet
      exact ⟨rfl, by rw [hS], rfl⟩
  case rest =>
  obtain ⟨rfl, rfl, rfl⟩ := hcut
  clear o1
  go_wp2_with fail
  refine (isinf1_any r _ (by have := HX.out.2.2.1; have := inf_lt_nz; omega)).mono ?_
  rintro e w' ⟨rfl, rfl⟩
  rw [HINF.out]
  go_wp2_with fail
  refine (Frexp_any r _ HX.out.2.1 HX.out.2.2.1).mono ?_
  rintro e w' ⟨r2, s, hn, rfl, rfl⟩
  have hlt := hn.2.1
  rw [inf_val] at hlt
  have hge := hn.1
  have hs : s = 0 ∨ s = 52 := by rcases hn.2.2.2 with ⟨h, _⟩ | ⟨h, _⟩ <;> omega
  obtain ⟨q, hq⟩ : ∃ q, q = r2 / 4503599627370496 := ⟨_, rfl⟩
  obtain ⟨M, hM⟩ : ∃ M, M = 4503599627370496 + r2 % 4503599627370496 := ⟨_, rfl⟩
  have hM1 : 4503599627370496 ≤ M := by omega
  have hM2 : M < 9007199254740992 := by omega
  have hq2 : q ≤ 2046 := by omega
  have hq1 : 1 ≤ q := by omega
  have hV2 : V r2 = M * 2 ^ (q - 1) := by rw [V_normal hge, hM, hq]
  obtain ⟨n, k, hodd, hnk, hk52, hn0, hn53⟩ := odd_pow (show 0 < M by omega) hM2
  have hFe : 1022 * 4503599627370496 + r2 % 4503599627370496 = 1022 * 4503599627370496 + (M - 4503599627370496) := by omega
  rw [hFe, ← hq]
  obtain ⟨F, hF⟩ : ∃ F, F = 1022 * 4503599627370496 + (M - 4503599627370496) := ⟨_, rfl⟩
  obtain ⟨T, hT⟩ : ∃ T, T = 1075 * 4503599627370496 + (M - 4503599627370496) := ⟨_, rfl⟩
  have hm := mul_frac M hM1 hM2
  have hcv := conv_T M hM1 hM2
  rw [← hF]
  rw [← hF, ← hT] at hm
  rw [← hT] at hcv
  have hmul := fun (TT : TypeId) (W : World) => run_float_arith (P := Tryd.prog) W .mul TT .f64 F 4845873199050653696 T hm
  have hci := fun (W : World) => run_convert_float_int (P := Tryd.prog) (w := W) 26 56 .f64 .u64 T (M : Int) (by rw [Tryd.underlying26]; rfl) Tryd.underlying56 hcv
  obtain ⟨E, hE⟩ : ∃ E : Int, E = (q : Int) - 1022 - (s : Int) := ⟨_, rfl⟩
  have hE1 : -1100 ≤ E := by omega
  have hE2 : E ≤ 1100 := by omega
  have HOD : Hid (OddOf r n (E - 53 + k)) := Lib.hid ⟨hodd, s, k + (q - 1), by
    rw [← hn.2.2.1, hV2, ← hnk, Nat.mul_assoc, ← Nat.pow_add], by omega⟩
  have HNK := Lib.hid (And.intro hnk (And.intro hodd (And.intro hk52 (And.intro hn0 hn53))))
  rw [← hE]
  clear hn hlt hge hs hq hM hV2 hFe hF hT hm hcv hE hq1 hq2 hodd hnk hn0 hn53
  go_wp2_with fail
  go_loopg [5, 6] k (fun g s5 s6 wr => ∃ j : Nat, s5 = .int .i64 (E - 53 + j) ∧ s6 = .int .u64 ((n * 2 ^ (k - j) : Nat) : Int) ∧ g = k - j ∧ j ≤ k ∧ w = wr)
  case atStart => exact ⟨0, by rw [Int.ofNat_zero, Int.add_zero], by rw [Nat.sub_zero, HNK.out.1], rfl, Nat.zero_le _, rfl⟩
  case round =>
    obtain ⟨j, rfl, rfl, hg, hj, rfl⟩ := hrel
    have hj52 : j ≤ 52 := Nat.le_trans hj HNK.out.2.2.1
    by_cases hlt : j < k
    · obtain ⟨y, hy⟩ : ∃ y, y = n * 2 ^ (k - (j + 1)) := ⟨_, rfl⟩
      have hyx : n * 2 ^ (k - j) = 2 * y := by
        rw [hy, show k - j = (k - (j + 1)) + 1 by omega, Nat.pow_succ, ← Nat.mul_assoc, Nat.mul_comm]
      have hyb : 2 * y < 18446744073709551616 := by
        rw [← hyx]
        have h1 : n * 2 ^ (k - j) ≤ n * 2 ^ k := Nat.mul_le_mul_left _ (Nat.pow_le_pow_right (by decide) (by omega))
        rw [HNK.out.1] at h1
        omega
      have ha := and_even y hyb
      rw [hyx]
      obtain ⟨z2, hz2⟩ : ∃ z : Int, z = ((2 * y : Nat) : Int) := ⟨_, rfl⟩
      rw [← hz2] at ha ⊢
      have hz3 : z2 / 2 = (y : Int) := by omega
      have HY := Lib.hid hy
      have HK := Lib.hid (And.intro hg hlt)
      clear hy hyx hz2 hyb hlt hg hj
      go_wp2_with fail
      go_roundg (k - (j + 1))
      case measure => have := HK.out; omega
      case rel => exact ⟨j + 1, by go_num, by rw [← HY.out], rfl, by have := HK.out; omega, rfl⟩
    · obtain rfl : j = k := by omega
      have hb : bits .and .u64 (n : Int) 1 = 1 := by
        rw [and_one n (by have := HNK.out.2.2.2.2; omega), HNK.out.2.1]; rfl
      have hn53 := HNK.out.2.2.2.2
      rw [show ((n * 2 ^ (j - j) : Nat) : Int) = (n : Int) by simp]
      have sS : S.size ≤ 1 := by rw [HS.out]; exact sgB_size x
      have sD : (dB n).size ≤ 20 := dB_size n (by omega)
      have sI : (iB (E - 53 + j)).size ≤ 21 := iB_size _ (by omega) (by omega)
      have sP : pB.size = 1 := rfl
      have hq1 : S.size + (dB n).size ≤ 9223372036854775807 := by omega
      have hq2 : S.size + (dB n).size + 1 ≤ 9223372036854775807 := by omega
      have hq3 : S.size + (dB n).size + 1 + (iB (E - 53 + j)).size ≤ 9223372036854775807 := by omega
      clear hlt hg
      go_wp2_with fail
      refine (fmtuint_any n (by omega) _ HT.out).mono ?_
      rintro e w1 ⟨rfl, hb⟩
      rw [show (⟨(Lib.decDigits n).toArray⟩ : ByteArray) = dB n from rfl]
      have HB := Lib.hid hb
      clear hb
      go_wp2_with fail
      refine (itoa_b (E - 53 + j) (by omega) (by omega) _ (pow10_stays HT.out HB.out)).mono ?_
      rintro e w2 ⟨rfl, hb⟩
      rw [show (⟨(Lib.itoa (E - 53 + j)).toArray⟩ : ByteArray) = iB (E - 53 + j) from rfl]
      have HB2 := Lib.hid (HB.out.trans (hb.mono HB.out.size))
      clear hb
      go_wp2_with fail
      go_ret
      exact ⟨n, _, HX.out.2.2.2 ▸ HOD.out, ⟨HNK.out.2.2.2.1, HNK.out.2.2.2.2, by omega, by omega⟩, by unfold textB; rw [← HS.out]; rfl, HB2.out⟩
end Go.Proofs.YthfgjibhpenfkaaDoor
