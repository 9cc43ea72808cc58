/- Real: Copysign; Ldexp of any whole number by any power gives some float. -/
import Derived.Test.YthfgjibhpenfkaaDoorNk
namespace Go.Proofs.YthfgjibhpenfkaaDoor
open Go.RowKit Fl

theorem and_sign_low (y : Nat) (h : y < 9223372036854775808) : bits .and .u64 (y : Int) 9223372036854775808 = 0 := by
  rw [show (9223372036854775808 : Int) = ((9223372036854775808 : Nat) : Int) from rfl, bits_and_u64_nat _ _ (by omega) (by decide)]
  have h2 : y.testBit 63 = false := Nat.testBit_lt_two_pow h
  have h3 : y &&& 9223372036854775808 = 0 := by
    apply Nat.eq_of_testBit_eq
    intro i
    rw [Nat.testBit_and, show (9223372036854775808 : Nat) = 2 ^ 63 from rfl, Nat.testBit_two_pow, Nat.zero_testBit]
    by_cases e : 63 = i
    · subst e; simp [h2]
    · simp [e]
  rw [h3]; rfl
set_option maxRecDepth 100000 in
theorem copysign_low (x y : Nat) (w : World) (hx : x < 18446744073709551616) (hy : y < 9223372036854775808) :
    Calls Tryd.prog 46 #[.float .f64 x, .float .f64 y] w fun e w' => e = .returned (.float .f64 (x % nz)) ∧ w = w' := by
  have hb1 := f64bits x
  have hb2 := f64bits y
  have a1 := andNot_sign x hx
  have a2 := and_sign_low y hy
  obtain ⟨r, hr⟩ : ∃ r, r = x % nz := ⟨_, rfl⟩
  have hr63 : r < 9223372036854775808 := by rw [hr, nz_val]; exact Nat.mod_lt _ (by decide)
  rw [← hr] at a1 ⊢
  have hf := f64frombits r
  have a3 : bits .or .u64 (r : Int) 0 = (r : Int) := by
    rw [show (0 : Int) = ((0 : Nat) : Int) from rfl, bits_or_u64_nat _ _ (by omega) (by decide), Nat.or_zero]
  obtain ⟨RI, hRI⟩ : ∃ v : Int, v = (r : Int) := ⟨_, rfl⟩
  obtain ⟨XI, hXI⟩ : ∃ v : Int, v = (x : Int) := ⟨_, rfl⟩
  obtain ⟨YI, hYI⟩ : ∃ v : Int, v = (y : Int) := ⟨_, rfl⟩
  rw [← hRI] at a1 a3 hf
  rw [← hXI] at a1 hb1
  rw [← hYI] at a2 hb2
  clear hr hr63 hx hy hRI hXI hYI
  go_enter Tryd.func46, Tryd.ntmps46
  go_wp2_with fail
  go_ret
  exact ⟨rfl, rfl⟩
set_option maxRecDepth 100000 in
theorem copysign_neg (x : Nat) (w : World) (hx : x < 18446744073709551616) :
    Calls Tryd.prog 46 #[.float .f64 x, .float .f64 13830554455654793216] w fun e w' => e = .returned (.float .f64 (x % nz + nz)) ∧ w = w' := by
  have hb1 := f64bits x
  have hb2 := f64bits 13830554455654793216
  have a1 := andNot_sign x hx
  have a2 : bits .and .u64 ((13830554455654793216 : Nat) : Int) 9223372036854775808 = 9223372036854775808 := by decide +kernel
  obtain ⟨r, hr⟩ : ∃ r, r = x % nz := ⟨_, rfl⟩
  have hr63 : r < 9223372036854775808 := by rw [hr, nz_val]; exact Nat.mod_lt _ (by decide)
  rw [← hr] at a1 ⊢
  rw [nz_val]
  obtain ⟨s, hs⟩ : ∃ s, s = r + 9223372036854775808 := ⟨_, rfl⟩
  rw [← hs]
  have hf := f64frombits s
  have a3 : bits .or .u64 (r : Int) 9223372036854775808 = (s : Int) := by
    rw [show (9223372036854775808 : Int) = ((9223372036854775808 : Nat) : Int) from rfl, bits_or_u64_nat _ _ (by omega) (by decide), or_top r hr63, hs]
  obtain ⟨RI, hRI⟩ : ∃ v : Int, v = (r : Int) := ⟨_, rfl⟩
  obtain ⟨XI, hXI⟩ : ∃ v : Int, v = (x : Int) := ⟨_, rfl⟩
  obtain ⟨SI, hSI⟩ : ∃ v : Int, v = (s : Int) := ⟨_, rfl⟩
  obtain ⟨NI, hNI⟩ : ∃ v : Int, v = ((13830554455654793216 : Nat) : Int) := ⟨_, rfl⟩
  rw [← hRI] at a1 a3
  rw [← hXI] at a1 hb1
  rw [← hSI] at a3 hf
  rw [← hNI] at a2 hb2
  clear hr hr63 hx hRI hXI hSI hNI hs
  go_enter Tryd.func46, Tryd.ntmps46
  go_wp2_with fail
  go_ret
  exact ⟨rfl, rfl⟩
set_option maxRecDepth 100000 in
set_option maxHeartbeats 4000000 in
theorem ldexp_some (n : Nat) (ex : Int) (w : World) (hn : n < 9007199254740992) (he1 : -200000 ≤ ex) (he2 : ex ≤ 200000) :
    Calls Tryd.prog 57 #[.float .f64 (i2r n), .int .i64 ex] w fun e w' => ∃ v, v < 18446744073709551616 ∧ e = .returned (.float .f64 v) ∧ w = w' := by
  rcases Nat.eq_zero_or_pos n with rfl | hn0
  · have o1 : (FloatKind.f64.format.order (i2r 0) 0 == some .eq) = true := by decide +kernel
    have hi : i2r 0 < 18446744073709551616 := by decide +kernel
    obtain ⟨t, ht⟩ : ∃ t, t = i2r 0 := ⟨_, rfl⟩
    rw [← ht] at o1 hi ⊢
    have HI := Lib.hid hi
    clear ht hi
    go_enter Tryd.func57, Tryd.ntmps57
    go_wp2_with fail
    go_ret
    exact ⟨t, HI.out, rfl, rfl⟩
  have hiv := inf_val
  obtain ⟨hL, hM1, hM2⟩ := log_norm hn0 hn
  obtain ⟨hw, hti, _⟩ := i2r_word hn0 hn
  generalize hM : n * 2 ^ (52 - n.log2) = M at hM1 hM2 hw
  generalize hl : n.log2 = L at hL hw
  generalize ht : i2r n = t at hw hti
  obtain ⟨f, hf⟩ : ∃ f, f = M - 4503599627370496 := ⟨_, rfl⟩
  rw [← hf] at hw
  have hf2 : f < 4503599627370496 := by omega
  have htd : t / 4503599627370496 = 1023 + L := by omega
  have htm : t % 4503599627370496 = f := by omega
  have ht0 : 0 < t := by omega
  have hnz : t % nz = t := Nat.mod_eq_of_lt (by have := inf_lt_nz; omega)
  have o1 : (FloatKind.f64.format.order t 0 == some .eq) = false := by
    show (Ieee.double.order t 0 == some .eq) = false
    rw [order_small t 0 hti (by decide), Nat.compare_eq_gt.2 ht0]
    rfl
  have o2 : (FloatKind.f64.format.order t 0 == some .lt) = false := by
    show (Ieee.double.order t 0 == some .lt) = false
    rw [order_small t 0 hti (by decide), Nat.compare_eq_gt.2 ht0]
    rfl
  have i1 : decide (t % nz = inf) = false := by rw [hnz]; simp; omega
  have i2 : (!decide (t % nz ≤ inf)) = false := by rw [hnz]; simp; omega
  have H1 := Lib.hid (And.intro i1 i2)
  have HT : Hid (t < 18446744073709551616 ∧ t < 9223372036854775808) := Lib.hid (by omega)
  have HT0 := Lib.hid (And.intro ht0 hti)
  have htn : Hid (∀ r2 s, NormOf t r2 s → r2 = t ∧ s = 0) := Lib.hid (by
    intro r2 s hh
    rcases hh.2.2.2 with ⟨a, b⟩ | ⟨_, b⟩
    · exact ⟨b, a⟩
    · omega)
  obtain ⟨B, hB⟩ : ∃ B, B = 1023 + L := ⟨_, rfl⟩
  have hB1 : 1023 ≤ B := by omega
  have hB2 : B ≤ 1075 := by omega
  have hsh : (t : Int) / 4503599627370496 = (B : Int) := by omega
  have a3 := and_low_i B (by omega)
  have a1 := andNot_frac t (by omega)
  rw [htm] at a1
  have hb := f64bits t
  clear i1 i2 hn0 hn hM hl ht hw hti htd htm ht0 hnz hM1 hM2 hB hL hiv hf
  have arms : ex + ((B : Int) - 1023) < -1075 ∨ 1023 < ex + ((B : Int) - 1023) ∨ (∃ K : Nat, 1 ≤ K ∧ K ≤ 2046 ∧ ex + ((B : Int) - 1023) + 1023 = (K : Int)) ∨ (∃ K : Nat, 1 ≤ K ∧ K ≤ 53 ∧ ex + ((B : Int) - 1023) + 53 + 1023 = (K : Int)) := by
    by_cases h1 : ex + ((B : Int) - 1023) < -1075
    · exact .inl h1
    by_cases h2 : 1023 < ex + ((B : Int) - 1023)
    · exact .inr (.inl h2)
    by_cases h3 : ex + ((B : Int) - 1023) < -1022
    · exact .inr (.inr (.inr ⟨(ex + ((B : Int) - 1023) + 53 + 1023).toNat, by omega, by omega, by omega⟩))
    · exact .inr (.inr (.inl ⟨(ex + ((B : Int) - 1023) + 1023).toNat, by omega, by omega, by omega⟩))
  have HF := Lib.hid hf2
  rcases arms with h | h | ⟨K, hK1, hK2, c4⟩ | ⟨K, hK1, hK2, c4⟩
  · have c1 : decide (ex + ((B : Int) - 1023) < -1075) = true := by simp; omega
    clear h hf2
    go_enter Tryd.func57, Tryd.ntmps57
    go_wp2_with fail
    refine (isinf_any t _ HT.out.1).mono ?_
    rintro e w' ⟨rfl, rfl⟩
    rw [H1.out.1]
    go_wp2_with fail
    refine (isnan_any t _).mono ?_
    rintro e w' ⟨rfl, rfl⟩
    rw [H1.out.2]
    go_wp2_with fail
    refine (normalize_any t _ HT0.out.1 HT0.out.2).mono ?_
    rintro e w' ⟨r2, s, hno, rfl, rfl⟩
    obtain ⟨hr2, rfl⟩ := htn.out r2 s hno
    rw [hr2]
    clear hno hr2
    go_wp2_with fail
    refine (copysign_low 0 t _ (by decide) HT.out.2).mono ?_
    rintro e w' ⟨rfl, rfl⟩
    go_wp2_with fail
    go_ret
    exact ⟨_, by decide, rfl, rfl⟩
  · have c1 : decide (ex + ((B : Int) - 1023) < -1075) = false := by simp; omega
    have c2 : decide ((1023 : Int) < ex + ((B : Int) - 1023)) = true := by simp; omega
    clear h hf2
    go_enter Tryd.func57, Tryd.ntmps57
    go_wp2_with fail
    refine (isinf_any t _ HT.out.1).mono ?_
    rintro e w' ⟨rfl, rfl⟩
    rw [H1.out.1]
    go_wp2_with fail
    refine (isnan_any t _).mono ?_
    rintro e w' ⟨rfl, rfl⟩
    rw [H1.out.2]
    go_wp2_with fail
    refine (normalize_any t _ HT0.out.1 HT0.out.2).mono ?_
    rintro e w' ⟨r2, s, hno, rfl, rfl⟩
    obtain ⟨hr2, rfl⟩ := htn.out r2 s hno
    rw [hr2]
    clear hno hr2
    go_wp2_with fail
    refine (math_inf _).mono ?_
    rintro e w' ⟨rfl, rfl⟩
    go_wp2_with fail
    go_ret
    exact ⟨_, by decide, rfl, rfl⟩
  · have c1 : decide (ex + ((B : Int) - 1023) < -1075) = false := by simp; omega
    have c2 : decide ((1023 : Int) < ex + ((B : Int) - 1023)) = false := by simp; omega
    have c3 : decide (ex + ((B : Int) - 1023) < -1022) = false := by simp; omega
    obtain ⟨r, hr⟩ : ∃ r, r = K * 4503599627370496 + f := ⟨_, rfl⟩
    have hrI : r < inf := by have := inf_val; omega
    have hm := mul_one_r (show 0 < r by omega) hrI
    have hmul := fun (T : TypeId) (W : World) => run_float_arith (P := Tryd.prog) W .mul T .f64 4607182418800017408 r r hm
    have a2 := or_frac f K hf2 (by omega)
    rw [← hr, Int.natCast_mul] at a2
    have a2' : bits .or .u64 (f : Int) ((K : Int) * 4503599627370496) = (r : Int) := a2
    have hfb := f64frombits r
    have HR : Hid (r < 18446744073709551616) := Lib.hid (by have := inf_val; omega)
    clear hf2 hr hrI hm a2
    go_enter Tryd.func57, Tryd.ntmps57
    go_wp2_with fail
    refine (isinf_any t _ HT.out.1).mono ?_
    rintro e w' ⟨rfl, rfl⟩
    rw [H1.out.1]
    go_wp2_with fail
    refine (isnan_any t _).mono ?_
    rintro e w' ⟨rfl, rfl⟩
    rw [H1.out.2]
    go_wp2_with fail
    refine (normalize_any t _ HT0.out.1 HT0.out.2).mono ?_
    rintro e w' ⟨r2, s, hno, rfl, rfl⟩
    obtain ⟨hr2, rfl⟩ := htn.out r2 s hno
    rw [hr2]
    clear hno hr2
    go_wp2
    go_ret
    exact ⟨_, HR.out, rfl, rfl⟩
  · have c1 : decide (ex + ((B : Int) - 1023) < -1075) = false := by simp; omega
    have c2 : decide ((1023 : Int) < ex + ((B : Int) - 1023)) = false := by simp; omega
    have c3 : decide (ex + ((B : Int) - 1023) < -1022) = true := by simp; omega
    obtain ⟨F, hF⟩ : ∃ F, F = K * 4503599627370496 + f := ⟨_, rfl⟩
    have hFI : F < inf := by have := inf_val; omega
    have hm := mul_small 4368491638549381120 F (by decide) hFI
    have hle := fmul_le 4368491638549381120 F
    obtain ⟨r, hr⟩ : ∃ r, r = fmul 4368491638549381120 F := ⟨_, rfl⟩
    rw [← hr] at hm hle
    have hmul := fun (T : TypeId) (W : World) => run_float_arith (P := Tryd.prog) W .mul T .f64 4368491638549381120 F r hm
    have a2 := or_frac f K hf2 (by omega)
    rw [← hF, Int.natCast_mul] at a2
    have a2' : bits .or .u64 (f : Int) ((K : Int) * 4503599627370496) = (F : Int) := a2
    have hfb := f64frombits F
    have HR : Hid (r < 18446744073709551616) := Lib.hid (by have := inf_val; omega)
    clear hf2 hF hFI hm hle hr a2
    go_enter Tryd.func57, Tryd.ntmps57
    go_wp2_with fail
    refine (isinf_any t _ HT.out.1).mono ?_
    rintro e w' ⟨rfl, rfl⟩
    rw [H1.out.1]
    go_wp2_with fail
    refine (isnan_any t _).mono ?_
    rintro e w' ⟨rfl, rfl⟩
    rw [H1.out.2]
    go_wp2_with fail
    refine (normalize_any t _ HT0.out.1 HT0.out.2).mono ?_
    rintro e w' ⟨r2, s, hno, rfl, rfl⟩
    obtain ⟨hr2, rfl⟩ := htn.out r2 s hno
    rw [hr2]
    clear hno hr2
    go_wp2
    go_ret
    exact ⟨_, HR.out, rfl, rfl⟩
theorem Ldexp_some (n : Nat) (ex : Int) (w : World) (hn : n < 9007199254740992) (he1 : -200000 ≤ ex) (he2 : ex ≤ 200000) :
    Calls Tryd.prog 38 #[.float .f64 (i2r n), .int .i64 ex] w fun e w' => ∃ v, v < 18446744073709551616 ∧ e = .returned (.float .f64 v) ∧ w = w' := by
  have H := Lib.hid (ldexp_some n ex w hn he1 he2)
  clear hn he1 he2
  go_enter Tryd.func38, Tryd.ntmps38
  go_wp2_with fail
  refine H.out.mono ?_
  rintro e w' ⟨v, hv, rfl, rfl⟩
  have HV := Lib.hid hv
  clear hv
  go_wp2_with fail
  go_ret
  exact ⟨v, HV.out, rfl, rfl⟩
end Go.Proofs.YthfgjibhpenfkaaDoor
