/- Real: Ldexp of an odd number by its power: the walk. -/
import Derived.Test.YthfgjibhpenfkaaDoorNg
namespace Go.Proofs.YthfgjibhpenfkaaDoor
open Go.RowKit Fl

set_option maxRecDepth 100000 in
set_option maxHeartbeats 1000000 in
theorem ldexp_x (r n : Nat) (ex : Int) (w : World) (h : OddOf r n ex) (h0 : 0 < r) (hr : r < inf) (hn0 : 0 < n) (hn : n < 9007199254740992) (he1 : -1200 ≤ ex) (he2 : ex ≤ 1200) :
    Calls Tryd.prog 57 #[.float .f64 (i2r n), .int .i64 ex] w fun e w' => e = .returned (.float .f64 r) ∧ w = w' := by
  have hiv := inf_val
  obtain ⟨hL, hM1, hM2⟩ := log_norm hn0 hn
  obtain ⟨hw, hti, _⟩ := i2r_word hn0 hn
  have hp := ldexp_plain h h0 hr hn0 hn
  generalize hM : n * 2 ^ (52 - n.log2) = M at hM1 hM2 hw hp
  generalize hl : n.log2 = L at hL hw hp
  generalize ht : i2r n = t at hw hti
  obtain ⟨f, hf⟩ : ∃ f, f = M - 4503599627370496 := ⟨_, rfl⟩
  rw [← hf] at hw hp
  have hf2 : f < 4503599627370496 := by omega
  have htd : t / 4503599627370496 = 1023 + L := by omega
  have htm : t % 4503599627370496 = f := by omega
  have ht0 : 0 < t := by omega
  have hnz : t % nz = t := Nat.mod_eq_of_lt (by have := inf_lt_nz; omega)
  have o1 : (FloatKind.f64.format.order t 0 == some .eq) = false := by
    show (Ieee.double.order t 0 == some .eq) = false
    rw [order_small t 0 hti (by decide), Nat.compare_eq_gt.2 ht0]
    rfl
  have i1 : decide (t % nz = inf) = false := by rw [hnz]; simp; omega
  have i2 : (!decide (t % nz ≤ inf)) = false := by rw [hnz]; simp; omega
  have H1 := Lib.hid (And.intro i1 i2)
  have HT : Hid (t < 18446744073709551616) := Lib.hid (by omega)
  have HT0 := Lib.hid (And.intro ht0 hti)
  have htn : Hid (∀ r2 s, NormOf t r2 s → r2 = t ∧ s = 0) := Lib.hid (by
    intro r2 s hh
    rcases hh.2.2.2 with ⟨a, b⟩ | ⟨_, b⟩
    · exact ⟨b, a⟩
    · omega)
  obtain ⟨B, hB⟩ : ∃ B, B = 1023 + L := ⟨_, rfl⟩
  have hB1 : 1023 ≤ B := by omega
  have hB2 : B ≤ 1075 := by omega
  have hsh : (t : Int) / 4503599627370496 = (B : Int) := by omega
  have a3 := and_low_i B (by omega)
  have a1 := andNot_frac t (by omega)
  rw [htm] at a1
  have hb := f64bits t
  clear i1 i2 h hn0 hn hM hl ht hw hti htd htm ht0 hnz
  rcases hp with ⟨K, hK1, hK2, hre, hKe⟩ | ⟨hs, D, hD1, hD2, hDe, hDx⟩
  · have hm := mul_one_r h0 hr
    have hmul := fun (T : TypeId) (W : World) => run_float_arith (P := Tryd.prog) W .mul T .f64 4607182418800017408 r r hm
    have a2 := or_frac f K hf2 (by omega)
    rw [← hre, Int.natCast_mul] at a2
    have a2' : bits .or .u64 (f : Int) ((K : Int) * 4503599627370496) = (r : Int) := a2
    have hfb := f64frombits r
    have c1 : decide (ex + ((B : Int) - 1023) < -1075) = false := by simp; omega
    have c2 : decide ((1023 : Int) < ex + ((B : Int) - 1023)) = false := by simp; omega
    have c3 : decide (ex + ((B : Int) - 1023) < -1022) = false := by simp; omega
    have c4 : ex + ((B : Int) - 1023) + 1023 = (K : Int) := by omega
    clear hre hm h0 hr hf hM1 hM2 hB hL hiv hKe a2
    go_enter Tryd.func57, Tryd.ntmps57
    go_wp2_with fail
    refine (isinf_any t _ HT.out).mono ?_
    rintro e w' ⟨rfl, rfl⟩
    rw [H1.out.1]
    go_wp2_with fail
    refine (isnan_any t _).mono ?_
    rintro e w' ⟨rfl, rfl⟩
    rw [H1.out.2]
    go_wp2_with fail
    refine (normalize_any t _ HT0.out.1 HT0.out.2).mono ?_
    rintro e w' ⟨r2, s, hno, rfl, rfl⟩
    obtain ⟨rfl, rfl⟩ := htn.out r2 s hno
    clear hno
    go_wp2
    go_ret
    exact ⟨rfl, rfl⟩
  · have hm := mul_m53 h0 hr hM1 hM2 hD1 hD2 hs hDe
    rw [← hf] at hm
    obtain ⟨K, hK⟩ : ∃ K, K = 54 - D := ⟨_, rfl⟩
    obtain ⟨F, hF⟩ : ∃ F, F = K * 4503599627370496 + f := ⟨_, rfl⟩
    rw [← hK, ← hF] at hm
    have hmul := fun (T : TypeId) (W : World) => run_float_arith (P := Tryd.prog) W .mul T .f64 4368491638549381120 F r hm
    have a2 := or_frac f K hf2 (by omega)
    rw [← hF, Int.natCast_mul] at a2
    have a2' : bits .or .u64 (f : Int) ((K : Int) * 4503599627370496) = (F : Int) := a2
    have hfb := f64frombits F
    have c1 : decide (ex + ((B : Int) - 1023) < -1075) = false := by simp; omega
    have c2 : decide ((1023 : Int) < ex + ((B : Int) - 1023)) = false := by simp; omega
    have c3 : decide (ex + ((B : Int) - 1023) < -1022) = true := by simp; omega
    have c4 : ex + ((B : Int) - 1023) + 53 + 1023 = (K : Int) := by omega
    have hKl : K ≤ 53 := by omega
    clear hm h0 hr hf hM1 hM2 hB hL hiv hDx a2 hK hF hDe hs hD1 hD2
    go_enter Tryd.func57, Tryd.ntmps57
    go_wp2_with fail
    refine (isinf_any t _ HT.out).mono ?_
    rintro e w' ⟨rfl, rfl⟩
    rw [H1.out.1]
    go_wp2_with fail
    refine (isnan_any t _).mono ?_
    rintro e w' ⟨rfl, rfl⟩
    rw [H1.out.2]
    go_wp2_with fail
    refine (normalize_any t _ HT0.out.1 HT0.out.2).mono ?_
    rintro e w' ⟨r2, s, hno, rfl, rfl⟩
    obtain ⟨rfl, rfl⟩ := htn.out r2 s hno
    clear hno
    go_wp2
    go_ret
    exact ⟨rfl, rfl⟩
theorem Ldexp_x (r n : Nat) (ex : Int) (w : World) (h : OddOf r n ex) (h0 : 0 < r) (hr : r < inf) (hn0 : 0 < n) (hn : n < 9007199254740992) (he1 : -1200 ≤ ex) (he2 : ex ≤ 1200) :
    Calls Tryd.prog 38 #[.float .f64 (i2r n), .int .i64 ex] w fun e w' => e = .returned (.float .f64 r) ∧ w = w' := by
  have H := Lib.hid (ldexp_x r n ex w h h0 hr hn0 hn he1 he2)
  clear h h0 hr hn0 hn
  go_enter Tryd.func38, Tryd.ntmps38
  go_wp2_with fail
  refine H.out.mono ?_
  rintro e w' ⟨rfl, rfl⟩
  go_wp2_with fail
  go_ret
  exact ⟨rfl, rfl⟩
end Go.Proofs.YthfgjibhpenfkaaDoor
