/- Real: the document's text of any float. -/
import Derived.Test.YthfgjibhpenfkaaDoorOc
namespace Go.Proofs.YthfgjibhpenfkaaDoor
open Go.RowKit Fl

theorem nan_wordR (t : Nat) : inf < ((t % 2) * 2 ^ 63 + 0x7ff0000000000000 + 1 + (t / 2) % (2 ^ 52 - 1)) % nz ∧ ((t % 2) * 2 ^ 63 + 0x7ff0000000000000 + 1 + (t / 2) % (2 ^ 52 - 1)) < 18446744073709551616 := by
  have h1 := Nat.mod_lt (t / 2) (show 0 < 2 ^ 52 - 1 by decide)
  have h2 := Nat.mod_lt t (show 0 < 2 by decide)
  have hz := nz_val
  have hi := inf_val
  rw [hz, hi]
  generalize t / 2 % (2 ^ 52 - 1) = a at h1 ⊢
  generalize t % 2 = b at h2 ⊢
  have : (2 : Nat) ^ 63 = 9223372036854775808 := rfl
  have : (2 : Nat) ^ 52 = 4503599627370496 := rfl
  omega
/-- the word a NaN is drawn as -/
def nanW (x y : Nat) (W : World) : Nat := (Question.nanBits .f64 x y).cut (W.tape W.drawn (.nanBits .f64 x y))
theorem nanW_nan (x y : Nat) (W : World) : inf < nanW x y W % nz ∧ nanW x y W < 18446744073709551616 := nan_wordR _
theorem run_sub_nan (T : TypeId) (x y : Nat) (W : World) (h : Ieee.double.sub x y = none) : (binOp .sub T (.float .f64 x) (.float .f64 y)).run Tryd.prog W = .ok (.float .f64 (nanW x y W)) (W.drewN 1) := by
  have h' : FloatKind.f64.format.sub x y = none := h
  simp [binOp, Op.floatArith, h', Question.forced, nanW]
  rfl
/-- the sign of the document's text -/
theorem sgB_top (x : Nat) (h : nz ≤ x) : sgB x = ⟨#[45]⟩ := by unfold sgB; rw [if_pos h]
theorem sgB_low (x : Nat) (h : ¬ nz ≤ x) : sgB x = ⟨#[]⟩ := by unfold sgB; rw [if_neg h]
set_option maxRecDepth 100000 in
theorem RefText_nan (x : Nat) (w : World) (hn : inf < x % nz) : Calls Tryd.prog 23 #[.float .f64 x] w fun e w' => e = .returned (.string ⟨#[110, 97, 110]⟩) ∧ w = w' := by
  have hz : (!decide (x % nz ≤ inf)) = true := by simp; omega
  have HZ := Lib.hid hz
  clear hz hn
  go_enter Tryd.func23, Tryd.ntmps23
  go_wp2_with fail
  refine (nan_any x _).mono ?_
  rintro e w' ⟨rfl, rfl⟩
  rw [HZ.out]
  go_wp2_with fail
  refine (nan_any x _).mono ?_
  rintro e w' ⟨rfl, rfl⟩
  rw [HZ.out]
  go_wp2_with fail
  go_ret
  exact ⟨rfl, rfl⟩
set_option maxRecDepth 100000 in
set_option maxHeartbeats 1000000 in
theorem RefText_some (x : Nat) (w : World) (hx : x < 18446744073709551616) (ht : Pow10 w) (hn : x % nz ≤ inf) :
    Calls Tryd.prog 23 #[.float .f64 x] w fun e w' => ∃ s, TextIs x s ∧ e = .returned (.string s) ∧ Below w.heap.size w w' := by
  have hiv := inf_val
  have hnv := nz_val
  have hz : (!decide (x % nz ≤ inf)) = false := by simp [hn]
  have HX := Lib.hid (And.intro hx (And.intro hn hz))
  have HT := Lib.hid ht
  obtain ⟨XI, hXI⟩ : ∃ v : Int, v = (x : Int) := ⟨_, rfl⟩
  have hb := f64bits x
  rw [← hXI] at hb
  obtain ⟨S, hS⟩ : ∃ S, S = sgB x := ⟨_, rfl⟩
  have HS := Lib.hid hS
  have hdec : decide (9223372036854775808 ≤ XI) = decide (nz ≤ x) := by rw [hnv]; congr 1; apply propext; omega
  obtain ⟨z, hzz⟩ : ∃ z, z = decide (nz ≤ x) := ⟨_, rfl⟩
  rw [← hzz] at hdec
  have HZ := Lib.hid hzz
  have hx0 : 0 ≤ XI := by omega
  have hx64 : XI < 18446744073709551616 := by omega
  clear hx hn hz ht hS hzz hXI hiv hnv
  go_enter Tryd.func23, Tryd.ntmps23
  go_wp2_with fail
  refine (nan_any x _).mono ?_
  rintro e w' ⟨rfl, rfl⟩
  rw [HX.out.2.2]
  go_upto_if 13 with fail
  go_cut [3] from 13 to 14 (fun s3 wx => s3 = .string S ∧ w = wx)
  case first =>
    cases z
    · have hS : S = ⟨#[]⟩ := by rw [HS.out]; exact sgB_low x (of_decide_eq_false HZ.out.symm)
      go_wp2_with fail
      go_meet
      exact ⟨by rw [hS], rfl⟩
    · have hS : S = ⟨#[45]⟩ := by rw [HS.out]; exact sgB_top x (of_decide_eq_true HZ.out.symm)
      go_wp2_with fail
      go_meet
      exact ⟨by rw [hS], rfl⟩
  case rest =>
  obtain ⟨rfl, rfl⟩ := hcut
  clear hb hdec hx0 hx64
  go_wp2_with fail
  refine (nan_any x _).mono ?_
  rintro e w' ⟨rfl, rfl⟩
  rw [HX.out.2.2]
  have sS : S.size ≤ 1 := by rw [HS.out]; exact sgB_size x
  have hq : S.size + 3 ≤ 9223372036854775807 := by omega
  have hq1 : S.size + 1 ≤ 9223372036854775807 := by omega
  by_cases hinf : x % nz = inf
  · have hsub : Ieee.double.sub x x = none := by rw [sub_self, if_neg (by unfold finW; simp; omega)]
    have hs := fun T : TypeId => run_sub_nan T x x w hsub
    obtain ⟨hv, hv64⟩ := nanW_nan x x w
    obtain ⟨v, hvv⟩ : ∃ v, v = nanW x x w := ⟨_, rfl⟩
    rw [← hvv] at hv hs hv64
    have o1 : (FloatKind.f64.format.order v 0 != some .eq) = true := by
      show (Ieee.double.order v 0 != some .eq) = true
      rw [order_zero v hv64, if_pos hv]; rfl
    have HI := Lib.hid hinf
    clear hinf hsub hv hvv hv64
    go_wp2_with fail
    go_ret
    exact ⟨_, .inr (.inl ⟨HI.out, by rw [← HS.out]; rfl⟩), rfl, ⟨rfl, rfl, rfl, Nat.le_refl _, fun _ _ => rfl⟩⟩
  · have hfin : x % nz < inf := by have := HX.out.2.1; omega
    have hsub : Ieee.double.sub x x = some 0 := by rw [sub_self, if_pos (by unfold finW; simp; omega)]
    have hs := fun (T : TypeId) (W : World) => run_float_arith (P := Tryd.prog) W .sub T .f64 x x 0 hsub
    have o1 : (FloatKind.f64.format.order 0 0 != some .eq) = false := by decide +kernel
    by_cases h0 : x % nz = 0
    · have o2 : (FloatKind.f64.format.order x 0 == some .eq) = true := by
        show (Ieee.double.order x 0 == some .eq) = true
        rw [order_zero x HX.out.1, if_neg (by omega), if_pos h0]; rfl
      have HI := Lib.hid h0
      clear hinf hsub hfin h0
      go_wp2_with fail
      go_ret
      exact ⟨_, .inr (.inr (.inl ⟨HI.out, by rw [← HS.out]; rfl⟩)), rfl, Below.refl _ _⟩
    · have o2 : (FloatKind.f64.format.order x 0 == some .eq) = false := by
        show (Ieee.double.order x 0 == some .eq) = false
        rw [order_zero x HX.out.1, if_neg (by omega), if_neg h0]
        split <;> rfl
      have HF := Lib.hid (And.intro (show 0 < x % nz by omega) hfin)
      clear hinf hsub hfin h0
      go_wp2_with fail
      refine (parts_any x _ HX.out.1 HF.out.1 HF.out.2).mono ?_
      rintro e w' ⟨n, ex, hf, rfl, rfl⟩
      have HFT := Lib.hid hf
      have hn53 := hf.2.2.1
      have he1 := hf.2.2.2.1
      have he2 := hf.2.2.2.2
      have sD : (dB n).size ≤ 20 := dB_size n (by omega)
      have sI : (iB ex).size ≤ 21 := iB_size _ (by omega) (by omega)
      have hr1 : S.size + (dB n).size ≤ 9223372036854775807 := by omega
      have hr2 : S.size + (dB n).size + 1 ≤ 9223372036854775807 := by omega
      have hr3 : S.size + (dB n).size + 1 + (iB ex).size ≤ 9223372036854775807 := by omega
      clear hf
      go_wp2_with fail
      refine (fmtuint_any n (by omega) _ HT.out).mono ?_
      rintro e w1 ⟨rfl, hb⟩
      rw [show (⟨(Lib.decDigits n).toArray⟩ : ByteArray) = dB n from rfl]
      have HB := Lib.hid hb
      clear hb
      go_wp2_with fail
      refine (itoa_b ex (by omega) (by omega) _ (pow10_stays HT.out HB.out)).mono ?_
      rintro e w2 ⟨rfl, hb⟩
      rw [show (⟨(Lib.itoa ex).toArray⟩ : ByteArray) = iB ex from rfl]
      have HB2 := Lib.hid (HB.out.trans (hb.mono HB.out.size))
      clear hb
      go_wp2_with fail
      go_ret
      exact ⟨_, .inr (.inr (.inr ⟨⟨HF.out.1, HF.out.2⟩, n, ex, HFT.out, by unfold textB; rw [← HS.out]; rfl⟩)), rfl, HB2.out⟩
/-- the document's text is the program's -/
theorem RefText_any (x : Nat) (w : World) (hx : x < 18446744073709551616) (ht : Pow10 w) :
    Calls Tryd.prog 23 #[.float .f64 x] w fun e w' => ∃ s, TextIs x s ∧ e = .returned (.string s) ∧ Below w.heap.size w w' := by
  rcases Nat.lt_or_ge inf (x % nz) with h | h
  · refine (RefText_nan x w h).mono ?_
    rintro e w' ⟨rfl, rfl⟩
    exact ⟨_, .inl ⟨h, rfl⟩, rfl, Below.refl _ _⟩
  · exact RefText_some x w hx ht h
end Go.Proofs.YthfgjibhpenfkaaDoor
