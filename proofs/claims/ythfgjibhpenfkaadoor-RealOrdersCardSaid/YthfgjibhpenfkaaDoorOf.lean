/- Real: Read of what is no float's text. -/
import Derived.Test.YthfgjibhpenfkaaDoorOe
import Derived.Test.YthfgjibhpenfkaaDoorNk
namespace Go.Proofs.YthfgjibhpenfkaaDoor
open Go.RowKit Fl

/-- no float's text -/
def NoText (s : ByteArray) : Prop := ∀ x, x < 18446744073709551616 → ¬ TextIs x s
theorem noText_ne {s : ByteArray} (h : NoText s) : s ≠ nanB ∧ s ≠ infB ∧ s ≠ ⟨#[45, 105, 110, 102]⟩ ∧ s ≠ zeroB ∧ s ≠ ⟨#[45, 48]⟩ := by
  refine ⟨?_, ?_, ?_, ?_, ?_⟩ <;> rintro rfl
  · exact h 9221120237041090561 (by decide) (.inl ⟨by decide, rfl⟩)
  · exact h 9218868437227405312 (by decide) (.inr (.inl ⟨by decide, rfl⟩))
  · exact h 18442240474082181120 (by decide) (.inr (.inl ⟨by decide, rfl⟩))
  · exact h 0 (by decide) (.inr (.inr (.inl ⟨by decide, rfl⟩)))
  · exact h 9223372036854775808 (by decide) (.inr (.inr (.inl ⟨by decide, rfl⟩)))
theorem neg_lt (v : Nat) (h : v < 18446744073709551616) : Op.negFloat .f64 v < 18446744073709551616 := by
  have hz := nz_val
  by_cases h2 : nz ≤ v
  · rw [neg_top v h2 h]; have := Nat.mod_le v nz; omega
  · rw [neg_low v (by omega)]; omega
def lab2 (N : Nat) (l : Nat) (a : Act) : Nat := (if l = 1 then 2 * N + 20 else N + 10) - (rdA a).toNat
set_option maxRecDepth 100000 in
set_option maxHeartbeats 4000000 in
theorem read_none (s : ByteArray) (w : World) (hno : NoText s) (hsz : s.size ≤ 9223372036854775807) (ht : Pow10 w) :
    Calls Tryd.prog 15 #[.string s] w fun e w' => e = .returned (.tuple #[.float .f64 0, .int .i64 130]) ∧ Below w.heap.size w w' := by
  obtain ⟨c1, c2, c3, c4, c5⟩ := noText_ne hno
  have e1 : (s.toList == [110, 97, 110]) = false := by simpa [nanB] using str_eq_false c1
  have e2 : (s.toList == [105, 110, 102]) = false := by simpa [infB] using str_eq_false c2
  have e3 : (s.toList == [45, 105, 110, 102]) = false := by simpa  using str_eq_false c3
  have e4 : (s.toList == [48]) = false := by simpa [zeroB] using str_eq_false c4
  have e5 : (s.toList == [45, 48]) = false := by simpa  using str_eq_false c5
  clear c1 c2 c3 c4 c5
  have HN := Lib.hid hno
  have HT := Lib.hid ht
  clear hno ht
  go_enter Tryd.func15, Tryd.ntmps15
  go_wp2
  refine wp_scope_labels (fun l a w' => w = w' ∧ ((l = 1 ∧ ∃ A m : Nat, A ≤ s.size ∧ m < 1152921504606846976 ∧ a = rdF (rdU a) (.string s) (.float .f64 0) (.int .i64 (A : Int)) (.int .u64 (m : Int)) (.int .i64 0) (.bool false)) ∨
    (l = 2 ∧ ∃ (A m E : Nat) (z : Bool), 1 ≤ A ∧ A ≤ s.size ∧ m < 9007199254740992 ∧ E ≤ 100009 ∧ a = rdF (rdU a) (.string s) (.float .f64 0) (.int .i64 (A : Int)) (.int .u64 (m : Int)) (.int .i64 (E : Int)) (.bool z)))) (fun l a w => lab2 s.size l a) ?_ ?_
  · skip
    go_upto_region 11 with fail
    go_cut [26] from 20 to 26 (fun s26 wx => ∃ b : Bool, s26 = .bool b ∧ (b = true → 0 < s.size) ∧ w = wx)
    case first =>
      by_cases h0 : 0 < s.size
      · have e6 : s.toList.isEmpty = false := by
          cases hh : s.toList with
          | nil => exact absurd hh (by rw [ByteArray.toList_eq]; intro h; have : s.size = 0 := by rw [ByteArray.size, ← Array.length_toList, h]; rfl
                                       omega)
          | cons _ _ => rfl
        obtain ⟨c, hc⟩ : ∃ c, (s[0]'h0).toNat = c := ⟨_, rfl⟩
        obtain ⟨b, hb⟩ : ∃ b : Bool, ((c : Int) == 45) = b := ⟨_, rfl⟩
        have H0 := Lib.hid h0
        go_wp2_with fail
        go_meet
        exact ⟨b, by rw [← hb], fun _ => H0.out, rfl⟩
      · have e6 : s.toList.isEmpty = true := by
          rw [ByteArray.toList_eq, show s.data.toList = [] from List.eq_nil_of_length_eq_zero (by rw [Array.length_toList]; show s.size = 0; omega)]; rfl
        go_wp2_with fail
        go_meet
        exact ⟨false, rfl, fun h => (by cases h), rfl⟩
    case rest =>
    obtain ⟨b, rfl, hb, rfl⟩ := hcut
    have HB0 := Lib.hid hb
    clear hb
    go_upto_if 26 with fail
    go_cut [5, 6] from 20 to 26 (fun s5 s6 wx => ∃ (A m : Nat) (mI : Int), s5 = .int .i64 (A : Int) ∧ s6 = .int .u64 mI ∧ A ≤ s.size ∧ mI = (m : Int) ∧ m = 0 ∧ w = wx)
    case first =>
      cases b
      · go_wp2_with fail
        go_meet
        exact ⟨0, 0, 0, rfl, rfl, Nat.zero_le _, rfl, rfl, rfl⟩
      · go_wp2_with fail
        go_meet
        exact ⟨1, 0, 0, rfl, rfl, HB0.out (by trivial), rfl, rfl, rfl⟩
    case rest =>
    obtain ⟨A, m, mI, rfl, rfl, hAs, hmI, hm0, rfl⟩ := hcut
    have HMI := Lib.hid hmI
    have hm1 : mI < 1152921504606846976 := by omega
    have hm2 : 0 ≤ mI := by omega
    have hm : m < 1152921504606846976 := by omega
    clear hmI hm0
    go_wp2_with fail
    go_step3
    --(
    go_upto_region 13 with fail

    go_cut [46] from 27 to 46 (fun s46 wx => ∃ b : Bool, s46 = .bool b ∧ (b = true → ∃ h : A < s.size, 48 ≤ (s[A]'h).toNat ∧ (s[A]'h).toNat ≤ 57 ∧ m < 72057594037927936) ∧ w = wx)
    case first =>
      by_cases h0 : A < s.size
      · have h1 : (A : Int) < (s.size : Int) := by omega
        obtain ⟨c, hc⟩ : ∃ c, (s[A]'h0).toNat = c := ⟨_, rfl⟩
        have HH := Lib.hid h0
        have HC := Lib.hid hc
        by_cases h2 : 48 ≤ c
        · have h2' : decide ((48 : Int) ≤ (c : Int)) = true := by simp; omega
          by_cases h3 : c ≤ 57
          · have h3' : decide ((c : Int) ≤ 57) = true := by simp; omega
            obtain ⟨z3, hz3⟩ : ∃ z3 : Bool, decide (mI < 72057594037927936) = z3 := ⟨_, rfl⟩
            have HD := Lib.hid (And.intro h2 h3)
            have H3 : Hid (z3 = true → m < 72057594037927936) := Lib.hid (fun h => by rw [← hz3] at h; have := of_decide_eq_true h; have := HMI.out; omega)
            clear h2 h3
            go_wp2_with fail
            go_meet
            exact ⟨z3, rfl, fun h => ⟨HH.out, by rw [HC.out]; exact HD.out.1, by rw [HC.out]; exact HD.out.2, H3.out h⟩, rfl⟩
          · have h3' : decide ((c : Int) ≤ 57) = false := by simp; omega
            go_wp2_with fail
            go_meet
            exact ⟨false, rfl, fun h => (by cases h), rfl⟩
        · have h2' : decide ((48 : Int) ≤ (c : Int)) = false := by simp; omega
          go_wp2_with fail
          go_meet
          exact ⟨false, rfl, fun h => (by cases h), rfl⟩
      · have h1 : decide ((A : Int) < (s.size : Int)) = false := by simp; omega
        go_wp2_with fail
        go_meet
        exact ⟨false, rfl, fun h => (by cases h), rfl⟩
    case rest =>
    obtain ⟨b, rfl, hb, rfl⟩ := hcut
    have HG := Lib.hid hb
    clear hb

    cases b
    · go_upto_region 16 with fail
      go_cut [70] from 57 to 70 (fun s70 wx => ∃ b : Bool, s70 = .bool b ∧ (b = false → A < s.size ∧ m < 9007199254740992) ∧ w = wx)
      case first =>
        by_cases h0 : A < s.size
        · have h1 : ((A : Int) == (s.size : Int)) = false := by simp; omega
          have h1' : (A : Int) < (s.size : Int) := by omega
          obtain ⟨c, hc⟩ : ∃ c, (s[A]'h0).toNat = c := ⟨_, rfl⟩
          have HH := Lib.hid h0
          obtain ⟨cb, hcb⟩ : ∃ cb : Bool, ((c : Int) != 112) = cb := ⟨_, rfl⟩
          cases cb
          · obtain ⟨z3, hz3⟩ : ∃ z3 : Bool, decide (9007199254740992 ≤ mI) = z3 := ⟨_, rfl⟩
            have H3 : Hid (z3 = false → m < 9007199254740992) := Lib.hid (fun h => by rw [← hz3] at h; have := of_decide_eq_false h; have := HMI.out; omega)
            go_wp2_with fail
            go_meet
            exact ⟨z3, rfl, fun h => ⟨HH.out, H3.out h⟩, rfl⟩
          · go_wp2_with fail
            go_meet
            exact ⟨true, rfl, fun h => (by cases h), rfl⟩
        · have h1 : ((A : Int) == (s.size : Int)) = true := by simp; omega
          go_wp2_with fail
          go_meet
          exact ⟨true, rfl, fun h => (by cases h), rfl⟩
      case rest =>
      obtain ⟨b2, rfl, hb2, rfl⟩ := hcut
      have HG2 := Lib.hid hb2
      clear hb2
      cases b2
      · obtain ⟨hAs, hm53⟩ := HG2.out (by trivial)
        have HM53 : Hid (m < 9007199254740992) := Lib.hid hm53
        have HPOS : Hid (0 < s.size) := Lib.hid (by omega)
        have hm53i : mI < 9007199254740992 := by have := HMI.out; omega
        clear HG2 hm53
        go_upto_region 19 with fail
        go_cut [82] from 73 to 82 (fun s82 wx => ∃ b : Bool, s82 = .bool b ∧ (b = true → A + 1 < s.size) ∧ w = wx)
        case first =>
          by_cases h0 : A + 1 < s.size
          · have h1 : (A : Int) + 1 < (s.size : Int) := by omega
            obtain ⟨c, hc⟩ : ∃ c, (s[A + 1]'h0).toNat = c := ⟨_, rfl⟩
            obtain ⟨cb, hcb⟩ : ∃ cb : Bool, ((c : Int) == 45) = cb := ⟨_, rfl⟩
            have HH := Lib.hid h0
            go_wp2_with fail
            go_meet
            exact ⟨cb, by rw [← hcb], fun _ => HH.out, rfl⟩
          · have h1 : decide ((A : Int) + 1 < (s.size : Int)) = false := by simp; omega
            go_wp2_with fail
            go_meet
            exact ⟨false, rfl, fun h => (by cases h), rfl⟩
        case rest =>
        obtain ⟨b3, rfl, hb3, rfl⟩ := hcut
        have HB3 := Lib.hid hb3
        clear hb3
        go_upto_if 82 with fail
        go_cut [5, 7, 8] from 82 to 84 (fun s5 s7 s8 wx => ∃ (A2 : Nat) (z : Bool) (EI : Int), s5 = .int .i64 (A2 : Int) ∧ s7 = .int .i64 EI ∧ s8 = .bool z ∧ A + 1 ≤ A2 ∧ A2 ≤ s.size ∧ EI = 0 ∧ w = wx)
        case first =>
          cases b3
          · go_wp2_with fail
            go_meet
            exact ⟨A + 1, false, 0, rfl, rfl, rfl, Nat.le_refl _, hAs, rfl, rfl⟩
          · have := HB3.out (by trivial)
            go_wp2_with fail
            go_meet
            exact ⟨A + 1 + 1, true, 0, rfl, rfl, rfl, by omega, by omega, rfl, rfl⟩
        case rest =>
        obtain ⟨A2, z, EI, rfl, rfl, rfl, hA2, hA2s, hEI, rfl⟩ := hcut
        have HA2 : Hid (A + 1 ≤ A2 ∧ A2 ≤ s.size) := Lib.hid ⟨hA2, hA2s⟩
        obtain ⟨E, hE⟩ : ∃ E : Nat, E = 0 := ⟨_, rfl⟩
        have HEI : Hid (EI = (E : Int)) := Lib.hid (by rw [hE, hEI]; rfl)
        have hE0 : 0 ≤ EI := by omega
        have hE1 : EI ≤ 100009 := by omega
        have hE2 : E ≤ 100009 := by omega
        clear hE hEI
        go_wp2_with fail
        go_step3
        go_upto_region 22 with fail

        go_cut [104] from 85 to 104 (fun s104 wx => ∃ b : Bool, s104 = .bool b ∧ (b = true → ∃ h : A2 < s.size, 48 ≤ (s[A2]'h).toNat ∧ (s[A2]'h).toNat ≤ 57 ∧ E < 10000) ∧ w = wx)
        case first =>
          by_cases h0 : A2 < s.size
          · have h1 : (A2 : Int) < (s.size : Int) := by omega
            obtain ⟨c, hc⟩ : ∃ c, (s[A2]'h0).toNat = c := ⟨_, rfl⟩
            have HH := Lib.hid h0
            have HC := Lib.hid hc
            by_cases h2 : 48 ≤ c
            · have h2' : decide ((48 : Int) ≤ (c : Int)) = true := by simp; omega
              by_cases h3 : c ≤ 57
              · have h3' : decide ((c : Int) ≤ 57) = true := by simp; omega
                obtain ⟨z3, hz3⟩ : ∃ z3 : Bool, decide (EI < 10000) = z3 := ⟨_, rfl⟩
                have HD := Lib.hid (And.intro h2 h3)
                have H3 : Hid (z3 = true → E < 10000) := Lib.hid (fun h => by rw [← hz3] at h; have := of_decide_eq_true h; have := HEI.out; omega)
                clear h2 h3
                go_wp2_with fail
                go_meet
                exact ⟨z3, rfl, fun h => ⟨HH.out, by rw [HC.out]; exact HD.out.1, by rw [HC.out]; exact HD.out.2, H3.out h⟩, rfl⟩
              · have h3' : decide ((c : Int) ≤ 57) = false := by simp; omega
                go_wp2_with fail
                go_meet
                exact ⟨false, rfl, fun h => (by cases h), rfl⟩
            · have h2' : decide ((48 : Int) ≤ (c : Int)) = false := by simp; omega
              go_wp2_with fail
              go_meet
              exact ⟨false, rfl, fun h => (by cases h), rfl⟩
          · have h1 : decide ((A2 : Int) < (s.size : Int)) = false := by simp; omega
            go_wp2_with fail
            go_meet
            exact ⟨false, rfl, fun h => (by cases h), rfl⟩
        case rest =>
        obtain ⟨b, rfl, hb, rfl⟩ := hcut
        have HG := Lib.hid hb
        clear hb

        cases b
        · skip
          go_upto_if 115 with fail
          go_cut [7] from 115 to 117 (fun s7 wx => ∃ ex : Int, s7 = .int .i64 ex ∧ -100009 ≤ ex ∧ ex ≤ 100009 ∧ w = wx)
          case first =>
            cases z
            · go_wp2_with fail
              go_meet
              exact ⟨EI, rfl, by omega, by omega, rfl⟩
            · go_wp2_with fail
              go_meet
              exact ⟨-EI, rfl, by omega, by omega, rfl⟩
          case rest =>
          obtain ⟨ex, rfl, hx1, hx2, rfl⟩ := hcut
          have hcv := floatOfInt_nat m
          obtain ⟨F, hF⟩ : ∃ F, F = i2r m := ⟨_, rfl⟩
          rw [← hF, ← HMI.out] at hcv
          have hci : ∀ W : World, (convert 56 26 (Value.int .u64 mI)).run Tryd.prog W = .ok (.float .f64 F) W := fun W =>
            (run_convert_int_float (P := Tryd.prog) (w := W) 56 26 .u64 .f64 mI (by rw [Tryd.underlying56]; rfl) Tryd.underlying26).trans (by rw [hcv])
          have hLd := fun W : World => Ldexp_some m ex W HM53.out (by omega) (by omega)
          rw [← hF] at hLd
          have HLD := Lib.hid hLd
          have h0 : 0 < s.size := HPOS.out
          clear hF hcv hLd
          go_wp2_with fail
          refine (HLD.out _).mono ?_
          rintro e w' ⟨v, hv, rfl, rfl⟩
          have HV := Lib.hid hv
          clear hv hci
          go_wp2_with fail
          go_step3
          go_upto_if 124 with fail
          go_cut [4] from 124 to 126 (fun s4 wx => ∃ v2 : Nat, s4 = .float .f64 v2 ∧ v2 < 18446744073709551616 ∧ w = wx)
          case first =>
            have hneg : ∀ W : World, (Op.unary .neg (.float .f64 v)).run Tryd.prog W = .ok (.float .f64 (Op.negFloat .f64 v)) W := fun W => rfl
            have HNL := Lib.hid (neg_lt v HV.out)
            obtain ⟨cb, hcb⟩ : ∃ cb : Bool, (((s[0]'h0).toNat : Int) == 45) = cb := ⟨_, rfl⟩
            cases cb
            · go_wp2_with fail
              go_meet
              exact ⟨v, rfl, HV.out, rfl⟩
            · go_wp2_with fail
              go_meet
              exact ⟨_, rfl, HNL.out, rfl⟩
          case rest =>
          obtain ⟨v2, rfl, hv2, rfl⟩ := hcut
          have HV2 := Lib.hid hv2
          clear hv2
          go_wp2_with fail
          refine (Text_any v2 _ HV2.out HT.out).mono ?_
          rintro e w2 ⟨s', hs', rfl, hb⟩
          have hne : (s'.toList == s.toList) = false := str_eq_false (fun h => HN.out v2 HV2.out (h ▸ hs'))
          have HB := Lib.hid hb
          clear hb hs'
          go_wp2_with fail
          unfold Exit.jumps
          go_ret2
          exact ⟨rfl, HB.out⟩

        · obtain ⟨h, h1, h2, h3⟩ := HG.out (by trivial)
          obtain ⟨c, hc⟩ : ∃ c, (s[A2]'h).toNat = c := ⟨_, rfl⟩
          rw [hc] at h1 h2
          have h4 : (A2 : Int) < (s.size : Int) := by omega
          have h5 : (48 : Int) ≤ (c : Int) := by omega
          have h6 : (c : Int) ≤ 57 := by omega
          have h7 : EI < 10000 := by have := HEI.out; omega
          have HCC : Hid ((s[A2]'h).toNat = c ∧ 48 ≤ c ∧ c ≤ 57) := Lib.hid ⟨hc, h1, h2⟩
          clear h1 h2 h3
          go_wp2_with fail
          go_step3
          refine ⟨rfl, .inr ⟨rfl, A2 + 1, m, 10 * E + (c - 48), z, by omega, by obtain ⟨h, -⟩ := HG.out (by trivial); omega, HM53.out, by obtain ⟨h, h1, h2, h3⟩ := HG.out (by trivial); have := HCC.out; omega, ?_⟩⟩
          have g5 : ((A2 + 1 : Nat) : Int) = (A2 : Int) + 1 := by omega
          have g6 : ((10 * E + (c - 48) : Nat) : Int) = 10 * EI + ((c : Int) - 48) := by have := HEI.out; have := HCC.out.2.1; omega
          rw [g5, g6, ← HMI.out]
          rfl
      · skip
        go_wp2_with fail
        unfold Exit.jumps
        go_ret2
        exact ⟨rfl, Below.refl _ _⟩

    · obtain ⟨h, h1, h2, h3⟩ := HG.out (by trivial)
      obtain ⟨c, hc⟩ : ∃ c, (s[A]'h).toNat = c := ⟨_, rfl⟩
      rw [hc] at h1 h2
      have h4 : (A : Int) < (s.size : Int) := by omega
      have h5 : (48 : Int) ≤ (c : Int) := by omega
      have h6 : (c : Int) ≤ 57 := by omega
      have h7 : mI < 72057594037927936 := by have := HMI.out; omega
      have HCC : Hid ((s[A]'h).toNat = c ∧ 48 ≤ c ∧ c ≤ 57) := Lib.hid ⟨hc, h1, h2⟩
      clear h1 h2 h3
      go_wp2_with fail
      go_step3
      refine ⟨rfl, .inl ⟨rfl, A + 1, 10 * m + (c - 48), by obtain ⟨h, -⟩ := HG.out (by trivial); omega, by obtain ⟨h, h1, h2, h3⟩ := HG.out (by trivial); have := HCC.out; omega, ?_⟩⟩
      have g5 : ((A + 1 : Nat) : Int) = (A : Int) + 1 := by omega
      have g6 : ((10 * m + (c - 48) : Nat) : Int) = 10 * mI + ((c : Int) - 48) := by have := HMI.out; have := HCC.out.2.1; omega
      rw [g5, g6]
      rfl
    --)
  · rintro l a w' ⟨rfl, ⟨rfl, A, m, hA, hm, ha⟩ | ⟨rfl, A2, m, E, z, hA1, hA2, hm, hE2, ha⟩⟩
    · refine ⟨_, rfl, ?_⟩
      obtain ⟨u, hu⟩ : ∃ u, u = rdU a := ⟨_, rfl⟩
      rw [← hu] at ha
      clear hu
      subst ha
      unfold rdF
      obtain ⟨mI, hmI⟩ : ∃ mI : Int, mI = (m : Int) := ⟨_, rfl⟩
      have HMI := Lib.hid hmI
      rw [← hmI]
      have hm0 : 0 ≤ mI := by omega
      have hm1 : mI < 1152921504606846976 := by omega
      clear hmI
      --(
      go_upto_region 13 with fail

      go_cut [46] from 27 to 46 (fun s46 wx => ∃ b : Bool, s46 = .bool b ∧ (b = true → ∃ h : A < s.size, 48 ≤ (s[A]'h).toNat ∧ (s[A]'h).toNat ≤ 57 ∧ m < 72057594037927936) ∧ w = wx)
      case first =>
        by_cases h0 : A < s.size
        · have h1 : (A : Int) < (s.size : Int) := by omega
          obtain ⟨c, hc⟩ : ∃ c, (s[A]'h0).toNat = c := ⟨_, rfl⟩
          have HH := Lib.hid h0
          have HC := Lib.hid hc
          by_cases h2 : 48 ≤ c
          · have h2' : decide ((48 : Int) ≤ (c : Int)) = true := by simp; omega
            by_cases h3 : c ≤ 57
            · have h3' : decide ((c : Int) ≤ 57) = true := by simp; omega
              obtain ⟨z3, hz3⟩ : ∃ z3 : Bool, decide (mI < 72057594037927936) = z3 := ⟨_, rfl⟩
              have HD := Lib.hid (And.intro h2 h3)
              have H3 : Hid (z3 = true → m < 72057594037927936) := Lib.hid (fun h => by rw [← hz3] at h; have := of_decide_eq_true h; have := HMI.out; omega)
              clear h2 h3
              go_wp2_with fail
              go_meet
              exact ⟨z3, rfl, fun h => ⟨HH.out, by rw [HC.out]; exact HD.out.1, by rw [HC.out]; exact HD.out.2, H3.out h⟩, rfl⟩
            · have h3' : decide ((c : Int) ≤ 57) = false := by simp; omega
              go_wp2_with fail
              go_meet
              exact ⟨false, rfl, fun h => (by cases h), rfl⟩
          · have h2' : decide ((48 : Int) ≤ (c : Int)) = false := by simp; omega
            go_wp2_with fail
            go_meet
            exact ⟨false, rfl, fun h => (by cases h), rfl⟩
        · have h1 : decide ((A : Int) < (s.size : Int)) = false := by simp; omega
          go_wp2_with fail
          go_meet
          exact ⟨false, rfl, fun h => (by cases h), rfl⟩
      case rest =>
      obtain ⟨b, rfl, hb, rfl⟩ := hcut
      have HG := Lib.hid hb
      clear hb

      cases b
      · go_upto_region 16 with fail
        go_cut [70] from 57 to 70 (fun s70 wx => ∃ b : Bool, s70 = .bool b ∧ (b = false → A < s.size ∧ m < 9007199254740992) ∧ w = wx)
        case first =>
          by_cases h0 : A < s.size
          · have h1 : ((A : Int) == (s.size : Int)) = false := by simp; omega
            have h1' : (A : Int) < (s.size : Int) := by omega
            obtain ⟨c, hc⟩ : ∃ c, (s[A]'h0).toNat = c := ⟨_, rfl⟩
            have HH := Lib.hid h0
            obtain ⟨cb, hcb⟩ : ∃ cb : Bool, ((c : Int) != 112) = cb := ⟨_, rfl⟩
            cases cb
            · obtain ⟨z3, hz3⟩ : ∃ z3 : Bool, decide (9007199254740992 ≤ mI) = z3 := ⟨_, rfl⟩
              have H3 : Hid (z3 = false → m < 9007199254740992) := Lib.hid (fun h => by rw [← hz3] at h; have := of_decide_eq_false h; have := HMI.out; omega)
              go_wp2_with fail
              go_meet
              exact ⟨z3, rfl, fun h => ⟨HH.out, H3.out h⟩, rfl⟩
            · go_wp2_with fail
              go_meet
              exact ⟨true, rfl, fun h => (by cases h), rfl⟩
          · have h1 : ((A : Int) == (s.size : Int)) = true := by simp; omega
            go_wp2_with fail
            go_meet
            exact ⟨true, rfl, fun h => (by cases h), rfl⟩
        case rest =>
        obtain ⟨b2, rfl, hb2, rfl⟩ := hcut
        have HG2 := Lib.hid hb2
        clear hb2
        cases b2
        · obtain ⟨hAs, hm53⟩ := HG2.out (by trivial)
          have HM53 : Hid (m < 9007199254740992) := Lib.hid hm53
          have HPOS : Hid (0 < s.size) := Lib.hid (by omega)
          have hm53i : mI < 9007199254740992 := by have := HMI.out; omega
          clear HG2 hm53
          go_upto_region 19 with fail
          go_cut [82] from 73 to 82 (fun s82 wx => ∃ b : Bool, s82 = .bool b ∧ (b = true → A + 1 < s.size) ∧ w = wx)
          case first =>
            by_cases h0 : A + 1 < s.size
            · have h1 : (A : Int) + 1 < (s.size : Int) := by omega
              obtain ⟨c, hc⟩ : ∃ c, (s[A + 1]'h0).toNat = c := ⟨_, rfl⟩
              obtain ⟨cb, hcb⟩ : ∃ cb : Bool, ((c : Int) == 45) = cb := ⟨_, rfl⟩
              have HH := Lib.hid h0
              go_wp2_with fail
              go_meet
              exact ⟨cb, by rw [← hcb], fun _ => HH.out, rfl⟩
            · have h1 : decide ((A : Int) + 1 < (s.size : Int)) = false := by simp; omega
              go_wp2_with fail
              go_meet
              exact ⟨false, rfl, fun h => (by cases h), rfl⟩
          case rest =>
          obtain ⟨b3, rfl, hb3, rfl⟩ := hcut
          have HB3 := Lib.hid hb3
          clear hb3
          go_upto_if 82 with fail
          go_cut [5, 7, 8] from 82 to 84 (fun s5 s7 s8 wx => ∃ (A2 : Nat) (z : Bool) (EI : Int), s5 = .int .i64 (A2 : Int) ∧ s7 = .int .i64 EI ∧ s8 = .bool z ∧ A + 1 ≤ A2 ∧ A2 ≤ s.size ∧ EI = 0 ∧ w = wx)
          case first =>
            cases b3
            · go_wp2_with fail
              go_meet
              exact ⟨A + 1, false, 0, rfl, rfl, rfl, Nat.le_refl _, hAs, rfl, rfl⟩
            · have := HB3.out (by trivial)
              go_wp2_with fail
              go_meet
              exact ⟨A + 1 + 1, true, 0, rfl, rfl, rfl, by omega, by omega, rfl, rfl⟩
          case rest =>
          obtain ⟨A2, z, EI, rfl, rfl, rfl, hA2, hA2s, hEI, rfl⟩ := hcut
          have HA2 : Hid (A + 1 ≤ A2 ∧ A2 ≤ s.size) := Lib.hid ⟨hA2, hA2s⟩
          obtain ⟨E, hE⟩ : ∃ E : Nat, E = 0 := ⟨_, rfl⟩
          have HEI : Hid (EI = (E : Int)) := Lib.hid (by rw [hE, hEI]; rfl)
          have hE0 : 0 ≤ EI := by omega
          have hE1 : EI ≤ 100009 := by omega
          have hE2 : E ≤ 100009 := by omega
          clear hE hEI
          go_wp2_with fail
          go_step3
          go_upto_region 22 with fail

          go_cut [104] from 85 to 104 (fun s104 wx => ∃ b : Bool, s104 = .bool b ∧ (b = true → ∃ h : A2 < s.size, 48 ≤ (s[A2]'h).toNat ∧ (s[A2]'h).toNat ≤ 57 ∧ E < 10000) ∧ w = wx)
          case first =>
            by_cases h0 : A2 < s.size
            · have h1 : (A2 : Int) < (s.size : Int) := by omega
              obtain ⟨c, hc⟩ : ∃ c, (s[A2]'h0).toNat = c := ⟨_, rfl⟩
              have HH := Lib.hid h0
              have HC := Lib.hid hc
              by_cases h2 : 48 ≤ c
              · have h2' : decide ((48 : Int) ≤ (c : Int)) = true := by simp; omega
                by_cases h3 : c ≤ 57
                · have h3' : decide ((c : Int) ≤ 57) = true := by simp; omega
                  obtain ⟨z3, hz3⟩ : ∃ z3 : Bool, decide (EI < 10000) = z3 := ⟨_, rfl⟩
                  have HD := Lib.hid (And.intro h2 h3)
                  have H3 : Hid (z3 = true → E < 10000) := Lib.hid (fun h => by rw [← hz3] at h; have := of_decide_eq_true h; have := HEI.out; omega)
                  clear h2 h3
                  go_wp2_with fail
                  go_meet
                  exact ⟨z3, rfl, fun h => ⟨HH.out, by rw [HC.out]; exact HD.out.1, by rw [HC.out]; exact HD.out.2, H3.out h⟩, rfl⟩
                · have h3' : decide ((c : Int) ≤ 57) = false := by simp; omega
                  go_wp2_with fail
                  go_meet
                  exact ⟨false, rfl, fun h => (by cases h), rfl⟩
              · have h2' : decide ((48 : Int) ≤ (c : Int)) = false := by simp; omega
                go_wp2_with fail
                go_meet
                exact ⟨false, rfl, fun h => (by cases h), rfl⟩
            · have h1 : decide ((A2 : Int) < (s.size : Int)) = false := by simp; omega
              go_wp2_with fail
              go_meet
              exact ⟨false, rfl, fun h => (by cases h), rfl⟩
          case rest =>
          obtain ⟨b, rfl, hb, rfl⟩ := hcut
          have HG := Lib.hid hb
          clear hb

          cases b
          · skip
            go_upto_if 115 with fail
            go_cut [7] from 115 to 117 (fun s7 wx => ∃ ex : Int, s7 = .int .i64 ex ∧ -100009 ≤ ex ∧ ex ≤ 100009 ∧ w = wx)
            case first =>
              cases z
              · go_wp2_with fail
                go_meet
                exact ⟨EI, rfl, by omega, by omega, rfl⟩
              · go_wp2_with fail
                go_meet
                exact ⟨-EI, rfl, by omega, by omega, rfl⟩
            case rest =>
            obtain ⟨ex, rfl, hx1, hx2, rfl⟩ := hcut
            have hcv := floatOfInt_nat m
            obtain ⟨F, hF⟩ : ∃ F, F = i2r m := ⟨_, rfl⟩
            rw [← hF, ← HMI.out] at hcv
            have hci : ∀ W : World, (convert 56 26 (Value.int .u64 mI)).run Tryd.prog W = .ok (.float .f64 F) W := fun W =>
              (run_convert_int_float (P := Tryd.prog) (w := W) 56 26 .u64 .f64 mI (by rw [Tryd.underlying56]; rfl) Tryd.underlying26).trans (by rw [hcv])
            have hLd := fun W : World => Ldexp_some m ex W HM53.out (by omega) (by omega)
            rw [← hF] at hLd
            have HLD := Lib.hid hLd
            have h0 : 0 < s.size := HPOS.out
            clear hF hcv hLd
            go_wp2_with fail
            refine (HLD.out _).mono ?_
            rintro e w' ⟨v, hv, rfl, rfl⟩
            have HV := Lib.hid hv
            clear hv hci
            go_wp2_with fail
            go_step3
            go_upto_if 124 with fail
            go_cut [4] from 124 to 126 (fun s4 wx => ∃ v2 : Nat, s4 = .float .f64 v2 ∧ v2 < 18446744073709551616 ∧ w = wx)
            case first =>
              have hneg : ∀ W : World, (Op.unary .neg (.float .f64 v)).run Tryd.prog W = .ok (.float .f64 (Op.negFloat .f64 v)) W := fun W => rfl
              have HNL := Lib.hid (neg_lt v HV.out)
              obtain ⟨cb, hcb⟩ : ∃ cb : Bool, (((s[0]'h0).toNat : Int) == 45) = cb := ⟨_, rfl⟩
              cases cb
              · go_wp2_with fail
                go_meet
                exact ⟨v, rfl, HV.out, rfl⟩
              · go_wp2_with fail
                go_meet
                exact ⟨_, rfl, HNL.out, rfl⟩
            case rest =>
            obtain ⟨v2, rfl, hv2, rfl⟩ := hcut
            have HV2 := Lib.hid hv2
            clear hv2
            go_wp2_with fail
            refine (Text_any v2 _ HV2.out HT.out).mono ?_
            rintro e w2 ⟨s', hs', rfl, hb⟩
            have hne : (s'.toList == s.toList) = false := str_eq_false (fun h => HN.out v2 HV2.out (h ▸ hs'))
            have HB := Lib.hid hb
            clear hb hs'
            go_wp2_with fail
            unfold Exit.jumps
            go_ret2
            exact ⟨rfl, HB.out⟩

          · obtain ⟨h, h1, h2, h3⟩ := HG.out (by trivial)
            obtain ⟨c, hc⟩ : ∃ c, (s[A2]'h).toNat = c := ⟨_, rfl⟩
            rw [hc] at h1 h2
            have h4 : (A2 : Int) < (s.size : Int) := by omega
            have h5 : (48 : Int) ≤ (c : Int) := by omega
            have h6 : (c : Int) ≤ 57 := by omega
            have h7 : EI < 10000 := by have := HEI.out; omega
            have HCC : Hid ((s[A2]'h).toNat = c ∧ 48 ≤ c ∧ c ≤ 57) := Lib.hid ⟨hc, h1, h2⟩
            clear h1 h2 h3
            go_wp2_with fail
            go_step3
            refine ⟨⟨rfl, .inr ⟨rfl, A2 + 1, m, 10 * E + (c - 48), z, by omega, by obtain ⟨h, -⟩ := HG.out (by trivial); omega, HM53.out, by obtain ⟨h, h1, h2, h3⟩ := HG.out (by trivial); have := HCC.out; omega, ?_⟩⟩, (by unfold lab2; simp only [show (2:Nat) ≠ 1 by decide, if_true, if_false]; show (s.size + 10) - ((A2 : Int) + 1).toNat < (2 * s.size + 20) - (A : Int).toNat; have := HA2.out; omega)⟩
            have g5 : ((A2 + 1 : Nat) : Int) = (A2 : Int) + 1 := by omega
            have g6 : ((10 * E + (c - 48) : Nat) : Int) = 10 * EI + ((c : Int) - 48) := by have := HEI.out; have := HCC.out.2.1; omega
            rw [g5, g6, ← HMI.out]
            rfl
        · skip
          go_wp2_with fail
          unfold Exit.jumps
          go_ret2
          exact ⟨rfl, Below.refl _ _⟩

      · obtain ⟨h, h1, h2, h3⟩ := HG.out (by trivial)
        obtain ⟨c, hc⟩ : ∃ c, (s[A]'h).toNat = c := ⟨_, rfl⟩
        rw [hc] at h1 h2
        have h4 : (A : Int) < (s.size : Int) := by omega
        have h5 : (48 : Int) ≤ (c : Int) := by omega
        have h6 : (c : Int) ≤ 57 := by omega
        have h7 : mI < 72057594037927936 := by have := HMI.out; omega
        have HCC : Hid ((s[A]'h).toNat = c ∧ 48 ≤ c ∧ c ≤ 57) := Lib.hid ⟨hc, h1, h2⟩
        clear h1 h2 h3
        go_wp2_with fail
        go_step3
        refine ⟨⟨rfl, .inl ⟨rfl, A + 1, 10 * m + (c - 48), by obtain ⟨h, -⟩ := HG.out (by trivial); omega, by obtain ⟨h, h1, h2, h3⟩ := HG.out (by trivial); have := HCC.out; omega, ?_⟩⟩, (by unfold lab2; simp only [if_true]; show (2 * s.size + 20) - ((A : Int) + 1).toNat < (2 * s.size + 20) - (A : Int).toNat; obtain ⟨h, -⟩ := HG.out (by trivial); omega)⟩
        have g5 : ((A + 1 : Nat) : Int) = (A : Int) + 1 := by omega
        have g6 : ((10 * m + (c - 48) : Nat) : Int) = 10 * mI + ((c : Int) - 48) := by have := HMI.out; have := HCC.out.2.1; omega
        rw [g5, g6]
        rfl
      --)
    · refine ⟨_, rfl, ?_⟩
      obtain ⟨u, hu⟩ : ∃ u, u = rdU a := ⟨_, rfl⟩
      rw [← hu] at ha
      clear hu
      subst ha
      unfold rdF
      obtain ⟨mI, hmI⟩ : ∃ mI : Int, mI = (m : Int) := ⟨_, rfl⟩
      have HMI := Lib.hid hmI
      rw [← hmI]
      have hm0 : 0 ≤ mI := by omega
      have hm1 : mI < 9007199254740992 := by omega
      obtain ⟨EI, hEI⟩ : ∃ EI : Int, EI = (E : Int) := ⟨_, rfl⟩
      have HEI := Lib.hid hEI
      rw [← hEI]
      have hE0 : 0 ≤ EI := by omega
      have hE1 : EI ≤ 100009 := by omega
      have HM53 : Hid (m < 9007199254740992) := Lib.hid hm
      have HPOS : Hid (0 < s.size) := Lib.hid (by omega)
      clear hmI hEI
      go_upto_region 22 with fail

      go_cut [104] from 85 to 104 (fun s104 wx => ∃ b : Bool, s104 = .bool b ∧ (b = true → ∃ h : A2 < s.size, 48 ≤ (s[A2]'h).toNat ∧ (s[A2]'h).toNat ≤ 57 ∧ E < 10000) ∧ w = wx)
      case first =>
        by_cases h0 : A2 < s.size
        · have h1 : (A2 : Int) < (s.size : Int) := by omega
          obtain ⟨c, hc⟩ : ∃ c, (s[A2]'h0).toNat = c := ⟨_, rfl⟩
          have HH := Lib.hid h0
          have HC := Lib.hid hc
          by_cases h2 : 48 ≤ c
          · have h2' : decide ((48 : Int) ≤ (c : Int)) = true := by simp; omega
            by_cases h3 : c ≤ 57
            · have h3' : decide ((c : Int) ≤ 57) = true := by simp; omega
              obtain ⟨z3, hz3⟩ : ∃ z3 : Bool, decide (EI < 10000) = z3 := ⟨_, rfl⟩
              have HD := Lib.hid (And.intro h2 h3)
              have H3 : Hid (z3 = true → E < 10000) := Lib.hid (fun h => by rw [← hz3] at h; have := of_decide_eq_true h; have := HEI.out; omega)
              clear h2 h3
              go_wp2_with fail
              go_meet
              exact ⟨z3, rfl, fun h => ⟨HH.out, by rw [HC.out]; exact HD.out.1, by rw [HC.out]; exact HD.out.2, H3.out h⟩, rfl⟩
            · have h3' : decide ((c : Int) ≤ 57) = false := by simp; omega
              go_wp2_with fail
              go_meet
              exact ⟨false, rfl, fun h => (by cases h), rfl⟩
          · have h2' : decide ((48 : Int) ≤ (c : Int)) = false := by simp; omega
            go_wp2_with fail
            go_meet
            exact ⟨false, rfl, fun h => (by cases h), rfl⟩
        · have h1 : decide ((A2 : Int) < (s.size : Int)) = false := by simp; omega
          go_wp2_with fail
          go_meet
          exact ⟨false, rfl, fun h => (by cases h), rfl⟩
      case rest =>
      obtain ⟨b, rfl, hb, rfl⟩ := hcut
      have HG := Lib.hid hb
      clear hb

      cases b
      · skip
        go_upto_if 115 with fail
        go_cut [7] from 115 to 117 (fun s7 wx => ∃ ex : Int, s7 = .int .i64 ex ∧ -100009 ≤ ex ∧ ex ≤ 100009 ∧ w = wx)
        case first =>
          cases z
          · go_wp2_with fail
            go_meet
            exact ⟨EI, rfl, by omega, by omega, rfl⟩
          · go_wp2_with fail
            go_meet
            exact ⟨-EI, rfl, by omega, by omega, rfl⟩
        case rest =>
        obtain ⟨ex, rfl, hx1, hx2, rfl⟩ := hcut
        have hcv := floatOfInt_nat m
        obtain ⟨F, hF⟩ : ∃ F, F = i2r m := ⟨_, rfl⟩
        rw [← hF, ← HMI.out] at hcv
        have hci : ∀ W : World, (convert 56 26 (Value.int .u64 mI)).run Tryd.prog W = .ok (.float .f64 F) W := fun W =>
          (run_convert_int_float (P := Tryd.prog) (w := W) 56 26 .u64 .f64 mI (by rw [Tryd.underlying56]; rfl) Tryd.underlying26).trans (by rw [hcv])
        have hLd := fun W : World => Ldexp_some m ex W HM53.out (by omega) (by omega)
        rw [← hF] at hLd
        have HLD := Lib.hid hLd
        have h0 : 0 < s.size := HPOS.out
        clear hF hcv hLd
        go_wp2_with fail
        refine (HLD.out _).mono ?_
        rintro e w' ⟨v, hv, rfl, rfl⟩
        have HV := Lib.hid hv
        clear hv hci
        go_wp2_with fail
        go_step3
        go_upto_if 124 with fail
        go_cut [4] from 124 to 126 (fun s4 wx => ∃ v2 : Nat, s4 = .float .f64 v2 ∧ v2 < 18446744073709551616 ∧ w = wx)
        case first =>
          have hneg : ∀ W : World, (Op.unary .neg (.float .f64 v)).run Tryd.prog W = .ok (.float .f64 (Op.negFloat .f64 v)) W := fun W => rfl
          have HNL := Lib.hid (neg_lt v HV.out)
          obtain ⟨cb, hcb⟩ : ∃ cb : Bool, (((s[0]'h0).toNat : Int) == 45) = cb := ⟨_, rfl⟩
          cases cb
          · go_wp2_with fail
            go_meet
            exact ⟨v, rfl, HV.out, rfl⟩
          · go_wp2_with fail
            go_meet
            exact ⟨_, rfl, HNL.out, rfl⟩
        case rest =>
        obtain ⟨v2, rfl, hv2, rfl⟩ := hcut
        have HV2 := Lib.hid hv2
        clear hv2
        go_wp2_with fail
        refine (Text_any v2 _ HV2.out HT.out).mono ?_
        rintro e w2 ⟨s', hs', rfl, hb⟩
        have hne : (s'.toList == s.toList) = false := str_eq_false (fun h => HN.out v2 HV2.out (h ▸ hs'))
        have HB := Lib.hid hb
        clear hb hs'
        go_wp2_with fail
        unfold Exit.jumps
        go_ret2
        exact ⟨rfl, HB.out⟩

      · obtain ⟨h, h1, h2, h3⟩ := HG.out (by trivial)
        obtain ⟨c, hc⟩ : ∃ c, (s[A2]'h).toNat = c := ⟨_, rfl⟩
        rw [hc] at h1 h2
        have h4 : (A2 : Int) < (s.size : Int) := by omega
        have h5 : (48 : Int) ≤ (c : Int) := by omega
        have h6 : (c : Int) ≤ 57 := by omega
        have h7 : EI < 10000 := by have := HEI.out; omega
        have HCC : Hid ((s[A2]'h).toNat = c ∧ 48 ≤ c ∧ c ≤ 57) := Lib.hid ⟨hc, h1, h2⟩
        clear h1 h2 h3
        go_wp2_with fail
        go_step3
        refine ⟨⟨rfl, .inr ⟨rfl, A2 + 1, m, 10 * E + (c - 48), z, by omega, by obtain ⟨h, -⟩ := HG.out (by trivial); omega, HM53.out, by obtain ⟨h, h1, h2, h3⟩ := HG.out (by trivial); have := HCC.out; omega, ?_⟩⟩, (by unfold lab2; simp only [show (2:Nat) ≠ 1 by decide, if_false]; show (s.size + 10) - ((A2 : Int) + 1).toNat < (s.size + 10) - (A2 : Int).toNat; obtain ⟨h, -⟩ := HG.out (by trivial); omega)⟩
        have g5 : ((A2 + 1 : Nat) : Int) = (A2 : Int) + 1 := by omega
        have g6 : ((10 * E + (c - 48) : Nat) : Int) = 10 * EI + ((c : Int) - 48) := by have := HEI.out; have := HCC.out.2.1; omega
        rw [g5, g6, ← HMI.out]
        rfl
end Go.Proofs.YthfgjibhpenfkaaDoor
