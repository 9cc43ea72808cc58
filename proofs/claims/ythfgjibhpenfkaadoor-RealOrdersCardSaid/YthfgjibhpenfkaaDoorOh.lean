/- Real: the document's Read of what is no float's text. -/
import Derived.Test.YthfgjibhpenfkaaDoorOg
import Derived.Deep.CutBlock
import Derived.Test.YthfgjibhpenfkaaDoorOf
import Derived.Test.YthfgjibhpenfkaaDoorOd
namespace Go.Proofs.YthfgjibhpenfkaaDoor
open Go.RowKit Fl

theorem extract_size_le (s : ByteArray) (a b : Nat) : (s.extract a b).size ≤ s.size := by
  rw [ByteArray.size_extract]
  omega
set_option maxRecDepth 100000 in
set_option maxHeartbeats 4000000 in
theorem refread_none (s : ByteArray) (w : World) (hno : NoText s) (hsz : s.size ≤ 9223372036854775807) (ht : Pow10 w) :
    Calls Tryd.prog 19 #[.string s] w fun e w' => e = .returned (.tuple #[.float .f64 0, .int .i64 130]) ∧ Below w.heap.size w w' := by
  obtain ⟨c1, -⟩ := noText_ne hno
  have e1 : (s.toList == [110, 97, 110]) = false := by simpa [nanB] using str_eq_false c1
  clear c1
  have HN := Lib.hid hno
  have HT := Lib.hid ht
  clear hno ht
  go_enter Tryd.func19, Tryd.ntmps19
  go_upto_region 2 with fail
  go_cut [5] from 15 to 22 (fun s5 wx => ∃ b : Bool, s5 = .bool b ∧ (b = true → 0 < s.size) ∧ w = wx)
  case first =>
    by_cases h0 : 0 < s.size
    · have h0' : (0 : Int) < (s.size : Int) := by omega
      obtain ⟨c, hc⟩ : ∃ c, (s[0]'h0).toNat = c := ⟨_, rfl⟩
      obtain ⟨b, hb⟩ : ∃ b : Bool, ((c : Int) == 45) = b := ⟨_, rfl⟩
      have H0 := Lib.hid h0
      go_wp2_with fail
      go_meet
      exact ⟨b, by rw [← hb], fun _ => H0.out, rfl⟩
    · have h0' : decide ((0 : Int) < (s.size : Int)) = false := decide_eq_false (by omega)
      go_wp2_with fail
      go_meet
      exact ⟨false, rfl, fun h => (by cases h), rfl⟩
  case rest =>
  obtain ⟨b, rfl, hb, rfl⟩ := hcut
  have HB0 := Lib.hid hb
  clear hb
  go_upto_if 23 with fail
  go_cut [4] from 23 to 25 (fun s4 wx => ∃ t : ByteArray, s4 = .string t ∧ t.size ≤ s.size ∧ w = wx)
  case first =>
    cases b
    · go_wp2_with fail
      go_meet
      exact ⟨s, rfl, Nat.le_refl _, rfl⟩
    · have h0 : (1 : Int) ≤ (s.size : Int) := by have := HB0.out (by trivial); omega
      go_wp2_with fail
      go_meet
      exact ⟨_, rfl, extract_size_le _ _ _, rfl⟩
  case rest =>
  obtain ⟨t, rfl, htz, rfl⟩ := hcut
  go_upto_region 7 with fail
  go_loopg [7] t.size (fun g s7 wx => ∃ A : Nat, s7 = .int .i64 (A : Int) ∧ g = t.size - A ∧ A ≤ t.size ∧ w = wx)
  case atStart => exact ⟨0, rfl, rfl, Nat.zero_le _, rfl⟩
  case round =>
  obtain ⟨A, rfl, hg, hA, rfl⟩ := hrel
  go_upto_region 7 with fail
  go_cut [35] from 26 to 35 (fun s35 wx => ∃ b2 : Bool, s35 = .bool b2 ∧ (b2 = true → A < t.size) ∧ w = wx)
  case first =>
    by_cases h1 : A < t.size
    · have h1' : (A : Int) < (t.size : Int) := by omega
      obtain ⟨c, hc⟩ : ∃ c, (t[A]'h1).toNat = c := ⟨_, rfl⟩
      obtain ⟨z, hz⟩ : ∃ z : Bool, ((c : Int) != 112) = z := ⟨_, rfl⟩
      have H1 := Lib.hid h1
      go_wp2_with fail
      go_meet
      exact ⟨z, by rw [← hz], fun _ => H1.out, rfl⟩
    · have h1' : decide ((A : Int) < (t.size : Int)) = false := by simp; omega
      go_wp2_with fail
      go_meet
      exact ⟨false, rfl, fun h => (by cases h), rfl⟩
  case rest =>
  obtain ⟨b2, rfl, hb2, rfl⟩ := hcut
  have HB2 := Lib.hid hb2
  clear hb2
  cases b2
  · obtain ⟨z1, hz1⟩ : ∃ z : Bool, (t.toList == [105, 110, 102]) = z := ⟨_, rfl⟩
    obtain ⟨z2, hz2⟩ : ∃ z : Bool, (t.toList == [48]) = z := ⟨_, rfl⟩
    go_upto_block 2 with fail
    go_cut [6] from 38 to 101 (fun s6 wx => ∃ v : Nat, s6 = .float .f64 v ∧ v < 18446744073709551616 ∧ w = wx)
    case first =>
      cases z1
      · cases z2
        · by_cases h3 : A = t.size
          · have h3' : ((A : Int) == (t.size : Int)) = true := by simp; omega
            go_wp2_with fail
            go_ret2
            exact ⟨rfl, Below.refl _ _⟩
          · have h3' : ((A : Int) == (t.size : Int)) = false := by simp; omega
            have h4 : (A : Int) + 1 ≤ (t.size : Int) := by omega
            have h5 : (A : Int) ≤ (t.size : Int) := by omega
            have h6 : (A : Int) + 1 ≤ 9223372036854775807 := by omega
            go_wp2_with fail
            refine (digits_some _ _).mono ?_
            rintro e w' ⟨m, ok, rfl, hm, rfl⟩
            obtain ⟨mI, hmI⟩ : ∃ v : Int, v = (m : Int) := ⟨_, rfl⟩
            rw [← hmI]
            have hm0 : 0 ≤ mI := by omega
            have hm1 : mI < 1000000000000000000 := by omega
            have HMI := Lib.hid hmI
            clear hmI
            go_upto_region 11 with fail
            obtain ⟨p, hp⟩ : ∃ p, p = t.extract (A + 1) t.size := ⟨_, rfl⟩
            rw [← hp]
            clear hp
            go_cut [11] from 49 to 56 (fun s11 wx => ∃ d : Bool, s11 = .bool d ∧ (d = true → 0 < p.size) ∧ w = wx)
            case first =>
              by_cases h0 : 0 < p.size
              · have h0' : (0 : Int) < (p.size : Int) := by omega
                obtain ⟨c, hc⟩ : ∃ c, (p[0]'h0).toNat = c := ⟨_, rfl⟩
                obtain ⟨d, hd⟩ : ∃ d : Bool, ((c : Int) == 45) = d := ⟨_, rfl⟩
                have H0 := Lib.hid h0
                go_wp2_with fail
                go_meet
                exact ⟨d, by rw [← hd], fun _ => H0.out, rfl⟩
              · have h0' : decide ((0 : Int) < (p.size : Int)) = false := decide_eq_false (by omega)
                go_wp2_with fail
                go_meet
                exact ⟨false, rfl, fun h => (by cases h), rfl⟩
            case rest =>
            obtain ⟨d, rfl, hd, rfl⟩ := hcut
            have HD0 := Lib.hid hd
            clear hd
            go_upto_if 57 with fail
            go_cut [10] from 57 to 59 (fun s10 wx => ∃ p2 : ByteArray, s10 = .string p2 ∧ w = wx)
            case first =>
              cases d
              · go_wp2_with fail
                go_meet
                exact ⟨_, rfl, rfl⟩
              · have h0 : (1 : Int) ≤ (p.size : Int) := by have := HD0.out (by trivial); omega
                go_wp2_with fail
                go_meet
                exact ⟨_, rfl, rfl⟩
            case rest =>
            obtain ⟨p2, rfl, rfl⟩ := hcut
            go_wp2_with fail
            refine (digits_some _ _).mono ?_
            rintro e w' ⟨E, is, rfl, hE, rfl⟩
            obtain ⟨EI, hEI⟩ : ∃ v : Int, v = (E : Int) := ⟨_, rfl⟩
            rw [← hEI]
            have hE0 : 0 ≤ EI := by omega
            have hE1 : EI < 1000000000000000000 := by omega
            have HEI := Lib.hid hEI
            clear hEI
            go_upto_region 15 with fail
            go_cut [78] from 65 to 78 (fun s78 wx => ∃ g : Bool, s78 = .bool g ∧ (g = false → m < 9007199254740992 ∧ E ≤ 1100) ∧ w = wx)
            case first =>
              cases ok
              · go_wp2_with fail
                go_meet
                exact ⟨true, rfl, fun h => (by cases h), rfl⟩
              · cases is
                · go_wp2_with fail
                  go_meet
                  exact ⟨true, rfl, fun h => (by cases h), rfl⟩
                · by_cases h7 : 9007199254740992 ≤ mI
                  · have h7' : decide (9007199254740992 ≤ mI) = true := decide_eq_true h7
                    go_wp2_with fail
                    go_meet
                    exact ⟨true, rfl, fun h => (by cases h), rfl⟩
                  · have h7' : decide (9007199254740992 ≤ mI) = false := decide_eq_false h7
                    by_cases h8 : 1100 < EI
                    · have h8' : decide (1100 < EI) = true := decide_eq_true h8
                      go_wp2_with fail
                      go_meet
                      exact ⟨true, rfl, fun h => (by cases h), rfl⟩
                    · have h8' : decide (1100 < EI) = false := decide_eq_false h8
                      have HX : Hid (m < 9007199254740992 ∧ E ≤ 1100) := Lib.hid (by have := HMI.out; have := HEI.out; omega)
                      clear h7 h8
                      go_wp2_with fail
                      go_meet
                      exact ⟨false, rfl, fun _ => HX.out, rfl⟩
            case rest =>
            obtain ⟨g, rfl, hg2, rfl⟩ := hcut
            have HGG := Lib.hid hg2
            clear hg2
            cases g
            · have hgm := (HGG.out (by trivial)).1
              have hge := (HGG.out (by trivial)).2
              have he3 : EI ≤ 1100 := by have := HEI.out; omega
              have HM53 := Lib.hid hgm
              clear hgm hge
              go_upto_if 79 with fail
              go_cut [12] from 79 to 81 (fun s12 wx => ∃ ex : Int, s12 = .int .i64 ex ∧ -1100 ≤ ex ∧ ex ≤ 1100 ∧ w = wx)
              case first =>
                cases d
                · go_wp2_with fail
                  go_meet
                  exact ⟨EI, rfl, by omega, by omega, rfl⟩
                · go_wp2_with fail
                  go_meet
                  exact ⟨-EI, rfl, by omega, by omega, rfl⟩
              case rest =>
              obtain ⟨ex, rfl, hx1, hx2, rfl⟩ := hcut
              have hcv := floatOfInt_nat m
              obtain ⟨F, hF⟩ : ∃ F, F = i2r m := ⟨_, rfl⟩
              rw [← hF, ← HMI.out] at hcv
              have hci : ∀ W : World, (convert 3 26 (Value.int .i64 mI)).run Tryd.prog W = .ok (.float .f64 F) W := fun W =>
                (run_convert_int_float (P := Tryd.prog) (w := W) 3 26 .i64 .f64 mI (by rw [Tryd.underlying3]; rfl) Tryd.underlying26).trans (by rw [hcv])
              have hLd := fun W : World => Ldexp_some m ex W HM53.out (by omega) (by omega)
              rw [← hF] at hLd
              have HLD := Lib.hid hLd
              clear hF hcv hLd
              go_wp2_with fail
              refine (HLD.out _).mono ?_
              rintro e w' ⟨v, hv, rfl, rfl⟩
              have HV := Lib.hid hv
              clear hv hci
              go_wp2_with fail
              go_meet
              exact ⟨v, rfl, HV.out, rfl⟩
            · go_wp2_with fail
              go_ret2
              exact ⟨rfl, Below.refl _ _⟩
        · go_wp2_with fail
          go_meet
          exact ⟨0, rfl, by decide, rfl⟩
      · go_wp2_with fail
        refine (math_inf _).mono ?_
        rintro e w' ⟨rfl, rfl⟩
        go_wp2_with fail
        go_meet
        exact ⟨_, rfl, by decide, rfl⟩
    case rest =>
    obtain ⟨v, rfl, hv, rfl⟩ := hcut
    have HV := Lib.hid hv
    clear hv
    go_upto_if 102 with fail
    go_cut [6] from 102 to 104 (fun s6 wx => ∃ v2 : Nat, s6 = .float .f64 v2 ∧ v2 < 18446744073709551616 ∧ w = wx)
    case first =>
      cases b
      · go_wp2_with fail
        go_meet
        exact ⟨v, rfl, HV.out, rfl⟩
      · go_wp2_with fail
        refine (copysign_neg v _ HV.out).mono ?_
        rintro e w' ⟨rfl, rfl⟩
        go_wp2_with fail
        go_meet
        exact ⟨_, rfl, by have := nz_val; have := Nat.mod_lt v (show 0 < nz by omega); omega, rfl⟩
    case rest =>
    obtain ⟨v2, rfl, hv2, rfl⟩ := hcut
    have HV2 := Lib.hid hv2
    clear hv2
    go_wp2_with fail
    refine (RefText_any v2 _ HV2.out HT.out).mono ?_
    rintro e w2 ⟨s', hs', rfl, hb⟩
    have hne : (s'.toList == s.toList) = false := str_eq_false (fun h => HN.out v2 HV2.out (h ▸ hs'))
    have HB := Lib.hid hb
    clear hb hs'
    go_wp2_with fail
    go_ret2
    exact ⟨rfl, HB.out⟩
  · have h1' : A < t.size := HB2.out (by trivial)
    go_wp2_with fail
    go_roundg (t.size - (A + 1))
    case measure => omega
    case rel => exact ⟨A + 1, by go_num, rfl, by omega, rfl⟩
end Go.Proofs.YthfgjibhpenfkaaDoor
