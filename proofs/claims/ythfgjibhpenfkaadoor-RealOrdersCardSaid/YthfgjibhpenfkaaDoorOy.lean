/- The texts Oi, Oj in one. -/
import Derived.Test.YthfgjibhpenfkaaDoorOh
/- Real: the document's Read of a canonical text. -/
namespace Go.Proofs.YthfgjibhpenfkaaDoor
open Go.RowKit Fl

theorem ext_get (s : ByteArray) (a b j : Nat) (hb : b ≤ s.size) (hj : a + j < b) : (s.extract a b).data[j]? = s.data[a + j]? := by
  rw [ByteArray.data_extract, Array.getElem?_extract, if_pos (by show j < min b s.size - a; omega)]
theorem nDigits_le17 (n : Nat) (h : n < 9007199254740992) : Lib.nDigits n ≤ 17 := by
  have key : ∀ k n, n < 10 ^ k → Lib.nDigits n ≤ k + 1 := by
    intro k
    induction k with
    | zero => intro n h; rw [Lib.nDigits_small (by omega)]; exact Nat.le_refl _
    | succ k ih =>
      intro n h
      by_cases h1 : n < 10
      · rw [Lib.nDigits_small h1]; omega
      · rw [Lib.nDigits_big h1]
        have := ih (n / 10) (by rw [Nat.pow_succ] at h; omega)
        omega
  exact key 16 n (Nat.lt_of_lt_of_le h (by decide))
theorem ne_112 {t u : ByteArray} {k : Nat} (h : t.data[k]? = some 112) (hu : u.data.all (· != 112) = true) : (t.toList == u.toList) = false := by
  refine str_eq_false ?_
  rintro rfl
  obtain ⟨h1, h2⟩ := Array.getElem?_eq_some_iff.1 h
  have := Array.all_eq_true.1 hu k h1
  rw [h2] at this
  simp at this
/-- a byte of a string, as the walk meets it -/
theorem byte_at {s : ByteArray} {i : Nat} {c : UInt8} (h : s.data[i]? = some c) : ∃ h1 : i < s.size, (s[i]'h1).toNat = c.toNat := by
  obtain ⟨h1, h2⟩ := Array.getElem?_eq_some_iff.1 h
  exact ⟨h1, congrArg UInt8.toNat h2⟩
set_option maxRecDepth 100000 in
set_option maxHeartbeats 4000000 in
theorem refread_canon (s : ByteArray) (o k q k2 n E r y : Nat) (ex : Int) (w : World) (hC : Canon s o k q k2 n E) (hk17 : k ≤ 17) (hj17 : k2 ≤ 17) (hE : E ≤ 1100) (hex : ex = if q = 1 then -(E : Int) else (E : Int)) (hod : OddOf r n ex) (h0 : 0 < r) (hr : r < inf) (hn0 : 0 < n)
    (hy : y = if o = 1 then nz + r else r) (hT : TextIs y s) (ht : Pow10 w) :
    Calls Tryd.prog 19 #[.string s] w fun e w' => e = .returned (.tuple #[.float .f64 y, .int .i64 0]) ∧ Below w.heap.size w w' := by
  have e1 : (s.toList == [110, 97, 110]) = false := by simpa [nanB] using ne_112 hC.pe (u := nanB) (by decide +kernel)
  have HC := Lib.hid hC
  have HM := Lib.hid (And.intro hex (And.intro hod (And.intro h0 (And.intro hr hn0))))
  have HY := Lib.hid (And.intro hy (And.intro hT ht))
  have HK := Lib.hid (And.intro hk17 (And.intro hj17 hE))
  have hsz := hC.size
  have hsz2 : 0 < s.size := by omega
  have hk1 := hC.k1
  have hj1 := hC.j1
  have ho := hC.ho
  have hq := hC.hq
  have hsm : s.size ≤ 100 := by omega
  clear hC hex hod h0 hr hn0 hy hT ht hsz
  obtain ⟨b, hb⟩ : ∃ b : Bool, b = decide (o = 1) := ⟨_, rfl⟩
  obtain ⟨t, ht⟩ : ∃ t : ByteArray, t = if o = 1 then s.extract 1 s.size else s := ⟨_, rfl⟩
  have htz : t.size = k + 1 + q + k2 := by
    have := HC.out.size
    rw [ht]
    split
    · rw [ByteArray.size_extract]; omega
    · omega
  have htg : ∀ j, j < k + 1 + q + k2 → t.data[j]? = s.data[o + j]? := by
    intro j hj
    have := HC.out.size
    rw [ht]
    split
    · next h => rw [ext_get s 1 s.size j (Nat.le_refl _) (by omega), h]
    · next h => rw [show o = 0 by omega, Nat.zero_add]
  have HTG := Lib.hid htg
  have HTZ := Lib.hid htz
  have HTT := Lib.hid ht
  have HBB := Lib.hid hb
  clear htg ht hb
  go_enter Tryd.func19, Tryd.ntmps19
  go_upto_region 2 with fail
  go_cut [5] from 15 to 22 (fun s5 wx => s5 = .bool b ∧ w = wx)
  case first =>
    have h0' : (0 : Int) < (s.size : Int) := by omega
    rcases ho with rfl | rfl
    · obtain ⟨cu, h1, h2, h3, _⟩ := HC.out.dig 0 (by omega)
      obtain ⟨h4, h5⟩ := byte_at h1
      generalize cu.toNat = c at h2 h3 h5
      have h6 : ((c : Int) == 45) = false := by simp; omega
      have hb : b = false := by rw [HBB.out]; rfl
      clear h1
      go_wp2_with fail
      go_meet
      exact ⟨by rw [hb], rfl⟩
    · obtain ⟨h4, h5⟩ := byte_at (HC.out.sgn rfl)
      have h6 : (((s[0]'h4).toNat : Int) == 45) = true := by rw [h5]; rfl
      have hb : b = true := by rw [HBB.out]; rfl
      clear h5
      go_wp2_with fail
      go_meet
      exact ⟨by rw [hb], rfl⟩
  case rest =>
  obtain ⟨rfl, rfl⟩ := hcut
  go_upto_if 23 with fail
  go_cut [4] from 23 to 25 (fun s4 wx => s4 = .string t ∧ w = wx)
  case first =>
    have h0 : (1 : Int) ≤ (s.size : Int) := by omega
    cases b
    · have ho0 : o ≠ 1 := of_decide_eq_false HBB.out.symm
      have htt : t = s := by rw [HTT.out, if_neg ho0]
      go_wp2_with fail
      go_meet
      exact ⟨by rw [htt], rfl⟩
    · have ho1 : o = 1 := of_decide_eq_true HBB.out.symm
      have htt : t = s.extract 1 s.size := by rw [HTT.out, if_pos ho1]
      go_wp2_with fail
      go_meet
      exact ⟨by rw [htt], rfl⟩
  case rest =>
  obtain ⟨rfl, rfl⟩ := hcut
  clear htz
  go_upto_region 7 with fail
  go_loopg [7] k (fun g s7 wx => ∃ A : Nat, s7 = .int .i64 (A : Int) ∧ g = k - A ∧ A ≤ k ∧ w = wx)
  case atStart => exact ⟨0, rfl, rfl, Nat.zero_le _, rfl⟩
  case round =>
  obtain ⟨A, rfl, hg, hA, rfl⟩ := hrel
  by_cases hlt : A < k
  · obtain ⟨cu, h1, h2, h3, _⟩ := HC.out.dig A hlt
    obtain ⟨h4, h5⟩ := byte_at ((HTG.out A (by omega)).trans h1)
    generalize cu.toNat = c at h2 h3 h5
    have h6 : ((c : Int) != 112) = true := by simp; omega
    have h7 : (A : Int) < (t.size : Int) := by omega
    have HL := Lib.hid (And.intro hlt hg)
    clear h1 hlt hg
    go_wp2_with fail
    go_roundg (k - (A + 1))
    case measure => have := HL.out; omega
    case rel => exact ⟨A + 1, by go_num, rfl, HL.out.1, rfl⟩
  · obtain rfl : A = k := by omega
    obtain ⟨h4, h5⟩ := byte_at ((HTG.out A (by omega)).trans HC.out.pe)
    have h5' : (((t[A]'h4).toNat : Int) != 112) = false := by rw [h5]; rfl
    have h7 : (A : Int) < (t.size : Int) := by omega
    have z1 : (t.toList == [105, 110, 102]) = false := by simpa [infB] using ne_112 ((HTG.out A (by omega)).trans HC.out.pe) (u := infB) (by decide +kernel)
    have z2 : (t.toList == [48]) = false := by simpa [zeroB] using ne_112 ((HTG.out A (by omega)).trans HC.out.pe) (u := zeroB) (by decide +kernel)
    have h3' : ((A : Int) == (t.size : Int)) = false := by have := HTZ.out; simp; omega
    have h8 : (A : Int) + 1 ≤ (t.size : Int) := by omega
    have h9 : (A : Int) ≤ (t.size : Int) := by omega
    have h10 : (A : Int) ≤ 100 := by have := HK.out.1; omega
    clear hlt hg h5
    go_wp2_with fail
    refine (digits_canon (t.extract 0 A) A n _ (by rw [ByteArray.size_extract]; omega) hk1 hk17 HC.out.z1 HC.out.n53 (fun j hj => by
      obtain ⟨c, e1, e2⟩ := HC.out.dig j hj
      exact ⟨c, by rw [ext_get t 0 A j (by omega) (by omega), Nat.zero_add, HTG.out j (by omega)]; exact e1, e2⟩)).mono ?_
    rintro e w' ⟨rfl, rfl⟩
    obtain ⟨mI, hmI⟩ : ∃ v : Int, v = (n : Int) := ⟨_, rfl⟩
    rw [← hmI]
    have hm0 : 0 ≤ mI := by omega
    have hm1 : mI < 9007199254740992 := by have := HC.out.n53; omega
    have HMI := Lib.hid hmI
    clear hmI
    go_upto_region 11 with fail
    obtain ⟨p, hp⟩ : ∃ p, p = t.extract (A + 1) t.size := ⟨_, rfl⟩
    rw [← hp]
    have HPZ : Hid (p.size = q + k2) := Lib.hid (by rw [hp, ByteArray.size_extract]; have := HTZ.out; omega)
    have HPG : Hid (∀ j, j < q + k2 → p.data[j]? = s.data[o + A + 1 + j]?) := Lib.hid (fun j hj => by
      have := HTZ.out
      rw [hp, ext_get t (A + 1) t.size j (Nat.le_refl _) (by omega), HTG.out (A + 1 + j) (by omega)]
      congr 1; omega)
    clear hp
    obtain ⟨d, hd⟩ : ∃ d : Bool, d = decide (q = 1) := ⟨_, rfl⟩
    have HDD := Lib.hid hd
    clear hd
    obtain ⟨p2, hp2⟩ : ∃ p2 : ByteArray, p2 = if q = 1 then p.extract 1 p.size else p := ⟨_, rfl⟩
    have HP2Z : Hid (p2.size = k2) := Lib.hid (by
      have := HPZ.out
      rw [hp2]
      split
      · rw [ByteArray.size_extract]; omega
      · omega)
    have HP2G : Hid (∀ j, j < k2 → p2.data[j]? = s.data[o + A + 1 + q + j]?) := Lib.hid (fun j hj => by
      have := HPZ.out
      rw [hp2]
      split
      · next h => rw [ext_get p 1 p.size j (Nat.le_refl _) (by omega), HPG.out (1 + j) (by omega)]; congr 1; omega
      · next h => rw [HPG.out j (by omega)]; congr 1; omega)
    have HP2 := Lib.hid hp2
    clear hp2
    have hp0 : 0 < p.size := by have := HPZ.out; omega
    have hp0' : (0 : Int) < (p.size : Int) := by omega
    go_cut [11] from 49 to 56 (fun s11 wx => s11 = .bool d ∧ w = wx)
    case first =>
      rcases hq with rfl | rfl
      · obtain ⟨cu, h1, h2, h3, _⟩ := HC.out.dig2 0 (by omega)
        obtain ⟨h4, h5⟩ := byte_at ((HPG.out 0 (by omega)).trans h1)
        generalize cu.toNat = c at h2 h3 h5
        have h6 : ((c : Int) == 45) = false := by simp; omega
        have hd : d = false := by rw [HDD.out]; rfl
        clear h1
        go_wp2_with fail
        go_meet
        exact ⟨by rw [hd], rfl⟩
      · obtain ⟨h4, h5⟩ := byte_at ((HPG.out 0 (by omega)).trans (HC.out.neg rfl))
        have h6 : (((p[0]'h4).toNat : Int) == 45) = true := by rw [h5]; rfl
        have hd : d = true := by rw [HDD.out]; rfl
        clear h5
        go_wp2_with fail
        go_meet
        exact ⟨by rw [hd], rfl⟩
    case rest =>
    obtain ⟨rfl, rfl⟩ := hcut
    go_upto_if 57 with fail
    go_cut [10] from 57 to 59 (fun s10 wx => s10 = .string p2 ∧ w = wx)
    case first =>
      have h0 : (1 : Int) ≤ (p.size : Int) := by omega
      cases d
      · have hh : p2 = p := by rw [HP2.out, if_neg (of_decide_eq_false HDD.out.symm)]
        go_wp2_with fail
        go_meet
        exact ⟨by rw [hh], rfl⟩
      · have hh : p2 = p.extract 1 p.size := by rw [HP2.out, if_pos (of_decide_eq_true HDD.out.symm)]
        go_wp2_with fail
        go_meet
        exact ⟨by rw [hh], rfl⟩
    case rest =>
    obtain ⟨rfl, rfl⟩ := hcut
    go_wp2_with fail
    refine (digits_canon p2 k2 E _ HP2Z.out hj1 hj17 HC.out.z2 (by omega) (fun j hj => by
      obtain ⟨c, e1, e2⟩ := HC.out.dig2 j hj
      exact ⟨c, by rw [HP2G.out j hj]; exact e1, e2⟩)).mono ?_
    rintro e w' ⟨rfl, rfl⟩
    obtain ⟨EI, hEI⟩ : ∃ v : Int, v = (E : Int) := ⟨_, rfl⟩
    rw [← hEI]
    have hE0 : 0 ≤ EI := by omega
    have hE1 : EI ≤ 1100 := by omega
    have HEI := Lib.hid hEI
    clear hEI
    have g1 : decide (9007199254740992 ≤ mI) = false := decide_eq_false (by omega)
    have g2 : decide (1100 < EI) = false := decide_eq_false (by omega)
    go_upto_if 79 with fail
    go_cut [12] from 79 to 81 (fun s12 wx => s12 = .int .i64 ex ∧ w = wx)
    case first =>
      cases d
      · have hh : ex = EI := by rw [HM.out.1, if_neg (of_decide_eq_false HDD.out.symm), HEI.out]
        have HH := Lib.hid hh
        clear hh
        go_wp2_with fail
        go_meet
        exact ⟨by rw [HH.out], rfl⟩
      · have hh : ex = -EI := by rw [HM.out.1, if_pos (of_decide_eq_true HDD.out.symm), HEI.out]
        have HH := Lib.hid hh
        clear hh
        go_wp2_with fail
        go_meet
        exact ⟨by rw [HH.out], rfl⟩
    case rest =>
    obtain ⟨rfl, rfl⟩ := hcut
    have hcv := floatOfInt_nat n
    obtain ⟨F, hF⟩ : ∃ F, F = i2r n := ⟨_, rfl⟩
    rw [← hF, ← HMI.out] at hcv
    have hci : ∀ W : World, (convert 3 26 (Value.int .i64 mI)).run Tryd.prog W = .ok (.float .f64 F) W := fun W =>
      (run_convert_int_float (P := Tryd.prog) (w := W) 3 26 .i64 .f64 mI (by rw [Tryd.underlying3]; rfl) Tryd.underlying26).trans (by rw [hcv])
    have hLd := fun W : World => Ldexp_x r n ex W HM.out.2.1 HM.out.2.2.1 HM.out.2.2.2.1 HM.out.2.2.2.2 HC.out.n53 (by have h1 := HM.out.1; have h2 := HC.out.eb; split at h1 <;> omega) (by have h1 := HM.out.1; have h2 := HC.out.eb; split at h1 <;> omega)
    rw [← hF] at hLd
    have HLD := Lib.hid hLd
    clear hF hcv hLd
    go_wp2_with fail
    refine (HLD.out _).mono ?_
    rintro e w' ⟨rfl, rfl⟩
    clear hci
    have HR64 : Hid (r < 18446744073709551616 ∧ r < nz) := Lib.hid (by have := HM.out.2.2.2.1; have := inf_val; have := nz_val; omega)
    have HY64 : Hid (y < 18446744073709551616) := Lib.hid (by have h1 := HY.out.1; have h2 := HR64.out.2; have h3 := nz_val; split at h1 <;> omega)
    have hseq : (s.toList == s.toList) = true := by simp
    cases b
    · have hyr : y = r := by rw [HY.out.1, if_neg (of_decide_eq_false HBB.out.symm)]
      go_wp2_with fail
      refine (RefText_any r _ HR64.out.1 HY.out.2.2).mono ?_
      rintro e w2 ⟨s', hs', rfl, hb⟩
      rw [← hyr] at hs'
      obtain rfl := hs'.unique HY.out.2.1
      have HB := Lib.hid hb
      have HYR := Lib.hid hyr
      clear hb hs' hyr
      go_wp2_with fail
      go_ret2
      exact ⟨by rw [HYR.out]; rfl, HB.out⟩
    · have hyr : y = r % nz + nz := by rw [HY.out.1, if_pos (of_decide_eq_true HBB.out.symm), Nat.mod_eq_of_lt HR64.out.2, Nat.add_comm]
      go_wp2_with fail
      refine (copysign_neg r _ HR64.out.1).mono ?_
      rintro e w' ⟨rfl, rfl⟩
      rw [← hyr]
      clear hyr
      go_wp2_with fail
      refine (RefText_any y _ HY64.out HY.out.2.2).mono ?_
      rintro e w2 ⟨s', hs', rfl, hb⟩
      obtain rfl := hs'.unique HY.out.2.1
      have HB := Lib.hid hb
      clear hb hs'
      go_wp2_with fail
      go_ret2
      exact ⟨rfl, HB.out⟩
end Go.Proofs.YthfgjibhpenfkaaDoor
/- Real: the document's Read of a special text. -/
namespace Go.Proofs.YthfgjibhpenfkaaDoor
open Go.RowKit Fl

set_option maxRecDepth 100000 in
set_option maxHeartbeats 1000000 in
theorem refread_nan (w : World) : Calls Tryd.prog 19 #[.string ⟨#[110, 97, 110]⟩] w fun e w' => e = .returned (.tuple #[.float .f64 9221120237041090561, .int .i64 0]) ∧ w = w' := by
  obtain ⟨s, hs⟩ : ∃ s : ByteArray, s = ⟨#[110, 97, 110]⟩ := ⟨_, rfl⟩
  have hsz : s.size = 3 := by rw [hs]; rfl
  have h0 : 0 < s.size := by omega
  have h0' : (0 : Int) < (s.size : Int) := by omega
  have hb : (((s[0]'h0).toNat : Int) == 45) = false := by subst hs; rfl
  have e1 : (s.toList == [110, 97, 110]) = true := by rw [hs]; decide +kernel
  have hne : ∀ A (h : A < s.size), (((s[A]'h).toNat : Int) != 112) = true := by
    intro A h
    subst hs
    have hA : A < 3 := h
    rcases (show A = 0 ∨ A = 1 ∨ A = 2 by omega) with rfl | rfl | rfl <;> rfl
  have HNE := Lib.hid hne
  rw [← hs]
  have hs9 : s.size ≤ 9 := by omega
  clear hs hne hsz
  go_enter Tryd.func19, Tryd.ntmps19
  go_upto_region 7 with fail
  go_loopg [7] s.size (fun g s7 wx => ∃ A : Nat, s7 = .int .i64 (A : Int) ∧ g = s.size - A ∧ A ≤ s.size ∧ w = wx)
  case atStart => exact ⟨0, rfl, rfl, Nat.zero_le _, rfl⟩
  case round =>
  obtain ⟨A, rfl, hg, hA, rfl⟩ := hrel
  by_cases hlt : A < s.size
  · have h7 : (A : Int) < (s.size : Int) := by omega
    have h6 := HNE.out A hlt
    have h8 : (A : Int) ≤ 9 := by omega
    have HL := Lib.hid (And.intro hlt hg)
    clear hg
    go_wp2_with fail
    go_roundg (s.size - (A + 1))
    case measure => have := HL.out; omega
    case rel => exact ⟨A + 1, by go_num, rfl, HL.out.1, rfl⟩
  · have h7 : decide ((A : Int) < (s.size : Int)) = false := decide_eq_false (by omega)
    clear hg
    go_wp2_with fail
    refine (math_nan _).mono ?_
    rintro e w' ⟨rfl, rfl⟩
    go_wp2_with fail
    go_ret2
    exact ⟨rfl, rfl⟩
set_option maxRecDepth 100000 in
set_option maxHeartbeats 1000000 in
theorem refread_special (s t : ByteArray) (b : Bool) (v y : Nat) (w : World) (hsz : 0 < s.size) (hb : (((s[0]'hsz).toNat : Int) == 45) = b)
    (ht : t = if b then s.extract 1 s.size else s) (htz : t.size ≤ 9) (hne : ∀ A (h : A < t.size), (((t[A]'h).toNat : Int) != 112) = true)
    (e1 : (s.toList == [110, 97, 110]) = false) (hzi : ((t.toList == [105, 110, 102]) = true ∧ v = 9218868437227405312) ∨ ((t.toList == [105, 110, 102]) = false ∧ (t.toList == [48]) = true ∧ v = 0))
    (hy : y = if b then v % nz + nz else v) (hy64 : y < 18446744073709551616) (hv64 : v < 18446744073709551616) (hT : TextIs y s) (hP : Pow10 w) :
    Calls Tryd.prog 19 #[.string s] w fun e w' => e = .returned (.tuple #[.float .f64 y, .int .i64 0]) ∧ Below w.heap.size w w' := by
  have HT := Lib.hid (And.intro hT hP)
  have HTT := Lib.hid ht
  have HNE := Lib.hid hne
  have HY := Lib.hid (And.intro hy (And.intro hy64 hv64))
  have h0' : (0 : Int) < (s.size : Int) := by omega
  have h0'' : (1 : Int) ≤ (s.size : Int) := by omega
  have hseq : (s.toList == s.toList) = true := by simp
  clear hT hP ht hne hy hy64 hv64
  go_enter Tryd.func19, Tryd.ntmps19
  go_upto_if 23 with fail
  go_cut [4] from 23 to 25 (fun s4 wx => s4 = .string t ∧ w = wx)
  case first =>
    cases b
    · have htt : t = s := HTT.out
      go_wp2_with fail
      go_meet
      exact ⟨by rw [htt], rfl⟩
    · have htt : t = s.extract 1 s.size := HTT.out
      go_wp2_with fail
      go_meet
      exact ⟨by rw [htt], rfl⟩
  case rest =>
  obtain ⟨rfl, rfl⟩ := hcut
  clear hb
  go_upto_region 7 with fail
  go_loopg [7] t.size (fun g s7 wx => ∃ A : Nat, s7 = .int .i64 (A : Int) ∧ g = t.size - A ∧ A ≤ t.size ∧ w = wx)
  case atStart => exact ⟨0, rfl, rfl, Nat.zero_le _, rfl⟩
  case round =>
  obtain ⟨A, rfl, hg, hA, rfl⟩ := hrel
  by_cases hlt : A < t.size
  · have h7 : (A : Int) < (t.size : Int) := by omega
    have h6 := HNE.out A hlt
    have h8 : (A : Int) ≤ 9 := by omega
    have HL := Lib.hid (And.intro hlt hg)
    clear hg
    go_wp2_with fail
    go_roundg (t.size - (A + 1))
    case measure => have := HL.out; omega
    case rel => exact ⟨A + 1, by go_num, rfl, HL.out.1, rfl⟩
  · have h7 : decide ((A : Int) < (t.size : Int)) = false := decide_eq_false (by omega)
    clear hg
    go_upto_block 2 with fail
    go_cut [6] from 38 to 101 (fun s6 wx => s6 = .float .f64 v ∧ w = wx)
    case first =>
      rcases hzi with ⟨z1, hv⟩ | ⟨z1, z2, hv⟩
      · have HV := Lib.hid hv
        clear hv
        go_wp2_with fail
        refine (math_inf _).mono ?_
        rintro e w' ⟨rfl, rfl⟩
        go_wp2_with fail
        go_meet
        exact ⟨by rw [HV.out], rfl⟩
      · have HV := Lib.hid hv
        clear hv
        go_wp2_with fail
        go_meet
        exact ⟨by rw [HV.out], rfl⟩
    case rest =>
    obtain ⟨rfl, rfl⟩ := hcut
    cases b
    · have hyv : y = v := HY.out.1
      subst hyv
      go_wp2_with fail
      refine (RefText_any y _ HY.out.2.1 HT.out.2).mono ?_
      rintro e w2 ⟨s', hs', rfl, hb⟩
      obtain rfl := hs'.unique HT.out.1
      have HB := Lib.hid hb
      clear hb hs'
      go_wp2_with fail
      go_ret2
      exact ⟨rfl, HB.out⟩
    · have hyv : y = v % nz + nz := HY.out.1
      go_wp2_with fail
      refine (copysign_neg v _ HY.out.2.2).mono ?_
      rintro e w' ⟨rfl, rfl⟩
      rw [← hyv]
      clear hyv
      go_wp2_with fail
      refine (RefText_any y _ HY.out.2.1 HT.out.2).mono ?_
      rintro e w2 ⟨s', hs', rfl, hb⟩
      obtain rfl := hs'.unique HT.out.1
      have HB := Lib.hid hb
      clear hb hs'
      go_wp2_with fail
      go_ret2
      exact ⟨rfl, HB.out⟩
end Go.Proofs.YthfgjibhpenfkaaDoor
