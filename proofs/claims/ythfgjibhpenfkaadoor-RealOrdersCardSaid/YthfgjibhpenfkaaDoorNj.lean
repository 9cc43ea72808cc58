/- Real: Read of a canonical text. -/
import Derived.Test.YthfgjibhpenfkaaDoorNz
import Derived.Test.YthfgjibhpenfkaaDoorRk
namespace Go.Proofs.YthfgjibhpenfkaaDoor
open Go.RowKit Fl

def lab (l : Nat) (a : Act) : Nat := (if l = 1 then 2000 else 1000) - (rdA a).toNat
theorem lab_lt {l : Nat} {a a' : Act} {A : Nat} (h : rdA a = (A : Int)) (h' : rdA a' = (A : Int) + 1) (hA : A ≤ 80) : lab l a' < lab l a := by
  unfold lab
  rw [h, h']
  split <;> omega
theorem lab_21 {a a' : Act} {A : Nat} (h : rdA a = (A : Int)) (hA : A ≤ 80) : lab 2 a' < lab 1 a := by
  unfold lab
  rw [h]
  simp only [if_true]
  rw [if_neg (by decide)]
  omega
set_option maxRecDepth 100000 in
set_option maxHeartbeats 4000000 in
theorem read_canon (s : ByteArray) (o k q k2 n E r y : Nat) (ex : Int) (w : World) (hC : Canon s o k q k2 n E) (hex : ex = if q = 1 then -(E : Int) else (E : Int)) (hod : OddOf r n ex) (h0 : 0 < r) (hr : r < inf) (hn0 : 0 < n)
    (hy : y = if o = 1 then nz + r else r) (hT : TextIs y s) (ht : Pow10 w) :
    Calls Tryd.prog 15 #[.string s] w fun e w' => e = .returned (.tuple #[.float .f64 y, .int .i64 0]) ∧ Below w.heap.size w w' := by
  have c1 := canon_ne hC nanB (by decide +kernel)
  have c2 := canon_ne hC infB (by decide +kernel)
  have c3 := canon_ne hC ⟨#[45, 105, 110, 102]⟩ (by decide +kernel)
  have c4 := canon_ne hC zeroB (by decide +kernel)
  have c5 := canon_ne hC ⟨#[45, 48]⟩ (by decide +kernel)
  have c6 := canon_ne hC ⟨#[]⟩ (by decide +kernel)
  have e1 : (s.toList == [110, 97, 110]) = false := by simpa [nanB] using str_eq_false c1
  have e2 : (s.toList == [105, 110, 102]) = false := by simpa [infB] using str_eq_false c2
  have e3 : (s.toList == [45, 105, 110, 102]) = false := by simpa  using str_eq_false c3
  have e4 : (s.toList == [48]) = false := by simpa [zeroB] using str_eq_false c4
  have e5 : (s.toList == [45, 48]) = false := by simpa  using str_eq_false c5
  have e6 : s.toList.isEmpty = false := by
    cases hh : s.toList with
    | nil => exact absurd (str_eq_false (b := ⟨#[]⟩) c6) (by rw [hh]; simp)
    | cons _ _ => rfl
  clear c1 c2 c3 c4 c5 c6
  have HC := Lib.hid hC
  have HM := Lib.hid (And.intro hex (And.intro hod (And.intro h0 (And.intro hr hn0))))
  have HY := Lib.hid (And.intro hy (And.intro hT ht))
  have hsz := hC.size
  have hk1 := hC.k1
  have hk20 := hC.k20
  have hj20 := hC.j20
  clear hC hex hod h0 hr hn0 hy hT ht
  go_enter Tryd.func15, Tryd.ntmps15
  go_wp2
  refine wp_scope_labels (fun l a w' => w = w' ∧ ((l = 1 ∧ ∃ j, 1 ≤ j ∧ j ≤ k ∧ a = rdF (rdU a) (.string s) (.float .f64 0) (.int .i64 ((o + j : Nat) : Int)) (.int .u64 ((n / 10 ^ (k - j) : Nat) : Int)) (.int .i64 0) (.bool false)) ∨
    (l = 2 ∧ ∃ j, 1 ≤ j ∧ j ≤ k2 ∧ a = rdF (rdU a) (.string s) (.float .f64 0) (.int .i64 ((o + k + 1 + q + j : Nat) : Int)) (.int .u64 (n : Int)) (.int .i64 ((E / 10 ^ (k2 - j) : Nat) : Int)) (.bool (q == 1))))) (fun l a w => lab l a) ?_ ?_
  · -- the way to the first digit
    have hsp : 0 < s.size := by omega
    obtain ⟨cu, h1, h2, h3, h4⟩ := HC.out.dig 0 (by omega)
    rw [Nat.add_zero] at h1
    obtain ⟨hlt, h5⟩ := Array.getElem?_eq_some_iff.1 h1
    have hb : (s[o]'hlt).toNat = cu.toNat := congrArg UInt8.toNat h5
    rw [Nat.sub_zero, HC.out.z1, Nat.mul_zero] at h4
    simp only [Nat.zero_add] at h4
    generalize hcu : cu.toNat = c at h2 h3 h4 hb
    clear h1 h5 hcu
    have ho := HC.out.ho
    have hsg := HC.out.sgn
    rcases ho with rfl | rfl
    · have hne : ((c : Int) == 45) = false := by simp; omega
      have hc1 : (48 : Int) ≤ (c : Int) := by omega
      have hc2 : (c : Int) ≤ 57 := by omega
      have H4 := Lib.hid h4
      clear h4 hsg h2 h3
      go_wp2
      go_step3
      go_wp2
      go_step3
      refine ⟨rfl, .inl ⟨rfl, 1, Nat.le_refl _, hk1, ?_⟩⟩
      have g6 : ((n / 10 ^ (k - 1) : Nat) : Int) = (c : Int) - 48 := by have := H4.out; omega
      rw [g6]
      rfl
    · have hsg0 := hsg rfl
      obtain ⟨_, h6⟩ := Array.getElem?_eq_some_iff.1 hsg0
      have hb0 : (s[0]'hsp).toNat = 45 := congrArg UInt8.toNat h6
      have hc1 : (48 : Int) ≤ (c : Int) := by omega
      have hc2 : (c : Int) ≤ 57 := by omega
      have H4 := Lib.hid h4
      clear h4 hsg hsg0 h6 h2 h3
      go_wp2
      go_step3
      go_wp2
      go_step3
      refine ⟨rfl, .inl ⟨rfl, 1, Nat.le_refl _, hk1, ?_⟩⟩
      have g6 : ((n / 10 ^ (k - 1) : Nat) : Int) = (c : Int) - 48 := by have := H4.out; omega
      rw [g6]
      rfl
  · rintro l a w' ⟨rfl, ⟨rfl, j, hj1, hjk, ha⟩ | ⟨rfl, j, hj1, hjk, ha⟩⟩
    · refine ⟨_, rfl, ?_⟩
      obtain ⟨u, hu⟩ : ∃ u, u = rdU a := ⟨_, rfl⟩
      rw [← hu] at ha
      clear hu
      subst ha
      unfold rdF
      have hm53 : n / 10 ^ (k - j) < 9007199254740992 := Nat.lt_of_le_of_lt (Nat.div_le_self _ _) HC.out.n53
      have ho := HC.out.ho
      have hq := HC.out.hq
      by_cases hlt : j < k
      · obtain ⟨cu, h1, h2, h3, h4⟩ := HC.out.dig j hlt
        generalize hA : o + j = A at h1 ⊢
        obtain ⟨hAs, h5⟩ := Array.getElem?_eq_some_iff.1 h1
        have hb : (s[A]'hAs).toNat = cu.toNat := congrArg UInt8.toNat h5
        generalize hcu : cu.toNat = c at h2 h3 h4 hb
        obtain ⟨m, hm⟩ : ∃ m : Int, m = ((n / 10 ^ (k - j) : Nat) : Int) := ⟨_, rfl⟩
        rw [← hm]
        have hm0 : 0 ≤ m := by omega
        have hm1 : m < 9007199254740992 := by omega
        have h4' : ((n / 10 ^ (k - (j + 1)) : Nat) : Int) = 10 * m + ((c : Int) - 48) := by omega
        have hc1 : (48 : Int) ≤ (c : Int) := by omega
        have hc2 : (c : Int) ≤ 57 := by omega
        have hA1 : (A : Int) < (o : Int) + k + 1 + q + k2 := by omega
        have hA2 : A ≤ 40 := by omega
        have H4 := Lib.hid (And.intro h4' (And.intro hA (And.intro hlt hjk)))
        clear h1 h5 h4 h4' hcu hm h2 h3 hA hlt hm53
        go_wp2
        go_step3
        refine ⟨⟨rfl, .inl ⟨rfl, j + 1, by omega, H4.out.2.2.1, ?_⟩⟩, ?_⟩
        · have g5 : ((o + (j + 1) : Nat) : Int) = (A : Int) + 1 := by have := H4.out.2.1; omega
          rw [g5, H4.out.1]
          rfl
        · exact lab_lt (A := A) rfl rfl (by omega)
      · obtain rfl : j = k := by omega
        have hmn : n / 10 ^ (j - j) = n := by rw [Nat.sub_self, Nat.pow_zero, Nat.div_one]
        rw [hmn]
        obtain ⟨mN, hmN⟩ : ∃ m : Int, m = (n : Int) := ⟨_, rfl⟩
        rw [← hmN]
        have hm0 : 0 ≤ mN := by omega
        have hm1 : mN < 9007199254740992 := by omega
        have HMN := Lib.hid hmN
        obtain ⟨cu, h1, h2, h3, h4⟩ := HC.out.dig2 0 (by have := HC.out.j1; omega)
        rw [Nat.sub_zero, HC.out.z2, Nat.mul_zero] at h4
        simp only [Nat.zero_add] at h4
        have hpe := HC.out.pe
        have hng := HC.out.neg
        have hj1' := HC.out.j1
        generalize hA : o + j = A at h1 hpe hng ⊢
        obtain ⟨hAs, h5⟩ := Array.getElem?_eq_some_iff.1 hpe
        have hb : (s[A]'hAs).toNat = 112 := congrArg UInt8.toNat h5
        have hA1 : (A : Int) + 1 < (o : Int) + j + 1 + q + k2 := by omega
        have hA2 : A ≤ 40 := by omega
        have hA3 : ((A : Int) == (o : Int) + j + 1 + q + k2) = false := by simp; omega
        clear hpe h5 hlt hm53 hmn hmN
        rcases hq with rfl | rfl
        · obtain ⟨hBs, h5⟩ := Array.getElem?_eq_some_iff.1 h1
          have hb2 : (s[A + 1]'hBs).toNat = cu.toNat := congrArg UInt8.toNat h5
          generalize hcu : cu.toNat = c at h2 h3 h4 hb2
          have hc1 : (48 : Int) ≤ (c : Int) := by omega
          have hc2 : (c : Int) ≤ 57 := by omega
          have hne : ((c : Int) == 45) = false := by simp; omega
          have hA4 : (A : Int) + 1 < (o : Int) + j + 1 + k2 := by omega
          have hA5 : ((A : Int) == (o : Int) + j + 1 + k2) = false := by simp; omega
          have h4' : ((E / 10 ^ (k2 - 1) : Nat) : Int) = (c : Int) - 48 := by omega
          have H4 := Lib.hid (And.intro h4' hA)
          clear h1 h5 h4 h4' hcu h2 h3 hA hng hA1 hA3
          go_wp2
          go_step3
          go_wp2
          go_step3
          refine ⟨⟨rfl, .inr ⟨rfl, 1, Nat.le_refl _, hj1', ?_⟩⟩, lab_21 (A := A) rfl (by omega)⟩
          have g5 : ((A + 1 + 0 + 1 : Nat) : Int) = (A : Int) + 1 + 1 := by omega
          rw [g5, H4.out.1]
          rfl
        · have hng0 := hng rfl
          obtain ⟨hCs, h6⟩ := Array.getElem?_eq_some_iff.1 hng0
          have hb3 : (s[A + 1]'hCs).toNat = 45 := congrArg UInt8.toNat h6
          obtain ⟨hBs, h5⟩ := Array.getElem?_eq_some_iff.1 h1
          have hb2 : (s[A + 1 + 1]'hBs).toNat = cu.toNat := congrArg UInt8.toNat h5
          generalize hcu : cu.toNat = c at h2 h3 h4 hb2
          have hc1 : (48 : Int) ≤ (c : Int) := by omega
          have hc2 : (c : Int) ≤ 57 := by omega
          have hA4 : (A : Int) + 1 + 1 < (o : Int) + j + 1 + 1 + k2 := by omega
          have hA4' : (A : Int) + 1 < (o : Int) + j + 1 + 1 + k2 := by omega
          have hA5 : ((A : Int) == (o : Int) + j + 1 + 1 + k2) = false := by simp; omega
          have h4' : ((E / 10 ^ (k2 - 1) : Nat) : Int) = (c : Int) - 48 := by omega
          have H4 := Lib.hid (And.intro h4' hA)
          clear h1 h5 h4 h4' hcu h2 h3 hA hng hA1 hA3 hng0 h6
          go_wp2
          go_step3
          go_wp2
          go_step3
          refine ⟨⟨rfl, .inr ⟨rfl, 1, Nat.le_refl _, hj1', ?_⟩⟩, lab_21 (A := A) rfl (by omega)⟩
          have g5 : ((A + 1 + 1 + 1 : Nat) : Int) = (A : Int) + 1 + 1 + 1 := by omega
          rw [g5, H4.out.1]
          rfl
    · refine ⟨_, rfl, ?_⟩
      obtain ⟨u, hu⟩ : ∃ u, u = rdU a := ⟨_, rfl⟩
      rw [← hu] at ha
      clear hu
      subst ha
      unfold rdF
      have hE : E / 10 ^ (k2 - j) ≤ 1200 := Nat.le_trans (Nat.div_le_self _ _) HC.out.eb
      have ho := HC.out.ho
      have hq := HC.out.hq
      by_cases hlt : j < k2
      · obtain ⟨cu, h1, h2, h3, h4⟩ := HC.out.dig2 j hlt
        obtain ⟨A, hA⟩ : ∃ A, A = o + k + 1 + q + j := ⟨_, rfl⟩
        rw [← hA] at h1
        rw [← hA]
        obtain ⟨hAs, h5⟩ := Array.getElem?_eq_some_iff.1 h1
        have hb : (s[A]'hAs).toNat = cu.toNat := congrArg UInt8.toNat h5
        generalize hcu : cu.toNat = c at h2 h3 h4 hb
        obtain ⟨m, hm⟩ : ∃ m : Int, m = ((E / 10 ^ (k2 - j) : Nat) : Int) := ⟨_, rfl⟩
        rw [← hm]
        obtain ⟨mN, hmN⟩ : ∃ m : Int, m = (n : Int) := ⟨_, rfl⟩
        obtain ⟨z, hz⟩ : ∃ z : Bool, z = (q == 1) := ⟨_, rfl⟩
        rw [← hmN, ← hz]
        have hm0 : 0 ≤ m := by omega
        have hm1 : m < 10000 := by omega
        have h4' : ((E / 10 ^ (k2 - (j + 1)) : Nat) : Int) = 10 * m + ((c : Int) - 48) := by omega
        have hc1 : (48 : Int) ≤ (c : Int) := by omega
        have hc2 : (c : Int) ≤ 57 := by omega
        have hA1 : (A : Int) < (o : Int) + k + 1 + q + k2 := by omega
        have hA2 : A ≤ 60 := by omega
        have H4 := Lib.hid (And.intro h4' (And.intro hA (And.intro hlt hjk)))
        have HZ := Lib.hid (And.intro hmN hz)
        clear h1 h5 h4 h4' hcu hm h2 h3 hA hlt hE hmN hz
        go_wp2
        go_step3
        refine ⟨⟨rfl, .inr ⟨rfl, j + 1, by omega, H4.out.2.2.1, ?_⟩⟩, lab_lt (A := A) rfl rfl (by omega)⟩
        have g5 : ((o + k + 1 + q + (j + 1) : Nat) : Int) = (A : Int) + 1 := by have := H4.out.2.1; omega
        rw [g5, H4.out.1]
        rfl
      · obtain rfl : j = k2 := by omega
        have hEE : E / 10 ^ (j - j) = E := by rw [Nat.sub_self, Nat.pow_zero, Nat.div_one]
        rw [hEE]
        obtain ⟨A, hA⟩ : ∃ A, A = o + k + 1 + q + j := ⟨_, rfl⟩
        rw [← hA]
        have hcv := floatOfInt_nat n
        obtain ⟨F, hF⟩ : ∃ F, F = i2r n := ⟨_, rfl⟩
        rw [← hF] at hcv
        obtain ⟨mN, hmN⟩ : ∃ m : Int, m = (n : Int) := ⟨_, rfl⟩
        rw [← hmN] at hcv ⊢
        obtain ⟨mE, hmE⟩ : ∃ m : Int, m = (E : Int) := ⟨_, rfl⟩
        rw [← hmE]
        have hme0 : 0 ≤ mE := by omega
        have hme1 : mE ≤ 1200 := by have := HC.out.eb; omega
        have hA1 : (A : Int) = (o : Int) + k + 1 + q + j := by omega
        have hci : ∀ W : World, (convert 56 26 (Value.int .u64 mN)).run Tryd.prog W = .ok (.float .f64 F) W := fun W =>
          (run_convert_int_float (P := Tryd.prog) (w := W) 56 26 .u64 .f64 mN (by rw [Tryd.underlying56]; rfl) Tryd.underlying26).trans (by rw [hcv])
        have hsp : 0 < s.size := by omega
        have hLd := fun W : World => Ldexp_x r n ex W HM.out.2.1 HM.out.2.2.1 HM.out.2.2.2.1 HM.out.2.2.2.2 HC.out.n53 (by have h1 := HM.out.1; have h2 := HC.out.eb; split at h1 <;> omega) (by have h1 := HM.out.1; have h2 := HC.out.eb; split at h1 <;> omega)
        rw [← hF] at hLd
        have HLD := Lib.hid hLd
        have hex := HM.out.1
        have hr64 : r < nz := by have := HM.out.2.2.2.1; have := inf_lt_nz; omega
        have HR64 := Lib.hid hr64
        have hseq : (s.toList == s.toList) = true := by simp
        clear hlt hE hEE hF hmN hcv hLd hr64
        rcases hq with rfl | rfl
        · have hexe : ex = mE := by rw [hex]; simp; omega
          subst hexe
          clear hex
          rcases ho with rfl | rfl
          · have hA2 : (A : Int) = (k : Int) + 1 + (j : Int) := by omega
            obtain ⟨cu, h1, h2, h3, _⟩ := HC.out.dig 0 (by omega)
            obtain ⟨hcl, h5⟩ := Array.getElem?_eq_some_iff.1 h1
            have hb0 : (s[0]'hsp).toNat = cu.toNat := congrArg UInt8.toNat h5
            generalize hcu : cu.toNat = c at h2 h3 hb0
            have hne : ((c : Int) == 45) = false := by simp; omega
            have hyv : y = r := by rw [HY.out.1]; rfl
            clear h1 h2 h3 h5 hcu
            subst hyv
            clear hA hmE hA1
            go_wp2_with fail
            refine (HLD.out _).mono ?_
            rintro e w' ⟨rfl, rfl⟩
            go_wp2_with fail
            go_step3
            go_wp2_with fail
            refine (Text_any _ _ (by have h1 := HR64.out; have h2 := nz_val; omega) HY.out.2.2).mono ?_
            rintro e w2 ⟨s', hs', rfl, hb⟩
            obtain rfl := hs'.unique HY.out.2.1
            have HB := Lib.hid hb
            clear hb hs'
            go_wp2_with fail
            unfold Exit.jumps
            go_ret2
            exact ⟨rfl, HB.out⟩
          · have hA2 : (A : Int) = 1 + (k : Int) + 1 + (j : Int) := by omega
            obtain ⟨_, h6⟩ := Array.getElem?_eq_some_iff.1 (HC.out.sgn rfl)
            have hb0 : (s[0]'hsp).toNat = 45 := congrArg UInt8.toNat h6
            have hyv : y = nz + r := by rw [HY.out.1]; rfl
            have hneg : ∀ W : World, (Op.unary .neg (.float .f64 r)).run Tryd.prog W = .ok (.float .f64 (nz + r)) W := fun W => by rw [← neg_low r HR64.out]; rfl
            clear h6
            subst hyv
            clear hA hmE hA1
            go_wp2_with fail
            refine (HLD.out _).mono ?_
            rintro e w' ⟨rfl, rfl⟩
            go_wp2_with fail
            go_step3
            go_wp2_with fail
            refine (Text_any _ _ (by have h1 := HR64.out; have h2 := nz_val; omega) HY.out.2.2).mono ?_
            rintro e w2 ⟨s', hs', rfl, hb⟩
            obtain rfl := hs'.unique HY.out.2.1
            have HB := Lib.hid hb
            clear hb hs'
            go_wp2_with fail
            unfold Exit.jumps
            go_ret2
            exact ⟨rfl, HB.out⟩
        · have hexe : ex = -mE := by rw [hex]; simp; omega
          subst hexe
          clear hex
          rcases ho with rfl | rfl
          · have hA2 : (A : Int) = (k : Int) + 1 + 1 + (j : Int) := by omega
            obtain ⟨cu, h1, h2, h3, _⟩ := HC.out.dig 0 (by omega)
            obtain ⟨hcl, h5⟩ := Array.getElem?_eq_some_iff.1 h1
            have hb0 : (s[0]'hsp).toNat = cu.toNat := congrArg UInt8.toNat h5
            generalize hcu : cu.toNat = c at h2 h3 hb0
            have hne : ((c : Int) == 45) = false := by simp; omega
            have hyv : y = r := by rw [HY.out.1]; rfl
            clear h1 h2 h3 h5 hcu
            subst hyv
            clear hA hmE hA1
            go_wp2_with fail
            refine (HLD.out _).mono ?_
            rintro e w' ⟨rfl, rfl⟩
            go_wp2_with fail
            go_step3
            go_wp2_with fail
            refine (Text_any _ _ (by have h1 := HR64.out; have h2 := nz_val; omega) HY.out.2.2).mono ?_
            rintro e w2 ⟨s', hs', rfl, hb⟩
            obtain rfl := hs'.unique HY.out.2.1
            have HB := Lib.hid hb
            clear hb hs'
            go_wp2_with fail
            unfold Exit.jumps
            go_ret2
            exact ⟨rfl, HB.out⟩
          · have hA2 : (A : Int) = 1 + (k : Int) + 1 + 1 + (j : Int) := by omega
            obtain ⟨_, h6⟩ := Array.getElem?_eq_some_iff.1 (HC.out.sgn rfl)
            have hb0 : (s[0]'hsp).toNat = 45 := congrArg UInt8.toNat h6
            have hyv : y = nz + r := by rw [HY.out.1]; rfl
            have hneg : ∀ W : World, (Op.unary .neg (.float .f64 r)).run Tryd.prog W = .ok (.float .f64 (nz + r)) W := fun W => by rw [← neg_low r HR64.out]; rfl
            clear h6
            subst hyv
            clear hA hmE hA1
            go_wp2_with fail
            refine (HLD.out _).mono ?_
            rintro e w' ⟨rfl, rfl⟩
            go_wp2_with fail
            go_step3
            go_wp2_with fail
            refine (Text_any _ _ (by have h1 := HR64.out; have h2 := nz_val; omega) HY.out.2.2).mono ?_
            rintro e w2 ⟨s', hs', rfl, hb⟩
            obtain rfl := hs'.unique HY.out.2.1
            have HB := Lib.hid hb
            clear hb hs'
            go_wp2_with fail
            unfold Exit.jumps
            go_ret2
            exact ⟨rfl, HB.out⟩
end Go.Proofs.YthfgjibhpenfkaaDoor
