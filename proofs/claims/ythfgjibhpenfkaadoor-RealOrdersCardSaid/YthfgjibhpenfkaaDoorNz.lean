/- The texts Ng, Nh, Ni in one. -/
import Derived.Test.YthfgjibhpenfkaaDoorNf
import Derived.Test.YthfgjibhpenfkaaDoorRj
/- Real: Ldexp of an odd number by its power: the float itself. -/
namespace Go.Proofs.YthfgjibhpenfkaaDoor
open Go.RowKit Fl

set_option maxRecDepth 100000 in
theorem ldexp_plain {r n : Nat} {ex : Int} (h : OddOf r n ex) (h0 : 0 < r) (hr : r < inf) (hn0 : 0 < n) (hn : n < 9007199254740992) :
    (∃ K : Nat, 1 ≤ K ∧ K ≤ 2046 ∧ r = K * 4503599627370496 + (n * 2 ^ (52 - n.log2) - 4503599627370496) ∧ (K : Int) = ex + 1023 + n.log2) ∨
    (r < 4503599627370496 ∧ ∃ D : Nat, 1 ≤ D ∧ D ≤ 52 ∧ r * 2 ^ D = n * 2 ^ (52 - n.log2) ∧ ex + 1023 + n.log2 = 1 - (D : Int)) := by
  obtain ⟨hL, h1, h2⟩ := log_norm hn0 hn
  obtain ⟨_, a, b, h3, h4⟩ := h
  have h5 : V r * 2 ^ (a + (52 - n.log2)) = n * 2 ^ (52 - n.log2) * 2 ^ b := by
    rw [Nat.pow_add, ← Nat.mul_assoc, h3, Nat.mul_assoc, Nat.mul_assoc, Nat.mul_comm (2 ^ b)]
  generalize hM : n * 2 ^ (52 - n.log2) = M at h1 h2 h5 ⊢
  generalize hl : n.log2 = L at hL h5 ⊢
  generalize hu : a + (52 - L) = u at h5
  by_cases hs : r < 4503599627370496
  · right
    refine ⟨hs, ?_⟩
    rw [V_sub hs] at h5
    rcases Nat.lt_or_ge b u with hub | hub
    · obtain ⟨D, hD⟩ : ∃ D, u = b + D := ⟨u - b, by omega⟩
      rw [hD, Nat.add_comm b D, Nat.pow_add, ← Nat.mul_assoc] at h5
      have h6 : r * 2 ^ D = M := Nat.eq_of_mul_eq_mul_right (Nat.two_pow_pos b) h5
      refine ⟨D, by omega, ?_, h6, by omega⟩
      rcases Nat.lt_or_ge 52 D with h7 | h7
      · have : 2 ^ 53 ≤ 2 ^ D := Nat.pow_le_pow_right (by decide) h7
        rw [show (2 : Nat) ^ 53 = 9007199254740992 from rfl] at this
        have : 2 ^ D ≤ r * 2 ^ D := Nat.le_mul_of_pos_left _ h0
        omega
      · exact h7
    · obtain ⟨D, hD⟩ : ∃ D, b = u + D := ⟨b - u, by omega⟩
      rw [hD, Nat.add_comm u D, Nat.pow_add, ← Nat.mul_assoc] at h5
      have h6 : r = M * 2 ^ D := Nat.eq_of_mul_eq_mul_right (Nat.two_pow_pos _) h5
      have : M ≤ M * 2 ^ D := Nat.le_mul_of_pos_right _ (Nat.two_pow_pos D)
      omega
  · left
    rw [V_normal (by omega), Nat.mul_assoc, ← Nat.pow_add] at h5
    obtain ⟨h6, h7⟩ := norm_unique (by omega) (by omega) h1 h2 h5
    rw [inf_val] at hr
    exact ⟨r / 4503599627370496, by omega, by omega, by omega, by omega⟩
theorem V_one : V 4607182418800017408 = 2 ^ E74 := by
  obtain ⟨c, hc⟩ : ∃ c, c = 1023 - 1 := ⟨_, rfl⟩
  have := (V_word 1023 4503599627370496 (by decide) (Nat.le_refl _) (by decide)).1
  rw [← hc, show 1023 * 4503599627370496 + (4503599627370496 - 4503599627370496) = 4607182418800017408 from rfl, show (4503599627370496 : Nat) = 2 ^ 52 from rfl, ← Nat.pow_add, show 52 + c = E74 by rw [E74_eq]; omega] at this
  exact this
theorem mul_one_r {r : Nat} (h0 : 0 < r) (hr : r < inf) : Ieee.double.mul 4607182418800017408 r = some r := by
  rw [mul_small _ _ (by decide) hr, fmul_exact (by decide) h0 h0 hr (by rw [V_one, Nat.mul_comm])]
theorem V_m53 (c : Nat) (hc : c = 970 - 1) : V 4368491638549381120 = 2 ^ (52 + c) := by
  have := (V_word 970 4503599627370496 (by decide) (Nat.le_refl _) (by decide)).1
  rw [← hc, show 970 * 4503599627370496 + (4503599627370496 - 4503599627370496) = 4368491638549381120 from rfl, show (4503599627370496 : Nat) = 2 ^ 52 from rfl, ← Nat.pow_add] at this
  exact this
theorem mul_m53 {r M D : Nat} (h0 : 0 < r) (hr : r < inf) (h1 : 4503599627370496 ≤ M) (h2 : M < 9007199254740992) (hD1 : 1 ≤ D) (hD : D ≤ 52) (hs : r < 4503599627370496) (h : r * 2 ^ D = M) :
    Ieee.double.mul 4368491638549381120 ((54 - D) * 4503599627370496 + (M - 4503599627370496)) = some r := by
  have v1 := (V_word (54 - D) M (by omega) h1 h2).1
  have hF : (54 - D) * 4503599627370496 + (M - 4503599627370496) < inf := by
    have : (54 - D) * 4503599627370496 ≤ 53 * 4503599627370496 := Nat.mul_le_mul_right _ (by omega)
    rw [inf_val]; omega
  have hp : 0 < (54 - D) * 4503599627370496 + (M - 4503599627370496) := by
    have : 4503599627370496 ≤ (54 - D) * 4503599627370496 := Nat.le_mul_of_pos_left _ (by omega)
    omega
  obtain ⟨c, hc⟩ : ∃ c, c = 970 - 1 := ⟨_, rfl⟩
  rw [mul_small _ _ (by decide) hF, fmul_exact (by decide) hp h0 hr]
  rw [v1, V_m53 c hc, V_sub hs, ← h, Nat.mul_comm, Nat.mul_assoc, Nat.mul_assoc, ← Nat.pow_add, ← Nat.pow_add]
  rw [show D + (54 - D - 1 + (52 + c)) = E74 by rw [E74_eq]; omega]
end Go.Proofs.YthfgjibhpenfkaaDoor
/- Real: Ldexp of an odd number by its power: the walk. -/
namespace Go.Proofs.YthfgjibhpenfkaaDoor
open Go.RowKit Fl

set_option maxRecDepth 100000 in
set_option maxHeartbeats 1000000 in
theorem ldexp_x (r n : Nat) (ex : Int) (w : World) (h : OddOf r n ex) (h0 : 0 < r) (hr : r < inf) (hn0 : 0 < n) (hn : n < 9007199254740992) (he1 : -1200 ≤ ex) (he2 : ex ≤ 1200) :
    Calls Tryd.prog 57 #[.float .f64 (i2r n), .int .i64 ex] w fun e w' => e = .returned (.float .f64 r) ∧ w = w' := by
  have hiv := inf_val
  obtain ⟨hL, hM1, hM2⟩ := log_norm hn0 hn
  obtain ⟨hw, hti, _⟩ := i2r_word hn0 hn
  have hp := ldexp_plain h h0 hr hn0 hn
  generalize hM : n * 2 ^ (52 - n.log2) = M at hM1 hM2 hw hp
  generalize hl : n.log2 = L at hL hw hp
  generalize ht : i2r n = t at hw hti
  obtain ⟨f, hf⟩ : ∃ f, f = M - 4503599627370496 := ⟨_, rfl⟩
  rw [← hf] at hw hp
  have hf2 : f < 4503599627370496 := by omega
  have htd : t / 4503599627370496 = 1023 + L := by omega
  have htm : t % 4503599627370496 = f := by omega
  have ht0 : 0 < t := by omega
  have hnz : t % nz = t := Nat.mod_eq_of_lt (by have := inf_lt_nz; omega)
  have o1 : (FloatKind.f64.format.order t 0 == some .eq) = false := by
    show (Ieee.double.order t 0 == some .eq) = false
    rw [order_small t 0 hti (by decide), Nat.compare_eq_gt.2 ht0]
    rfl
  have i1 : decide (t % nz = inf) = false := by rw [hnz]; simp; omega
  have i2 : (!decide (t % nz ≤ inf)) = false := by rw [hnz]; simp; omega
  have H1 := Lib.hid (And.intro i1 i2)
  have HT : Hid (t < 18446744073709551616) := Lib.hid (by omega)
  have HT0 := Lib.hid (And.intro ht0 hti)
  have htn : Hid (∀ r2 s, NormOf t r2 s → r2 = t ∧ s = 0) := Lib.hid (by
    intro r2 s hh
    rcases hh.2.2.2 with ⟨a, b⟩ | ⟨_, b⟩
    · exact ⟨b, a⟩
    · omega)
  obtain ⟨B, hB⟩ : ∃ B, B = 1023 + L := ⟨_, rfl⟩
  have hB1 : 1023 ≤ B := by omega
  have hB2 : B ≤ 1075 := by omega
  have hsh : (t : Int) / 4503599627370496 = (B : Int) := by omega
  have a3 := and_low_i B (by omega)
  have a1 := andNot_frac t (by omega)
  rw [htm] at a1
  have hb := f64bits t
  clear i1 i2 h hn0 hn hM hl ht hw hti htd htm ht0 hnz
  rcases hp with ⟨K, hK1, hK2, hre, hKe⟩ | ⟨hs, D, hD1, hD2, hDe, hDx⟩
  · have hm := mul_one_r h0 hr
    have hmul := fun (T : TypeId) (W : World) => run_float_arith (P := Tryd.prog) W .mul T .f64 4607182418800017408 r r hm
    have a2 := or_frac f K hf2 (by omega)
    rw [← hre, Int.natCast_mul] at a2
    have a2' : bits .or .u64 (f : Int) ((K : Int) * 4503599627370496) = (r : Int) := a2
    have hfb := f64frombits r
    have c1 : decide (ex + ((B : Int) - 1023) < -1075) = false := by simp; omega
    have c2 : decide ((1023 : Int) < ex + ((B : Int) - 1023)) = false := by simp; omega
    have c3 : decide (ex + ((B : Int) - 1023) < -1022) = false := by simp; omega
    have c4 : ex + ((B : Int) - 1023) + 1023 = (K : Int) := by omega
    clear hre hm h0 hr hf hM1 hM2 hB hL hiv hKe a2
    go_enter Tryd.func57, Tryd.ntmps57
    go_wp2_with fail
    refine (isinf_any t _ HT.out).mono ?_
    rintro e w' ⟨rfl, rfl⟩
    rw [H1.out.1]
    go_wp2_with fail
    refine (isnan_any t _).mono ?_
    rintro e w' ⟨rfl, rfl⟩
    rw [H1.out.2]
    go_wp2_with fail
    refine (normalize_any t _ HT0.out.1 HT0.out.2).mono ?_
    rintro e w' ⟨r2, s, hno, rfl, rfl⟩
    obtain ⟨rfl, rfl⟩ := htn.out r2 s hno
    clear hno
    go_wp2
    go_ret
    exact ⟨rfl, rfl⟩
  · have hm := mul_m53 h0 hr hM1 hM2 hD1 hD2 hs hDe
    rw [← hf] at hm
    obtain ⟨K, hK⟩ : ∃ K, K = 54 - D := ⟨_, rfl⟩
    obtain ⟨F, hF⟩ : ∃ F, F = K * 4503599627370496 + f := ⟨_, rfl⟩
    rw [← hK, ← hF] at hm
    have hmul := fun (T : TypeId) (W : World) => run_float_arith (P := Tryd.prog) W .mul T .f64 4368491638549381120 F r hm
    have a2 := or_frac f K hf2 (by omega)
    rw [← hF, Int.natCast_mul] at a2
    have a2' : bits .or .u64 (f : Int) ((K : Int) * 4503599627370496) = (F : Int) := a2
    have hfb := f64frombits F
    have c1 : decide (ex + ((B : Int) - 1023) < -1075) = false := by simp; omega
    have c2 : decide ((1023 : Int) < ex + ((B : Int) - 1023)) = false := by simp; omega
    have c3 : decide (ex + ((B : Int) - 1023) < -1022) = true := by simp; omega
    have c4 : ex + ((B : Int) - 1023) + 53 + 1023 = (K : Int) := by omega
    have hKl : K ≤ 53 := by omega
    clear hm h0 hr hf hM1 hM2 hB hL hiv hDx a2 hK hF hDe hs hD1 hD2
    go_enter Tryd.func57, Tryd.ntmps57
    go_wp2_with fail
    refine (isinf_any t _ HT.out).mono ?_
    rintro e w' ⟨rfl, rfl⟩
    rw [H1.out.1]
    go_wp2_with fail
    refine (isnan_any t _).mono ?_
    rintro e w' ⟨rfl, rfl⟩
    rw [H1.out.2]
    go_wp2_with fail
    refine (normalize_any t _ HT0.out.1 HT0.out.2).mono ?_
    rintro e w' ⟨r2, s, hno, rfl, rfl⟩
    obtain ⟨rfl, rfl⟩ := htn.out r2 s hno
    clear hno
    go_wp2
    go_ret
    exact ⟨rfl, rfl⟩
theorem Ldexp_x (r n : Nat) (ex : Int) (w : World) (h : OddOf r n ex) (h0 : 0 < r) (hr : r < inf) (hn0 : 0 < n) (hn : n < 9007199254740992) (he1 : -1200 ≤ ex) (he2 : ex ≤ 1200) :
    Calls Tryd.prog 38 #[.float .f64 (i2r n), .int .i64 ex] w fun e w' => e = .returned (.float .f64 r) ∧ w = w' := by
  have H := Lib.hid (ldexp_x r n ex w h h0 hr hn0 hn he1 he2)
  clear h h0 hr hn0 hn
  go_enter Tryd.func38, Tryd.ntmps38
  go_wp2_with fail
  refine H.out.mono ?_
  rintro e w' ⟨rfl, rfl⟩
  go_wp2_with fail
  go_ret
  exact ⟨rfl, rfl⟩
end Go.Proofs.YthfgjibhpenfkaaDoor
/- Real: a canonical text, byte for byte. -/
namespace Go.Proofs.YthfgjibhpenfkaaDoor
open Go.RowKit Fl

theorem idx_str (s : ByteArray) (i : Nat) (c : UInt8) (h : s.data[i]? = some c) (W : World) : (Instr.index 9 (.string s) (.int .i64 (i : Int))).run Tryd.prog W = .ok (.int .u8 (c.toNat : Int)) W := by
  obtain ⟨h1, h2⟩ := Array.getElem?_eq_some_iff.1 h
  have hs : i < s.size := h1
  have he : s[i] = c := h2
  go_simp
/-- the bytes of a finite float's text -/
structure Canon (s : ByteArray) (o k q k2 n E : Nat) : Prop where
  ho : o = 0 ∨ o = 1
  hq : q = 0 ∨ q = 1
  size : s.size = o + k + 1 + q + k2
  k1 : 1 ≤ k
  k20 : k ≤ 20
  j1 : 1 ≤ k2
  j20 : k2 ≤ 20
  n53 : n < 9007199254740992
  eb : E ≤ 1200
  sgn : o = 1 → s.data[0]? = some 45
  dig : ∀ j, j < k → ∃ c : UInt8, s.data[o + j]? = some c ∧ 48 ≤ c.toNat ∧ c.toNat ≤ 57 ∧ 10 * (n / 10 ^ (k - j)) + (c.toNat - 48) = n / 10 ^ (k - (j + 1))
  pe : s.data[o + k]? = some 112
  neg : q = 1 → s.data[o + k + 1]? = some 45
  dig2 : ∀ j, j < k2 → ∃ c : UInt8, s.data[o + k + 1 + q + j]? = some c ∧ 48 ≤ c.toNat ∧ c.toNat ≤ 57 ∧ 10 * (E / 10 ^ (k2 - j)) + (c.toNat - 48) = E / 10 ^ (k2 - (j + 1))
  z1 : n / 10 ^ k = 0
  z2 : E / 10 ^ k2 = 0
theorem dec_digit (n j : Nat) (h : j < Lib.nDigits n) : ∃ c : UInt8, (Lib.decDigits n)[j]? = some c ∧ 48 ≤ c.toNat ∧ c.toNat ≤ 57 ∧ 10 * (n / 10 ^ (Lib.nDigits n - j)) + (c.toNat - 48) = n / 10 ^ (Lib.nDigits n - (j + 1)) := by
  refine ⟨Lib.dg n (Lib.nDigits n - 1 - j), ?_, ?_⟩
  · rw [Lib.decDigits_eq, List.getElem?_map, List.getElem?_range h]
    rfl
  · have hlt : n / 10 ^ (Lib.nDigits n - 1 - j) % 10 < 10 := Nat.mod_lt _ (by decide)
    have hc : (Lib.dg n (Lib.nDigits n - 1 - j)).toNat = 48 + n / 10 ^ (Lib.nDigits n - 1 - j) % 10 := by
      show (UInt8.ofNat (48 + n / 10 ^ (Lib.nDigits n - 1 - j) % 10)).toNat = _
      rw [UInt8.toNat_ofNat_of_lt' (by show _ < 256; omega)]
    rw [hc]
    refine ⟨by omega, by omega, ?_⟩
    rw [show Lib.nDigits n - (j + 1) = Lib.nDigits n - 1 - j by omega, show Lib.nDigits n - j = (Lib.nDigits n - 1 - j) + 1 by omega, Nat.pow_succ, ← Nat.div_div_eq_div_mul]
    omega
def sgL (x : Nat) : List UInt8 := if nz ≤ x then [45] else []
theorem text_list (x n : Nat) (ex : Int) : (textB x n ex).data.toList = sgL x ++ (Lib.decDigits n ++ (112 :: Lib.itoa ex)) := by
  have h1 : (sgB x).data.toList = sgL x := by unfold sgB sgL; split <;> rfl
  unfold textB
  simp only [ByteArray.data_append, Array.toList_append, h1]
  simp [dB, pB, iB, List.append_assoc]
theorem canon_text (x n : Nat) (ex : Int) (hn : n < 9007199254740992) (h1 : -1200 ≤ ex) (h2 : ex ≤ 1200) :
    Canon (textB x n ex) (if nz ≤ x then 1 else 0) (Lib.nDigits n) (if ex < 0 then 1 else 0) (Lib.nDigits ex.natAbs) n ex.natAbs := by
  have hl := text_list x n ex
  have hat : ∀ i, (textB x n ex).data[i]? = (sgL x ++ (Lib.decDigits n ++ (112 :: Lib.itoa ex)))[i]? := fun i => by rw [← hl, Array.getElem?_toList]
  have ho : (sgL x).length = if nz ≤ x then 1 else 0 := by unfold sgL; split <;> rfl
  have hit : Lib.itoa ex = (if ex < 0 then [45] else []) ++ Lib.decDigits ex.natAbs := by
    by_cases h : ex < 0
    · obtain ⟨u, rfl⟩ : ∃ u : Nat, ex = -(u : Int) := ⟨ex.natAbs, by omega⟩
      rw [Lib.itoa_neg u (by omega), if_pos h]
      simp
    · obtain ⟨u, rfl⟩ : ∃ u : Nat, ex = u := ⟨ex.toNat, by omega⟩
      rw [Lib.itoa_nonneg, if_neg h]
      simp
  have hq : (if ex < 0 then ([45] : List UInt8) else []).length = if ex < 0 then 1 else 0 := by split <;> rfl
  generalize hO : (if nz ≤ x then 1 else 0) = o at ho ⊢
  generalize hQ : (if ex < 0 then 1 else 0) = q at hq ⊢
  generalize hS : sgL x = S at hat hl ho
  generalize hG : (if ex < 0 then ([45] : List UInt8) else []) = G at hit hq
  have hD := Lib.decDigits_length n
  have hE := Lib.decDigits_length ex.natAbs
  have hp : ∀ m, 0 < Lib.nDigits m := fun m => by have := Lib.nDigits_pos m; omega
  have h20 : ∀ m, m < 18446744073709551616 → Lib.nDigits m ≤ 20 := Lib.nDigits_le20
  exact {
    ho := by rw [← hO]; split <;> simp
    hq := by rw [← hQ]; split <;> simp
    size := by
      show (textB x n ex).data.size = _
      rw [← Array.length_toList, hl, hit]
      simp only [List.length_append, List.length_cons, ho, hD, hE, hq]
      omega
    k1 := hp n
    k20 := h20 n (by omega)
    j1 := hp _
    j20 := h20 _ (by omega)
    n53 := hn
    eb := by omega
    sgn := fun h => by
      rw [hat, List.getElem?_append_left (by omega)]
      subst hO
      have hx : nz ≤ x := by
        rcases Nat.lt_or_ge x nz with h3 | h3
        · rw [if_neg (by omega)] at h; omega
        · exact h3
      rw [← hS]
      unfold sgL
      rw [if_pos hx]
      rfl
    dig := fun j hj => by
      obtain ⟨c, h3, h4⟩ := dec_digit n j hj
      refine ⟨c, ?_, h4⟩
      rw [hat, List.getElem?_append_right (by omega), List.getElem?_append_left (by omega), ho, show o + j - o = j by omega]
      exact h3
    pe := by
      rw [hat, List.getElem?_append_right (by omega), List.getElem?_append_right (by omega), ho, hD, show o + Lib.nDigits n - o - Lib.nDigits n = 0 by omega]
      rfl
    neg := fun h => by
      rw [hat, List.getElem?_append_right (by omega), List.getElem?_append_right (by omega), ho, hD, show o + Lib.nDigits n + 1 - o - Lib.nDigits n = 0 + 1 by omega, List.getElem?_cons_succ, hit, List.getElem?_append_left (by omega)]
      have he : ex < 0 := by
        rcases Int.lt_or_le ex 0 with h3 | h3
        · exact h3
        · rw [← hQ, if_neg (by omega)] at h; omega
      rw [← hG, if_pos he]
      rfl
    dig2 := fun j hj => by
      obtain ⟨c, h3, h4⟩ := dec_digit ex.natAbs j hj
      refine ⟨c, ?_, h4⟩
      rw [hat, List.getElem?_append_right (by omega), List.getElem?_append_right (by omega), ho, hD, show o + Lib.nDigits n + 1 + q + j - o - Lib.nDigits n = (q + j) + 1 by omega, List.getElem?_cons_succ, hit, List.getElem?_append_right (by omega), hq, show q + j - q = j by omega]
      exact h3
    z1 := Nat.div_eq_of_lt (Lib.lt_pow_nDigits n)
    z2 := Nat.div_eq_of_lt (Lib.lt_pow_nDigits _) }
theorem canon_ne {s : ByteArray} {o k q k2 n E : Nat} (h : Canon s o k q k2 n E) (t : ByteArray) (ht : t.data.all (· != 112) = true) : ¬ s = t := by
  rintro rfl
  have := h.pe
  obtain ⟨h1, h2⟩ := Array.getElem?_eq_some_iff.1 this
  have := Array.all_eq_true.1 ht (o + k) h1
  rw [h2] at this
  simp at this
end Go.Proofs.YthfgjibhpenfkaaDoor
