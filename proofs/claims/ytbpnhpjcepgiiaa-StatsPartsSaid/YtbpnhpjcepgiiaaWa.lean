/- Whole numbers as floats: their order, division, least and greatest of them. -/
import Derived.Test.YtbpnhpjcepgiiaaVc
import Derived.Test.YtbpnhpjcepgiiaaUl
namespace Go.Proofs.Ytbpnhpjcepgiiaa
open Fl Ieee

theorem cmp_lt {x y : Int} (h : x < y) : compare x y = .lt := by
  show compareOfLessAndEq x y = _
  unfold compareOfLessAndEq
  rw [if_pos h]
theorem cmp_gt {x y : Int} (h : y < x) : compare x y = .gt := by
  show compareOfLessAndEq x y = _
  unfold compareOfLessAndEq
  rw [if_neg (by omega), if_neg (by omega)]
theorem cmp_eq (x : Int) : compare x x = .eq := by
  show compareOfLessAndEq x x = _
  unfold compareOfLessAndEq
  rw [if_neg (by omega), if_pos rfl]
theorem order_fi2 (a b : Int) (ha : a.natAbs < 2 ^ 53) (hb : b.natAbs < 2 ^ 53) : double.order (fi a) (fi b) = some (compare a b) := by
  unfold Format.order
  have va := V_fi a ha
  have vb := V_fi b hb
  rw [fi_word a, fi_word b, read_word _ _ (fi_fin a ha), read_word _ _ (fi_fin b hb)]
  simp only [Datum.order]
  obtain ⟨r, hr⟩ : ∃ r, r = i2r a.natAbs := ⟨_, rfl⟩
  obtain ⟨s, hs⟩ : ∃ s, s = i2r b.natAbs := ⟨_, rfl⟩
  rw [← hr] at va ⊢
  rw [← hs] at vb ⊢
  obtain ⟨c, hc⟩ : ∃ c : Int, c = min ((expo r : Int) - 1074) ((expo s : Int) - 1074) := ⟨_, rfl⟩
  rw [← hc]
  have h1 := signed_shift (mant r) (expo r) c (by omega) (by omega)
  have h2 := signed_shift (mant s) (expo s) c (by omega) (by omega)
  unfold Ieee.signed
  obtain ⟨p, hp⟩ : ∃ p, p = mant r <<< ((expo r : Int) - 1074 - c).toNat := ⟨_, rfl⟩
  obtain ⟨q, hq⟩ : ∃ q, q = mant s <<< ((expo s : Int) - 1074 - c).toNat := ⟨_, rfl⟩
  rw [← hp] at h1 ⊢
  rw [← hq] at h2 ⊢
  rw [← V_eq] at h1 h2
  obtain ⟨P, hP⟩ : ∃ P, P = 2 ^ (c + 1074).toNat := ⟨_, rfl⟩
  have hP0 : 0 < P := by rw [hP]; exact two_pos _
  rw [← hP] at h1 h2
  obtain ⟨E, hE⟩ : ∃ E, E = 2 ^ E74 := ⟨_, rfl⟩
  have hE0 : 0 < E := by rw [hE]; exact two_pos _
  rw [← hE] at va vb
  congr 1
  obtain ⟨x, hx⟩ : ∃ x : Int, x = if decide (a < 0) = true then -(p : Int) else (p : Int) := ⟨_, rfl⟩
  obtain ⟨y, hy⟩ : ∃ y : Int, y = if decide (b < 0) = true then -(q : Int) else (q : Int) := ⟨_, rfl⟩
  rw [← hx, ← hy]
  have ex : x * (P : Int) = a * (E : Int) := by
    rw [← va, hx, ← h1]; unfold sg
    cases decide (a < 0) <;> simp [Int.natCast_mul, Int.neg_mul]
  have ey : y * (P : Int) = b * (E : Int) := by
    rw [← vb, hy, ← h2]; unfold sg
    cases decide (b < 0) <;> simp [Int.natCast_mul, Int.neg_mul]
  have hPi : (0 : Int) < P := by omega
  have hEi : (0 : Int) < E := by omega
  rcases Int.lt_trichotomy a b with h | h | h
  · have : x * (P : Int) < y * (P : Int) := by rw [ex, ey]; exact Int.mul_lt_mul_of_pos_right h hEi
    have h3 : x < y := Int.lt_of_mul_lt_mul_right this (Int.le_of_lt hPi)
    rw [cmp_lt h3, cmp_lt h]
  · subst h
    have : x * (P : Int) = y * (P : Int) := by rw [ex, ey]
    have h3 : x = y := Int.eq_of_mul_eq_mul_right (by omega) this
    rw [h3, cmp_eq, cmp_eq]
  · have : y * (P : Int) < x * (P : Int) := by rw [ex, ey]; exact Int.mul_lt_mul_of_pos_right h hEi
    have h3 : y < x := Int.lt_of_mul_lt_mul_right this (Int.le_of_lt hPi)
    rw [cmp_gt h3, cmp_gt h]
theorem nz_sub (r : Nat) : (18446744073709551615 : Int) - ((nz + r : Nat) : Int) = 9223372036854775807 - (r : Int) := by
  unfold nz
  omega
theorem place_fi (a : Int) (ha : a.natAbs < 2 ^ 53) : placeW (fi a) = if a < 0 then 9223372036854775807 - (i2r a.natAbs : Int) else (i2r a.natAbs : Int) + 9223372036854775808 := by
  have h := fi_fin a ha
  have h1 := inf_lt_nz
  rw [fi_word, word_eq]
  unfold placeW
  by_cases h0 : a < 0
  · rw [decide_eq_true h0, if_pos rfl, if_pos h0]
    have e : (nz + i2r a.natAbs) % nz = i2r a.natAbs := by rw [Nat.add_mod_left, Nat.mod_eq_of_lt (by omega)]
    rw [e, if_neg (by omega), if_neg (by omega)]
    exact nz_sub _
  · rw [decide_eq_false h0, if_neg h0]
    simp only [Bool.false_eq_true, if_false]
    rw [Nat.mod_eq_of_lt (by omega), if_neg (by omega), if_pos (by omega)]
theorem place_lt (a b : Int) (ha : a.natAbs < 2 ^ 53) (hb : b.natAbs < 2 ^ 53) : placeW (fi a) < placeW (fi b) ↔ a < b := by
  rw [place_fi a ha, place_fi b hb]
  have h1 := i2r_le_iff a.natAbs b.natAbs ha hb
  have h2 := i2r_le_iff b.natAbs a.natAbs hb ha
  by_cases ha0 : a < 0 <;> by_cases hb0 : b < 0 <;> simp only [ha0, hb0, if_true, if_false] <;> omega
theorem fi_place (a b : Int) (ha : a.natAbs < 2 ^ 53) (hb : b.natAbs < 2 ^ 53) (h : placeW (fi a) = placeW (fi b)) : a = b := by
  have h1 := place_lt a b ha hb
  have h2 := place_lt b a hb ha
  omega
theorem min_fi (a b : Int) (ha : a.natAbs < 2 ^ 53) (hb : b.natAbs < 2 ^ 53) : (if ordF (fi b) (fi a) < 0 then fi b else fi a) = fi (min a b) := by
  have h := place_lt b a hb ha
  rw [← ordF_lt] at h
  by_cases h0 : b < a
  · rw [if_pos (h.2 h0), Int.min_eq_right (by omega)]
  · rw [if_neg (fun e => h0 (h.1 e)), Int.min_eq_left (by omega)]
theorem max_fi (a b : Int) (ha : a.natAbs < 2 ^ 53) (hb : b.natAbs < 2 ^ 53) : (if 0 < ordF (fi b) (fi a) then fi b else fi a) = fi (max a b) := by
  have h := place_lt a b ha hb
  rw [← ordF_gt] at h
  by_cases h0 : a < b
  · rw [if_pos (h.2 h0), Int.max_eq_right (by omega)]
  · rw [if_neg (fun e => h0 (h.1 e)), Int.max_eq_left (by omega)]
theorem min3_g (a b c : Nat) : minTo (f3 a b c) 2 = (if ordF c (if ordF b a < 0 then b else a) < 0 then c else (if ordF b a < 0 then b else a)) := rfl
theorem max3_g (a b c : Nat) : maxTo (f3 a b c) 2 = (if 0 < ordF c (if 0 < ordF b a then b else a) then c else (if 0 < ordF b a then b else a)) := rfl
theorem min4_g (a b c d : Nat) : minTo (f4 a b c d) 3 = (if ordF d (minTo (f3 a b c) 2) < 0 then d else minTo (f3 a b c) 2) := rfl
theorem max4_g (a b c d : Nat) : maxTo (f4 a b c d) 3 = (if 0 < ordF d (maxTo (f3 a b c) 2) then d else maxTo (f3 a b c) 2) := rfl
theorem min3_fi (a b c : Int) (ha : a.natAbs < 2 ^ 53) (hb : b.natAbs < 2 ^ 53) (hc : c.natAbs < 2 ^ 53) : minTo (f3 (fi a) (fi b) (fi c)) 2 = fi (min (min a b) c) := by
  rw [min3_g, min_fi a b ha hb, min_fi _ c (by omega) hc]
theorem max3_fi (a b c : Int) (ha : a.natAbs < 2 ^ 53) (hb : b.natAbs < 2 ^ 53) (hc : c.natAbs < 2 ^ 53) : maxTo (f3 (fi a) (fi b) (fi c)) 2 = fi (max (max a b) c) := by
  rw [max3_g, max_fi a b ha hb, max_fi _ c (by omega) hc]
theorem min4_fi (a b c d : Int) (ha : a.natAbs < 2 ^ 53) (hb : b.natAbs < 2 ^ 53) (hc : c.natAbs < 2 ^ 53) (hd : d.natAbs < 2 ^ 53) : minTo (f4 (fi a) (fi b) (fi c) (fi d)) 3 = fi (min (min (min a b) c) d) := by
  rw [min4_g, min3_fi a b c ha hb hc, min_fi _ d (by omega) hd]
theorem max4_fi (a b c d : Int) (ha : a.natAbs < 2 ^ 53) (hb : b.natAbs < 2 ^ 53) (hc : c.natAbs < 2 ^ 53) (hd : d.natAbs < 2 ^ 53) : maxTo (f4 (fi a) (fi b) (fi c) (fi d)) 3 = fi (max (max (max a b) c) d) := by
  rw [max4_g, max3_fi a b c ha hb hc, max_fi _ d (by omega) hd]
/-! ### least and greatest of the first n -/
structure MM (h : Nat → Int) (n : Nat) (l g : Int) : Prop where
  all : ∀ i, i < n → l ≤ h i ∧ h i ≤ g
  l : ∃ i, i < n ∧ h i = l
  g : ∃ i, i < n ∧ h i = g
theorem MM.one (h : Nat → Int) : MM h 1 (h 0) (h 0) := 
  ⟨fun i hi => by
    obtain rfl : i = 0 := by omega
    exact ⟨Int.le_refl _, Int.le_refl _⟩, ⟨0, by omega, rfl⟩, ⟨0, by omega, rfl⟩⟩
theorem MM.succ {h : Nat → Int} {n : Nat} {l g : Int} (m : MM h n l g) : MM h (n + 1) (min (min l g) (h n)) (max (max l g) (h n)) := by
  obtain ⟨i, hi, e1⟩ := m.l
  obtain ⟨j, hj, e2⟩ := m.g
  have a1 := m.all i hi
  have a2 := m.all j hj
  refine ⟨fun k hk => ?_, ?_, ?_⟩
  · rcases Nat.lt_or_ge k n with h1 | h1
    · have := m.all k h1; omega
    · obtain rfl : k = n := by omega
      omega
  · by_cases h1 : h n < l
    · exact ⟨n, by omega, by omega⟩
    · exact ⟨i, by omega, by omega⟩
  · by_cases h1 : g < h n
    · exact ⟨n, by omega, by omega⟩
    · exact ⟨j, by omega, by omega⟩
theorem MM.join {h : Nat → Int} {k n : Nat} {l g l2 g2 : Int} (m : MM h k l g) (m2 : MM (fun i => h (k + i)) (n - k) l2 g2) (hk : k ≤ n) : MM h n (min (min (min l g) l2) g2) (max (max (max l g) l2) g2) := by
  obtain ⟨i, hi, e1⟩ := m.l
  obtain ⟨j, hj, e2⟩ := m.g
  obtain ⟨i2, hi2, e3⟩ := m2.l
  obtain ⟨j2, hj2, e4⟩ := m2.g
  have a1 := m.all i hi
  have a2 := m.all j hj
  have a3 := m2.all i2 hi2
  have a4 := m2.all j2 hj2
  have e3' : h (k + i2) = l2 := e3
  have e4' : h (k + j2) = g2 := e4
  have a3' : l2 ≤ h (k + i2) ∧ h (k + i2) ≤ g2 := a3
  have a4' : l2 ≤ h (k + j2) ∧ h (k + j2) ≤ g2 := a4
  refine ⟨fun t ht => ?_, ?_, ?_⟩
  · rcases Nat.lt_or_ge t k with h1 | h1
    · have := m.all t h1; omega
    · have := m2.all (t - k) (by omega)
      simp only [show k + (t - k) = t by omega] at this
      omega
  · by_cases h1 : l2 < l
    · exact ⟨k + i2, by omega, by omega⟩
    · exact ⟨i, by omega, by omega⟩
  · by_cases h1 : g < g2
    · exact ⟨k + j2, by omega, by omega⟩
    · exact ⟨j, by omega, by omega⟩
theorem MM.unique {h : Nat → Int} {n : Nat} {l g l2 g2 : Int} (m : MM h n l g) (m2 : MM h n l2 g2) : l = l2 ∧ g = g2 := by
  obtain ⟨i, hi, e1⟩ := m.l
  obtain ⟨j, hj, e2⟩ := m.g
  obtain ⟨i2, hi2, e3⟩ := m2.l
  obtain ⟨j2, hj2, e4⟩ := m2.g
  have a1 := m.all i2 hi2
  have a2 := m.all j2 hj2
  have a3 := m2.all i hi
  have a4 := m2.all j hj
  omega
theorem MM.bound {h : Nat → Int} {n : Nat} {l g : Int} (m : MM h n l g) (hb : ∀ i, i < n → (h i).natAbs < 1048576) : l.natAbs < 1048576 ∧ g.natAbs < 1048576 := by
  obtain ⟨i, hi, e1⟩ := m.l
  obtain ⟨j, hj, e2⟩ := m.g
  have a1 := hb i hi
  have a2 := hb j hj
  omega
theorem Ins.mm {f : Nat → Nat} {h : Nat → Int} {t t' : Ta} {k : Nat} (hi : Ins f t k t') (ht : t.n = 0) (hf : ∀ i, i < k → f i = fi (h i)) (hb : ∀ i, i < k → (h i).natAbs < 1048576) (hk : 1 ≤ k) (htk : TaOk t) : ∃ l g, t'.least = fi l ∧ t'.greatest = fi g ∧ MM h k l g := by
  induction hi with
  | zero => omega
  | @succ k s s' h1 h2 ih =>
    have hn : s.n = k := by
      have := (h1.ok htk (fun i hi => by rw [hf i (by omega)]; exact fi_lt _)).2
      omega
    have b := hb k (by omega)
    by_cases h0 : k = 0
    · subst h0
      have e1 := h2.least
      have e2 := h2.greatest
      rw [if_pos (by omega), hf 0 (by omega)] at e1 e2
      rw [if_pos (by omega)] at e1 e2
      rw [min3_fi _ _ _ (by omega) (by omega) (by omega)] at e1
      rw [max3_fi _ _ _ (by omega) (by omega) (by omega)] at e2
      rw [Int.min_self, Int.min_self] at e1
      rw [Int.max_self, Int.max_self] at e2
      exact ⟨_, _, e1, e2, MM.one h⟩
    · obtain ⟨l, g, i1, i2, i3⟩ := ih (fun i hi => hf i (by omega)) (fun i hi => hb i (by omega)) (by omega)
      obtain ⟨b1, b2⟩ := i3.bound (fun i hi => hb i (by omega))
      have e1 := h2.least
      have e2 := h2.greatest
      rw [if_neg (by omega), if_neg (by omega), i1, i2, hf k (by omega)] at e1 e2
      rw [min3_fi _ _ _ (by omega) (by omega) (by omega)] at e1
      rw [max3_fi _ _ _ (by omega) (by omega) (by omega)] at e2
      exact ⟨_, _, e1, e2, i3.succ⟩
/-! ### division -/
theorem div_one (n : Bool) (r : Nat) (hr : r < inf) : double.div (double.word n r) 4607182418800017408 = some (double.word n r) := by
  unfold Format.div
  rw [read_word n r hr, show double.read 4607182418800017408 = .number false 4503599627370496 (-52) by decide +kernel]
  simp only [Datum.quotient, Bool.xor_false]
  rw [if_neg (by decide)]
  obtain ⟨k, hk⟩ : ∃ k, k = double.fractionBits + 2 + Nat.log2 4503599627370496 - (mant r).log2 := ⟨_, rfl⟩
  have hl : Nat.log2 4503599627370496 = 52 := by decide +kernel
  have hfb : double.fractionBits = 52 := by decide
  have hm : (mant r).log2 ≤ 52 := by
    have h1 : mant r < 2 ^ 53 := by unfold mant; split <;> omega
    by_cases h0 : mant r = 0
    · rw [h0]; decide
    · have := (Nat.log2_lt h0).2 h1; omega
  have hk2 : 52 ≤ k := by rw [hk, hl, hfb]; omega
  rw [← hk]
  obtain ⟨j, rfl⟩ : ∃ j, k = 52 + j := ⟨k - 52, by omega⟩
  have e1 : mant r <<< (52 + j) = mant r * 2 ^ j * 4503599627370496 := by
    rw [Nat.shiftLeft_eq, Nat.pow_add, Nat.mul_comm (2 ^ 52), Nat.mul_assoc]
  rw [e1, Nat.mul_div_cancel _ (by decide), Nat.mul_mod_left]
  show some (double.nearest n _ _) = _
  congr 1
  simp only [bne_self_eq_false, Bool.toNat_false, Nat.add_zero]
  by_cases h0 : r = 0
  · subst h0
    rw [mant_zero, Nat.zero_mul, Nat.mul_zero, nearest_zero]
  · have hmr : mant r ≠ 0 := mant_pos (by omega)
    have hne : 2 * (mant r * 2 ^ j) ≠ 0 := by have := Nat.mul_pos (Nat.pos_of_ne_zero hmr) (two_pos j); omega
    have hself := rgN_self (j + 1) r (by omega)
    rw [nearest_eq n _ _ (j + 1) hne (by omega), inf_eq]
    have e2 : ((expo r : Int) - 1074 - -52 - ((52 + j : Nat) : Int) - 1 + (1074 + ((j + 1 : Nat) : Int))).toNat = expo r := by omega
    rw [e2]
    have hz : rgN (j + 1) (2 * (mant r * 2 ^ j)) (expo r) = r := by
      refine (rgN_congr (j + 1) _ _ _ _ hne hmr ?_).trans hself
      rw [Nat.add_comm (j + 1) (expo r), Nat.pow_add, Nat.pow_succ]
      have : 2 * (mant r * 2 ^ j) * 2 ^ expo r = mant r * (2 ^ expo r * (2 ^ j * 2)) := by
        rw [Nat.mul_comm (2 ^ expo r), ← Nat.mul_assoc (mant r), ← Nat.mul_assoc (mant r), Nat.mul_comm 2, Nat.mul_assoc (mant r * 2 ^ j)]
      exact this
    rw [hz, Nat.min_eq_left (by omega)]
theorem div_one_fi (a : Int) (ha : a.natAbs < 2 ^ 53) : double.div (fi a) 4607182418800017408 = some (fi a) := by rw [fi_word]; exact div_one _ _ (fi_fin a ha)
theorem mul_zero_fi (a : Int) (ha : a.natAbs < 2 ^ 53) : double.mul (fi a) 0 = some 0 ∨ double.mul (fi a) 0 = some nz := by
  have h : double.mul (fi a) 0 = some (double.word (decide (a < 0)) 0) := by
    unfold Format.mul
    rw [fi_word, read_word _ _ (fi_fin a ha), read_zero]
    simp only [Datum.product, Bool.xor_false, Option.map_some, Nat.mul_zero]
    show some (double.nearest _ 0 _) = _
    rw [nearest_zero]
  rw [h]
  cases decide (a < 0)
  · exact .inl rfl
  · exact .inr rfl
theorem div_fi (a : Int) (n : Nat) (ha : a.natAbs < 2 ^ 53) (hn : 0 < n) (hn2 : n < 2 ^ 53) : ∃ z, double.div (fi a) (i2r n) = some z ∧ z < 18446744073709551616 ∧ z % nz ≤ inf := by
  unfold Format.div
  have hp : 0 < i2r n := Nat.pos_of_ne_zero (i2r_pos n hn hn2)
  rw [fi_word, read_word _ _ (fi_fin a ha), read_small _ (i2r_lt_inf n hn2)]
  unfold Datum.quotient
  simp only
  rw [if_neg (mant_pos hp)]
  refine ⟨_, rfl, double.write_lt _, ?_⟩
  have nin : ∀ (s : Bool) (m : Nat) (i : Int), double.nearest s m i % nz ≤ inf := fun s m i => by
    have h1 := inf_lt_nz
    have hw : ∀ r, r ≤ inf → double.word s r % nz ≤ inf := fun r hr => by
      rw [word_eq]
      cases s with
      | false => rw [if_neg (by decide), Nat.mod_eq_of_lt (by omega)]; exact hr
      | true => rw [if_pos rfl, Nat.add_mod_left, Nat.mod_eq_of_lt (by omega)]; exact hr
    by_cases h0 : m = 0
    · rw [h0, nearest_zero]; exact hw 0 (Nat.zero_le _)
    · rw [nearest_eq s m i (-(1074 + i)).toNat h0 (by omega), inf_eq]
      exact hw _ (Nat.min_le_right _ _)
  exact nin _ _ _
end Go.Proofs.Ytbpnhpjcepgiiaa
