/- StatsParts: one number's tally; two parts' tally. -/
import Derived.Test.YtbpnhpjcepgiiaaWb
namespace Go.Proofs.Ytbpnhpjcepgiiaa
open Go.RowKit Fl

theorem zeroOk : TaOk ⟨0, 0, 0, 0, 0, 0⟩ := Pair.zero.ok
theorem fi_zero : fi 0 = 0 := rfl
theorem one_tally {f : Nat → Nat} {t : Ta} (a : Int) (ha : a.natAbs < 1048576) (hi : Ins f ⟨0, 0, 0, 0, 0, 0⟩ 1 t) (hf : f 0 = fi a) : t.n = 1 ∧ t.mean = fi a ∧ t.m = 0 ∧ t.least = fi a ∧ t.greatest = fi a := by
  have h0 : Ins f ⟨0, 0, 0, 0, 0, 0⟩ 1 t := hi
  have hf1 : ∀ i, i < 1 → f i = fi a := fun i hi => by
    obtain rfl : i = 0 := by omega
    exact hf
  obtain ⟨l, g, e1, e2, hmm⟩ := hi.mm (h := fun _ => a) rfl hf1 (fun _ _ => ha) (by decide) zeroOk
  obtain ⟨hl, hg⟩ := hmm.unique (MM.one _)
  have hl' : l = a := hl
  have hg' : g = a := hg
  rw [hl'] at e1
  rw [hg'] at e2
  cases h0 with
  | succ p1 p2 =>
    cases p1
    obtain ⟨d, q, d2, p, h1, h2, h3, h4, h5, h6⟩ := p2.d
    rw [hf] at h1 h4
    have k1 := sub_fi a 0 (by omega) (by decide)
    rw [fi_zero, Int.sub_zero] at k1
    simp only at h1 h2 h3 h4 h5 h6
    rw [k1] at h1
    have e := h1.some
    subst e
    rw [show ((0 : Int) + 1).toNat = 1 by decide, one_i2r, div_one_fi a (by omega)] at h2
    have e := h2.some
    subst e
    have k2 := add_fi 0 a (by decide) (by omega)
    rw [fi_zero, Int.zero_add] at k2
    rw [k2] at h3
    have hmean := h3.some
    rw [hmean, sub_fi a a (by omega) (by omega), Int.sub_self] at h4
    have e := h4.some
    subst e
    rw [fi_zero] at h5
    have hm : t.m = 0 := by
      rcases mul_zero_fi a (by omega) with h | h
      · rw [h] at h5
        have e := h5.some
        subst e
        have := add_fi 0 0 (by decide) (by decide)
        rw [fi_zero] at this
        rw [this] at h6
        exact h6.some
      · rw [h] at h5
        have e := h5.some
        subst e
        rw [add_nz_right 0 (by decide)] at h6
        have := add_fi 0 0 (by decide) (by decide)
        rw [fi_zero] at this
        rw [this] at h6
        exact h6.some
    exact ⟨by rw [p2.n]; rfl, hmean, hm, e1, e2⟩
theorem spread_one (sp : Nat) (h : FopIs (Ieee.double.div 0 (i2r 1)) sp) : sp = 0 := by
  have := div_one_fi 0 (by decide)
  rw [fi_zero] at this
  rw [one_i2r, this] at h
  exact h.some
theorem sumI_split (m : Nat → Int) (k j : Nat) : sumI m k + sumI (fun i => m (k + i)) j = sumI m (k + j) := by
  induction j with
  | zero => show sumI m k + 0 = sumI m k; omega
  | succ j ih =>
    show sumI m k + (sumI (fun i => m (k + i)) j + m (k + j)) = sumI m (k + j) + m (k + j)
    omega
theorem whole_tally {F : Nat → Nat} {m : Nat → Int} {t : Ta} {n : Nat} (hi : Ins F ⟨0, 0, 0, 0, 0, 0⟩ n t) (hF : ∀ i, i < n → F i = fi (m i) ∧ (m i).natAbs < 1048576) (h1 : 1 ≤ n) (hn : n ≤ 300) :
    t.n = n ∧ t.sum = fi (sumI m n) ∧ ∃ l g, t.least = fi l ∧ t.greatest = fi g ∧ MM m n l g := by
  have e := (hi.ok zeroOk (fun i hi => by rw [(hF i hi).1]; exact fi_lt _)).2
  have s := hi.sum (g := m) 0 rfl (fun i hi => (hF i hi).1) (by decide) (fun i hi => (hF i hi).2) hn
  rw [Int.zero_add] at s
  exact ⟨by rw [e]; show (0 : Int) + n = n; omega, s, hi.mm rfl (fun i hi => (hF i hi).1) (fun i hi => (hF i hi).2) h1 zeroOk⟩
theorem two_tally {F : Nat → Nat} {m : Nat → Int} {b c t : Ta} {k n : Nat} (hb : Ins F ⟨0, 0, 0, 0, 0, 0⟩ k b) (hc : Ins (fun i => F (k + i)) ⟨0, 0, 0, 0, 0, 0⟩ (n - k) c) (hF : ∀ i, i < n → F i = fi (m i) ∧ (m i).natAbs < 1048576) (hk : k < n) (hn : n ≤ 300)
    (hm : (c.n = 0 ∧ t = b) ∨ (c.n ≠ 0 ∧ b.n = 0 ∧ t = c) ∨ (c.n ≠ 0 ∧ b.n ≠ 0 ∧ MergeIs b c t)) :
    t.n = n ∧ t.sum = fi (sumI m n) ∧ ∃ l g, t.least = fi l ∧ t.greatest = fi g ∧ MM m n l g := by
  obtain ⟨c1, c2, l2, g2, c3, c4, c5⟩ := whole_tally (m := fun i => m (k + i)) hc (fun i hi => hF (k + i) (by omega)) (by omega) (by omega)
  have hbn := (hb.ok zeroOk (fun i hi => by rw [(hF i (by omega)).1]; exact fi_lt _)).2
  have hbn2 : b.n = k := by rw [hbn]; show (0 : Int) + k = k; omega
  rcases hm with ⟨p, -⟩ | ⟨-, p, rfl⟩ | ⟨-, p, p3⟩
  · omega
  · obtain rfl : k = 0 := by omega
    refine ⟨by rw [c1]; omega, ?_, l2, g2, c3, c4, ?_⟩
    · rw [c2]
      congr 1
      have := sumI_split m 0 (n - 0)
      rw [Nat.zero_add] at this
      rw [show n = n - 0 by omega, ← this]
      show sumI (fun i => m (0 + i)) (n - 0 - 0) = 0 + sumI (fun i => m (0 + i)) (n - 0)
      rw [Int.zero_add]; rfl
    · have : (fun i => m (0 + i)) = m := by funext i; rw [Nat.zero_add]
      rw [this] at c5
      exact c5
  · have hk0 : 1 ≤ k := by omega
    obtain ⟨b1, b2, l1, g1, b3, b4, b5⟩ := whole_tally (m := m) hb (fun i hi => hF i (by omega)) hk0 (by omega)
    have s1 := sumI_bound m k fun i hi => (hF i (by omega)).2
    have s2 := sumI_bound (fun i => m (k + i)) (n - k) fun i hi => (hF (k + i) (by omega)).2
    obtain ⟨q1, q2⟩ := b5.bound fun i hi => (hF i (by omega)).2
    obtain ⟨q3, q4⟩ := c5.bound fun i hi => (hF (k + i) (by omega)).2
    have hs := p3.sum
    rw [b2, c2, add_fi _ _ (by omega) (by omega), sumI_split, show k + (n - k) = n by omega] at hs
    have e1 := p3.least
    have e2 := p3.greatest
    rw [b3, b4, c3, c4, min4_fi _ _ _ _ (by omega) (by omega) (by omega) (by omega)] at e1
    rw [b3, b4, c3, c4, max4_fi _ _ _ _ (by omega) (by omega) (by omega) (by omega)] at e2
    exact ⟨by rw [p3.n, b1, c1]; omega, hs.some, _, _, e1, e2, b5.join c5 (by omega)⟩
/-- the first and the last in order -/
theorem sF_ends {F : Nat → Nat} {m : Nat → Int} {n : Nat} {l g : Int} (hF : ∀ i, i < n → F i = fi (m i) ∧ (m i).natAbs < 1048576) (h1 : 1 ≤ n) (hm : MM m n l g) : ((sF F n)[0]!).1 = fi l ∧ ((sF F n)[n - 1]!).1 = fi g := by
  have hp := (sF_sorts F n).1
  obtain ⟨hsz, -, hperm⟩ := hp
  have hds := dF_size F n
  have hss := sF_size F n
  have hperm2 : (sF F n).toList.Perm (dF F n).toList := by
    have e1 : (sF F n).extract 0 (dF F n).size = sF F n := by rw [← hsz]; exact Array.extract_size
    have e2 : (dF F n).extract 0 (dF F n).size = dF F n := Array.extract_size
    rw [e1, e2] at hperm
    exact hperm
  have dget : ∀ j, j < n → ((dF F n)[j]!).1 = fi (m j) := fun j hj => by
    rw [getElem!_pos (dF F n) j (by rw [hds]; exact hj)]
    unfold dF
    rw [Array.getElem_map, Array.getElem_range, toW_val (by rw [(hF j hj).1]; exact fi_lt _)]
    exact (hF j hj).1
  -- every one in order is one of the given
  have tow : ∀ i, i < n → ∃ j, j < n ∧ ((sF F n)[i]!).1 = fi (m j) := fun i hi => by
    have hmem : (sF F n)[i]! ∈ (sF F n).toList := by
      rw [getElem!_pos (sF F n) i (by rw [hss]; exact hi)]
      exact Array.getElem_mem_toList _
    have h2 := hperm2.mem_iff.1 hmem
    obtain ⟨j, hj, he⟩ := List.getElem_of_mem h2
    rw [Array.length_toList, hds] at hj
    refine ⟨j, hj, ?_⟩
    rw [← he, Array.getElem_toList, ← dget j hj, getElem!_pos (dF F n) j (by rw [hds]; exact hj)]
  -- every given one is one in order
  have from_ : ∀ j, j < n → ∃ i, i < n ∧ ((sF F n)[i]!).1 = fi (m j) := fun j hj => by
    have hmem : (dF F n)[j]! ∈ (dF F n).toList := by
      rw [getElem!_pos (dF F n) j (by rw [hds]; exact hj)]
      exact Array.getElem_mem_toList _
    have h2 := hperm2.mem_iff.2 hmem
    obtain ⟨i, hi, he⟩ := List.getElem_of_mem h2
    rw [Array.length_toList, hss] at hi
    refine ⟨i, hi, ?_⟩
    rw [← dget j hj, ← he, Array.getElem_toList, getElem!_pos (sF F n) i (by rw [hss]; exact hi)]
  obtain ⟨j0, hj0, el⟩ := hm.l
  obtain ⟨j1, hj1, eg⟩ := hm.g
  have bd : ∀ j, j < n → (m j).natAbs < 2 ^ 53 := fun j hj => by have := (hF j hj).2; omega
  constructor
  · obtain ⟨j, hj, e⟩ := tow 0 (by omega)
    obtain ⟨i, hi, e'⟩ := from_ j0 hj0
    have h := sF_le F n 0 i (Nat.zero_le _) hi
    rw [e, e'] at h
    have h2 := place_lt (m j0) (m j) (bd j0 hj0) (bd j hj)
    have h3 := (hm.all j hj).1
    rw [e]
    congr 1
    omega
  · obtain ⟨j, hj, e⟩ := tow (n - 1) (by omega)
    obtain ⟨i, hi, e'⟩ := from_ j1 hj1
    have h := sF_le F n i (n - 1) (by omega) (by omega)
    rw [e, e'] at h
    have h2 := place_lt (m j) (m j1) (bd j hj) (bd j1 hj1)
    have h3 := (hm.all j hj).2
    rw [e]
    congr 1
    omega
end Go.Proofs.Ytbpnhpjcepgiiaa
