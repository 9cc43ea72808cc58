/- Real: both Reads, at every string. -/
import Derived.Test.YthfgjibhpenfkaaDoorOy
namespace Go.Proofs.YthfgjibhpenfkaaDoor
open Go.RowKit Fl

theorem no112 {t : ByteArray} (h : t.data.all (· != 112) = true) : ∀ A (h : A < t.size), (((t[A]'h).toNat : Int) != 112) = true := by
  intro A hA
  have h1 := Array.all_eq_true.1 h A hA
  have h2 : ((t[A]'hA) != 112) = true := h1
  have h3 : (t[A]'hA) ≠ 112 := by simpa using h2
  simp only [bne_iff_ne, ne_eq]
  intro h4
  exact h3 (UInt8.toNat_inj.1 (by rw [show (112 : UInt8).toNat = 112 from rfl]; omega))
theorem RefRead_text (x : Nat) (s : ByteArray) (w : World) (hx : x < 18446744073709551616) (h : TextIs x s) (ht : Pow10 w) :
    Calls Tryd.prog 19 #[.string s] w fun e w' => ∃ y, e = .returned (.tuple #[.float .f64 y, .int .i64 0]) ∧ y < 18446744073709551616 ∧ placeW y = placeW x ∧ Below w.heap.size w w' := by
  have hn := nz_val
  have hi := inf_val
  have hTx := h
  rcases h with ⟨a, rfl⟩ | ⟨a, rfl⟩ | ⟨a, rfl⟩ | ⟨a, n, ex, f, rfl⟩
  · refine (refread_nan w).mono ?_
    rintro e w' ⟨rfl, rfl⟩
    refine ⟨_, rfl, by decide, ?_, Below.refl _ _⟩
    unfold placeW
    rw [if_pos (by decide), if_pos a]
  · rw [hn, hi] at a
    by_cases hg : 9223372036854775808 ≤ x
    · obtain rfl : x = 18442240474082181120 := by omega
      refine (refread_special ⟨#[45, 105, 110, 102]⟩ ⟨#[105, 110, 102]⟩ true 9218868437227405312 18442240474082181120 w (by decide) (by decide +kernel) rfl (by decide) (no112 (by decide +kernel)) (by decide +kernel) (.inl ⟨by decide +kernel, rfl⟩) (by decide +kernel) (by decide) (by decide) hTx ht).mono ?_
      rintro e w' ⟨rfl, hb⟩
      exact ⟨_, rfl, by decide, rfl, hb⟩
    · obtain rfl : x = 9218868437227405312 := by omega
      refine (refread_special ⟨#[105, 110, 102]⟩ ⟨#[105, 110, 102]⟩ false 9218868437227405312 9218868437227405312 w (by decide) (by decide +kernel) rfl (by decide) (no112 (by decide +kernel)) (by decide +kernel) (.inl ⟨by decide +kernel, rfl⟩) (by decide +kernel) (by decide) (by decide) hTx ht).mono ?_
      rintro e w' ⟨rfl, hb⟩
      exact ⟨_, rfl, by decide, rfl, hb⟩
  · rw [hn] at a
    by_cases hg : 9223372036854775808 ≤ x
    · obtain rfl : x = 9223372036854775808 := by omega
      refine (refread_special ⟨#[45, 48]⟩ ⟨#[48]⟩ true 0 9223372036854775808 w (by decide) (by decide +kernel) rfl (by decide) (no112 (by decide +kernel)) (by decide +kernel) (.inr ⟨by decide +kernel, by decide +kernel, rfl⟩) (by decide +kernel) (by decide) (by decide) hTx ht).mono ?_
      rintro e w' ⟨rfl, hb⟩
      exact ⟨_, rfl, by decide, rfl, hb⟩
    · obtain rfl : x = 0 := by omega
      refine (refread_special ⟨#[48]⟩ ⟨#[48]⟩ false 0 0 w (by decide) (by decide +kernel) rfl (by decide) (no112 (by decide +kernel)) (by decide +kernel) (.inr ⟨by decide +kernel, by decide +kernel, rfl⟩) (by decide +kernel) (by decide) (by decide) hTx ht).mono ?_
      rintro e w' ⟨rfl, hb⟩
      exact ⟨_, rfl, by decide, rfl, hb⟩
  · have hC := canon_text x n ex f.2.2.1 f.2.2.2.1 f.2.2.2.2
    have hfb := fin_bound f.1 a.1 a.2
    refine (refread_canon _ _ _ _ _ n ex.natAbs (x % nz) x ex w hC (nDigits_le17 _ f.2.2.1) (nDigits_le17 _ (by omega)) (by omega) ?_ f.1 a.1 a.2 f.2.1 ?_ hTx ht).mono ?_
    · by_cases h : ex < 0
      · rw [if_pos h]; simp; omega
      · rw [if_neg h]; simp; omega
    · by_cases h : nz ≤ x
      · rw [if_pos h, if_pos rfl]; rw [hn] at h ⊢; omega
      · rw [if_neg h, if_neg (by decide)]; rw [hn] at h ⊢; omega
    · rintro e w' ⟨rfl, hb⟩
      exact ⟨_, rfl, hx, rfl, hb⟩
/-- both Reads of one string answer alike: one place, one number of an error -/
theorem reads_any (s : ByteArray) (hsz : s.size ≤ 9223372036854775807) : ∃ (P : Int) (er : Int), (∀ w : World, Pow10 w → Calls Tryd.prog 15 #[.string s] w fun e w' => ∃ y, e = .returned (.tuple #[.float .f64 y, .int .i64 er]) ∧ y < 18446744073709551616 ∧ placeW y = P ∧ Below w.heap.size w w') ∧
    (∀ w : World, Pow10 w → Calls Tryd.prog 19 #[.string s] w fun e w' => ∃ y, e = .returned (.tuple #[.float .f64 y, .int .i64 er]) ∧ y < 18446744073709551616 ∧ placeW y = P ∧ Below w.heap.size w w') := by
  by_cases h : ∃ x, x < 18446744073709551616 ∧ TextIs x s
  · obtain ⟨x, hx, hT⟩ := h
    exact ⟨placeW x, 0, fun w ht => Read_text x s w hx hT ht, fun w ht => RefRead_text x s w hx hT ht⟩
  · have hno : NoText s := fun x hx hT => h ⟨x, hx, hT⟩
    refine ⟨placeW 0, 130, fun w ht => (read_none s w hno hsz ht).mono ?_, fun w ht => (refread_none s w hno hsz ht).mono ?_⟩
    · rintro e w' ⟨rfl, hb⟩
      exact ⟨0, rfl, by decide, rfl, hb⟩
    · rintro e w' ⟨rfl, hb⟩
      exact ⟨0, rfl, by decide, rfl, hb⟩
end Go.Proofs.YthfgjibhpenfkaaDoor
