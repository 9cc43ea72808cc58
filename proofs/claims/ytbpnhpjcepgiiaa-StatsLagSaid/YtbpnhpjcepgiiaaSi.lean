/- StatsLag: the program's Lag. -/
import Derived.Test.YtbpnhpjcepgiiaaSh
import Derived.Deep.LoopGhost
import Derived.Deep.CutRange
namespace Go.Proofs.Ytbpnhpjcepgiiaa
open Go.RowKit Fl

theorem div_some (x y : Nat) (hx : x < inf) (hy : y < inf) (hy0 : 0 < y) : ∃ z, Ieee.double.div x y = some z ∧ z < 18446744073709551616 := by
  unfold Ieee.Format.div
  rw [read_small x hx, read_small y hy]
  unfold Ieee.Datum.quotient
  simp only
  rw [if_neg (mant_pos hy0)]
  exact ⟨_, rfl, Ieee.double.write_lt _⟩

/-- the sum of the first k differences -/
def sumL (fm fp : Nat → Int) : Nat → Int
  | 0 => 0
  | k + 1 => sumL fm fp k + (fm k - fp k)
def badL (m p : Int) : Bool := decide (p < 0) || decide (m < p) || decide (9007199254740992 < m)
def allL (n : Nat) (fm fp : Nat → Int) : Prop := ∀ i, i < n → badL (fm i) (fp i) = false
theorem sumL_bound (fm fp : Nat → Int) (n k : Nat) (h : allL n fm fp) (hk : k ≤ n) : 0 ≤ sumL fm fp k ∧ sumL fm fp k ≤ k * 9007199254740992 := by
  induction k with
  | zero => exact ⟨Int.le_refl _, by simp [sumL]⟩
  | succ k ih =>
    have h1 := ih (by omega)
    have h2 := h k (by omega)
    simp only [badL, Bool.or_eq_false_iff, decide_eq_false_iff_not] at h2
    have e : sumL fm fp (k + 1) = sumL fm fp k + (fm k - fp k) := rfl
    rw [e]
    constructor
    · omega
    · push_cast; omega
/-- the mean of the differences -/
def meanL (fm fp : Nat → Int) (n : Nat) : Nat := (Ieee.double.div (i2r (sumL fm fp n).toNat) (i2r n)).getD 0
theorem meanL_some (fm fp : Nat → Int) (n : Nat) (h : allL n fm fp) (h0 : 0 < n) (hn : n ≤ 16) : Ieee.double.div (i2r (sumL fm fp n).toNat) (i2r n) = some (meanL fm fp n) ∧ meanL fm fp n < 18446744073709551616 := by
  have hb := sumL_bound fm fp n n h (Nat.le_refl _)
  obtain ⟨z, hz, hz2⟩ := div_some (i2r (sumL fm fp n).toNat) (i2r n) (by
    have hs : (sumL fm fp n).toNat ≤ 144115188075855872 := by omega
    have h1 : i2r (sumL fm fp n).toNat ≤ i2r 144115188075855872 := i2r_mono hs
    have h2 : i2r 144115188075855872 < inf := by decide +kernel
    omega) (i2r_fin n (by omega)) (by
    have : i2r 1 ≤ i2r n := i2r_mono h0
    have h1 : 0 < i2r 1 := by decide +kernel
    omega)
  unfold meanL
  rw [hz]
  exact ⟨rfl, hz2⟩
/-- what Lag answers -/
def LagIs (n : Nat) (fm fp : Nat → Int) (s : Int) (z : Nat) (e : Int) : Prop :=
  (¬ allL n fm fp ∧ s = 0 ∧ z = 0 ∧ e = 2) ∨ (allL n fm fp ∧ 16 < n ∧ s = 0 ∧ z = 0 ∧ e = 3) ∨ (allL n fm fp ∧ n = 0 ∧ s = 0 ∧ z = 0 ∧ e = 0) ∨ (allL n fm fp ∧ 0 < n ∧ n ≤ 16 ∧ s = sumL fm fp n ∧ z = meanL fm fp n ∧ e = 0)
theorem LagIs.same {n : Nat} {fm fp : Nat → Int} {s s' : Int} {z z' : Nat} {e e' : Int} (h : LagIs n fm fp s z e) (h' : LagIs n fm fp s' z' e') : s = s' ∧ z = z' ∧ e = e' := by
  rcases h with ⟨a, b, c, d⟩ | ⟨a, a1, b, c, d⟩ | ⟨a, a1, b, c, d⟩ | ⟨a, a1, a2, b, c, d⟩ <;> rcases h' with ⟨x, y, z, t⟩ | ⟨x, x1, y, z, t⟩ | ⟨x, x1, y, z, t⟩ | ⟨x, x1, x2, y, z, t⟩ <;>
    first | (exact absurd x a) | (exact absurd a x) | (exfalso; omega) | (refine ⟨by omega, ?_, by omega⟩; rw [c, z])

set_option maxRecDepth 100000 in
set_option maxHeartbeats 2000000 in
theorem lag_b (am ap : Option Addr) (n cm cp : Nat) (fm fp : Nat → Int) (w : World) (hm : TimesAt w am n fm) (hp : TimesAt w ap n fp) (hn : n ≤ 40) :
    Calls Try.prog 32 #[.slice am n cm, .slice ap n cp] w fun e w' => ∃ (s : Int) (z : Nat) (er : Int), e = .returned (.tuple #[.int .i64 s, .float .f64 z, .int .i64 er]) ∧ LagIs n fm fp s z er ∧ w = w' := by
  have HM := Lib.hid hm
  have HP := Lib.hid hp
  clear hm hp
  have hnn : ((n : Int) == (n : Int)) = true := by simp
  go_enter Try.func32, Try.ntmps32
  go_wp2_with fail
  go_loopg [7, 18] n (fun g s7 s18 wr => ∃ k : Nat, s7 = .int .i64 (sumL fm fp (min k 16)) ∧ s18 = .int .i64 k ∧ g = n - k ∧ k ≤ n ∧ Hid (allL k fm fp) ∧ wr = w)
  case atStart => exact ⟨0, rfl, rfl, rfl, Nat.zero_le _, Lib.hid (fun i hi => absurd hi (Nat.not_lt_zero i)), rfl⟩
  case round =>
    obtain ⟨k, rfl, rfl, hg, hk, HA, rfl⟩ := hrel
    by_cases hlt : k < n
    · have hdk : decide ((k : Int) < (n : Int)) = true := by simp; omega
      obtain ⟨adm, ham, c1, _⟩ := HM.out k hlt
      obtain ⟨adp, hap, c2, _⟩ := HP.out k hlt
      subst ham hap
      obtain ⟨m, hm⟩ : ∃ m, m = fm k := ⟨_, rfl⟩
      obtain ⟨p, hp⟩ : ∃ p, p = fp k := ⟨_, rfl⟩
      rw [← hm] at c1
      rw [← hp] at c2
      have HMP := Lib.hid (And.intro hm hp)
      clear hm hp
      have nbad : badL m p = true → ¬ allL n fm fp := fun h ha => by
        have := ha k hlt
        rw [← HMP.out.1, ← HMP.out.2, h] at this
        cases this
      have HNB := Lib.hid nbad
      clear nbad
      by_cases h1 : p < 0
      · have hd1 : decide (p < 0) = true := decide_eq_true h1
        have HX : Hid (¬ allL n fm fp) := Lib.hid (HNB.out (by simp [badL, h1]))
        clear h1
        go_wp2_with fail
        go_ret3
        exact ⟨0, 0, 2, rfl, .inl ⟨HX.out, rfl, rfl, rfl⟩, rfl⟩
      · have hd1 : decide (p < 0) = false := decide_eq_false h1
        by_cases h2 : m < p
        · have hd2 : decide (m < p) = true := decide_eq_true h2
          have HX : Hid (¬ allL n fm fp) := Lib.hid (HNB.out (by simp [badL, h2]))
          clear h1 h2
          go_wp2_with fail
          go_ret3
          exact ⟨0, 0, 2, rfl, .inl ⟨HX.out, rfl, rfl, rfl⟩, rfl⟩
        · have hd2 : decide (m < p) = false := decide_eq_false h2
          by_cases h3 : 9007199254740992 < m
          · have hd3 : decide (9007199254740992 < m) = true := decide_eq_true h3
            have HX : Hid (¬ allL n fm fp) := Lib.hid (HNB.out (by simp [badL, h3]))
            clear h1 h2 h3
            go_wp2_with fail
            go_ret3
            exact ⟨0, 0, 2, rfl, .inl ⟨HX.out, rfl, rfl, rfl⟩, rfl⟩
          · have hd3 : decide (9007199254740992 < m) = false := decide_eq_false h3
            have HA2 : Hid (allL (k + 1) fm fp) := Lib.hid (fun i hi => by
              by_cases he : i = k
              · subst he; rw [← HMP.out.1, ← HMP.out.2]; simp [badL, h1, h2, h3]
              · exact HA.out i (by omega))
            by_cases h16 : k < 16
            · have hd4 : decide ((k : Int) < 16) = true := by simp; omega
              have hmin : min k 16 = k := by omega
              rw [hmin]
              have hb := sumL_bound fm fp k k HA.out (Nat.le_refl _)
              obtain ⟨S, hS⟩ : ∃ S, S = sumL fm fp k := ⟨_, rfl⟩
              rw [← hS] at hb ⊢
              have hw1 : IntKind.i64.wrap (m - p) = m - p := IntWalk.i64_in _ (by omega)
              have hw2 : IntKind.i64.wrap (S + (m - p)) = S + (m - p) := IntWalk.i64_in _ (by omega)
              have HS : Hid (S + (m - p) = sumL fm fp (min (k + 1) 16)) := Lib.hid (by rw [show min (k + 1) 16 = k + 1 by omega, hS, HMP.out.1, HMP.out.2]; rfl)
              clear hS hb h1 h2 h3 hmin
              go_wp2_with fail
              go_roundg (n - (k + 1))
              case measure => omega
              case rel => exact ⟨k + 1, by rw [HS.out], by go_num, rfl, by omega, HA2, rfl⟩
            · have hd4 : decide ((k : Int) < 16) = false := by simp; omega
              have HS : Hid (sumL fm fp (min k 16) = sumL fm fp (min (k + 1) 16)) := Lib.hid (by rw [show min (k + 1) 16 = 16 by omega, show min k 16 = 16 by omega])
              clear h1 h2 h3
              go_wp2_with fail
              go_roundg (n - (k + 1))
              case measure => omega
              case rel => exact ⟨k + 1, by rw [HS.out], by go_num, rfl, by omega, HA2, rfl⟩
    · obtain rfl : k = n := by omega
      have hdk : decide ((k : Int) < (k : Int)) = false := by simp
      by_cases h16 : 16 < k
      · have hd4 : decide ((16 : Int) < (k : Int)) = true := by simp; omega
        go_wp2_with fail
        go_ret3
        exact ⟨0, 0, 3, rfl, .inr (.inl ⟨HA.out, h16, rfl, rfl, rfl⟩), rfl⟩
      · have hd4 : decide ((16 : Int) < (k : Int)) = false := by simp; omega
        by_cases h0 : k = 0
        · subst h0
          go_wp2_with fail
          go_ret3
          exact ⟨0, 0, 0, rfl, .inr (.inr (.inl ⟨HA.out, rfl, rfl, rfl, rfl⟩)), rfl⟩
        · have hd5 : ((k : Int) == 0) = false := by simp; omega
          have hmin : min k 16 = k := by omega
          rw [hmin]
          have hb := sumL_bound fm fp k k HA.out (Nat.le_refl _)
          have hml := meanL_some fm fp k HA.out (by omega) (by omega)
          obtain ⟨nf, hnf⟩ : ∃ nf, nf = i2r k := ⟨_, rfl⟩
          obtain ⟨S, hS⟩ : ∃ S, S = sumL fm fp k := ⟨_, rfl⟩
          obtain ⟨sf, hsf⟩ : ∃ sf, sf = i2r (sumL fm fp k).toNat := ⟨_, rfl⟩
          rw [← hnf, ← hsf] at hml
          have hc1 : floatOfInt .f64 S = sf := by rw [hsf, ← hS, ← floatOfInt_nat]; congr 1; omega
          have hc2 : floatOfInt .f64 (k : Int) = nf := by rw [hnf, floatOfInt_nat]
          have hdv := fun (T : TypeId) (W : World) => run_float_arith (P := Try.prog) W .quo T .f64 sf nf _ hml.1
          rw [← hS]
          have HS := Lib.hid hS
          have hk0 : 0 < k := by omega
          clear hb hml hnf hsf hS hmin
          go_wp2_with fail
          go_ret3
          exact ⟨S, _, 0, rfl, .inr (.inr (.inr ⟨HA.out, hk0, by omega, HS.out, rfl, rfl⟩)), rfl⟩
end Go.Proofs.Ytbpnhpjcepgiiaa
