/- Real: the document's parts of a finite float. -/
import Derived.Test.YthfgjibhpenfkaaDoorNf
namespace Go.Proofs.YthfgjibhpenfkaaDoor
open Go.RowKit Fl

theorem parts_start {r : Nat} (h0 : 0 < r) (hr : r < inf) : ∃ m b : Nat, V r = m * 2 ^ b ∧ 0 < m ∧ m < 2 ^ 53 ∧ b + 53 ≤ 2098 ∧
    ((r < 4503599627370496 ∧ m = r ∧ b = 0) ∨ (4503599627370496 ≤ r ∧ m = r % 4503599627370496 + 4503599627370496 ∧ (b : Int) = ((r / 4503599627370496 : Nat) : Int) - 1)) := by
  have hi := inf_val
  rcases Nat.lt_or_ge r 4503599627370496 with h | h
  · exact ⟨r, 0, by rw [V_sub h, Nat.pow_zero, Nat.mul_one], h0, by omega, by omega, .inl ⟨h, rfl, rfl⟩⟩
  · refine ⟨r % 4503599627370496 + 4503599627370496, r / 4503599627370496 - 1, ?_, by omega, by omega, by omega, .inr ⟨h, rfl, by omega⟩⟩
    rw [V_normal h, Nat.add_comm]
theorem parts_step {r m b j : Nat} (h : V r = m * 2 ^ b) (h0 : 0 < m) (hj : m < 2 ^ j) (hj2 : j ≤ 53) (hb : b + j ≤ 2098) (he : m % 2 = 0) :
    V r = m / 2 * 2 ^ (b + 1) ∧ 0 < m / 2 ∧ ∃ i, m / 2 < 2 ^ i ∧ i ≤ 53 ∧ b + 1 + i ≤ 2098 := by
  refine ⟨?_, by omega, ?_⟩
  · rw [h, Nat.pow_succ, Nat.mul_comm (2 ^ b) 2, ← Nat.mul_assoc, Nat.div_mul_cancel (Nat.dvd_of_mod_eq_zero he)]
  · cases j with
    | zero => simp at hj; omega
    | succ j => exact ⟨j, by rw [Nat.pow_succ] at hj; omega, by omega, by omega⟩
theorem parts_end {x m b j : Nat} (h : V (x % nz) = m * 2 ^ b) (h0 : 0 < m) (hj : m < 2 ^ j) (hj2 : j ≤ 53) (hb : b + j ≤ 2098) (he : m % 2 = 1) : FinT x m ((b : Int) - 1074) := by
  have h53 : m < 9007199254740992 := Nat.lt_of_lt_of_le hj (Nat.pow_le_pow_right (by decide) hj2)
  exact ⟨⟨he, 0, b, by rw [Nat.pow_zero, Nat.mul_one, h], by omega⟩, h0, h53, by omega, by omega⟩
set_option maxRecDepth 100000 in
set_option maxHeartbeats 1000000 in
theorem parts_any (x : Nat) (w : World) (hx : x < 18446744073709551616) (h0 : 0 < x % nz) (hr : x % nz < inf) :
    Calls Tryd.prog 49 #[.float .f64 x] w fun e w' => ∃ n ex, FinT x n ex ∧ e = .returned (.tuple #[.int .u64 n, .int .i64 ex]) ∧ w = w' := by
  have hnz := nz_val
  obtain ⟨m0, b0, hV, hm0, hm53, hb0, hcase⟩ := parts_start h0 hr
  have hb := f64bits x
  have hmod : ((x : Int) % 9223372036854775808) = ((x % nz : Nat) : Int) := by rw [hnz]; omega
  obtain ⟨r, hrv⟩ : ∃ r : Nat, r = x % nz := ⟨_, rfl⟩
  rw [← hrv] at hmod hcase hV
  obtain ⟨RI, hRI⟩ : ∃ v : Int, v = (r : Int) := ⟨_, rfl⟩
  obtain ⟨XI, hXI⟩ : ∃ v : Int, v = (x : Int) := ⟨_, rfl⟩
  rw [← hRI, ← hXI] at hmod
  rw [← hXI] at hb
  have hrI : 0 ≤ RI := by omega
  have hr63 : RI < 9223372036854775808 := by omega
  have hx0 : 0 ≤ XI := by omega
  have hx64 : XI < 18446744073709551616 := by omega
  have HRI := Lib.hid hRI
  have HR := Lib.hid hrv
  have HV := Lib.hid hV
  have HM := Lib.hid (And.intro hm0 (And.intro hm53 hb0))
  have hm53' : m0 < 9007199254740992 := hm53
  have HMV := Lib.hid (show ∀ m b : Nat, V (x % nz) = m * 2 ^ b ↔ V r = m * 2 ^ b from fun m b => by rw [hrv])
  clear hm0 hm53 hb0 hV hrv h0 hr hx hnz hXI hRI
  go_enter Tryd.func49, Tryd.ntmps49
  go_upto_region 3 with fail
  go_upto_if 12 with fail
  go_cut [5, 6] from 11 to 19 (fun s5 s6 wx => s5 = .int .u64 (m0 : Int) ∧ s6 = .int .i64 ((b0 : Int) - 1074) ∧ w = wx)
  case first =>
    rcases hcase with ⟨h1, h2, h3⟩ | ⟨h1, h2, h3⟩
    · have hd : RI < 4503599627370496 := by have := HRI.out; omega
      have H23 := Lib.hid (And.intro h2 h3)
      clear h1 h2 h3
      go_wp2_with fail
      go_meet
      exact ⟨by rw [H23.out.1, hmod, HRI.out], by rw [H23.out.2]; rfl, rfl⟩
    · have hd : 4503599627370496 ≤ RI := by have := HRI.out; omega
      have H23 := Lib.hid (And.intro h2 h3)
      clear h1 h2 h3
      go_wp2_with fail
      go_meet
      exact ⟨by rw [H23.out.1, HRI.out]; rfl, by rw [H23.out.2, HRI.out]; congr 1; omega, rfl⟩
  case rest =>
  obtain ⟨rfl, rfl, rfl⟩ := hcut
  go_wp2_with fail
  go_loopg [5, 6] m0 (fun g s5 s6 wx => ∃ m b j : Nat, s5 = .int .u64 (m : Int) ∧ s6 = .int .i64 ((b : Int) - 1074) ∧ g = m ∧ Hid (V r = m * 2 ^ b ∧ 0 < m ∧ m < 2 ^ j ∧ j ≤ 53 ∧ b + j ≤ 2098) ∧ w = wx)
  case atStart => exact ⟨m0, b0, 53, rfl, rfl, rfl, Lib.hid ⟨HV.out, HM.out.1, HM.out.2.1, Nat.le_refl _, HM.out.2.2⟩, rfl⟩
  case round =>
    obtain ⟨m, b, j, rfl, rfl, hg, HI, rfl⟩ := hrel
    have hmb : m < 9007199254740992 := Nat.lt_of_lt_of_le HI.out.2.2.1 (Nat.pow_le_pow_right (by decide) HI.out.2.2.2.1)
    have hbb : b ≤ 2098 := by have := HI.out.2.2.2.2; omega
    have hm2 : 0 ≤ (m : Int) := by omega
    have hm3 : (m : Int) < 9007199254740992 := by omega
    rcases Nat.mod_two_eq_zero_or_one m with he | he
    · have hd : ((m : Int) % 2 == 0) = true := by simp; omega
      have HE := Lib.hid he
      have HG := Lib.hid hg
      clear he hg
      go_wp2_with fail
      obtain ⟨a1, a2, i, a3, a4, a5⟩ := parts_step HI.out.1 HI.out.2.1 HI.out.2.2.1 HI.out.2.2.2.1 HI.out.2.2.2.2 HE.out
      have HA := Lib.hid (And.intro a1 (And.intro a2 (And.intro a3 (And.intro a4 a5))))
      clear a1 a2 a3 a4 a5
      go_roundg (m / 2)
      case measure => have := HI.out.2.1; have := HG.out; omega
      case rel => exact ⟨m / 2, b + 1, i, by go_num, by go_num, rfl, HA, rfl⟩
    · have hd : ((m : Int) % 2 == 0) = false := by simp; omega
      have HE := Lib.hid he
      clear he
      go_wp2_with fail
      go_ret2
      exact ⟨m, (b : Int) - 1074, parts_end ((HMV.out m b).2 HI.out.1) HI.out.2.1 HI.out.2.2.1 HI.out.2.2.2.1 HI.out.2.2.2.2 HE.out, rfl, rfl⟩
end Go.Proofs.YthfgjibhpenfkaaDoor
