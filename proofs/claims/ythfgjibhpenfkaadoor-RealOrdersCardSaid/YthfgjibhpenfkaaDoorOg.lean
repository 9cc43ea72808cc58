/- Real: the document's digits. -/
import Derived.Test.YthfgjibhpenfkaaDoorOc
import Derived.Test.YthfgjibhpenfkaaDoorNz
namespace Go.Proofs.YthfgjibhpenfkaaDoor
open Go.RowKit Fl

/-- a finite float's power lies in narrow bounds -/
theorem fin_bound {r n : Nat} {ex : Int} (h : OddOf r n ex) (h0 : 0 < r) (hr : r < inf) : -1074 ≤ ex ∧ ex ≤ 1023 := by
  obtain ⟨m, b, hV, hm0, hm53, hb, -⟩ := parts_start h0 hr
  obtain ⟨n2, k, a, b2, c, -, -⟩ := odd_pow hm0 hm53
  have h2 : OddOf r n2 (((k + b : Nat) : Int) - 1074) := ⟨a, 0, k + b, by rw [Nat.pow_zero, Nat.mul_one, hV, ← b2, Nat.mul_assoc, ← Nat.pow_add], by omega⟩
  have h3 := (h.unique h2).2
  omega
theorem pow_le18 (i : Nat) (h : i ≤ 17) : (10 : Nat) ^ i ≤ 100000000000000000 := Nat.le_trans (Nat.pow_le_pow_right (show 0 < 10 by decide) h) (by decide)
set_option maxRecDepth 100000 in
set_option maxHeartbeats 1000000 in
theorem digits_some (u : ByteArray) (w : World) :
    Calls Tryd.prog 45 #[.string u] w fun e w' => ∃ (n : Nat) (ok : Bool), e = .returned (.tuple #[.int .i64 (n : Int), .bool ok]) ∧ n < 1000000000000000000 ∧ w = w' := by
  go_enter Tryd.func45, Tryd.ntmps45
  go_upto_region 3 with fail
  go_loopg [4, 5] 18 (fun g s4 s5 wx => ∃ n i : Nat, s4 = .int .i64 (n : Int) ∧ s5 = .int .i64 (i : Int) ∧ g = 18 - i ∧ n < 10 ^ i ∧ i ≤ 18 ∧ i ≤ u.size ∧ w = wx)
  case atStart => exact ⟨0, 0, rfl, rfl, rfl, by decide, by decide, Nat.zero_le _, rfl⟩
  case round =>
    obtain ⟨n, i, rfl, rfl, hg, hn, hi, hiu, rfl⟩ := hrel
    have hn18 : n < 1000000000000000000 := Nat.lt_of_lt_of_le hn (Nat.le_trans (Nat.pow_le_pow_right (show 0 < 10 by decide) hi) (by decide))
    have HN := Lib.hid (And.intro hn hn18)
    by_cases h1 : i < u.size
    · by_cases h2 : i < 18
      · have h1' : (i : Int) < (u.size : Int) := by omega
        have h2' : decide ((i : Int) < 18) = true := by simp; omega
        have h2'' : (i : Int) < 18 := by omega
        have hn17 : n < 100000000000000000 := Nat.lt_of_lt_of_le hn (pow_le18 i (by omega))
        obtain ⟨c, hc⟩ : ∃ c, (u[i]'h1).toNat = c := ⟨_, rfl⟩
        obtain ⟨nI, hnI⟩ : ∃ v : Int, v = (n : Int) := ⟨_, rfl⟩
        rw [← hnI]
        have hn0 : 0 ≤ nI := by omega
        have hn1 : nI < 100000000000000000 := by omega
        have HC := Lib.hid (And.intro hnI (And.intro hg (And.intro h1 h2)))
        clear hn hn18 hn17 hnI hg
        by_cases h3 : c < 48
        · have h3' : decide ((c : Int) < 48) = true := by simp; omega
          go_wp2_with fail
          go_ret2
          exact ⟨0, false, rfl, by decide, rfl⟩
        · have h3' : decide ((c : Int) < 48) = false := by simp; omega
          by_cases h4 : 57 < c
          · have h4' : decide ((57 : Int) < (c : Int)) = true := by simp; omega
            go_wp2_with fail
            go_ret2
            exact ⟨0, false, rfl, by decide, rfl⟩
          · have h4' : decide ((57 : Int) < (c : Int)) = false := by simp; omega
            have h5 : (48 : Int) ≤ (c : Int) := by omega
            have h6 : (c : Int) ≤ 57 := by omega
            have H7 := Lib.hid (And.intro h3 h4)
            clear h3 h4
            go_wp2_with fail
            go_roundg (18 - (i + 1))
            case measure => have := HC.out; omega
            case rel =>
              refine ⟨10 * n + (c - 48), i + 1, ?_, by go_num, rfl, ?_, by omega, by have := HC.out.2.2.1; omega, rfl⟩
              · have := HC.out.1; have := H7.out; congr 1; omega
              · have := HN.out.1; have := H7.out; rw [Nat.pow_succ]; omega
      · have h1' : (i : Int) < (u.size : Int) := by omega
        have h2' : decide ((i : Int) < 18) = false := by simp; omega
        clear hn hn18
        go_wp2_with fail
        all_goals
          go_ret2
          exact ⟨n, _, rfl, HN.out.2, rfl⟩
    · have h1' : decide ((i : Int) < (u.size : Int)) = false := by simp; omega
      clear hn hn18
      go_wp2_with fail
      all_goals
        go_ret2
        exact ⟨n, _, rfl, HN.out.2, rfl⟩
set_option maxRecDepth 100000 in
set_option maxHeartbeats 1000000 in
theorem digits_canon (u : ByteArray) (k N : Nat) (w : World) (hk : u.size = k) (hk1 : 1 ≤ k) (hk2 : k ≤ 17) (hz : N / 10 ^ k = 0) (hN : N < 9007199254740992)
    (hd : ∀ j, j < k → ∃ c : UInt8, u.data[j]? = some c ∧ 48 ≤ c.toNat ∧ c.toNat ≤ 57 ∧ 10 * (N / 10 ^ (k - j)) + (c.toNat - 48) = N / 10 ^ (k - (j + 1))) :
    Calls Tryd.prog 45 #[.string u] w fun e w' => e = .returned (.tuple #[.int .i64 (N : Int), .bool true]) ∧ w = w' := by
  subst hk
  have HD := Lib.hid hd
  have HZ := Lib.hid (And.intro hz hN)
  clear hd hz
  go_enter Tryd.func45, Tryd.ntmps45
  go_upto_region 3 with fail
  go_loopg [4, 5] u.size (fun g s4 s5 wx => ∃ (i : Nat) (nI : Int), s4 = .int .i64 nI ∧ s5 = .int .i64 (i : Int) ∧ g = u.size - i ∧ nI = ((N / 10 ^ (u.size - i) : Nat) : Int) ∧ i ≤ u.size ∧ w = wx)
  case atStart => exact ⟨0, 0, rfl, rfl, rfl, by rw [Nat.sub_zero, HZ.out.1]; rfl, Nat.zero_le _, rfl⟩
  case round =>
    obtain ⟨i, nI, rfl, rfl, hg, hnI, hik, rfl⟩ := hrel
    have hle : N / 10 ^ (u.size - i) ≤ N := Nat.div_le_self _ _
    generalize hQ : N / 10 ^ (u.size - i) = Q at hnI hle
    have hn0 : 0 ≤ nI := by omega
    have hn1 : nI < 9007199254740992 := by have := HZ.out.2; omega
    by_cases h1 : i < u.size
    · obtain ⟨cu, e1, e2, e3, e4⟩ := HD.out i (by omega)
      obtain ⟨hl, e5⟩ := Array.getElem?_eq_some_iff.1 e1
      have hb : (u[i]'h1).toNat = cu.toNat := congrArg UInt8.toNat e5
      rw [hQ] at e4
      generalize hcu : cu.toNat = c at e2 e3 e4 hb
      have h1' : (i : Int) < (u.size : Int) := by omega
      have h2' : decide ((i : Int) < 18) = true := by simp; omega
      have h2'' : (i : Int) < 18 := by omega
      have h3' : decide ((c : Int) < 48) = false := by simp; omega
      have h4' : decide ((57 : Int) < (c : Int)) = false := by simp; omega
      have h5 : (48 : Int) ≤ (c : Int) := by omega
      have h6 : (c : Int) ≤ 57 := by omega
      have HC := Lib.hid (And.intro hnI (And.intro hg (And.intro h1 (And.intro e2 e4))))
      clear e1 e2 e3 e4 e5 hl hcu hnI hg hle hQ
      go_wp2_with fail
      go_roundg (u.size - (i + 1))
      case measure => have := HC.out.2.1; have := HC.out.2.2.1; omega
      case rel =>
        refine ⟨i + 1, _, rfl, by go_num, rfl, ?_, by have := HC.out.2.2.1; omega, rfl⟩
        have := HC.out.1; have := HC.out.2.2.2.1; have := HC.out.2.2.2.2
        omega
    · obtain rfl : i = u.size := by omega
      rw [Nat.sub_self, Nat.pow_zero, Nat.div_one] at hQ
      rw [← hQ] at hnI
      have h1' : decide ((u.size : Int) < (u.size : Int)) = false := by simp
      have z1 : (0 : Int) < (u.size : Int) := by omega
      have z2 : decide ((u.size : Int) < 18) = true := by simp; omega
      have HK := Lib.hid hnI
      clear hnI hle hQ
      go_wp2_with fail
      go_ret2
      exact ⟨by rw [← HK.out]; rfl, rfl⟩
end Go.Proofs.YthfgjibhpenfkaaDoor
