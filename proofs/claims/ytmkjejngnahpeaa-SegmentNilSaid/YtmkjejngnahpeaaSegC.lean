/- Segment names: the refusals of segment.Name; the reference's Logged and Name. -/
import Derived.Test.YtmkjejngnahpeaaSegB
namespace Go.Proofs.Ytmkjejngnahpeaa
open Go.RowKit

set_option maxRecDepth 100000 in
set_option maxHeartbeats 400000 in
theorem name_no (s : ByteArray) (b : Int) (w : World) (hs : s.size ≤ maxLen) (h : loggedB s.data.toList = false ∨ b < 0 ∨ 9007199254740992 < b) :
    Calls Try.prog 16 #[.string s, .int .i64 b] w fun e w' => e = .returned (.tuple #[.string ⟨#[]⟩, .int .i64 2]) ∧ w = w' := by
  cases hl : loggedB s.data.toList with
  | false =>
    have HL := Lib.hid hl
    clear hl h
    go_enter Try.func16, Try.ntmps16
    go_wp2_with (go_at_call 88; refine (logged_any _ _ (by assumption)).mono ?_; rintro e w' ⟨rfl, rfl⟩; rw [HL.out])
    go_ret2
    exact ⟨rfl, rfl⟩
  | true =>
    have HL := Lib.hid hl
    by_cases h0 : b < 0
    · have hd0 : decide (b < 0) = true := by simp [h0]
      clear hl h h0
      go_enter Try.func16, Try.ntmps16
      go_wp2_with (go_at_call 88; refine (logged_any _ _ (by assumption)).mono ?_; rintro e w' ⟨rfl, rfl⟩; rw [HL.out])
      go_ret2
      exact ⟨rfl, rfl⟩
    · have hd0 : decide (b < 0) = false := by simp; omega
      have hd : decide (9007199254740992 < b) = true := by
        rcases h with h | h | h
        · rw [hl] at h; cases h
        · omega
        · simp only [decide_eq_true_eq]; exact h
      clear hl h h0
      go_enter Try.func16, Try.ntmps16
      go_wp2_with (go_at_call 88; refine (logged_any _ _ (by assumption)).mono ?_; rintro e w' ⟨rfl, rfl⟩; rw [HL.out])
      go_ret2
      exact ⟨rfl, rfl⟩

set_option maxHeartbeats 400000 in
theorem reflogged_any (s : ByteArray) (w : World) (hs : s.size ≤ maxLen) :
    Calls Try.prog 19 #[.string s] w fun e w' => e = .returned (.bool (loggedB s.data.toList)) ∧ w = w' := by
  unfold maxLen at hs
  by_cases h1 : 1 ≤ s.size
  · have hn : decide ((s.size : Int) < 1) = false := by simp; omega
    by_cases h8 : s.size ≤ 8
    · have hn8 : decide ((8 : Int) < (s.size : Int)) = false := by simp; omega
      go_enter Try.func19, Try.ntmps19
      go_wp2
      go_loop [3] (fun i => ∃ k : Nat, k ≤ s.size ∧ i = .int .i64 k ∧ lowB (s.data.toList.take k) = true) (fun i => s.size - (intOf i).toNat)
      case atStart => exact ⟨0, Nat.zero_le _, rfl, rfl⟩
      case round =>
        obtain ⟨k, hk, rfl, hlow⟩ := hrel
        have HL := Lib.hid hlow
        clear hlow
        by_cases hlt : k < s.size
        · by_cases hc : 97 ≤ (s[k].toNat : Int) ∧ (s[k].toNat : Int) ≤ 122
          · obtain ⟨hc1, hc2⟩ := hc
            go_wp2
            go_round
            case rel =>
              refine ⟨k + 1, by omega, by go_num, ?_⟩
              rw [take_snoc s k hlt, low_snoc, HL.out]
              simp [UInt8.le_iff_toNat_le]; omega
            case measure => simp [intOf]; omega
          · have hf : loggedB s.data.toList = false := by
              have h1 : lowB (s.data.toList.take (k + 1)) = false := by
                rw [take_snoc s k hlt, low_snoc, HL.out]
                simp [UInt8.le_iff_toNat_le]; omega
              simp [loggedB, low_take_false _ _ h1]
            have HF := Lib.hid hf
            clear hf
            go_wp2
            all_goals (go_ret; exact ⟨ret_bool HF.out.symm, rfl⟩)
        · obtain rfl : k = s.size := by omega
          have hl : lowB s.data.toList = true := by
            have := HL.out
            rwa [List.take_of_length_le (by simp)] at this
          have HF : Hid (loggedB s.data.toList = true) := by
            refine Lib.hid ?_
            simp [loggedB, hl]; omega
          clear hl HL
          go_wp2
          go_ret
          exact ⟨ret_bool HF.out.symm, rfl⟩
    · have hn8 : decide ((8 : Int) < (s.size : Int)) = true := by simp; omega
      have HF : Hid (loggedB s.data.toList = false) := by
        refine Lib.hid ?_
        simp [loggedB]; intros; omega
      go_enter Try.func19, Try.ntmps19
      go_wp2
      go_ret
      exact ⟨ret_bool HF.out.symm, rfl⟩
  · have hn : decide ((s.size : Int) < 1) = true := by simp; omega
    have HF : Hid (loggedB s.data.toList = false) := by
      refine Lib.hid ?_
      have : s.size = 0 := by omega
      simp [loggedB, this]
    go_enter Try.func19, Try.ntmps19
    go_wp2
    go_ret
    exact ⟨ret_bool HF.out.symm, rfl⟩

theorem enc_low_fin : ∀ d : Fin 10, Utf8.encode ((48 : Int) + ((d.val : Nat) : Int)) = ⟨#[hexd d.val]⟩ := by decide +kernel
theorem enc_low (d : Nat) (h : d < 10) : Utf8.encode ((48 : Int) + (d : Int)) = ⟨#[hexd d]⟩ := enc_low_fin ⟨d, h⟩
theorem enc_high_fin : ∀ d : Fin 16, 10 ≤ d.val → Utf8.encode ((97 : Int) + ((d.val : Nat) : Int) - 10) = ⟨#[hexd d.val]⟩ := by decide +kernel
theorem enc_high (d : Nat) (h : d < 16) (h' : 10 ≤ d) : Utf8.encode ((97 : Int) + (d : Int) - 10) = ⟨#[hexd d]⟩ := enc_high_fin ⟨d, h⟩ h'

theorem hex_step (b k c : Nat) (hc : c = b / 16 ^ k) : (⟨#[hexd (c % 16)]⟩ ++ ⟨(hex k b).toArray⟩ : ByteArray) = ⟨(hex (k + 1) b).toArray⟩ := by
  rw [hex_cons, ← hc]
  apply ByteArray.ext
  apply Array.ext'
  simp
theorem div_step (b k c : Nat) (hc : c = b / 16 ^ k) : c / 16 = b / 16 ^ (k + 1) := by
  rw [hc, Nat.div_div_eq_div_mul, Nat.pow_succ]
theorem name_cat (s : ByteArray) (l : List UInt8) : (s ++ ⟨#[45]⟩ ++ ⟨l.toArray⟩ : ByteArray) = ⟨(s.data.toList ++ 45 :: l).toArray⟩ := by
  apply ByteArray.ext
  apply Array.ext'
  simp
theorem size_hex (k b : Nat) : (⟨(hex k b).toArray⟩ : ByteArray).size = k := by
  show (hex k b).toArray.size = k
  simp [hex_length]
theorem size_one (c : UInt8) : (⟨#[c]⟩ : ByteArray).size = 1 := rfl

theorem ret_string {a b : ByteArray} (h : a = b) : Ending.returned (.string a) = .returned (.string b) := by rw [h]

set_option maxRecDepth 100000 in
set_option maxHeartbeats 400000 in
theorem refname_ok (s : ByteArray) (b : Nat) (w : World) (hs : s.size ≤ 8) (hb : b ≤ 9007199254740992) :
    Calls Try.prog 21 #[.string s, .int .i64 b] w fun e w' => e = .returned (.string ⟨(s.data.toList ++ 45 :: hex 14 b).toArray⟩) ∧ w = w' := by
  have hsd := size_dash s
  go_enter Try.func21, Try.ntmps21
  go_wp2
  go_loop [1, 5, 6] (fun c v i => ∃ k n : Nat, k ≤ 14 ∧ i = .int .i64 k ∧ c = .int .i64 n ∧ n ≤ 9007199254740992 ∧ Hid (n = b / 16 ^ k) ∧ v = .string ⟨(hex k b).toArray⟩) (fun _ _ i => (14 - intOf i).toNat)
  case atStart => exact ⟨0, b, by omega, rfl, rfl, hb, Lib.hid (by simp), by simp [hex]⟩
  case round =>
    obtain ⟨k, c, hk, rfl, rfl, hcb, HC, rfl⟩ := hrel
    have hlen := size_hex k b
    by_cases hlt : k < 14
    · by_cases h10 : c % 16 < 10
      · have henc := enc_low (c % 16) h10
        obtain ⟨d, hq⟩ : ∃ d : Int, (c : Int) % 16 = d := ⟨_, rfl⟩
        obtain ⟨z, hz⟩ : ∃ z : Int, 48 + d = z := ⟨_, rfl⟩
        have hd : 0 ≤ d ∧ d < 10 := by omega
        have hzb : 48 ≤ z ∧ z < 58 := by omega
        rw [show ((48 : Int) + ((c % 16 : Nat) : Int)) = z by omega] at henc
        obtain ⟨x, hx⟩ : ∃ x, Utf8.encode z = x := ⟨_, rfl⟩
        have HX : Hid (x = ⟨#[hexd (c % 16)]⟩) := Lib.hid (hx.symm.trans henc)
        have h1 : x.size = 1 := by rw [HX.out]; exact size_one _
        obtain ⟨hd1, hd2⟩ := hd
        obtain ⟨hz1, hz2⟩ := hzb
        clear h10 henc
        go_wp2
        go_round
        case rel => exact ⟨k + 1, c / 16, by omega, by go_num, by go_num, by omega, Lib.hid (div_step b k c HC.out), by rw [HX.out, hex_step b k c HC.out]⟩
        case measure => simp [intOf]; omega
      · have henc := enc_high (c % 16) (by omega) (by omega)
        obtain ⟨d, hq⟩ : ∃ d : Int, (c : Int) % 16 = d := ⟨_, rfl⟩
        obtain ⟨z, hz⟩ : ∃ z : Int, 97 + d - 10 = z := ⟨_, rfl⟩
        have hd : 10 ≤ d ∧ d < 16 := by omega
        have hzb : 97 ≤ z ∧ z < 103 := by omega
        rw [show ((97 : Int) + ((c % 16 : Nat) : Int) - 10) = z by omega] at henc
        obtain ⟨x, hx⟩ : ∃ x, Utf8.encode z = x := ⟨_, rfl⟩
        have HX : Hid (x = ⟨#[hexd (c % 16)]⟩) := Lib.hid (hx.symm.trans henc)
        have h1 : x.size = 1 := by rw [HX.out]; exact size_one _
        obtain ⟨hd1, hd2⟩ := hd
        obtain ⟨hz1, hz2⟩ := hzb
        clear h10 henc
        go_wp2
        go_round
        case rel => exact ⟨k + 1, c / 16, by omega, by go_num, by go_num, by omega, Lib.hid (div_step b k c HC.out), by rw [HX.out, hex_step b k c HC.out]⟩
        case measure => simp [intOf]; omega
    · obtain rfl : k = 14 := by omega
      go_wp2
      go_ret
      exact ⟨ret_string (name_cat s _), rfl⟩
end Go.Proofs.Ytmkjejngnahpeaa
