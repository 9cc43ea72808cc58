/- Segment names: the walks. -/
import Derived.Test.YtmkjejngnahpeaaProg
import Derived.WalkKit
import Derived.WalkSpells
import Derived.WalkLawsBesides
import Derived.Lib.Hide
import Derived.Deep.Cut
namespace Go.Proofs.Ytmkjejngnahpeaa
open Go.RowKit

/-- all letters from a to z -/
def lowB (l : List UInt8) : Bool := l.all fun c => 97 ≤ c && c ≤ 122
def loggedB (l : List UInt8) : Bool := lowB l && decide (1 ≤ l.length) && decide (l.length ≤ 8)

theorem take_snoc (s : ByteArray) (k : Nat) (h : k < s.size) : s.data.toList.take (k + 1) = s.data.toList.take k ++ [s[k]] := by
  rw [List.take_succ_eq_append_getElem (by simpa using h)]; rfl
theorem low_snoc (l : List UInt8) (c : UInt8) : lowB (l ++ [c]) = (lowB l && (97 ≤ c && c ≤ 122)) := by simp [lowB]
theorem low_take_false (l : List UInt8) (k : Nat) (h : lowB (l.take k) = false) : lowB l = false := by
  rw [← List.take_append_drop k l]
  unfold lowB at *
  rw [List.all_append, h, Bool.false_and]

theorem ret_bool {a b : Bool} (h : a = b) : Ending.returned (.bool a) = .returned (.bool b) := by rw [h]

set_option maxHeartbeats 400000 in
theorem logged_any (s : ByteArray) (w : World) (hs : s.size ≤ maxLen) :
    Calls Try.prog 88 #[.string s] w fun e w' => e = .returned (.bool (loggedB s.data.toList)) ∧ w = w' := by
  unfold maxLen at hs
  go_enter Try.func88, Try.ntmps88
  go_wp2
  go_loop [6] (fun i => ∃ k : Nat, k ≤ s.size ∧ i = .int .i64 k ∧ lowB (s.data.toList.take k) = true) (fun i => s.size - (intOf i).toNat)
  case atStart => exact ⟨0, Nat.zero_le _, rfl, rfl⟩
  case round =>
    obtain ⟨k, hk, rfl, hlow⟩ := hrel
    have HL := Lib.hid hlow
    clear hlow
    by_cases hlt : k < s.size
    · by_cases hc : 97 ≤ (s[k].toNat : Int) ∧ (s[k].toNat : Int) ≤ 122
      · obtain ⟨hc1, hc2⟩ := hc
        go_wp2
        go_round
        case rel =>
          refine ⟨k + 1, by omega, by go_num, ?_⟩
          rw [take_snoc s k hlt, low_snoc, HL.out]
          simp [UInt8.le_iff_toNat_le]; omega
        case measure => simp [intOf]; omega
      · have hf : loggedB s.data.toList = false := by
          have h1 : lowB (s.data.toList.take (k + 1)) = false := by
            rw [take_snoc s k hlt, low_snoc, HL.out]
            simp [UInt8.le_iff_toNat_le]; omega
          simp [loggedB, low_take_false _ _ h1]
        have HF := Lib.hid hf
        clear hf
        go_wp2
        all_goals (go_ret; exact ⟨ret_bool HF.out.symm, rfl⟩)
    · obtain rfl : k = s.size := by omega
      have hl : lowB s.data.toList = true := by
        have := HL.out
        rwa [List.take_of_length_le (by simp)] at this
      have HF : Hid (loggedB s.data.toList = (decide (1 ≤ s.size) && decide (s.size ≤ 8))) := by
        refine Lib.hid ?_
        simp [loggedB, hl]
      clear hl HL
      by_cases h1 : 1 ≤ s.size
      · go_wp2
        go_ret
        exact ⟨ret_bool (by rw [HF.out]; simp [h1]; omega), rfl⟩
      · have hd : decide ((1 : Int) ≤ (s.size : Int)) = false := by simp; omega
        go_wp2
        go_ret
        exact ⟨ret_bool (by rw [HF.out]; simp [h1]), rfl⟩
end Go.Proofs.Ytmkjejngnahpeaa
