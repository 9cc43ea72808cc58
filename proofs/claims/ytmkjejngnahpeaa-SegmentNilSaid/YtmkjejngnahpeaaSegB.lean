/- Segment names: segment.Name. -/
import Derived.Test.YtmkjejngnahpeaaSegA
import Derived.Test.YtmkjejngnahpeaaSegP
namespace Go.Proofs.Ytmkjejngnahpeaa
open Go.RowKit

theorem info_u8 : (Try.prog.info? 5).map (fun i => (i.zero, i.size, i.bytes)) = some (some (.int .u8 0), 1, 1) := by kernel_rfl

set_option maxRecDepth 100000 in
set_option maxHeartbeats 400000 in
theorem name_ok (s : ByteArray) (b : Nat) (w : World) (hs : s.size ≤ 8) (hl : loggedB s.data.toList = true) (hb : b ≤ 9007199254740992) :
    Calls Try.prog 16 #[.string s, .int .i64 b] w fun e w' => e = .returned (.tuple #[.string ⟨(s.data.toList ++ 45 :: hex 14 b).toArray⟩, .int .i64 0]) ∧ Below w.heap.size w w' := by
  have hs' : s.size ≤ maxLen := by unfold maxLen; omega
  have HL := Lib.hid hl
  clear hl
  have hd : decide ((9007199254740992 : Int) < (b : Int)) = false := by rw [decide_eq_false_iff_not]; omega
  have hd0 : decide ((b : Int) < 0) = false := by simp
  have HB := Lib.hid hb
  clear hb
  obtain ⟨v0, w1, hrun, hrow, hgrow, hown, hsize⟩ := run_bytes_row (P := Try.prog) w w.heap.size 9 79 5 (s ++ ⟨#[45]⟩) Try.underlying9 Try.underlying79 Try.underlying5 (Nat.le_refl _) (by rw [size_dash]; unfold maxLen; omega)
  rw [size_dash, data_dash] at hrow
  have HX := Lib.hid hsize
  have HO := Lib.hid hown
  clear hsize hown
  go_enter Try.func16, Try.ntmps16
  go_wp2_with (go_at_call 88; refine (logged_any _ _ (by assumption)).mono ?_; rintro e w' ⟨rfl, rfl⟩; rw [HL.out])
  go_loopw [6, 7] (fun v i wr => ∃ k : Nat, k ≤ 14 ∧ i = .int .i64 ((13 : Int) - (k : Int)) ∧ hasRow wr w.heap.size 5 1 v (s.size + 1 + k) (byteCells (s.data.toList ++ 45 :: hex k (b / 16 ^ (14 - k)))) ∧ Below w.heap.size w wr)
    (fun _ i _ => (intOf i + 1).toNat)
  case atStart =>
    refine ⟨0, by omega, rfl, ?_, ?_⟩
    · exact hrow
    · exact (Below.refl _ _).grown hgrow (Nat.le_refl _) (by simp)
  case round =>
    obtain ⟨k, hk, rfl, hrw, hbl⟩ := hrel
    by_cases hlt : k < 14
    · obtain ⟨d, hd⟩ : ∃ d, d = b / 16 ^ (13 - k) % 16 := ⟨_, rfl⟩
      have hd16 : d < 16 := by omega
      have hbit : bits .and .i64 ((b : Int) / 2 ^ (4 * (13 - k))) 15 = (d : Int) := by rw [digit_bits, hd]
      have HD := Lib.hid hd
      clear hd
      have hdg : hexs[d]'hd16 = hexd d := hexs_get d hd16
      go_wp2_with (at_builtin; refine wpList_append_row _ rfl (.tmp 26) (.tmp 33) 79 79 rfl w.heap.size 5 (.int .u8 0) 1 1 Try.underlying79 info_u8 rfl u6 (s.size + 1 + k) _ rfl (hrw.alloc _) _ 1 [.int .u8 ((hexs[d]'hd16).toNat : Int)] rfl (Src.slice Try.underlying79 ⟨wr.heap.size, 0, none⟩ 1 1 _ rfl (cell_one_new _ _ _) (by simp [Value.oneCell'])) ?_ ?_ ?_ ?_)
      · unfold maxLen; omega
      · omega
      · have := hbl.size; simp; omega
      · intro v' w2 hrow2 hgrow2 _
        clear hbit
        go_wp2
        go_roundw
        case rel =>
          refine ⟨k + 1, by omega, by go_num, ?_, ?_⟩
          · have e : byteCells (s.data.toList ++ 45 :: hex k (b / 16 ^ (14 - k))) ++ [.int .u8 ((hexd d).toNat : Int)] = byteCells (s.data.toList ++ 45 :: hex (k + 1) (b / 16 ^ (14 - (k + 1)))) := by
              rw [HD.out, show 14 - (k + 1) = 13 - k by omega, hex_down k b hlt]
              simp [byteCells]
            rw [← e]
            exact hrow2
          · exact (hbl.alloc hbl.size _).grown hgrow2 (by have := hbl.size; simp; omega) (fun j hj => (hrw.lt j hj).1)
        case measure => simp [intOf]; omega
    · obtain rfl : k = 14 := by omega
      have hst := run_string_row (P := Try.prog) wr w.heap.size 79 9 5 u6 (s.data.toList ++ 45 :: hex 14 b) Try.underlying79 Try.underlying5 Try.underlying9
        (by have := hrw; simpa [hex_length] using this)
      go_wp2
      go_ret2
      exact ⟨rfl, hbl⟩
end Go.Proofs.Ytmkjejngnahpeaa
