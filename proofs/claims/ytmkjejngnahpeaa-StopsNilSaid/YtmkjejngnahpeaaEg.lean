/- Disk: a disk that is not there. -/
import Derived.Test.YtmkjejngnahpeaaEf
namespace Go.Proofs.Ytmkjejngnahpeaa
open Go Go.Maps Go.RowKit

/-- there is no disk: a nil pointer, or a disk without a map -/
def IsNone (w : World) (pp : Option Addr) : Prop := pp = none ∨ ∃ q, pp = some ⟨q, 0, none⟩ ∧ w.cell? ⟨q, 0, none⟩ = some (.map none)
theorem IsNone.below {w w' : World} {pp : Option Addr} (h : IsNone w pp) (hb : Below w.heap.size w w') : IsNone w' pp := by
  rcases h with h | ⟨q, h, hc⟩
  · exact .inl h
  · exact .inr ⟨q, h, (hb.cell (p := ⟨q, 0, none⟩) (World.block_lt_of_cell? w _ hc)).trans hc⟩
theorem map_nil_eq (W : World) : (binOp .eql 120 (.map none) (.map none)).run Try.prog W = .ok (.bool true) W := by kernel_rfl
set_option maxHeartbeats 400000 in
theorem none_nil {w : World} {pp : Option Addr} (h : IsNone w pp) : Calls Try.prog 108 #[.pointer pp] w fun e w' => e = .returned (.bool true) ∧ w' = w := by
  have hm := map_nil_eq
  rcases h with rfl | ⟨q, rfl, c0⟩
  · go_enter Try.func108, Try.ntmps108
    go_wp2_with fail
    go_ret
    exact ⟨rfl, rfl⟩
  · go_enter Try.func108, Try.ntmps108
    go_wp2_with fail
    go_ret
    exact ⟨rfl, rfl⟩
set_option maxHeartbeats 400000 in
theorem asked_nil {w : World} {pp : Option Addr} (h : IsNone w pp) (nm : ByteArray) : Calls Try.prog 118 #[.pointer pp, .string nm] w fun e w' => e = .returned (.int .i64 1) ∧ w' = w := by
  go_enter Try.func118, Try.ntmps118
  go_wp2_with fail
  refine (none_nil h).mono ?_
  rintro e w' ⟨rfl, rfl⟩
  go_wp2_with fail
  go_ret
  exact ⟨rfl, rfl⟩
set_option maxHeartbeats 400000 in
theorem find_nil {w : World} {pp : Option Addr} (h : IsNone w pp) (nm : ByteArray) : Calls Try.prog 116 #[.pointer pp, .string nm] w fun e w' => e = .returned (.tuple #[.pointer none, .int .i64 1]) ∧ w' = w := by
  go_enter Try.func116, Try.ntmps116
  go_wp2_with fail
  refine (asked_nil h nm).mono ?_
  rintro e w' ⟨rfl, rfl⟩
  go_wp2_with fail
  go_ret2
  exact ⟨rfl, rfl⟩
set_option maxHeartbeats 400000 in
theorem create_nil {w : World} {pp : Option Addr} (h : IsNone w pp) (nm : ByteArray) : Calls Try.prog 45 #[.pointer pp, .string nm] w fun e w' => e = .returned (.int .i64 1) ∧ w' = w := by
  go_enter Try.func45, Try.ntmps45
  go_wp2_with fail
  refine (asked_nil h nm).mono ?_
  rintro e w' ⟨rfl, rfl⟩
  go_wp2_with fail
  go_ret
  exact ⟨rfl, rfl⟩
set_option maxHeartbeats 400000 in
theorem append_nil {w : World} {pp : Option Addr} (h : IsNone w pp) (nm : ByteArray) (b : Value) : Calls Try.prog 46 #[.pointer pp, .string nm, b] w fun e w' => e = .returned (.int .i64 1) ∧ w' = w := by
  go_enter Try.func46, Try.ntmps46
  go_wp2_with fail
  refine (find_nil h nm).mono ?_
  rintro e w' ⟨rfl, rfl⟩
  go_wp2_with fail
  go_ret
  exact ⟨rfl, rfl⟩
set_option maxHeartbeats 400000 in
theorem sync_nil {w : World} {pp : Option Addr} (h : IsNone w pp) (nm : ByteArray) : Calls Try.prog 47 #[.pointer pp, .string nm] w fun e w' => e = .returned (.int .i64 1) ∧ w' = w := by
  go_enter Try.func47, Try.ntmps47
  go_wp2_with fail
  refine (find_nil h nm).mono ?_
  rintro e w' ⟨rfl, rfl⟩
  go_wp2_with fail
  go_ret
  exact ⟨rfl, rfl⟩
set_option maxHeartbeats 400000 in
theorem cut_nil {w : World} {pp : Option Addr} (h : IsNone w pp) (nm : ByteArray) (b : Value) : Calls Try.prog 49 #[.pointer pp, .string nm, b] w fun e w' => e = .returned (.int .i64 1) ∧ w' = w := by
  go_enter Try.func49, Try.ntmps49
  go_wp2_with fail
  refine (find_nil h nm).mono ?_
  rintro e w' ⟨rfl, rfl⟩
  go_wp2_with fail
  go_ret
  exact ⟨rfl, rfl⟩
set_option maxHeartbeats 400000 in
theorem remove_nil {w : World} {pp : Option Addr} (h : IsNone w pp) (nm : ByteArray) : Calls Try.prog 50 #[.pointer pp, .string nm] w fun e w' => e = .returned (.int .i64 1) ∧ w' = w := by
  go_enter Try.func50, Try.ntmps50
  go_wp2_with fail
  refine (find_nil h nm).mono ?_
  rintro e w' ⟨rfl, rfl⟩
  go_wp2_with fail
  go_ret
  exact ⟨rfl, rfl⟩
set_option maxHeartbeats 400000 in
theorem syncdir_nil {w : World} {pp : Option Addr} (h : IsNone w pp) : Calls Try.prog 48 #[.pointer pp] w fun e w' => e = .returned (.int .i64 1) ∧ w' = w := by
  go_enter Try.func48, Try.ntmps48
  go_wp2_with fail
  refine (none_nil h).mono ?_
  rintro e w' ⟨rfl, rfl⟩
  go_wp2_with fail
  go_ret
  exact ⟨rfl, rfl⟩
set_option maxHeartbeats 400000 in
theorem feed_nil {w : World} {pp : Option Addr} (h : IsNone w pp) (b : Value) : Calls Try.prog 64 #[.pointer pp, b] w fun e w' => e = .returned (.int .i64 1) ∧ w' = w := by
  go_enter Try.func64, Try.ntmps64
  go_wp2_with fail
  refine (none_nil h).mono ?_
  rintro e w' ⟨rfl, rfl⟩
  go_wp2_with fail
  go_ret
  exact ⟨rfl, rfl⟩
set_option maxHeartbeats 400000 in
theorem read_nil {w : World} {pp : Option Addr} (h : IsNone w pp) (nm : ByteArray) (a n : Value) : Calls Try.prog 42 #[.pointer pp, .string nm, a, n] w fun e w' => e = .returned (.tuple #[.slice none 0 0, .int .i64 1]) ∧ w' = w := by
  go_enter Try.func42, Try.ntmps42
  go_wp2_with fail
  refine (find_nil h nm).mono ?_
  rintro e w' ⟨rfl, rfl⟩
  go_wp2_with fail
  go_ret2
  exact ⟨rfl, rfl⟩
set_option maxHeartbeats 400000 in
theorem steps_nil {w : World} {pp : Option Addr} (h : IsNone w pp) : Calls Try.prog 44 #[.pointer pp] w fun e w' => e = .returned (.tuple #[.int .i64 0, .int .i64 0]) ∧ w' = w := by
  go_enter Try.func44, Try.ntmps44
  go_wp2_with fail
  refine (none_nil h).mono ?_
  rintro e w' ⟨rfl, rfl⟩
  go_wp2_with fail
  go_ret2
  exact ⟨rfl, rfl⟩
set_option maxHeartbeats 400000 in
theorem names_nil {w : World} {pp : Option Addr} (h : IsNone w pp) : Calls Try.prog 112 #[.pointer pp] w fun e w' => e = .returned (.slice none 0 0) ∧ w' = w := by
  go_enter Try.func112, Try.ntmps112
  go_wp2_with fail
  refine (none_nil h).mono ?_
  rintro e w' ⟨rfl, rfl⟩
  go_wp2_with fail
  go_ret
  exact ⟨rfl, rfl⟩
set_option maxHeartbeats 400000 in
theorem copy_nil {w : World} {pp : Option Addr} (h : IsNone w pp) : Calls Try.prog 43 #[.pointer pp] w fun e w' => e = .returned (.pointer none) ∧ w' = w := by
  go_enter Try.func43, Try.ntmps43
  go_wp2_with fail
  refine (none_nil h).mono ?_
  rintro e w' ⟨rfl, rfl⟩
  go_wp2_with fail
  go_ret
  exact ⟨rfl, rfl⟩
end Go.Proofs.Ytmkjejngnahpeaa
