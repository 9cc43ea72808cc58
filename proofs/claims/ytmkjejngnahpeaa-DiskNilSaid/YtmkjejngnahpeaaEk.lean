/- DiskNil: its walk. -/
import Derived.Test.YtmkjejngnahpeaaEj
namespace Go.Proofs.Ytmkjejngnahpeaa
open Go Go.Maps Go.RowKit

set_option maxRecDepth 100000 in
set_option maxHeartbeats 1000000 in
theorem diskNil_walk (nm : ByteArray) (n : Int) (b : Value) (w : World) : Calls Try.prog 10 #[.string nm, .int .i64 n, b] w fun e w' => e = .returned (.bool true) ∧ Below w.heap.size w w' := by
  go_enter Try.func10, Try.ntmps10
  go_wp2_with fail
  refine (nothing_b (pp := none) (.inl rfl) nm n b).mono ?_
  rintro e w1 ⟨rfl, hb1⟩
  have HB1 := Lib.hid hb1
  clear hb1
  go_wp2_with fail
  obtain ⟨w2, hw2⟩ : ∃ w2 : World, w2 = w1.alloc (.cells #[.map none, .slice none 0 0, .int .i64 0] 122) := ⟨_, rfl⟩
  have hc2 : w2.heap[w1.heap.size]? = some (.cells #[.map none, .slice none 0 0, .int .i64 0] 122 (0, 0)) := by rw [hw2]; exact alloc_cells _ _ _
  have hb2 : Below w1.heap.size w1 w2 := by rw [hw2]; exact (Below.refl _ _).alloc (Nat.le_refl _) _
  have hn2 : IsNone w2 (some ⟨w1.heap.size, 0, none⟩) := .inr ⟨_, rfl, cell_of hc2 rfl⟩
  rw [← hw2]
  have HB2 : Hid (Below w.heap.size w w2) := Lib.hid (HB1.out.trans (hb2.mono HB1.out.size))
  clear hw2 hc2 hb2 HB1
  refine (nothing_b hn2 nm n b).mono ?_
  rintro e w3 ⟨rfl, hb3⟩
  have HB3 : Hid (Below w.heap.size w w3) := Lib.hid (HB2.out.trans (hb3.mono HB2.out.size))
  clear hb3 hn2 HB2
  go_wp2_with fail
  obtain ⟨w4, hw4⟩ : ∃ w4 : World, w4 = w3.alloc (.cells #[.map none, .slice none 0 0, .int .i64 0] 122) := ⟨_, rfl⟩
  have hc4 : w4.heap[w3.heap.size]? = some (.cells #[.map none, .slice none 0 0, .int .i64 0] 122 (0, 0)) := by rw [hw4]; exact alloc_cells _ _ _
  have hb4 : Below w3.heap.size w3 w4 := by rw [hw4]; exact (Below.refl _ _).alloc (Nat.le_refl _) _
  have hn4 : IsNone w4 (some ⟨w3.heap.size, 0, none⟩) := .inr ⟨_, rfl, cell_of hc4 rfl⟩
  rw [← hw4]
  have HB4 : Hid (Below w.heap.size w w4) := Lib.hid (HB3.out.trans (hb4.mono HB3.out.size))
  clear hw4 hc4 hb4 HB3
  refine (same_nn (pp := none) (.inl rfl) hn4).mono ?_
  rintro e w' ⟨rfl, rfl⟩
  clear hn4
  go_wp2_with fail
  refine (known7_b _).mono ?_
  rintro e w5 ⟨rfl, hb5⟩
  have HB5 : Hid (Below w.heap.size w w5) := Lib.hid (HB4.out.trans (hb5.mono HB4.out.size))
  clear hb5
  go_wp2_with fail
  go_ret
  exact ⟨rfl, HB5.out⟩
end Go.Proofs.Ytmkjejngnahpeaa
