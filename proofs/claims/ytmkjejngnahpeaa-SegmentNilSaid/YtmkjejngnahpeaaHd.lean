/- Segment: SegmentNil, the walk. -/
import Derived.Test.YtmkjejngnahpeaaHc
namespace Go.Proofs.Ytmkjejngnahpeaa
open Go Go.Maps Go.RowKit Go.Shelf

set_option maxRecDepth 100000 in
set_option maxHeartbeats 4000000 in
theorem segmentNil_walk (W : World) (b : Int) (oa : Option Addr) (m c : Nat) (n : Int) (nm : ByteArray) :
    Calls Try.prog 5 #[.agg #[.int .i64 b, .slice oa m c], .int .i64 n, .string nm] W fun e W' => e = .returned (.bool true) ∧ Below W.heap.size W W' := by
  have heq : ∀ W : World, (Op.equalIn 10000 56 (.agg #[.int .i64 0, .int .i64 0, .int .i64 0, .int .i64 0]) (.agg #[.int .i64 0, .int .i64 0, .int .i64 0, .int .i64 0])).run Try.prog W = .ok true W := fun W => by kernel_rfl
  go_enter Try.func5, Try.ntmps5
  go_upto_region 1 with fail
  obtain ⟨w1, hw1⟩ : ∃ w1 : World, w1 = W.alloc (.cells #[.int .i64 b, .slice oa m c] 46) := ⟨_, rfl⟩
  obtain ⟨b3, hb3⟩ : ∃ b3, b3 = W.heap.size := ⟨_, rfl⟩
  have hx1 : w1.heap[b3]? = some (.cells #[.int .i64 b, .slice oa m c] 46 (0, 0)) := by rw [hw1, hb3]; exact alloc_cells _ _ _
  have hb1 : Below W.heap.size W w1 := by rw [hw1]; exact (Below.refl _ _).alloc (Nat.le_refl _) _
  rw [← hb3, ← hw1]
  have HX1 := Lib.hid hx1
  have HB1 := Lib.hid hb1
  clear hw1 hb3 hx1 hb1
  go_wp2_with fail
  refine (LookS_nil w1 nm).mono ?_
  rintro e w2 ⟨rfl, hb2⟩
  have HX2 := Lib.hid ((hb2.block b3 (Array.getElem?_eq_some_iff.1 HX1.out).1).trans HX1.out)
  have HB2 : Hid (Below W.heap.size W w2) := Lib.hid (HB1.out.trans (hb2.mono HB1.out.size))
  clear hb2
  unfold foundZ
  go_upto_region 3 with fail
  obtain ⟨w3, hw3⟩ : ∃ w3 : World, w3 = w2.alloc (.cells #[.int .i64 0, .int .i64 0, .int .i64 0, .int .i64 0] 56) := ⟨_, rfl⟩
  obtain ⟨b8, hb8⟩ : ∃ b8, b8 = w2.heap.size := ⟨_, rfl⟩
  have hf3 : w3.heap[b8]? = some (.cells zeroF 56 (0, 0)) := by rw [hw3, hb8]; exact new4 w2
  have hb23 : Below w2.heap.size w2 w3 := by rw [hw3]; exact (Below.refl _ _).alloc (Nat.le_refl _) _
  rw [← hb8, ← hw3]
  have HF3 := Lib.hid hf3
  have HX3 := Lib.hid ((hb23.block b3 (Array.getElem?_eq_some_iff.1 HX2.out).1).trans HX2.out)
  have HB3 : Hid (Below W.heap.size W w3) := Lib.hid (HB2.out.trans (hb23.mono HB2.out.size))
  clear hw3 hb8 hf3 hb23
  go_wp2_with fail
  refine (OpenS_nil w3 nm 1).mono ?_
  rintro e w4 ⟨rfl, hb4⟩
  have HX4 := Lib.hid ((hb4.block b3 (Array.getElem?_eq_some_iff.1 HX3.out).1).trans HX3.out)
  have HF4 := Lib.hid ((hb4.block b8 (Array.getElem?_eq_some_iff.1 HF3.out).1).trans HF3.out)
  have HB4 : Hid (Below W.heap.size W w4) := Lib.hid (HB3.out.trans (hb4.mono HB3.out.size))
  clear hb4
  go_wp2_with fail
  refine (MendS_nil w4 nm).mono ?_
  rintro e w5 ⟨rfl, hb5⟩
  have HX5 := Lib.hid ((hb5.block b3 (Array.getElem?_eq_some_iff.1 HX4.out).1).trans HX4.out)
  have HF5 := Lib.hid ((hb5.block b8 (Array.getElem?_eq_some_iff.1 HF4.out).1).trans HF4.out)
  have HB5 : Hid (Below W.heap.size W w5) := Lib.hid (HB4.out.trans (hb5.mono HB4.out.size))
  clear hb5
  unfold foundZ
  go_upto_region 5 with fail
  obtain ⟨w6, hw6⟩ : ∃ w6 : World, w6 = w5.alloc (.cells #[.int .i64 0, .int .i64 0, .int .i64 0, .int .i64 0] 56) := ⟨_, rfl⟩
  obtain ⟨b12, hb12⟩ : ∃ b12, b12 = w5.heap.size := ⟨_, rfl⟩
  have hf6 : w6.heap[b12]? = some (.cells zeroF 56 (0, 0)) := by rw [hw6, hb12]; exact new4 w5
  have hb56 : Below w5.heap.size w5 w6 := by rw [hw6]; exact (Below.refl _ _).alloc (Nat.le_refl _) _
  rw [← hb12, ← hw6]
  have HG6 := Lib.hid hf6
  have hx6 := (hb56.block b3 (Array.getElem?_eq_some_iff.1 HX5.out).1).trans HX5.out
  have HX6 := Lib.hid hx6
  have HF6 := Lib.hid ((hb56.block b8 (Array.getElem?_eq_some_iff.1 HF5.out).1).trans HF5.out)
  have HB6 : Hid (Below W.heap.size W w6) := Lib.hid (HB5.out.trans (hb56.mono HB5.out.size))
  have x0 : w6.cell? ⟨b3, 0, none⟩ = some (.int .i64 b) := cell_of hx6 rfl
  have x1 : w6.cell? ⟨b3, 1, none⟩ = some (.slice oa m c) := cell_of hx6 rfl
  clear hw6 hb12 hf6 hb56 hx6
  go_wp2_with fail
  refine (noneL_b (.inl rfl) b oa m c n).mono ?_
  rintro e w7 ⟨rfl, hb7⟩
  have HX7 := Lib.hid ((hb7.block b3 (Array.getElem?_eq_some_iff.1 HX6.out).1).trans HX6.out)
  have HF7 := Lib.hid ((hb7.block b8 (Array.getElem?_eq_some_iff.1 HF6.out).1).trans HF6.out)
  have HG7 := Lib.hid ((hb7.block b12 (Array.getElem?_eq_some_iff.1 HG6.out).1).trans HG6.out)
  have HB7 : Hid (Below W.heap.size W w7) := Lib.hid (HB6.out.trans (hb7.mono HB6.out.size))
  clear hb7 x0 x1
  obtain ⟨w8, hw8⟩ : ∃ w8 : World, w8 = w7.alloc (.cells #[.int .i64 0, .int .i64 0, .int .i64 0, .int .i64 0, .pointer none, .string ⟨#[]⟩, .int .i64 0, .pointer none] 63) := ⟨_, rfl⟩
  have hb78 : Below w7.heap.size w7 w8 := by rw [hw8]; exact (Below.refl _ _).alloc (Nat.le_refl _) _
  have hs8 : w8.heap[w7.heap.size]? = some (.cells #[.int .i64 0, .int .i64 0, .int .i64 0, .int .i64 0, .pointer none, .string ⟨#[]⟩, .int .i64 0, .pointer none] 63 (0, 0)) := by rw [hw8]; exact alloc_cells _ _ _
  have hx8 := (hb78.block b3 (Array.getElem?_eq_some_iff.1 HX7.out).1).trans HX7.out
  have x0 : w8.cell? ⟨b3, 0, none⟩ = some (.int .i64 b) := cell_of hx8 rfl
  have x1 : w8.cell? ⟨b3, 1, none⟩ = some (.slice oa m c) := cell_of hx8 rfl
  have HNS : Hid (NoSeg w8 (some ⟨w7.heap.size, 0, none⟩)) := Lib.hid (.inr ⟨_, rfl, cell_of hs8 rfl⟩)
  have HF8 := Lib.hid ((hb78.block b8 (Array.getElem?_eq_some_iff.1 HF7.out).1).trans HF7.out)
  have HG8 := Lib.hid ((hb78.block b12 (Array.getElem?_eq_some_iff.1 HG7.out).1).trans HG7.out)
  have HB8 : Hid (Below W.heap.size W w8) := Lib.hid (HB7.out.trans (hb78.mono HB7.out.size))
  have HNC : Hid (Calls Try.prog 35 #[.pointer (some ⟨w7.heap.size, 0, none⟩), .agg #[.int .i64 b, .slice oa m c], .int .i64 n] w8 fun e W' => e = .returned (.bool true) ∧ Below w8.heap.size w8 W') := Lib.hid (noneL_b HNS.out b oa m c n)
  rw [hw8] at x0 x1 HNC
  have HW8 := Lib.hid hw8
  clear hb78 hs8 hx8 hw8
  go_wp2_with fail
  refine HNC.out.mono ?_
  rintro e w9 ⟨rfl, hb9⟩
  have hb9' : Below w8.heap.size w8 w9 := by rw [HW8.out]; exact hb9
  have hf9 := (hb9'.block b8 (Array.getElem?_eq_some_iff.1 HF8.out).1).trans HF8.out
  have hg9 := (hb9'.block b12 (Array.getElem?_eq_some_iff.1 HG8.out).1).trans HG8.out
  have HB9 : Hid (Below W.heap.size W w9) := Lib.hid (HB8.out.trans (hb9'.mono HB8.out.size))
  obtain ⟨f0, f1, f2, f3, _, _, _, _⟩ := z4_of hf9
  obtain ⟨g0, g1, g2, g3, _, _, _, _⟩ := z4_of hg9
  clear hb9 hb9' hf9 hg9 x0 x1 HNC HW8
  go_wp2_with fail
  refine (known_any _).mono ?_
  rintro e w10 ⟨rfl, hb10⟩
  have HB10 : Hid (Below W.heap.size W w10) := Lib.hid (HB9.out.trans (hb10.mono HB9.out.size))
  clear hb10
  go_wp2_with fail
  go_ret
  exact ⟨rfl, HB10.out⟩
end Go.Proofs.Ytmkjejngnahpeaa
