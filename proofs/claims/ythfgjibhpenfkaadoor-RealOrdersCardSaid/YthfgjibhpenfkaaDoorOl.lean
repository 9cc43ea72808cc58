/- RealOrders: its walk (under way). -/
import Derived.Test.YthfgjibhpenfkaaDoorOk
import Derived.Test.YthfgjibhpenfkaaDoorOa
import Derived.Test.YthfgjibhpenfkaaDoorOb
import Derived.Test.YthfgjibhpenfkaaDoorNq
import Derived.Test.YthfgjibhpenfkaaDoorMh
import Derived.Deep.CutRange
namespace Go.Proofs.YthfgjibhpenfkaaDoor
open Go.RowKit Fl

theorem below_undrewR {B : Nat} {a w : World} (h : Below B a w) : Below B a w.drew := ⟨h.os, h.tape, h.output, h.size, h.block⟩
theorem hasRow.below {w W : World} {base : Nat} {e : TypeId} {size : Nat} {v : Value} {n : Nat} {xs : List Value} (h : hasRow w base e size v n xs) (hb : Below w.heap.size w W) : hasRow W base e size v n xs := by
  obtain ⟨hl, h | ⟨g, cap, cur, fr, hv, hge, hg, hr⟩⟩ := h
  · exact ⟨hl, .inl h⟩
  · exact ⟨hl, .inr ⟨g, cap, cur, fr, hv, hge, (hb.block g (Array.getElem?_eq_some_iff.1 hg).1).trans hg, hr⟩⟩
theorem row12 (w : World) (T : TypeId) : hasRow (w.alloc (.cells #[.int .u8 1, .int .u8 2] T)) w.heap.size T 1 (.slice (some ⟨w.heap.size, 0, none⟩) 2 2) 2 (byteCells [1, 2]) :=
  ⟨by simp [byteCells], .inr ⟨_, 2, #[.int .u8 1, .int .u8 2], (0, 0), rfl, Nat.le_refl _, heap_alloc_new _ _, Nat.le_refl _, by unfold maxLen; omega, by simp, fun j hj => by simp, by simp [byteCells]⟩⟩
theorem cells12 {W : World} {g : Nat} {T : TypeId} {fr : Nat × Nat} {x2 x3 x4 x5 x6 x7 x8 x9 x10 x11 : Value} (h : W.heap[g]? = some (.cells #[.int .u8 1, .int .u8 2, x2, x3, x4, x5, x6, x7, x8, x9, x10, x11] T fr)) : ∀ (j : Nat) (v : Value), (byteCells [1, 2])[j]? = some v → W.cell? ((⟨g, 0, none⟩ : Addr).add j) = some v := fun j v hv => by
  rw [Go.WideShapes.add_plain, Nat.zero_add, cell_of_row W _ j _ _ _ h]
  match j, hv with
  | 0, hv => exact hv
  | 1, hv => exact hv
theorem OfIs.same {N a b : Nat} {e f : Int} (h : OfIs N a e) (k : OfIs N b f) : b = a ∧ f = e := by
  by_cases hN : N = 18446744073709551615
  · obtain ⟨rfl, rfl⟩ := h.1 hN
    exact k.1 hN
  · by_cases hp : placeN (ofB N) = N
    · obtain ⟨h1, h2⟩ := (h.2 hN).1 hp
      obtain ⟨k1, k2⟩ := (k.2 hN).1 hp
      exact ⟨by rw [k1, h1], by rw [k2, h2]⟩
    · obtain ⟨h1, h2⟩ := (h.2 hN).2 hp
      obtain ⟨k1, k2⟩ := (k.2 hN).2 hp
      exact ⟨by rw [k1, h1], by rw [k2, h2]⟩
theorem ofB_low {N : Nat} (h : N < 18446744073709551616) : ofB N < 18446744073709551616 := by
  unfold ofB
  split
  · omega
  · exact Nat.lt_of_le_of_lt (Nat.mod_le _ _) h
theorem OfIs.low {N a : Nat} {e : Int} (h : OfIs N a e) (hN : N < 18446744073709551616) : a < 18446744073709551616 := by
  by_cases h1 : N = 18446744073709551615
  · rw [(h.1 h1).1]; omega
  · by_cases hp : placeN (ofB N) = N
    · rw [((h.2 h1).1 hp).1]; exact ofB_low hN
    · rw [((h.2 h1).2 hp).1]; omega
set_option maxRecDepth 100000 in
set_option maxHeartbeats 4000000 in
theorem realOrders_walk (x y N : Nat) (s : ByteArray) (w : World) (hx : x < 18446744073709551616) (hy : y < 18446744073709551616) (hN : N < 18446744073709551616) (hs : s.size ≤ 9223372036854775807) (ht : Pow10 w) :
    Calls Tryd.prog 5 #[.agg #[.float .f64 x, .float .f64 y, kV N 0, kV N 1, kV N 2, kV N 3, kV N 4, kV N 5, kV N 6, kV N 7, .string s]] w fun e w' => e = .returned (.bool true) ∧ Below w.heap.size w w' := by
  have HX := Lib.hid hx
  have HY := Lib.hid hy
  have HN := Lib.hid hN
  have HT := Lib.hid ht
  obtain ⟨PS, es, hr1, hr2⟩ := reads_any s hs
  have HR := Lib.hid (And.intro hr1 hr2)
  clear hx hy hN ht hr1 hr2
  obtain ⟨a0, a1, a2, a3, a4, a5, a6, a7, hag, e0, e1, e2, e3, e4, e5, e6, e7⟩ : ∃ a0 a1 a2 a3 a4 a5 a6 a7 : Int, kAgg N = .agg #[.int .u8 a0, .int .u8 a1, .int .u8 a2, .int .u8 a3, .int .u8 a4, .int .u8 a5, .int .u8 a6, .int .u8 a7] ∧ kV N 0 = .int .u8 a0 ∧ kV N 1 = .int .u8 a1 ∧ kV N 2 = .int .u8 a2 ∧ kV N 3 = .int .u8 a3 ∧ kV N 4 = .int .u8 a4 ∧ kV N 5 = .int .u8 a5 ∧ kV N 6 = .int .u8 a6 ∧ kV N 7 = .int .u8 a7 :=
    ⟨_, _, _, _, _, _, _, _, rfl, rfl, rfl, rfl, rfl, rfl, rfl, rfl, rfl⟩
  rw [e0, e1, e2, e3, e4, e5, e6, e7]
  have HAG := Lib.hid hag
  clear hag e0 e1 e2 e3 e4 e5 e6 e7
  go_enter Tryd.func5, Tryd.ntmps5
  go_upto_region 1 with fail
  obtain ⟨w1, hw1⟩ : ∃ w1 : World, w1 = w.alloc (.cells #[.float .f64 x, .float .f64 y, .int .u8 a0, .int .u8 a1, .int .u8 a2, .int .u8 a3, .int .u8 a4, .int .u8 a5, .int .u8 a6, .int .u8 a7, .string s] 41) := ⟨_, rfl⟩
  have hb1 : Below w.heap.size w w1 := by rw [hw1]; exact below_alloc _ _
  have hk1 : w1.heap[w.heap.size]? = some (.cells #[.float .f64 x, .float .f64 y, .int .u8 a0, .int .u8 a1, .int .u8 a2, .int .u8 a3, .int .u8 a4, .int .u8 a5, .int .u8 a6, .int .u8 a7, .string s] 41 (0, 0)) := by rw [hw1]; exact alloc_here _ _
  have hz1 : w.heap.size < w1.heap.size := by rw [hw1]; simp
  rw [← hw1]
  have HB1 := Lib.hid hb1
  clear hw1 hb1
  obtain ⟨g, hg⟩ : ∃ g, g = w.heap.size := ⟨_, rfl⟩
  rw [← hg] at hk1 hz1 ⊢
  have HG := Lib.hid hg
  clear hg
  have c0 : w1.cell? ⟨g, 0, none⟩ = some (.float .f64 x) := by simp [World.cell?, hk1]
  have c1 : w1.cell? ⟨g, 1, none⟩ = some (.float .f64 y) := by simp [World.cell?, hk1]
  have c2 : w1.cell? ⟨g, 2, none⟩ = some (.int .u8 a0) := by simp [World.cell?, hk1]
  have c3 : w1.cell? ⟨g, 3, none⟩ = some (.int .u8 a1) := by simp [World.cell?, hk1]
  have c4 : w1.cell? ⟨g, 4, none⟩ = some (.int .u8 a2) := by simp [World.cell?, hk1]
  have c5 : w1.cell? ⟨g, 5, none⟩ = some (.int .u8 a3) := by simp [World.cell?, hk1]
  have c6 : w1.cell? ⟨g, 6, none⟩ = some (.int .u8 a4) := by simp [World.cell?, hk1]
  have c7 : w1.cell? ⟨g, 7, none⟩ = some (.int .u8 a5) := by simp [World.cell?, hk1]
  have c8 : w1.cell? ⟨g, 8, none⟩ = some (.int .u8 a6) := by simp [World.cell?, hk1]
  have c9 : w1.cell? ⟨g, 9, none⟩ = some (.int .u8 a7) := by simp [World.cell?, hk1]
  have c10 : w1.cell? ⟨g, 10, none⟩ = some (.string s) := by simp [World.cell?, hk1]
  have d0 : ∀ o : Obj, (w1.alloc o).cell? ⟨g, 0, none⟩ = some (.float .f64 x) := fun o => by have := Below.heap_alloc w1 o g hz1; simp [World.cell?, this, hk1]
  have d1 : ∀ o : Obj, (w1.alloc o).cell? ⟨g, 1, none⟩ = some (.float .f64 y) := fun o => by have := Below.heap_alloc w1 o g hz1; simp [World.cell?, this, hk1]
  have d2 : ∀ o : Obj, (w1.alloc o).cell? ⟨g, 2, none⟩ = some (.int .u8 a0) := fun o => by have := Below.heap_alloc w1 o g hz1; simp [World.cell?, this, hk1]
  have d3 : ∀ o : Obj, (w1.alloc o).cell? ⟨g, 3, none⟩ = some (.int .u8 a1) := fun o => by have := Below.heap_alloc w1 o g hz1; simp [World.cell?, this, hk1]
  have d4 : ∀ o : Obj, (w1.alloc o).cell? ⟨g, 4, none⟩ = some (.int .u8 a2) := fun o => by have := Below.heap_alloc w1 o g hz1; simp [World.cell?, this, hk1]
  have d5 : ∀ o : Obj, (w1.alloc o).cell? ⟨g, 5, none⟩ = some (.int .u8 a3) := fun o => by have := Below.heap_alloc w1 o g hz1; simp [World.cell?, this, hk1]
  have d6 : ∀ o : Obj, (w1.alloc o).cell? ⟨g, 6, none⟩ = some (.int .u8 a4) := fun o => by have := Below.heap_alloc w1 o g hz1; simp [World.cell?, this, hk1]
  have d7 : ∀ o : Obj, (w1.alloc o).cell? ⟨g, 7, none⟩ = some (.int .u8 a5) := fun o => by have := Below.heap_alloc w1 o g hz1; simp [World.cell?, this, hk1]
  have d8 : ∀ o : Obj, (w1.alloc o).cell? ⟨g, 8, none⟩ = some (.int .u8 a6) := fun o => by have := Below.heap_alloc w1 o g hz1; simp [World.cell?, this, hk1]
  have d9 : ∀ o : Obj, (w1.alloc o).cell? ⟨g, 9, none⟩ = some (.int .u8 a7) := fun o => by have := Below.heap_alloc w1 o g hz1; simp [World.cell?, this, hk1]
  have d10 : ∀ o : Obj, (w1.alloc o).cell? ⟨g, 10, none⟩ = some (.string s) := fun o => by have := Below.heap_alloc w1 o g hz1; simp [World.cell?, this, hk1]
  have HZ1 := Lib.hid hz1
  clear hk1 hz1
  go_region
  clear c0 c1 c2 c3 c4 c5 c6 c7 c8 c9 c10 d0 d1 d2 d3 d4 d5 d6 d7 d8 d9 d10
  obtain ⟨w2, hw2⟩ : ∃ w2 : World, w2 = (w1.alloc (.cells #[.int .u8 a0, .int .u8 a1, .int .u8 a2, .int .u8 a3, .int .u8 a4, .int .u8 a5, .int .u8 a6, .int .u8 a7] 31)).drew := ⟨_, rfl⟩
  have hb2 : Below w.heap.size w w2 := by rw [hw2]; exact below_undrewR (HB1.out.alloc HB1.out.size _)
  have hk2 : w2.heap[w1.heap.size]? = some (.cells #[.int .u8 a0, .int .u8 a1, .int .u8 a2, .int .u8 a3, .int .u8 a4, .int .u8 a5, .int .u8 a6, .int .u8 a7] 31 (0, 0)) := by rw [hw2]; exact alloc_here w1 _
  have hz2 : w1.heap.size < w2.heap.size := by rw [hw2]; show w1.heap.size < (w1.alloc _).heap.size; simp
  rw [← hw2]
  have HB2 := Lib.hid hb2
  have HZ2 := Lib.hid hz2
  have HK2 := Lib.hid hk2
  clear hw2 hb2 hz2 hk2
  obtain ⟨g2, hg2⟩ : ∃ g2, g2 = w1.heap.size := ⟨_, rfl⟩
  rw [← hg2] at HZ2 HK2 ⊢
  clear hg2
  obtain ⟨c0, c1, c2, c3, c4, c5, c6, c7, -⟩ := cells8 HK2.out
  go_wp2_with fail
  rw [← HAG.out]
  refine (Of_any N _ HN.out).mono ?_
  rintro e w3 ⟨va, ea, rfl, hof, hb3⟩
  have HOF := Lib.hid hof
  have HB3 : Hid (Below w.heap.size w w3 ∧ Below w2.heap.size w2 w3) := Lib.hid ⟨HB2.out.trans (hb3.mono HB2.out.size), hb3⟩
  clear c0 c1 c2 c3 c4 c5 c6 c7 hof hb3
  obtain ⟨c0, c1, c2, c3, c4, c5, c6, c7, -⟩ := cells8 ((HB3.out.2.block g2 HZ2.out).trans HK2.out)
  go_wp2_with fail
  rw [← HAG.out]
  refine (refof_any N _ HN.out).mono ?_
  rintro e w4 ⟨vb, eb, rfl, hof, hb4⟩
  have HOF2 := Lib.hid hof
  have HB4 : Hid (Below w.heap.size w w4) := Lib.hid (HB3.out.1.trans (hb4.mono HB3.out.1.size))
  clear c0 c1 c2 c3 c4 c5 c6 c7 hof hb4
  obtain ⟨rfl, rfl⟩ := HOF.out.same HOF2.out
  clear HOF2
  go_wp2_with fail
  refine (HR.out.1 _ (pow10_stays HT.out HB4.out)).mono ?_
  rintro e w5 ⟨yc, rfl, hyc, hyp, hb5⟩
  have HYC := Lib.hid (And.intro hyc hyp)
  have HB5 : Hid (Below w.heap.size w w5) := Lib.hid (HB4.out.trans (hb5.mono HB4.out.size))
  clear hyc hyp hb5
  go_wp2_with fail
  refine (HR.out.2 _ (pow10_stays HT.out HB5.out)).mono ?_
  rintro e w6 ⟨yd, rfl, hyd, hyp, hb6⟩
  have HYD := Lib.hid (And.intro hyd hyp)
  have HB6 : Hid (Below w.heap.size w w6) := Lib.hid (HB5.out.trans (hb6.mono HB5.out.size))
  clear hyd hyp hb6
  go_wp2_with fail
  refine (rorder_any x y _ HX.out HY.out).mono ?_
  rintro e w' ⟨rfl, rfl⟩
  obtain ⟨k, hk⟩ : ∃ k, k = ordF x y := ⟨_, rfl⟩
  rw [← hk]
  have HK := Lib.hid hk
  have hkk : (k != k) = false := by simp
  clear hk
  go_wp2_with fail
  refine (reforder_any x y _ HX.out HY.out).mono ?_
  rintro e w' ⟨rfl, rfl⟩
  rw [← HK.out]
  go_wp2_with fail
  refine (rlike_any x y _ HX.out HY.out).mono ?_
  rintro e w' ⟨rfl, rfl⟩
  obtain ⟨l, hl⟩ : ∃ l, l = (placeW x == placeW y) := ⟨_, rfl⟩
  rw [← hl]
  have HL := Lib.hid hl
  have hll : (l != l) = false := by simp
  clear hl
  go_wp2_with fail
  refine (reflike_any x y _ HX.out HY.out).mono ?_
  rintro e w' ⟨rfl, rfl⟩
  rw [← HL.out]
  go_wp2_with fail
  refine (key_any x _ HX.out).mono ?_
  rintro e w7 ⟨rfl, hb7⟩
  have HB7 : Hid (Below w.heap.size w w7) := Lib.hid (HB6.out.trans (hb7.mono HB6.out.size))
  clear hb7
  go_wp2_with fail
  refine (refkey_any x _ HX.out).mono ?_
  rintro e w8 ⟨rfl, hb8⟩
  have HB8 : Hid (Below w.heap.size w w8) := Lib.hid (HB7.out.trans (hb8.mono HB7.out.size))
  clear hb8
  have hpl := (placeN_cast x HX.out).2
  have heq : ∀ W : World, (Op.equalIn 10000 31 (kAgg (placeN x)) (kAgg (placeN x))).run Tryd.prog W = .ok true W := fun W => (eqKey _ _ hpl hpl W).trans (by simp)
  obtain ⟨b0, b1, b2, b3, b4, b5, b6, b7, hag, hbc⟩ : ∃ b0 b1 b2 b3 b4 b5 b6 b7 : Int, kAgg (placeN x) = .agg #[.int .u8 b0, .int .u8 b1, .int .u8 b2, .int .u8 b3, .int .u8 b4, .int .u8 b5, .int .u8 b6, .int .u8 b7] ∧ byteCells (keyL (placeN x)) = [.int .u8 b0, .int .u8 b1, .int .u8 b2, .int .u8 b3, .int .u8 b4, .int .u8 b5, .int .u8 b6, .int .u8 b7] :=
    ⟨_, _, _, _, _, _, _, _, rfl, kAgg_bytes _⟩
  rw [hag] at heq ⊢
  have HBX := Lib.hid (And.intro hag hbc)
  clear hpl hag hbc
  go_wp2_with fail
  refine (Text_any x _ HX.out (pow10_stays HT.out HB8.out)).mono ?_
  rintro e w9 ⟨s1, hs1, rfl, hb9⟩
  have HS1 := Lib.hid hs1
  have HB9 : Hid (Below w.heap.size w w9) := Lib.hid (HB8.out.trans (hb9.mono HB8.out.size))
  clear hs1 hb9
  go_wp2_with fail
  refine (RefText_any x _ HX.out (pow10_stays HT.out HB9.out)).mono ?_
  rintro e w10 ⟨s2, hs2, rfl, hb10⟩
  obtain rfl := hs2.unique HS1.out
  have HB10 : Hid (Below w.heap.size w w10) := Lib.hid (HB9.out.trans (hb10.mono HB9.out.size))
  have hss : (s2.toList == s2.toList) = true := by simp
  clear hs2 hb10
  go_upto_region 8 with fail
  go_wp2_with fail
  refine (refkey_any x _ HX.out).mono ?_
  rintro e w11 ⟨rfl, hb11⟩
  have HB11 : Hid (Below w.heap.size w w11) := Lib.hid (HB10.out.trans (hb11.mono HB10.out.size))
  rw [HBX.out.1]
  clear hb11 heq hss
  go_upto_region 10 with fail
  obtain ⟨w12, hw12⟩ : ∃ w12 : World, w12 = w11.alloc (.cells #[.int .u8 b0, .int .u8 b1, .int .u8 b2, .int .u8 b3, .int .u8 b4, .int .u8 b5, .int .u8 b6, .int .u8 b7] 31) := ⟨_, rfl⟩
  have hk12 : w12.heap[w11.heap.size]? = some (.cells #[.int .u8 b0, .int .u8 b1, .int .u8 b2, .int .u8 b3, .int .u8 b4, .int .u8 b5, .int .u8 b6, .int .u8 b7] 31 (0, 0)) := by rw [hw12]; exact alloc_here _ _
  have hb12 : Below w.heap.size w w12 := by rw [hw12]; exact HB11.out.alloc HB11.out.size _
  have hz12 : w11.heap.size < w12.heap.size := by rw [hw12]; simp
  have he12 : w12.heap.size = w11.heap.size + 1 := by rw [hw12]; simp
  rw [← hw12]
  clear hw12
  obtain ⟨g3, hg3⟩ : ∃ g, g = w11.heap.size := ⟨_, rfl⟩
  rw [← hg3] at hk12 hz12 he12 ⊢
  clear hg3
  obtain ⟨w13, hw13⟩ : ∃ w13 : World, w13 = w12.alloc (.cells #[.int .u8 1, .int .u8 2, .int .u8 3, .int .u8 3, .int .u8 3, .int .u8 3, .int .u8 3, .int .u8 3, .int .u8 3, .int .u8 3, .int .u8 3, .int .u8 3] 5) := ⟨_, rfl⟩
  have hk13 : w13.heap[w12.heap.size]? = some (.cells #[.int .u8 1, .int .u8 2, .int .u8 3, .int .u8 3, .int .u8 3, .int .u8 3, .int .u8 3, .int .u8 3, .int .u8 3, .int .u8 3, .int .u8 3, .int .u8 3] 5 (0, 0)) := by rw [hw13]; exact alloc_here _ _
  have hb13 : Below w.heap.size w w13 := by rw [hw13]; exact hb12.alloc hb12.size _
  have hz13 : w12.heap.size < w13.heap.size := by rw [hw13]; simp
  have hk3 : w13.heap[g3]? = some (.cells #[.int .u8 b0, .int .u8 b1, .int .u8 b2, .int .u8 b3, .int .u8 b4, .int .u8 b5, .int .u8 b6, .int .u8 b7] 31 (0, 0)) := by rw [hw13]; exact (Below.heap_alloc _ _ _ hz12).trans hk12
  have hz3 : g3 < w13.heap.size := Nat.lt_trans hz12 hz13
  rw [← hw13]
  clear hw13 hk12 hz12 hb12
  rw [he12] at hk13 hz13
  obtain ⟨g4, hg4⟩ : ∃ g, g = g3 + 1 := ⟨_, rfl⟩
  rw [← hg4] at hk13 hz13 ⊢
  clear hg4 he12
  obtain ⟨K2, hK2⟩ : ∃ K2 : ByteArray, K2 = ⟨([1, 2] ++ keyL (placeN x)).toArray⟩ := ⟨_, rfl⟩
  have heq : (K2.toList == K2.toList) = true := by simp
  have HK2S := Lib.hid hK2
  have hkey : ∀ W : World, Below w13.heap.size w13 W → ∀ (j : Nat) (v : Value), (byteCells (keyL (placeN x)))[j]? = some v → W.cell? ((⟨g3, 0, none⟩ : Addr).add j) = some v := fun W hb j v hv => by
    rw [Go.WideShapes.add_plain, Nat.zero_add, cell_of_row W _ j _ _ _ ((hb.block g3 hz3).trans hk3)]
    rw [HBX.out.2] at hv
    simpa using hv
  have HKEY := Lib.hid hkey
  have hm2 : ∀ W : World, Below w13.heap.size w13 W → W.cell? ⟨g4, 2, none⟩ = some (.int .u8 3) ∧ W.cell? ⟨g4, 9, none⟩ = some (.int .u8 3) := fun W hb =>
    ⟨by rw [cell_of_row W g4 2 _ _ _ ((hb.block g4 hz13).trans hk13)]; rfl, by rw [cell_of_row W g4 9 _ _ _ ((hb.block g4 hz13).trans hk13)]; rfl⟩
  have HM2 := Lib.hid hm2
  have HK13 := Lib.hid hk13
  have HZ13 := Lib.hid hz13
  have HB13 := Lib.hid hb13
  clear hK2 hkey hm2 hk13 hb13 hk3 hz3 hz13
  go_cut [99] from 78 to 99 (fun s99 wx => s99 = .bool false ∧ Hid (Below w13.heap.size w13 wx))
  case first =>
    have hak : ∀ W : World, Below w13.heap.size w13 W → Calls Tryd.prog 24 #[.slice (some ⟨g4, 0, none⟩) 2 12, .float .f64 x] W fun e w14 => ∃ v6, e = .returned v6 ∧ Below W.heap.size W w14 ∧ (∀ W' : World, Below w14.heap.size w14 W' → (convert 34 9 v6).run Tryd.prog W' = .ok (.string K2) W') ∧ (∀ (W' : World) (row : Option Nat), w14.grownBy W' row → (∀ k, row = some k → k < W.heap.size) → (convert 34 9 v6).run Tryd.prog W' = .ok (.string K2) W') := fun W hW => by
      refine (appendkey_b ⟨g4, 0, none⟩ 2 12 x [1, 2] W rfl (cells12 ((hW.block g4 HZ13.out).trans HK13.out)) (by decide) HX.out).mono ?_
      rintro e w14 ⟨v6, rfl, hr6, hb6⟩
      refine ⟨v6, rfl, hb6, fun W' hW' => ?_, fun W' row hg hrow => ?_⟩
      · rw [HK2S.out]
        exact run_string_row W' _ 34 9 5 v6 _ Tryd.underlying34 Tryd.underlying5 Tryd.underlying9 (hr6.below hW')
      · rw [HK2S.out]
        refine run_string_row W' _ 34 9 5 v6 _ Tryd.underlying34 Tryd.underlying5 Tryd.underlying9 (hr6.kept hg ?_)
        cases ho : v6.ownBlock with
        | none => exact .inl rfl
        | some k =>
          refine .inr fun he => ?_
          have h1 := (hr6.lt k ho).1
          have h2 := hrow k he.symm
          omega
    have HAK := Lib.hid hak
    clear hak
    go_region_law (first | (go_simp; go_at_call 24; first | (with_reducible refine (HAK.out w13.drew (below_undrewR (Below.refl _ _))).mono ?_; rintro e w14 ⟨v6, rfl, hb14, hq6, _⟩; have HC6 := Lib.hid hq6; have HB14 : Hid (Below w13.heap.size w13 w14) := Lib.hid (below_undrew hb14); have hc6 := HC6.out w14 (Below.refl _ _); have hc6b := fun o => HC6.out (w14.alloc o) (below_alloc w14 o); clear hb14 hq6) | (with_reducible refine (HAK.out (w13.alloc (.cells #[.int .u8 1, .int .u8 2] 5)).drew (below_undrewR (below_alloc _ _))).mono ?_; rintro e w14 ⟨v6, rfl, hb14, hq6, hk6⟩; have hc6 := hq6 w14 (Below.refl _ _); have HK6 := Lib.hid hk6; have HB14B : Hid (Below (w13.alloc (.cells #[.int .u8 1, .int .u8 2] 5)).heap.size (w13.alloc (.cells #[.int .u8 1, .int .u8 2] 5)) w14) := Lib.hid (below_undrew hb14); have HB14 : Hid (Below w13.heap.size w13 w14) := Lib.hid ((below_alloc w13 _).trans (HB14B.out.mono (below_alloc w13 (.cells #[.int .u8 1, .int .u8 2] 5)).size)); clear hb14 hq6 hk6)) | (have _tok := HB14B; refine step_append_row _ (by rfl) (.tmp 83) (.tmp 84) 34 34 (by rfl) w13.heap.size 5 (.int .u8 0) 1 1 Tryd.underlying34 info_u8 rfl _ 2 _ (by rfl) ((row12 w13 _).below HB14B.out) _ 8 _ (by rfl) (Src.slice Tryd.underlying34 ⟨g3, 0, none⟩ 8 8 (byteCells (keyL (placeN x))) (by rfl) (HKEY.out _ HB14.out) (byteCells_one _)) (by unfold maxLen; omega) (by omega) HB14.out.size ?_; intro vv w15 hr15 hg15 _; have hc15 : (convert 34 9 vv).run Tryd.prog w15 = .ok (.string K2) w15 := (by rw [HK2S.out]; refine run_string_row w15 w13.heap.size 34 9 5 vv _ Tryd.underlying34 Tryd.underlying5 Tryd.underlying9 ?_; rw [show byteCells ([1, 2] ++ keyL (placeN x)) = byteCells [1, 2] ++ byteCells (keyL (placeN x)) by simp [byteCells]]; exact hr15); have HB15 : Hid (Below w13.heap.size w13 w15) := Lib.hid (HB14.out.grown hg15 HB14.out.size (fun k hk => by simp [Value.ownBlock] at hk; omega)); have hc6c := HK6.out w15 _ hg15 (fun k hk => by simp [Value.ownBlock] at hk; show k < (w13.alloc (.cells #[.int .u8 1, .int .u8 2] 5)).heap.size; simp; omega); have c2 := (HM2.out w15 HB15.out).1; have c9 := (HM2.out w15 HB15.out).2; clear hr15 hg15) | (refine step_append_row _ (by rfl) (.tmp 83) (.tmp 84) 34 34 (by rfl) w14.heap.size 5 (.int .u8 0) 1 1 Tryd.underlying34 info_u8 rfl _ 2 _ (by rfl) (row12 w14 _) _ 8 _ (by rfl) (Src.slice Tryd.underlying34 ⟨g3, 0, none⟩ 8 8 (byteCells (keyL (placeN x))) (by rfl) (HKEY.out _ (HB14.out.alloc HB14.out.size _)) (byteCells_one _)) (by unfold maxLen; omega) (by omega) (by simp) ?_; intro vv w15 hr15 hg15 _; have hc15 : (convert 34 9 vv).run Tryd.prog w15 = .ok (.string K2) w15 := (by rw [HK2S.out]; refine run_string_row w15 w14.heap.size 34 9 5 vv _ Tryd.underlying34 Tryd.underlying5 Tryd.underlying9 ?_; rw [show byteCells ([1, 2] ++ keyL (placeN x)) = byteCells [1, 2] ++ byteCells (keyL (placeN x)) by simp [byteCells]]; exact hr15); have HB15 : Hid (Below w13.heap.size w13 w15) := Lib.hid ((HB14.out.alloc HB14.out.size _).grown hg15 (by have := HB14.out.size; simp; omega) (fun k hk => by have := HB14.out.size; simp [Value.ownBlock] at hk; omega)); have hc6c := HC6.out w15 ((below_alloc w14 _).grown hg15 (by simp) (fun k hk => by simp [Value.ownBlock] at hk; omega)); have c2 := (HM2.out w15 HB15.out).1; have c9 := (HM2.out w15 HB15.out).2; clear hr15 hg15))
    all_goals (go_wp2_with fail; go_meet)
    all_goals exact ⟨rfl, HB15⟩
  case rest =>
    obtain ⟨rfl, HBC⟩ := hcut
    have HBW : Hid (Below w.heap.size w wc) := Lib.hid (HB13.out.trans (HBC.out.mono HB13.out.size))
    go_wp2_with fail
    refine (reflike_any _ _ _ (HOF.out.low HN.out) (HOF.out.low HN.out)).mono ?_
    rintro e w' ⟨rfl, rfl⟩
    rw [beq_self_eq_true]
    go_wp2_with fail
    refine (num_any _ _).mono ?_
    rintro e w' ⟨rfl, rfl⟩
    go_wp2_with fail
    refine (reflike_any yc yd _ HYC.out.1 HYD.out.1).mono ?_
    rintro e w' ⟨rfl, rfl⟩
    rw [show (placeW yc == placeW yd) = true by rw [HYC.out.2, HYD.out.2]; simp]
    go_wp2_with fail
    refine (num_any _ _).mono ?_
    rintro e w' ⟨rfl, rfl⟩
    go_wp2_with fail
    refine (works_any _ (pow10_stays HT.out HBW.out)).mono ?_
    rintro e w16 ⟨rfl, hb16⟩
    have HB16 : Hid (Below w.heap.size w w16) := Lib.hid (HBW.out.trans (hb16.mono HBW.out.size))
    clear hb16
    go_wp2_with fail
    go_ret
    exact ⟨rfl, HB16.out⟩
end Go.Proofs.YthfgjibhpenfkaaDoor
