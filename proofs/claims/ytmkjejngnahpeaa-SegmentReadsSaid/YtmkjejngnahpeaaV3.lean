/- The texts Mb, Mc, Du, Dv in one. -/
import Derived.Test.YtmkjejngnahpeaaV1
import Derived.Test.YtmkjejngnahpeaaV2
/- crc: the table of fours, bytes that go in, the sum of one text. -/
namespace Go.Proofs.Ytmkjejngnahpeaa
open Go Go.RowKit
attribute [local go_sem] Oper.semAt_some

def crcIt : Nat → Int → Int
  | 0, x => x
  | j + 1, x => crcBit (crcIt j x)
/-- the table's first i cells are made -/
def crcTab (i : Nat) : List Value := (List.range 16).map fun k => if k < i then .int .u32 (crcFour k) else .int .u32 0
theorem crcTab_set {i : Nat} : (crcTab i).toArray.setIfInBounds i (.int .u32 (crcFour i)) = (crcTab (i + 1)).toArray := by
  have e : (crcTab i).set i (.int .u32 (crcFour i)) = crcTab (i + 1) := by
    apply List.ext_getElem
    · simp [crcTab]
    · intro k h1 h2
      rw [List.getElem_set]
      have hk : k < 16 := by simpa [crcTab] using h2
      simp only [crcTab, List.getElem_map, List.getElem_range]
      by_cases he : i = k
      · subst he
        simp
      · rw [if_neg he]
        by_cases hl : k < i
        · rw [if_pos hl, if_pos (by omega)]
        · rw [if_neg hl, if_neg (by omega)]
  rw [← e]
  simp
set_option maxRecDepth 100000 in
set_option maxHeartbeats 1000000 in
theorem crcFours_b {w : World} :
    Calls Try.prog 183 #[] w fun e w' => e = .returned (.agg (crcTab 16).toArray) ∧ Below w.heap.size w w' := by
  obtain ⟨w1, hw1⟩ : ∃ W : World, W = (w.alloc (.cells (crcTab 0).toArray 261)).alloc (.cells (crcTab 0).toArray 261) := ⟨_, rfl⟩
  obtain ⟨b0, hb0⟩ : ∃ b, b = w.heap.size := ⟨_, rfl⟩
  obtain ⟨b1, hb1⟩ : ∃ b, b = w.heap.size + 1 := ⟨_, rfl⟩
  have h0 : w1.heap[b0]? = some (.cells (crcTab 0).toArray 261 (0, 0)) := by rw [hw1, hb0]; exact (Below.heap_alloc _ _ _ (by simp)).trans (alloc_cells _ _ _)
  have h1 : w1.heap[b1]? = some (.cells (crcTab 0).toArray 261 (0, 0)) := by
    rw [hw1, hb1]
    have := alloc_cells (w.alloc (.cells (crcTab 0).toArray 261)) (crcTab 0).toArray 261
    rwa [World.size_alloc] at this
  have hb : Below w.heap.size w w1 := by rw [hw1]; exact ((Below.refl _ _).alloc (Nat.le_refl _) _).alloc (by simp) _
  have H1 := Lib.hid (And.intro h0 (And.intro h1 (And.intro hb (And.intro hb0 hb1))))
  clear h0 h1 hb
  go_enter Try.func183, Try.ntmps183
  go_upto_region 2 with fail
  have e0 : ∀ W : World, W.alloc (.cells #[.int .u32 0, .int .u32 0, .int .u32 0, .int .u32 0, .int .u32 0, .int .u32 0, .int .u32 0, .int .u32 0, .int .u32 0, .int .u32 0, .int .u32 0, .int .u32 0, .int .u32 0, .int .u32 0, .int .u32 0, .int .u32 0] 261) = W.alloc (.cells (crcTab 0).toArray 261) := fun W => rfl
  rw [e0, e0, ← hw1, ← hb1, ← hb0]
  clear hw1 hb1 hb0 e0
  go_wp2_with fail
  go_loopw [4] (fun i wr => ∃ k : Nat, i = .int .i64 (k : Int) ∧ k ≤ 16 ∧ Hid (wr.heap[b0]? = some (.cells (crcTab 0).toArray 261 (0, 0)) ∧ wr.heap[b1]? = some (.cells (crcTab k).toArray 261 (0, 0)) ∧ Below w.heap.size w wr)) (fun i _ => 16 - (intOf i).toNat)
  case atStart => exact ⟨0, rfl, by omega, Lib.hid ⟨H1.out.1, H1.out.2.1, H1.out.2.2.1⟩⟩
  case round =>
    obtain ⟨k, rfl, hk, HR⟩ := hrel
    by_cases hlt : k < 16
    · go_wp2_with fail
      go_loopw [3, 9] (fun x j wi => ∃ m : Nat, x = .int .u32 (crcIt m (k : Int)) ∧ j = .int .i64 (m : Int) ∧ m ≤ 4 ∧ wi = wr) (fun _ j _ => 4 - (intOf j).toNat)
      case atStart => exact ⟨0, rfl, rfl, by omega, rfl⟩
      case round =>
        obtain ⟨m, rfl, rfl, hm, rfl⟩ := hrel
        by_cases hlt4 : m < 4
        · obtain ⟨x, hx⟩ : ∃ x, crcIt m (k : Int) = x := ⟨_, rfl⟩
          have HX : Hid (crcIt (m + 1) (k : Int) = bits .xor .u32 (x / 2) (bits .and .u32 2197175160 (-bits .and .u32 x 1 % 4294967296))) := Lib.hid (by rw [← hx]; rfl)
          rw [hx]
          clear hx
          go_wp2_with fail
          exact ⟨⟨m + 1, by rw [HX.out], by simp, by omega, trivial⟩, by simp [intOf]; omega⟩
        · obtain rfl : m = 4 := by omega
          have hb1 := HR.out.2.1
          have z1 : ∀ j, wr.frozen? ⟨b1, j, none⟩ = false := fun j => free_of hb1 _
          have hcf : crcIt 4 (k : Int) = crcFour k := rfl
          have hy : wr.cell? ⟨b1, k, none⟩ = some (.int .u32 0) := cell_of hb1 (by simp [crcTab, hlt])
          clear hb1
          rw [hcf]
          clear hcf
          go_wp2_with fail
          refine ⟨⟨k + 1, by simp, by omega, Lib.hid ⟨?_, ?_, ?_⟩⟩, by simp [intOf]; omega⟩
          · exact (Below.heap_setCell _ _ _ _ (by show b0 ≠ b1; have := H1.out; omega)).trans HR.out.1
          · rw [heap_setCell_here _ HR.out.2.1, crcTab_set]
          · exact HR.out.2.2.setCell (p := ⟨b1, k, none⟩) (by show w.heap.size ≤ b1; have := H1.out; omega) _
    · obtain rfl : k = 16 := by omega
      have hb0 := HR.out.1
      have hb1 := HR.out.2.1
      have c0 : wr.cell? ⟨b1, 0, none⟩ = some (.int .u32 (crcFour 0)) := cell_of hb1 rfl
      have z0 : wr.frozen? ⟨b0, 0, none⟩ = false := free_of hb0 _
      have y0 : wr.cell? ⟨b0, 0, none⟩ = some (.int .u32 0) := cell_of hb0 rfl
      have c1 : wr.cell? ⟨b1, 1, none⟩ = some (.int .u32 (crcFour 1)) := cell_of hb1 rfl
      have z1 : wr.frozen? ⟨b0, 1, none⟩ = false := free_of hb0 _
      have y1 : wr.cell? ⟨b0, 1, none⟩ = some (.int .u32 0) := cell_of hb0 rfl
      have c2 : wr.cell? ⟨b1, 2, none⟩ = some (.int .u32 (crcFour 2)) := cell_of hb1 rfl
      have z2 : wr.frozen? ⟨b0, 2, none⟩ = false := free_of hb0 _
      have y2 : wr.cell? ⟨b0, 2, none⟩ = some (.int .u32 0) := cell_of hb0 rfl
      have c3 : wr.cell? ⟨b1, 3, none⟩ = some (.int .u32 (crcFour 3)) := cell_of hb1 rfl
      have z3 : wr.frozen? ⟨b0, 3, none⟩ = false := free_of hb0 _
      have y3 : wr.cell? ⟨b0, 3, none⟩ = some (.int .u32 0) := cell_of hb0 rfl
      have c4 : wr.cell? ⟨b1, 4, none⟩ = some (.int .u32 (crcFour 4)) := cell_of hb1 rfl
      have z4 : wr.frozen? ⟨b0, 4, none⟩ = false := free_of hb0 _
      have y4 : wr.cell? ⟨b0, 4, none⟩ = some (.int .u32 0) := cell_of hb0 rfl
      have c5 : wr.cell? ⟨b1, 5, none⟩ = some (.int .u32 (crcFour 5)) := cell_of hb1 rfl
      have z5 : wr.frozen? ⟨b0, 5, none⟩ = false := free_of hb0 _
      have y5 : wr.cell? ⟨b0, 5, none⟩ = some (.int .u32 0) := cell_of hb0 rfl
      have c6 : wr.cell? ⟨b1, 6, none⟩ = some (.int .u32 (crcFour 6)) := cell_of hb1 rfl
      have z6 : wr.frozen? ⟨b0, 6, none⟩ = false := free_of hb0 _
      have y6 : wr.cell? ⟨b0, 6, none⟩ = some (.int .u32 0) := cell_of hb0 rfl
      have c7 : wr.cell? ⟨b1, 7, none⟩ = some (.int .u32 (crcFour 7)) := cell_of hb1 rfl
      have z7 : wr.frozen? ⟨b0, 7, none⟩ = false := free_of hb0 _
      have y7 : wr.cell? ⟨b0, 7, none⟩ = some (.int .u32 0) := cell_of hb0 rfl
      have c8 : wr.cell? ⟨b1, 8, none⟩ = some (.int .u32 (crcFour 8)) := cell_of hb1 rfl
      have z8 : wr.frozen? ⟨b0, 8, none⟩ = false := free_of hb0 _
      have y8 : wr.cell? ⟨b0, 8, none⟩ = some (.int .u32 0) := cell_of hb0 rfl
      have c9 : wr.cell? ⟨b1, 9, none⟩ = some (.int .u32 (crcFour 9)) := cell_of hb1 rfl
      have z9 : wr.frozen? ⟨b0, 9, none⟩ = false := free_of hb0 _
      have y9 : wr.cell? ⟨b0, 9, none⟩ = some (.int .u32 0) := cell_of hb0 rfl
      have c10 : wr.cell? ⟨b1, 10, none⟩ = some (.int .u32 (crcFour 10)) := cell_of hb1 rfl
      have z10 : wr.frozen? ⟨b0, 10, none⟩ = false := free_of hb0 _
      have y10 : wr.cell? ⟨b0, 10, none⟩ = some (.int .u32 0) := cell_of hb0 rfl
      have c11 : wr.cell? ⟨b1, 11, none⟩ = some (.int .u32 (crcFour 11)) := cell_of hb1 rfl
      have z11 : wr.frozen? ⟨b0, 11, none⟩ = false := free_of hb0 _
      have y11 : wr.cell? ⟨b0, 11, none⟩ = some (.int .u32 0) := cell_of hb0 rfl
      have c12 : wr.cell? ⟨b1, 12, none⟩ = some (.int .u32 (crcFour 12)) := cell_of hb1 rfl
      have z12 : wr.frozen? ⟨b0, 12, none⟩ = false := free_of hb0 _
      have y12 : wr.cell? ⟨b0, 12, none⟩ = some (.int .u32 0) := cell_of hb0 rfl
      have c13 : wr.cell? ⟨b1, 13, none⟩ = some (.int .u32 (crcFour 13)) := cell_of hb1 rfl
      have z13 : wr.frozen? ⟨b0, 13, none⟩ = false := free_of hb0 _
      have y13 : wr.cell? ⟨b0, 13, none⟩ = some (.int .u32 0) := cell_of hb0 rfl
      have c14 : wr.cell? ⟨b1, 14, none⟩ = some (.int .u32 (crcFour 14)) := cell_of hb1 rfl
      have z14 : wr.frozen? ⟨b0, 14, none⟩ = false := free_of hb0 _
      have y14 : wr.cell? ⟨b0, 14, none⟩ = some (.int .u32 0) := cell_of hb0 rfl
      have c15 : wr.cell? ⟨b1, 15, none⟩ = some (.int .u32 (crcFour 15)) := cell_of hb1 rfl
      have z15 : wr.frozen? ⟨b0, 15, none⟩ = false := free_of hb0 _
      have y15 : wr.cell? ⟨b0, 15, none⟩ = some (.int .u32 0) := cell_of hb0 rfl
      clear hb0 hb1
      go_wp2_with fail
      have f0 := heap_setCell_here (i := 0) (.int .u32 (crcFour 0)) HR.out.1
      have f1 := heap_setCell_here (i := 1) (.int .u32 (crcFour 1)) f0
      have f2 := heap_setCell_here (i := 2) (.int .u32 (crcFour 2)) f1
      have f3 := heap_setCell_here (i := 3) (.int .u32 (crcFour 3)) f2
      have f4 := heap_setCell_here (i := 4) (.int .u32 (crcFour 4)) f3
      have f5 := heap_setCell_here (i := 5) (.int .u32 (crcFour 5)) f4
      have f6 := heap_setCell_here (i := 6) (.int .u32 (crcFour 6)) f5
      have f7 := heap_setCell_here (i := 7) (.int .u32 (crcFour 7)) f6
      have f8 := heap_setCell_here (i := 8) (.int .u32 (crcFour 8)) f7
      have f9 := heap_setCell_here (i := 9) (.int .u32 (crcFour 9)) f8
      have f10 := heap_setCell_here (i := 10) (.int .u32 (crcFour 10)) f9
      have f11 := heap_setCell_here (i := 11) (.int .u32 (crcFour 11)) f10
      have f12 := heap_setCell_here (i := 12) (.int .u32 (crcFour 12)) f11
      have f13 := heap_setCell_here (i := 13) (.int .u32 (crcFour 13)) f12
      have f14 := heap_setCell_here (i := 14) (.int .u32 (crcFour 14)) f13
      have f15 := heap_setCell_here (i := 15) (.int .u32 (crcFour 15)) f14
      have hfin := f15.trans (congrArg (fun c => some (Obj.cells c 261 (0, 0))) (show _ = (crcTab 16).toArray by kernel_rfl))
      have hb0 : w.heap.size ≤ b0 := by have := H1.out; omega
      clear f0 f1 f2 f3 f4 f5 f6 f7 f8 f9 f10 f11 f12 f13 f14 f15
      have d0 := cell_of (i := 0) (v := .int .u32 (crcFour 0)) hfin rfl
      have d1 := cell_of (i := 1) (v := .int .u32 (crcFour 1)) hfin rfl
      have d2 := cell_of (i := 2) (v := .int .u32 (crcFour 2)) hfin rfl
      have d3 := cell_of (i := 3) (v := .int .u32 (crcFour 3)) hfin rfl
      have d4 := cell_of (i := 4) (v := .int .u32 (crcFour 4)) hfin rfl
      have d5 := cell_of (i := 5) (v := .int .u32 (crcFour 5)) hfin rfl
      have d6 := cell_of (i := 6) (v := .int .u32 (crcFour 6)) hfin rfl
      have d7 := cell_of (i := 7) (v := .int .u32 (crcFour 7)) hfin rfl
      have d8 := cell_of (i := 8) (v := .int .u32 (crcFour 8)) hfin rfl
      have d9 := cell_of (i := 9) (v := .int .u32 (crcFour 9)) hfin rfl
      have d10 := cell_of (i := 10) (v := .int .u32 (crcFour 10)) hfin rfl
      have d11 := cell_of (i := 11) (v := .int .u32 (crcFour 11)) hfin rfl
      have d12 := cell_of (i := 12) (v := .int .u32 (crcFour 12)) hfin rfl
      have d13 := cell_of (i := 13) (v := .int .u32 (crcFour 13)) hfin rfl
      have d14 := cell_of (i := 14) (v := .int .u32 (crcFour 14)) hfin rfl
      have d15 := cell_of (i := 15) (v := .int .u32 (crcFour 15)) hfin rfl
      refine ⟨rfl, .agg (crcTab 16).toArray, ?_, rfl, ((((((((((((((((((((((((((((((((HR.out.2.2).setCell (p := ⟨b0, 0, none⟩) hb0 _)).setCell (p := ⟨b0, 1, none⟩) hb0 _)).setCell (p := ⟨b0, 2, none⟩) hb0 _)).setCell (p := ⟨b0, 3, none⟩) hb0 _)).setCell (p := ⟨b0, 4, none⟩) hb0 _)).setCell (p := ⟨b0, 5, none⟩) hb0 _)).setCell (p := ⟨b0, 6, none⟩) hb0 _)).setCell (p := ⟨b0, 7, none⟩) hb0 _)).setCell (p := ⟨b0, 8, none⟩) hb0 _)).setCell (p := ⟨b0, 9, none⟩) hb0 _)).setCell (p := ⟨b0, 10, none⟩) hb0 _)).setCell (p := ⟨b0, 11, none⟩) hb0 _)).setCell (p := ⟨b0, 12, none⟩) hb0 _)).setCell (p := ⟨b0, 13, none⟩) hb0 _)).setCell (p := ⟨b0, 14, none⟩) hb0 _)).setCell (p := ⟨b0, 15, none⟩) hb0 _)⟩
      have he : (.agg (crcTab 16).toArray : Value) = .agg #[.int .u32 (crcFour 0), .int .u32 (crcFour 1), .int .u32 (crcFour 2), .int .u32 (crcFour 3), .int .u32 (crcFour 4), .int .u32 (crcFour 5), .int .u32 (crcFour 6), .int .u32 (crcFour 7), .int .u32 (crcFour 8), .int .u32 (crcFour 9), .int .u32 (crcFour 10), .int .u32 (crcFour 11), .int .u32 (crcFour 12), .int .u32 (crcFour 13), .int .u32 (crcFour 14), .int .u32 (crcFour 15)] := by rfl
      rw [he]
      clear he hfin c0 z0 y0 c1 z1 y1 c2 z2 y2 c3 z3 y3 c4 z4 y4 c5 z5 y5 c6 z6 y6 c7 z7 y7 c8 z8 y8 c9 z9 y9 c10 z10 y10 c11 z11 y11 c12 z12 y12 c13 z13 y13 c14 z14 y14 c15 z15 y15
      simp [results, Try.results183, go_sem, d0, d1, d2, d3, d4, d5, d6, d7, d8, d9, d10, d11, d12, d13, d14, d15]
end Go.Proofs.Ytmkjejngnahpeaa
/- crc: bytes that go into a sum; the sum of one text. -/
namespace Go.Proofs.Ytmkjejngnahpeaa
open Go Go.RowKit
attribute [local go_sem] Oper.semAt_some

theorem rdCell {w : World} {size n c g off : Nat} {xs : List Value} (h : readAt w size (.slice (some ⟨g, off, none⟩) n c) n xs) {i : Nat} {u : Value} (hu : xs[i]? = some u) : w.cell? ⟨g, off + i, none⟩ = some u := by
  have := h.cells (g := g) (off := off) rfl i u hu
  simpa [Go.WideShapes.add_plain] using this
/-- a part of what may be read: v[l:k:m] -/
theorem readAt.sub {w : World} {size : Nat} {oa : Option Addr} {n cap : Nat} {xs : List Value} (h : readAt w size (.slice oa n cap) n xs) (l k m : Nat) (hl : l ≤ k) (hk : k ≤ n) (hkm : k ≤ m) (hm : m ≤ cap) :
    readAt w size (.slice (if m = l then oa else oa.map (·.add (l * size))) (k - l) (m - l)) (k - l) ((xs.drop (l * size)).take ((k - l) * size)) := by
  have hlen : ((xs.drop (l * size)).take ((k - l) * size)).length = (k - l) * size := by
    rw [List.length_take, List.length_drop, h.1]
    have h1 : k * size ≤ n * size := Nat.mul_le_mul_right _ hk
    have h2 : (k - l) * size = k * size - l * size := Nat.sub_mul _ _ _
    omega
  refine ⟨hlen, ?_⟩
  by_cases h0 : k - l = 0
  · refine .inl ⟨h0, _, _, by rw [h0], fun he => ?_⟩
    split at he
    · omega
    · cases oa with
      | none =>
        rcases h.2 with ⟨rfl, oa, c, hv, hc⟩ | ⟨g, off, c, hv, _⟩
        · simp only [Value.slice.injEq] at hv
          have := hc hv.1.symm
          omega
        · cases hv
      | some a => simp at he
  · rcases h.2 with ⟨h1, _⟩ | ⟨g, off, c, hv, hn0, hg, hn, hc⟩
    · omega
    · simp only [Value.slice.injEq] at hv
      obtain ⟨rfl, -, rfl⟩ := hv
      have hml : ¬ m = l := by omega
      rw [if_neg hml]
      refine .inr ⟨g, off + l * size, m - l, by simp [Go.WideShapes.add_plain], by omega, hg, by omega, fun j u hu => ?_⟩
      rw [List.getElem?_take] at hu
      split at hu
      · rw [List.getElem?_drop] at hu
        have := hc (l * size + j) u hu
        rwa [← Nat.add_assoc] at this
      · cases hu
theorem crcAgg : (.agg (crcTab 16).toArray : Value) = .agg #[.int .u32 (crcFour 0), .int .u32 (crcFour 1), .int .u32 (crcFour 2), .int .u32 (crcFour 3), .int .u32 (crcFour 4), .int .u32 (crcFour 5), .int .u32 (crcFour 6), .int .u32 (crcFour 7), .int .u32 (crcFour 8), .int .u32 (crcFour 9), .int .u32 (crcFour 10), .int .u32 (crcFour 11), .int .u32 (crcFour 12), .int .u32 (crcFour 13), .int .u32 (crcFour 14), .int .u32 (crcFour 15)] := by rfl
theorem crcTab_get {n : Nat} (h : n < 16) : (crcTab 16).toArray[n]? = some (.int .u32 (crcFour n)) := by
  simp [crcTab, h]
theorem crcInto_succ {l : List UInt8} {k : Nat} (h : k < l.length) (x : Int) : crcInto x (l.take (k + 1)) = crcByte (crcInto x (l.take k)) l[k] := by
  unfold crcInto
  rw [List.take_succ_eq_append_getElem h, List.foldl_append]
  rfl
set_option maxRecDepth 100000 in
set_option maxHeartbeats 1000000 in
theorem crcInto_b {w : World} {x : Int} {oa : Option Addr} {n c : Nat} {l : List UInt8} (hx : 0 ≤ x ∧ x < 4294967296) (hn : l.length = n) (hl : readAt w 1 (.slice oa n c) n (byteCells l)) (hm : n ≤ 1000000000) :
    Calls Try.prog 172 #[.int .u32 x, .slice oa n c] w fun e w' => e = .returned (.int .u32 (crcInto x l)) ∧ Below w.heap.size w w' := by
  have HF := Lib.hid (crcFours_b (w := w))
  rw [crcAgg] at HF
  have HX := Lib.hid hx
  have HN := Lib.hid hn
  have HL := Lib.hid hl
  clear hx hn hl
  go_enter Try.func172, Try.ntmps172
  go_wp2_with fail
  refine HF.out.mono ?_
  rintro e w1 ⟨rfl, hb1⟩
  obtain ⟨w2, hw2⟩ : ∃ W : World, W = w1.alloc (.cells (crcTab 16).toArray 261) := ⟨_, rfl⟩
  obtain ⟨b5, hb5⟩ : ∃ b, b = w1.heap.size := ⟨_, rfl⟩
  have h5 : w2.heap[b5]? = some (.cells (crcTab 16).toArray 261 (0, 0)) := by rw [hw2, hb5]; exact alloc_cells _ _ _
  have hb2 : Below w.heap.size w w2 := hb1.trans ((by rw [hw2]; exact (Below.refl _ _).alloc (Nat.le_refl _) _ : Below w1.heap.size w1 w2).mono hb1.size)
  have hc5 : ∀ j, j < 16 → w2.cell? ⟨b5, j, none⟩ = some (.int .u32 (crcFour j)) := fun j hj => cell_of h5 (crcTab_get hj)
  have ea : (crcTab 16).toArray = #[.int .u32 (crcFour 0), .int .u32 (crcFour 1), .int .u32 (crcFour 2), .int .u32 (crcFour 3), .int .u32 (crcFour 4), .int .u32 (crcFour 5), .int .u32 (crcFour 6), .int .u32 (crcFour 7), .int .u32 (crcFour 8), .int .u32 (crcFour 9), .int .u32 (crcFour 10), .int .u32 (crcFour 11), .int .u32 (crcFour 12), .int .u32 (crcFour 13), .int .u32 (crcFour 14), .int .u32 (crcFour 15)] := rfl
  rw [ea] at hw2
  have HR := Lib.hid (HL.out.kept (fun k hk _ _ => hb2.block k hk))
  have HC := Lib.hid (And.intro hc5 hb2)
  clear hb1 h5 hb2 hc5 ea HF HL
  go_wp2_with fail
  rw [← hw2, ← hb5]
  clear hw2 hb5
  go_loopw [0, 11] (fun s i wr => ∃ k : Nat, s = .int .u32 (crcInto x (l.take k)) ∧ i = .int .i64 (k : Int) ∧ k ≤ n ∧ wr = w2) (fun _ i _ => n - (intOf i).toNat)
  case atStart => exact ⟨0, rfl, rfl, by omega, rfl⟩
  case round =>
    obtain ⟨k, rfl, rfl, hk, rfl⟩ := hrel
    by_cases hlt : k < n
    · have hkl : k < l.length := by rw [HN.out]; exact hlt
      have hs := crcInto_succ hkl x
      obtain ⟨y, hy⟩ : ∃ y, crcInto x (l.take k) = y := ⟨_, rfl⟩
      obtain ⟨ch, hch⟩ : ∃ ch, l[k] = ch := ⟨_, rfl⟩
      rw [hy, hch] at hs
      rw [hy]
      obtain ⟨g, off, rfl⟩ := HR.out.addr (by omega)
      have kc : wr.cell? ⟨g, off + k, none⟩ = some (.int .u8 (ch.toNat : Int)) := rdCell HR.out (i := k) (by unfold byteCells; rw [List.getElem?_map, List.getElem?_eq_getElem hkl, hch]; rfl)
      obtain ⟨c8, hc8⟩ : ∃ z : Int, (ch.toNat : Int) = z := ⟨_, rfl⟩
      have hc8b : 0 ≤ c8 ∧ c8 < 256 := by have := ch.toNat_lt; omega
      rw [hc8] at kc
      obtain ⟨x1, hx1⟩ : ∃ z, bits .xor .u32 y c8 = z := ⟨_, rfl⟩
      have hb1 : 0 ≤ x1 ∧ x1 < 4294967296 := by rw [← hx1]; exact u32_bits _ _ _
      obtain ⟨n1, hn1⟩ : ∃ m : Nat, (x1 % 16).toNat = m := ⟨_, rfl⟩
      have hn1l : n1 < 16 := by omega
      have ha1 : bits .and .u32 x1 15 = (n1 : Int) := by rw [u32_and15]; omega
      obtain ⟨t1, ht1⟩ : ∃ z, crcFour n1 = z := ⟨_, rfl⟩
      have k1 := HC.out.1 n1 hn1l
      rw [ht1] at k1
      obtain ⟨x2, hx2⟩ : ∃ z, bits .xor .u32 t1 (x1 / 16) = z := ⟨_, rfl⟩
      have hb2 : 0 ≤ x2 ∧ x2 < 4294967296 := by rw [← hx2]; exact u32_bits _ _ _
      obtain ⟨n2, hn2⟩ : ∃ m : Nat, (x2 % 16).toNat = m := ⟨_, rfl⟩
      have hn2l : n2 < 16 := by omega
      have ha2 : bits .and .u32 x2 15 = (n2 : Int) := by rw [u32_and15]; omega
      obtain ⟨t2, ht2⟩ : ∃ z, crcFour n2 = z := ⟨_, rfl⟩
      have k2 := HC.out.1 n2 hn2l
      rw [ht2] at k2
      have HS : Hid (crcInto x (l.take (k + 1)) = bits .xor .u32 t2 (x2 / 16)) := Lib.hid (by
        rw [hs]
        unfold crcByte crcHalf
        rw [hc8, hx1, hn1, ht1, hx2, hn2, ht2])
      clear hs hy hch hc8 hkl hn1 ht1 hn2 ht2
      go_wp2_with fail
      exact ⟨⟨k + 1, by rw [HS.out], by simp, by omega, trivial⟩, by simp [intOf]; omega⟩
    · obtain rfl : k = n := by omega
      have HT : Hid (l.take k = l) := Lib.hid (List.take_of_length_le (by rw [HN.out]; exact Nat.le_refl _))
      rw [HT.out]
      go_wp2_with fail
      go_ret
      exact ⟨rfl, HC.out.2⟩
/-- the sum of one text -/
theorem crcSum_b {w : World} {ob : Nat} {oa : Option Addr} {n c : Nat} {l : List UInt8} (hs : w.cell? ⟨ob, 0, none⟩ = some (.slice oa n c)) (hn : l.length = n) (hl : readAt w 1 (.slice oa n c) n (byteCells l)) (hm : n ≤ 1000000000) :
    Calls Try.prog 147 #[.slice (some ⟨ob, 0, none⟩) 1 1] w fun e w' => e = .returned (.int .u32 (crcSum l)) ∧ Below w.heap.size w w' := by
  have HI := Lib.hid (crcInto_b (x := 4294967295) (by decide) hn hl hm)
  clear hn hl
  go_enter Try.func147, Try.ntmps147
  go_wp2_with fail
  go_loopw [3, 8] (fun s i wr => (s = .int .u32 4294967295 ∧ i = .int .i64 0 ∧ wr = w) ∨ (s = .int .u32 (crcInto 4294967295 l) ∧ i = .int .i64 1 ∧ Hid (Below w.heap.size w wr))) (fun _ i _ => 1 - (intOf i).toNat)
  case atStart => exact .inl ⟨rfl, rfl, rfl⟩
  case round =>
    rcases hrel with ⟨rfl, rfl, rfl⟩ | ⟨rfl, rfl, HB⟩
    · go_wp2_with fail
      refine HI.out.mono ?_
      rintro e w2 ⟨rfl, hb2⟩
      have HB := Lib.hid hb2
      clear hb2
      go_wp2_with fail
      exact ⟨.inr ⟨rfl, rfl, HB⟩, by simp [intOf]⟩
    · have HX := Lib.hid (crcInto_u32 l 4294967295 (by decide))
      have HS : Hid (crcSum l = bits .xor .u32 4294967295 (crcInto 4294967295 l)) := Lib.hid rfl
      obtain ⟨y, hy⟩ : ∃ y, crcInto 4294967295 l = y := ⟨_, rfl⟩
      rw [hy] at HS ⊢
      clear hy HI
      go_wp2_with fail
      go_ret
      exact ⟨by rw [HS.out]; rfl, HB.out⟩
end Go.Proofs.Ytmkjejngnahpeaa
/- Disk: a name is asked for; a file is found. -/
namespace Go.Proofs.Ytmkjejngnahpeaa
open Go Go.Maps Go.RowKit

section
variable {w : World} {S : Nat → Prop} {q mb : Nat} {fv : Value} {L : List Fl} {d : Dk}
theorem DiskIs.at_some (h : DiskIs w S q mb fv L d) {s : List UInt8} {f : F0} (ha : d.at s = some f) : ∃ A x B, L = A ++ x :: B ∧ x.f = f ∧ x.f.name = s := by
  have hm : f ∈ L.map (·.f) := by rw [h.files]; exact List.mem_of_find?_eq_some ha
  obtain ⟨x, hx, rfl⟩ := List.mem_map.1 hm
  obtain ⟨A, B, rfl⟩ := List.append_of_mem hx
  exact ⟨A, x, B, rfl, rfl, by have := List.find?_some ha; simpa using this⟩
theorem DiskIs.at_none (h : DiskIs w S q mb fv L d) {s : List UInt8} (ha : d.at s = none) : ∀ x ∈ L, x.f.name ≠ s := fun x hx he => by
  have hm : x.f ∈ d.files := by rw [← h.files]; exact List.mem_map_of_mem hx
  have := List.find?_eq_none.1 ha x.f hm
  simp [he] at this
theorem DiskIs.lookup_some (h : DiskIs w S q mb fv L d) {x : Fl} (hx : x ∈ L) {nm : ByteArray} (hs : nm.size ≤ maxLen) (hn : x.f.name = nm.data.toList) :
    (Instr.lookup 120 (.map (some mb)) (.string nm) true).run Try.prog w = .ok (.tuple #[.pointer (some ⟨x.blk, 0, none⟩), .bool true]) w := by
  obtain ⟨D, ho, hsz, hd⟩ := h.look
  have hz : (zeroValue 176).run Try.prog w = .ok (.pointer none) w := by kernel_rfl
  obtain ⟨v, ps, hrun, hv⟩ := ho.look_ok (t := 120) (string_keyed Try.underlying9) Try.underlying120 hz ptrElem_nil (WideMaps.keyOf_string_mk (P := Try.prog) Try.underlying9 hs)
  have hm : (x.f.name, x.blk) ∈ L.map fun x => (x.f.name, x.blk) := List.mem_map_of_mem (f := fun x => (x.f.name, x.blk)) hx
  have hg := hd.get _ hm .nil
  have hh := (hd.has nm.data.toList).2 ⟨_, hm, hn⟩
  rw [← hn] at hv hrun hh
  rw [hg] at hv
  obtain rfl := ptrElem_inv hv
  rw [hh] at hrun
  exact hrun
theorem DiskIs.lookup_none (h : DiskIs w S q mb fv L d) {nm : ByteArray} (hs : nm.size ≤ maxLen) (hn : ∀ x ∈ L, x.f.name ≠ nm.data.toList) :
    (Instr.lookup 120 (.map (some mb)) (.string nm) true).run Try.prog w = .ok (.tuple #[.pointer none, .bool false]) w := by
  obtain ⟨D, ho, hsz, hd⟩ := h.look
  have hz : (zeroValue 176).run Try.prog w = .ok (.pointer none) w := by kernel_rfl
  obtain ⟨v, ps, hrun, hv⟩ := ho.look_ok (t := 120) (string_keyed Try.underlying9) Try.underlying120 hz ptrElem_nil (WideMaps.keyOf_string_mk (P := Try.prog) Try.underlying9 hs)
  have hh : Maps.has D (.string nm.data.toList) = false := by
    cases hb : Maps.has D (.string nm.data.toList) with
    | false => rfl
    | true =>
      obtain ⟨f, hf, he⟩ := (hd.has _).1 hb
      obtain ⟨x, hx, rfl⟩ := List.mem_map.1 hf
      exact absurd he (hn x hx)
  rw [hh] at hrun
  rw [atKey_of_not_has hh] at hv
  obtain rfl := ptrElem_inv_nil hv
  exact hrun
end
theorem map_nil_ne (mb : Nat) (W : World) : (binOp .eql 120 (.map (some mb)) (.map none)).run Try.prog W = .ok (.bool false) W := by kernel_rfl
set_option maxHeartbeats 400000 in
theorem none_b {w : World} {S : Nat → Prop} {q mb : Nat} {fv : Value} {L : List Fl} {d : Dk} (h : DiskIs w S q mb fv L d) :
    Calls Try.prog 108 #[.pointer (some ⟨q, 0, none⟩)] w fun e w' => e = .returned (.bool false) ∧ w' = w := by
  have c0 : w.cell? ⟨q, 0, none⟩ = some (.map (some mb)) := cell_of h.head rfl
  have hm := map_nil_ne mb
  clear h
  go_enter Try.func108, Try.ntmps108
  go_wp2_with fail
  go_ret
  exact ⟨rfl, rfl⟩
def askE (s : List UInt8) : Int := if nameOk s = true then 0 else 2
set_option maxHeartbeats 400000 in
theorem asked_b {w : World} {S : Nat → Prop} {q mb : Nat} {fv : Value} {L : List Fl} {d : Dk} (h : DiskIs w S q mb fv L d) (nm : ByteArray) (hs : nm.size ≤ maxLen) :
    Calls Try.prog 118 #[.pointer (some ⟨q, 0, none⟩), .string nm] w fun e w' => e = .returned (.int .i64 (askE nm.data.toList)) ∧ w' = w := by
  go_enter Try.func118, Try.ntmps118
  go_wp2_with fail
  refine (none_b h).mono ?_
  rintro e w' ⟨rfl, rfl⟩
  go_wp2_with fail
  refine (named_any nm _ hs).mono ?_
  rintro e w' ⟨rfl, rfl⟩
  obtain ⟨b, hb⟩ : ∃ b, nameOk nm.data.toList = b := ⟨_, rfl⟩
  have HE : Hid (askE nm.data.toList = if b = true then 0 else 2) := Lib.hid (by rw [askE, hb])
  rw [hb]
  clear hb
  cases b
  · go_wp2_with fail
    go_ret
    exact ⟨by rw [HE.out]; rfl, rfl⟩
  · go_wp2_with fail
    go_ret
    exact ⟨by rw [HE.out]; rfl, rfl⟩
def FindIs (L : List Fl) (d : Dk) (s : List UInt8) (e : Ending) : Prop :=
  (nameOk s = false ∧ e = .returned (.tuple #[.pointer none, .int .i64 2])) ∨ (nameOk s = true ∧ d.find s = none ∧ e = .returned (.tuple #[.pointer none, .int .i64 171])) ∨
  (nameOk s = true ∧ ∃ A x B, L = A ++ x :: B ∧ x.f.name = s ∧ x.f.there = true ∧ d.find s = some x.f ∧ e = .returned (.tuple #[.pointer (some ⟨x.blk, 0, none⟩), .int .i64 0]))
set_option maxHeartbeats 400000 in
theorem find_b {w : World} {S : Nat → Prop} {q mb : Nat} {fv : Value} {L : List Fl} {d : Dk} (h : DiskIs w S q mb fv L d) (nm : ByteArray) (hs : nm.size ≤ maxLen) :
    Calls Try.prog 116 #[.pointer (some ⟨q, 0, none⟩), .string nm] w fun e w' => FindIs L d nm.data.toList e ∧ w' = w := by
  have c0 : w.cell? ⟨q, 0, none⟩ = some (.map (some mb)) := cell_of h.head rfl
  go_enter Try.func116, Try.ntmps116
  go_wp2_with fail
  refine (asked_b h nm hs).mono ?_
  rintro e w' ⟨rfl, rfl⟩
  obtain ⟨s, hss⟩ : ∃ s, nm.data.toList = s := ⟨_, rfl⟩
  cases hn : nameOk s with
  | false =>
    have hF : FindIs L d nm.data.toList (.returned (.tuple #[.pointer none, .int .i64 2])) := by rw [hss]; exact (.inl ⟨hn, rfl⟩)
    have HF := Lib.hid hF
    rw [hss, show askE s = 2 by simp [askE, hn]]
    clear h hF hn hss
    go_wp2_with fail
    go_ret2
    exact ⟨HF.out, rfl⟩
  | true =>
    rw [hss, show askE s = 0 by simp [askE, hn]]
    cases ha : d.at s with
    | none =>
      have hl := h.lookup_none hs (by rw [hss]; exact h.at_none ha)
      have hF : FindIs L d nm.data.toList (.returned (.tuple #[.pointer none, .int .i64 171])) := by rw [hss]; exact (.inr (.inl ⟨hn, by simp [Dk.find, ha], rfl⟩))
      have HF := Lib.hid hF
      clear h hF hn hss ha
      go_wp2_with fail
      go_ret2
      exact ⟨HF.out, rfl⟩
    | some f =>
      obtain ⟨A, x, B, hL, rfl, hxn⟩ := h.at_some ha
      have hl := h.lookup_some (x := x) (by rw [hL]; simp) hs (by rw [hss]; exact hxn)
      have c2 : w'.cell? ⟨x.blk, 2, none⟩ = some (.bool x.f.there) := cell_of (h.each x (by rw [hL]; simp)).cells rfl
      cases ht : x.f.there with
      | false =>
        have hF : FindIs L d nm.data.toList (.returned (.tuple #[.pointer none, .int .i64 171])) := by rw [hss]; exact (.inr (.inl ⟨hn, by simp [Dk.find, ha, ht], rfl⟩))
        have HF := Lib.hid hF
        rw [ht] at c2
        clear h hF hn hss ha hL hxn ht
        go_wp2_with fail
        go_ret2
        exact ⟨HF.out, rfl⟩
      | true =>
        have hF : FindIs L d nm.data.toList (.returned (.tuple #[.pointer (some ⟨x.blk, 0, none⟩), .int .i64 0])) := by rw [hss]; exact (.inr (.inr ⟨hn, A, x, B, hL, hxn, ht, by simp [Dk.find, ha, ht], rfl⟩))
        have HF := Lib.hid hF
        rw [ht] at c2
        clear h hF hn hss ha hL hxn ht
        go_wp2_with fail
        go_ret2
        exact ⟨HF.out, rfl⟩
end Go.Proofs.Ytmkjejngnahpeaa
/- Disk: Sync. -/
namespace Go.Proofs.Ytmkjejngnahpeaa
open Go Go.Maps Go.RowKit

/-- S and what is new -/
def Wid (S : Nat → Prop) (w w' : World) : Nat → Prop := fun k => S k ∨ (w.heap.size ≤ k ∧ k < w'.heap.size)
/-- what a call leaves: its error, the disk as it stands then; what is not the disk's has not turned -/
def OpIs (w : World) (S : Nat → Prop) (q : Nat) (r : Int × Dk) (e : Ending) (w' : World) : Prop :=
  e = .returned (.int .i64 r.1) ∧ DiskAt w' (Wid S w w') q r.2 ∧ Only S w w'
section
variable {w : World} {S : Nat → Prop} {q mb : Nat} {fv : Value} {L : List Fl} {d : Dk}
theorem DiskIs.q_mem (h : DiskIs w S q mb fv L d) : S q := h.foot q (by simp [diskBlocks])
theorem DiskIs.x_mem {A B : List Fl} {x : Fl} (h : DiskIs w S q mb fv (A ++ x :: B) d) : ∀ k ∈ x.blocks, S k := fun k hk =>
  h.foot k ((blocks_perm q mb fv A x B).mem_iff.2 (List.mem_append_left _ hk))
theorem DiskIs.x_ne {A B : List Fl} {x : Fl} (h : DiskIs w S q mb fv (A ++ x :: B) d) : ∀ k ∈ x.blocks, k ≠ q := fun k hk he => by
  have hp := (blocks_perm q mb fv A x B).nodup_iff.1 h.apart
  exact not_mem_of_nodup_append hp hk (by rw [he]; simp [diskBlocks])
theorem OpIs.same (h : DiskIs w S q mb fv L d) (n : Int) : OpIs w S q (n, d) (.returned (.int .i64 n)) w :=
  ⟨rfl, ⟨mb, fv, L, h.wider (fun k hk => .inl hk) (fun k hk => by
    rcases hk with hk | hk
    · exact h.low k hk
    · omega)⟩, Only.refl _ _⟩
theorem turn_list {A B : List Fl} {x x' : Fl} {d : Dk} {s : List UInt8} (t : F0 → F0) (hf : (A ++ x :: B).map (·.f) = d.files) (hs : (d.files.map (·.name)).Pairwise (· < ·)) (hx : x.f.name = s) (ht : x'.f = t x.f) :
    (d.turn s t).files = A.map (·.f) ++ x'.f :: B.map (·.f) := by
  have hnd : (d.files.map (·.name)).Nodup := hs.imp (fun {a b} hab he => by rw [he] at hab; exact List.lt_irrefl _ hab)
  rw [← hf, List.map_append, List.map_cons, List.map_append, List.map_cons] at hnd
  have h2 := List.nodup_append.1 hnd
  have hA : ∀ y ∈ A, y.f.name ≠ s := fun y hy he => h2.2.2 y.f.name (List.mem_map_of_mem (List.mem_map_of_mem hy)) x.f.name (by simp) (by rw [he, hx])
  have hB : ∀ y ∈ B, y.f.name ≠ s := fun y hy he => (List.nodup_cons.1 h2.2.1).1 (by rw [hx, ← he]; exact List.mem_map_of_mem (List.mem_map_of_mem hy))
  show d.files.map _ = _
  rw [← hf, List.map_append, List.map_cons, List.map_append, List.map_cons, List.map_map, List.map_map, if_pos hx, ht]
  congr 1
  · exact List.map_congr_left fun y hy => by simp [hA y hy]
  · congr 1
    exact List.map_congr_left fun y hy => by simp [hB y hy]
end
theorem file_done {w w2 W : World} {S : Nat → Prop} {q mb : Nat} {fv' : Value} {A B : List Fl} {x x' : Fl} {d1 : Dk} (ho : Only (fun k => k = q) w w2) (h2 : DiskIs w2 S q mb fv' (A ++ x :: B) d1) (hw : Only (fun k => k ∈ x.blocks) w2 W)
    (hb : x'.blk = x.blk) (hn : x'.f.name = x.f.name) (hx : FlAt W x') (hv : ∀ k, x'.bv.ownBlock = some k → x.bv.ownBlock = some k ∨ (w2.heap.size ≤ k ∧ k < W.heap.size)) {s : List UInt8} {t : F0 → F0} (hs : x.f.name = s) (ht : x'.f = t x.f) (n : Int) :
    OpIs w S q (n, d1.turn s t) (.returned (.int .i64 n)) W := by
  have h3 := h2.file_turn hb hn hw hx hv
  have e : ({ d1 with files := A.map (·.f) ++ x'.f :: B.map (·.f) } : Dk) = d1.turn s t := by
    rw [← turn_list t h2.files h2.sorted hs ht]
    rfl
  rw [e] at h3
  refine ⟨rfl, ⟨mb, fv', _, h3.wider (fun k hk => ?_) (fun k hk => ?_)⟩, ?_⟩
  · rcases hk with hk | hk
    · exact .inl hk
    · exact .inr ⟨Nat.le_trans ho.size hk.1, hk.2⟩
  · rcases hk with hk | hk
    · exact Nat.lt_of_lt_of_le (h2.low k hk) hw.size
    · exact hk.2
  · exact (ho.mono (fun i _ hi => by rw [hi]; exact h2.q_mem)).trans hw (fun i _ hi => h2.x_mem i hi)
theorem FlAt.own_ne {w : World} {S : Nat → Prop} {q mb : Nat} {fv : Value} {A B : List Fl} {x : Fl} {d : Dk} (h : DiskIs w S q mb fv (A ++ x :: B) d) : ∀ k, x.bv.ownBlock = some k → k ≠ x.blk := fun k hk he => by
  have hp := (List.nodup_append.1 ((blocks_perm q mb fv A x B).nodup_iff.1 h.apart)).1
  simp only [Fl.blocks, hk, Option.toList_some, List.nodup_cons, List.mem_singleton] at hp
  exact hp.1 he.symm
/-- a file's lasting part is set -/
theorem set_lasts {w w2 : World} {S : Nat → Prop} {q mb : Nat} {fv' : Value} {A B : List Fl} {x : Fl} {d1 : Dk} (ho : Only (fun k => k = q) w w2) (h2 : DiskIs w2 S q mb fv' (A ++ x :: B) d1) {l' : Nat} (hl : l' ≤ x.f.bytes.length) {v : Int} (hv : v = (l' : Int))
    {s : List UInt8} {t : F0 → F0} (hs : x.f.name = s) (ht : t x.f = { x.f with lasts := l' }) (n : Int) :
    OpIs w S q (n, d1.turn s t) (.returned (.int .i64 n)) ((w2.setCell ⟨x.blk, 1, none⟩ (.int .i64 v)).drew) := by
  subst hv
  have hx := h2.each x (by simp)
  have hset : Only (fun k => k = x.blk) w2 (w2.setCell ⟨x.blk, 1, none⟩ (.int .i64 l')).drew := only_drew (only_setCell (fun k => k = x.blk) w2 x.blk 1 _ rfl)
  refine file_done (x' := ⟨{ x.f with lasts := l' }, x.blk, x.bv⟩) ho h2 (hset.mono (fun i _ hi => by rw [hi]; simp [Fl.blocks])) rfl rfl ⟨?_, ?_, hl, hx.size⟩ (fun k hk => .inl hk) hs ht.symm n
  · exact heap_setCell_here (w := w2) _ hx.cells
  · exact hx.row.kept (fun k hk => hset.block k (hx.row.lt k hk) (FlAt.own_ne h2 k hk))
set_option maxRecDepth 100000 in
set_option maxHeartbeats 1000000 in
theorem sync_b {w : World} {S : Nat → Prop} {q : Nat} {d : Dk} (h : DiskAt w S q d) (nm : ByteArray) (hs : nm.size ≤ maxLen) :
    Calls Try.prog 47 #[.pointer (some ⟨q, 0, none⟩), .string nm] w fun e w' => OpIs w S q (d.sync nm.data.toList) e w' := by
  obtain ⟨mb, fv, L, h⟩ := h
  go_enter Try.func47, Try.ntmps47
  go_wp2_with fail
  refine (find_b h nm hs).mono ?_
  rintro e w' ⟨hF, rfl⟩
  rcases hF with ⟨hn, rfl⟩ | ⟨hn, hf, rfl⟩ | ⟨hn, A, x, B, rfl, hxn, hxt, hf, rfl⟩
  · have HO : Hid (OpIs w' S q (d.sync nm.data.toList) (.returned (.int .i64 2)) w') := Lib.hid (by
      rw [show d.sync nm.data.toList = (2, d) by simp [Dk.sync, hn]]
      exact OpIs.same h 2)
    clear h hn
    go_wp2_with fail
    go_ret
    exact HO.out
  · have HO : Hid (OpIs w' S q (d.sync nm.data.toList) (.returned (.int .i64 171)) w') := Lib.hid (by
      rw [show d.sync nm.data.toList = (171, d) by simp [Dk.sync, hn, hf]]
      exact OpIs.same h 171)
    clear h hn hf
    go_wp2_with fail
    go_ret
    exact HO.out
  · have H := Lib.hid h
    have HN := Lib.hid (And.intro hn hf)
    clear h hn hf
    go_wp2_with fail
    refine (step_b H.out).mono ?_
    rintro e w1 ⟨kd, kp, fv', rfl, hkp, h1, ho1⟩
    obtain ⟨er, her⟩ : ∃ er, d.fate.1 = er := ⟨_, rfl⟩
    rw [her]
    have H1 := Lib.hid h1
    have HO1 := Lib.hid ho1
    have HE := Lib.hid (And.intro hkp her)
    clear h1 ho1 hkp her
    go_upto_region 5 with fail
    obtain ⟨w2, hw2⟩ : ∃ w2 : World, w2 = w1.alloc (.cells #[.int .i64 kd, .int .i64 kp] 99) := ⟨_, rfl⟩
    obtain ⟨r, hr⟩ : ∃ r, r = w1.heap.size := ⟨_, rfl⟩
    have hr2 : w2.heap[r]? = some (.cells #[.int .i64 kd, .int .i64 kp] 99 (0, 0)) := by rw [hw2, hr]; exact alloc_cells _ _ _
    have h2 : DiskIs w2 S q mb fv' (A ++ x :: B) d.next := by rw [hw2]; exact H1.out.below ((Below.refl _ _).alloc (Nat.le_refl _) _)
    have ho2 : Only (fun k => k = q) w' w2 := by rw [hw2]; exact HO1.out.trans (only_alloc (fun k => k = q) _ _) (fun _ _ h => h)
    rw [← hw2, ← hr]
    clear hw2 hr H1 HO1
    have hx := h2.each x (by simp)
    obtain ⟨oa, c, hbv, hnc⟩ := hx.row.shape
    have hxc := hx.cells
    obtain ⟨n, hn⟩ : ∃ n, x.f.bytes.length = n := ⟨_, rfl⟩
    obtain ⟨l, hl⟩ : ∃ l, x.f.lasts = l := ⟨_, rfl⟩
    have hln : l ≤ n ∧ n ≤ 16777216 := by
      have h3 := hx.lasts
      have h4 := hx.size
      omega
    rw [hbv, hn, hl] at hxc
    have k0 : w2.drew.cell? ⟨x.blk, 0, none⟩ = some (.slice oa n c) := cell_of (w := w2) hxc rfl
    have k1 : w2.drew.cell? ⟨x.blk, 1, none⟩ = some (.int .i64 l) := cell_of (w := w2) hxc rfl
    have z1 : w2.drew.frozen? ⟨x.blk, 1, none⟩ = false := free_of (w := w2) hxc _
    have y1 : w2.drew.cell? ⟨r, 1, none⟩ = some (.int .i64 kp) := cell_of (w := w2) hr2 rfl
    obtain ⟨m, hm⟩ : ∃ m, m = n - l := ⟨_, rfl⟩
    have hsub : wrap64 ((n : Int) - (l : Int)) = (m : Int) := by unfold wrap64; omega
    have H2 := Lib.hid h2
    have HO2 := Lib.hid ho2
    have HX := Lib.hid hxc
    have HBV := Lib.hid (And.intro hbv (And.intro hn hl))
    have HXR := Lib.hid hx
    have HM := Lib.hid hm
    clear h2 ho2 hxc hbv hx hm hn hl hr2
    go_region
    by_cases h0 : er = 0
    · subst h0
      have HO : Hid (∀ v : Int, v = (n : Int) → OpIs w' S q (d.sync nm.data.toList) (.returned (.int .i64 0)) (w2.setCell ⟨x.blk, 1, none⟩ (.int .i64 v)).drew) := Lib.hid (fun v hv => by
        have := set_lasts HO2.out H2.out (l' := n) (by rw [HBV.out.2.1]; exact Nat.le_refl _) hv (s := nm.data.toList) (t := fun f => { f with lasts := f.bytes.length }) hxn (by rw [HBV.out.2.1]) 0
        simpa [Dk.sync, HN.out.1, HN.out.2, HE.out.2] using this)
      clear hsub
      go_wp2_with fail
      go_ret
      exact HO.out _ (by omega)
    · have hb0 : (er != 0) = true := by simpa using h0
      have HO : Hid (∀ v : Int, v = ((l + min (n - l) d.fate.2 : Nat) : Int) → OpIs w' S q (d.sync nm.data.toList) (.returned (.int .i64 er)) (w2.setCell ⟨x.blk, 1, none⟩ (.int .i64 v)).drew) := Lib.hid (fun v hv => by
        have := set_lasts HO2.out H2.out (l' := l + min (n - l) d.fate.2) (by rw [HBV.out.2.1]; omega) hv (s := nm.data.toList) (t := fun f => { f with lasts := f.lasts + min (f.bytes.length - f.lasts) d.fate.2 }) hxn (by simp only [HBV.out.2.1, HBV.out.2.2]) er
        simpa [Dk.sync, HN.out.1, HN.out.2, HE.out.2, h0] using this)
      have HK := Lib.hid HE.out.1
      clear hsub h0
      go_wp2_with fail
      all_goals (go_ret; refine HO.out _ ?_; have := HK.out; omega)
end Go.Proofs.Ytmkjejngnahpeaa
