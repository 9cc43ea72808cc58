/- The texts Mb, Mc, Du, Dv, Dw, Md, Me, Mf, Mg in one. -/
import Derived.Test.YtlgcoaeddeiegaaGreatV1
import Derived.Deep.CutRange
import Derived.Deep.RegionWith
import Derived.Deep.RegionHeldLaw
/- crc: the table of fours, bytes that go in, the sum of one text. -/
namespace Go.Proofs.YtlgcoaeddeiegaaGreat
open Go Go.RowKit
attribute [local go_sem] Oper.semAt_some

def crcIt : Nat → Int → Int
  | 0, x => x
  | j + 1, x => crcBit (crcIt j x)
def crcTab (i : Nat) : List Value := (List.range 16).map fun k => if k < i then .int .u32 (crcFour k) else .int .u32 0
theorem crcTab_set {i : Nat} : (crcTab i).toArray.setIfInBounds i (.int .u32 (crcFour i)) = (crcTab (i + 1)).toArray := by
  have e : (crcTab i).set i (.int .u32 (crcFour i)) = crcTab (i + 1) := by
    apply List.ext_getElem
    · simp [crcTab]
    · intro k h1 h2
      rw [List.getElem_set]
      have hk : k < 16 := by simpa [crcTab] using h2
      simp only [crcTab, List.getElem_map, List.getElem_range]
      by_cases he : i = k
      · subst he
        simp
      · rw [if_neg he]
        by_cases hl : k < i
        · rw [if_pos hl, if_pos (by omega)]
        · rw [if_neg hl, if_neg (by omega)]
  rw [← e]
  simp
set_option maxRecDepth 100000 in
set_option maxHeartbeats 1000000 in
theorem crcFours_b {w : World} :
    Calls Tryz.prog 227 #[] w fun e w' => e = .returned (.agg (crcTab 16).toArray) ∧ Below w.heap.size w w' := by
  obtain ⟨w1, hw1⟩ : ∃ W : World, W = (w.alloc (.cells (crcTab 0).toArray 351)).alloc (.cells (crcTab 0).toArray 351) := ⟨_, rfl⟩
  obtain ⟨b0, hb0⟩ : ∃ b, b = w.heap.size := ⟨_, rfl⟩
  obtain ⟨b1, hb1⟩ : ∃ b, b = w.heap.size + 1 := ⟨_, rfl⟩
  have h0 : w1.heap[b0]? = some (.cells (crcTab 0).toArray 351 (0, 0)) := by rw [hw1, hb0]; exact (Below.heap_alloc _ _ _ (by simp)).trans (alloc_cells _ _ _)
  have h1 : w1.heap[b1]? = some (.cells (crcTab 0).toArray 351 (0, 0)) := by
    rw [hw1, hb1]
    have := alloc_cells (w.alloc (.cells (crcTab 0).toArray 351)) (crcTab 0).toArray 351
    rwa [World.size_alloc] at this
  have hb : Below w.heap.size w w1 := by rw [hw1]; exact ((Below.refl _ _).alloc (Nat.le_refl _) _).alloc (by simp) _
  have H1 := Lib.hid (And.intro h0 (And.intro h1 (And.intro hb (And.intro hb0 hb1))))
  clear h0 h1 hb
  go_enter Tryz.func227, Tryz.ntmps227
  go_upto_region 2 with fail
  have e0 : ∀ W : World, W.alloc (.cells #[.int .u32 0, .int .u32 0, .int .u32 0, .int .u32 0, .int .u32 0, .int .u32 0, .int .u32 0, .int .u32 0, .int .u32 0, .int .u32 0, .int .u32 0, .int .u32 0, .int .u32 0, .int .u32 0, .int .u32 0, .int .u32 0] 351) = W.alloc (.cells (crcTab 0).toArray 351) := fun W => rfl
  rw [e0, e0, ← hw1, ← hb1, ← hb0]
  clear hw1 hb1 hb0 e0
  go_wp2_with fail
  go_loopw [4] (fun i wr => ∃ k : Nat, i = .int .i64 (k : Int) ∧ k ≤ 16 ∧ Hid (wr.heap[b0]? = some (.cells (crcTab 0).toArray 351 (0, 0)) ∧ wr.heap[b1]? = some (.cells (crcTab k).toArray 351 (0, 0)) ∧ Below w.heap.size w wr)) (fun i _ => 16 - (intOf i).toNat)
  case atStart => exact ⟨0, rfl, by omega, Lib.hid ⟨H1.out.1, H1.out.2.1, H1.out.2.2.1⟩⟩
  case round =>
    obtain ⟨k, rfl, hk, HR⟩ := hrel
    by_cases hlt : k < 16
    · go_wp2_with fail
      go_loopw [3, 9] (fun x j wi => ∃ m : Nat, x = .int .u32 (crcIt m (k : Int)) ∧ j = .int .i64 (m : Int) ∧ m ≤ 4 ∧ wi = wr) (fun _ j _ => 4 - (intOf j).toNat)
      case atStart => exact ⟨0, rfl, rfl, by omega, rfl⟩
      case round =>
        obtain ⟨m, rfl, rfl, hm, rfl⟩ := hrel
        by_cases hlt4 : m < 4
        · obtain ⟨x, hx⟩ : ∃ x, crcIt m (k : Int) = x := ⟨_, rfl⟩
          have HX : Hid (crcIt (m + 1) (k : Int) = bits .xor .u32 (x / 2) (bits .and .u32 2197175160 (-bits .and .u32 x 1 % 4294967296))) := Lib.hid (by rw [← hx]; rfl)
          rw [hx]
          clear hx
          go_wp2_with fail
          exact ⟨⟨m + 1, by rw [HX.out], by simp, by omega, trivial⟩, by simp [intOf]; omega⟩
        · obtain rfl : m = 4 := by omega
          have hb1 := HR.out.2.1
          have z1 : ∀ j, wr.frozen? ⟨b1, j, none⟩ = false := fun j => free_of hb1 _
          have hcf : crcIt 4 (k : Int) = crcFour k := rfl
          have hy : wr.cell? ⟨b1, k, none⟩ = some (.int .u32 0) := cell_of hb1 (by simp [crcTab, hlt])
          clear hb1
          rw [hcf]
          clear hcf
          go_wp2_with fail
          refine ⟨⟨k + 1, by simp, by omega, Lib.hid ⟨?_, ?_, ?_⟩⟩, by simp [intOf]; omega⟩
          · exact (Below.heap_setCell _ _ _ _ (by show b0 ≠ b1; have := H1.out; omega)).trans HR.out.1
          · rw [heap_setCell_here _ HR.out.2.1, crcTab_set]
          · exact HR.out.2.2.setCell (p := ⟨b1, k, none⟩) (by show w.heap.size ≤ b1; have := H1.out; omega) _
    · obtain rfl : k = 16 := by omega
      have hb0 := HR.out.1
      have hb1 := HR.out.2.1
      have c0 : wr.cell? ⟨b1, 0, none⟩ = some (.int .u32 (crcFour 0)) := cell_of hb1 rfl
      have z0 : wr.frozen? ⟨b0, 0, none⟩ = false := free_of hb0 _
      have y0 : wr.cell? ⟨b0, 0, none⟩ = some (.int .u32 0) := cell_of hb0 rfl
      have c1 : wr.cell? ⟨b1, 1, none⟩ = some (.int .u32 (crcFour 1)) := cell_of hb1 rfl
      have z1 : wr.frozen? ⟨b0, 1, none⟩ = false := free_of hb0 _
      have y1 : wr.cell? ⟨b0, 1, none⟩ = some (.int .u32 0) := cell_of hb0 rfl
      have c2 : wr.cell? ⟨b1, 2, none⟩ = some (.int .u32 (crcFour 2)) := cell_of hb1 rfl
      have z2 : wr.frozen? ⟨b0, 2, none⟩ = false := free_of hb0 _
      have y2 : wr.cell? ⟨b0, 2, none⟩ = some (.int .u32 0) := cell_of hb0 rfl
      have c3 : wr.cell? ⟨b1, 3, none⟩ = some (.int .u32 (crcFour 3)) := cell_of hb1 rfl
      have z3 : wr.frozen? ⟨b0, 3, none⟩ = false := free_of hb0 _
      have y3 : wr.cell? ⟨b0, 3, none⟩ = some (.int .u32 0) := cell_of hb0 rfl
      have c4 : wr.cell? ⟨b1, 4, none⟩ = some (.int .u32 (crcFour 4)) := cell_of hb1 rfl
      have z4 : wr.frozen? ⟨b0, 4, none⟩ = false := free_of hb0 _
      have y4 : wr.cell? ⟨b0, 4, none⟩ = some (.int .u32 0) := cell_of hb0 rfl
      have c5 : wr.cell? ⟨b1, 5, none⟩ = some (.int .u32 (crcFour 5)) := cell_of hb1 rfl
      have z5 : wr.frozen? ⟨b0, 5, none⟩ = false := free_of hb0 _
      have y5 : wr.cell? ⟨b0, 5, none⟩ = some (.int .u32 0) := cell_of hb0 rfl
      have c6 : wr.cell? ⟨b1, 6, none⟩ = some (.int .u32 (crcFour 6)) := cell_of hb1 rfl
      have z6 : wr.frozen? ⟨b0, 6, none⟩ = false := free_of hb0 _
      have y6 : wr.cell? ⟨b0, 6, none⟩ = some (.int .u32 0) := cell_of hb0 rfl
      have c7 : wr.cell? ⟨b1, 7, none⟩ = some (.int .u32 (crcFour 7)) := cell_of hb1 rfl
      have z7 : wr.frozen? ⟨b0, 7, none⟩ = false := free_of hb0 _
      have y7 : wr.cell? ⟨b0, 7, none⟩ = some (.int .u32 0) := cell_of hb0 rfl
      have c8 : wr.cell? ⟨b1, 8, none⟩ = some (.int .u32 (crcFour 8)) := cell_of hb1 rfl
      have z8 : wr.frozen? ⟨b0, 8, none⟩ = false := free_of hb0 _
      have y8 : wr.cell? ⟨b0, 8, none⟩ = some (.int .u32 0) := cell_of hb0 rfl
      have c9 : wr.cell? ⟨b1, 9, none⟩ = some (.int .u32 (crcFour 9)) := cell_of hb1 rfl
      have z9 : wr.frozen? ⟨b0, 9, none⟩ = false := free_of hb0 _
      have y9 : wr.cell? ⟨b0, 9, none⟩ = some (.int .u32 0) := cell_of hb0 rfl
      have c10 : wr.cell? ⟨b1, 10, none⟩ = some (.int .u32 (crcFour 10)) := cell_of hb1 rfl
      have z10 : wr.frozen? ⟨b0, 10, none⟩ = false := free_of hb0 _
      have y10 : wr.cell? ⟨b0, 10, none⟩ = some (.int .u32 0) := cell_of hb0 rfl
      have c11 : wr.cell? ⟨b1, 11, none⟩ = some (.int .u32 (crcFour 11)) := cell_of hb1 rfl
      have z11 : wr.frozen? ⟨b0, 11, none⟩ = false := free_of hb0 _
      have y11 : wr.cell? ⟨b0, 11, none⟩ = some (.int .u32 0) := cell_of hb0 rfl
      have c12 : wr.cell? ⟨b1, 12, none⟩ = some (.int .u32 (crcFour 12)) := cell_of hb1 rfl
      have z12 : wr.frozen? ⟨b0, 12, none⟩ = false := free_of hb0 _
      have y12 : wr.cell? ⟨b0, 12, none⟩ = some (.int .u32 0) := cell_of hb0 rfl
      have c13 : wr.cell? ⟨b1, 13, none⟩ = some (.int .u32 (crcFour 13)) := cell_of hb1 rfl
      have z13 : wr.frozen? ⟨b0, 13, none⟩ = false := free_of hb0 _
      have y13 : wr.cell? ⟨b0, 13, none⟩ = some (.int .u32 0) := cell_of hb0 rfl
      have c14 : wr.cell? ⟨b1, 14, none⟩ = some (.int .u32 (crcFour 14)) := cell_of hb1 rfl
      have z14 : wr.frozen? ⟨b0, 14, none⟩ = false := free_of hb0 _
      have y14 : wr.cell? ⟨b0, 14, none⟩ = some (.int .u32 0) := cell_of hb0 rfl
      have c15 : wr.cell? ⟨b1, 15, none⟩ = some (.int .u32 (crcFour 15)) := cell_of hb1 rfl
      have z15 : wr.frozen? ⟨b0, 15, none⟩ = false := free_of hb0 _
      have y15 : wr.cell? ⟨b0, 15, none⟩ = some (.int .u32 0) := cell_of hb0 rfl
      clear hb0 hb1
      go_wp2_with fail
      have f0 := heap_setCell_here (i := 0) (.int .u32 (crcFour 0)) HR.out.1
      have f1 := heap_setCell_here (i := 1) (.int .u32 (crcFour 1)) f0
      have f2 := heap_setCell_here (i := 2) (.int .u32 (crcFour 2)) f1
      have f3 := heap_setCell_here (i := 3) (.int .u32 (crcFour 3)) f2
      have f4 := heap_setCell_here (i := 4) (.int .u32 (crcFour 4)) f3
      have f5 := heap_setCell_here (i := 5) (.int .u32 (crcFour 5)) f4
      have f6 := heap_setCell_here (i := 6) (.int .u32 (crcFour 6)) f5
      have f7 := heap_setCell_here (i := 7) (.int .u32 (crcFour 7)) f6
      have f8 := heap_setCell_here (i := 8) (.int .u32 (crcFour 8)) f7
      have f9 := heap_setCell_here (i := 9) (.int .u32 (crcFour 9)) f8
      have f10 := heap_setCell_here (i := 10) (.int .u32 (crcFour 10)) f9
      have f11 := heap_setCell_here (i := 11) (.int .u32 (crcFour 11)) f10
      have f12 := heap_setCell_here (i := 12) (.int .u32 (crcFour 12)) f11
      have f13 := heap_setCell_here (i := 13) (.int .u32 (crcFour 13)) f12
      have f14 := heap_setCell_here (i := 14) (.int .u32 (crcFour 14)) f13
      have f15 := heap_setCell_here (i := 15) (.int .u32 (crcFour 15)) f14
      have hfin := f15.trans (congrArg (fun c => some (Obj.cells c 351 (0, 0))) (show _ = (crcTab 16).toArray by kernel_rfl))
      have hb0 : w.heap.size ≤ b0 := by have := H1.out; omega
      clear f0 f1 f2 f3 f4 f5 f6 f7 f8 f9 f10 f11 f12 f13 f14 f15
      have d0 := cell_of (i := 0) (v := .int .u32 (crcFour 0)) hfin rfl
      have d1 := cell_of (i := 1) (v := .int .u32 (crcFour 1)) hfin rfl
      have d2 := cell_of (i := 2) (v := .int .u32 (crcFour 2)) hfin rfl
      have d3 := cell_of (i := 3) (v := .int .u32 (crcFour 3)) hfin rfl
      have d4 := cell_of (i := 4) (v := .int .u32 (crcFour 4)) hfin rfl
      have d5 := cell_of (i := 5) (v := .int .u32 (crcFour 5)) hfin rfl
      have d6 := cell_of (i := 6) (v := .int .u32 (crcFour 6)) hfin rfl
      have d7 := cell_of (i := 7) (v := .int .u32 (crcFour 7)) hfin rfl
      have d8 := cell_of (i := 8) (v := .int .u32 (crcFour 8)) hfin rfl
      have d9 := cell_of (i := 9) (v := .int .u32 (crcFour 9)) hfin rfl
      have d10 := cell_of (i := 10) (v := .int .u32 (crcFour 10)) hfin rfl
      have d11 := cell_of (i := 11) (v := .int .u32 (crcFour 11)) hfin rfl
      have d12 := cell_of (i := 12) (v := .int .u32 (crcFour 12)) hfin rfl
      have d13 := cell_of (i := 13) (v := .int .u32 (crcFour 13)) hfin rfl
      have d14 := cell_of (i := 14) (v := .int .u32 (crcFour 14)) hfin rfl
      have d15 := cell_of (i := 15) (v := .int .u32 (crcFour 15)) hfin rfl
      refine ⟨rfl, .agg (crcTab 16).toArray, ?_, rfl, ((((((((((((((((((((((((((((((((HR.out.2.2).setCell (p := ⟨b0, 0, none⟩) hb0 _)).setCell (p := ⟨b0, 1, none⟩) hb0 _)).setCell (p := ⟨b0, 2, none⟩) hb0 _)).setCell (p := ⟨b0, 3, none⟩) hb0 _)).setCell (p := ⟨b0, 4, none⟩) hb0 _)).setCell (p := ⟨b0, 5, none⟩) hb0 _)).setCell (p := ⟨b0, 6, none⟩) hb0 _)).setCell (p := ⟨b0, 7, none⟩) hb0 _)).setCell (p := ⟨b0, 8, none⟩) hb0 _)).setCell (p := ⟨b0, 9, none⟩) hb0 _)).setCell (p := ⟨b0, 10, none⟩) hb0 _)).setCell (p := ⟨b0, 11, none⟩) hb0 _)).setCell (p := ⟨b0, 12, none⟩) hb0 _)).setCell (p := ⟨b0, 13, none⟩) hb0 _)).setCell (p := ⟨b0, 14, none⟩) hb0 _)).setCell (p := ⟨b0, 15, none⟩) hb0 _)⟩
      have he : (.agg (crcTab 16).toArray : Value) = .agg #[.int .u32 (crcFour 0), .int .u32 (crcFour 1), .int .u32 (crcFour 2), .int .u32 (crcFour 3), .int .u32 (crcFour 4), .int .u32 (crcFour 5), .int .u32 (crcFour 6), .int .u32 (crcFour 7), .int .u32 (crcFour 8), .int .u32 (crcFour 9), .int .u32 (crcFour 10), .int .u32 (crcFour 11), .int .u32 (crcFour 12), .int .u32 (crcFour 13), .int .u32 (crcFour 14), .int .u32 (crcFour 15)] := by rfl
      rw [he]
      clear he hfin c0 z0 y0 c1 z1 y1 c2 z2 y2 c3 z3 y3 c4 z4 y4 c5 z5 y5 c6 z6 y6 c7 z7 y7 c8 z8 y8 c9 z9 y9 c10 z10 y10 c11 z11 y11 c12 z12 y12 c13 z13 y13 c14 z14 y14 c15 z15 y15
      simp [results, Tryz.results227, go_sem, d0, d1, d2, d3, d4, d5, d6, d7, d8, d9, d10, d11, d12, d13, d14, d15]
end Go.Proofs.YtlgcoaeddeiegaaGreat
/- crc: bytes that go into a sum; the sum of one text. -/
namespace Go.Proofs.YtlgcoaeddeiegaaGreat
open Go Go.RowKit
attribute [local go_sem] Oper.semAt_some

theorem rdCell {w : World} {size n c g off : Nat} {xs : List Value} (h : readAt w size (.slice (some ⟨g, off, none⟩) n c) n xs) {i : Nat} {u : Value} (hu : xs[i]? = some u) : w.cell? ⟨g, off + i, none⟩ = some u := by
  have := h.cells (g := g) (off := off) rfl i u hu
  simpa [Go.WideShapes.add_plain] using this
theorem readAt.sub {w : World} {size : Nat} {oa : Option Addr} {n cap : Nat} {xs : List Value} (h : readAt w size (.slice oa n cap) n xs) (l k m : Nat) (hl : l ≤ k) (hk : k ≤ n) (hkm : k ≤ m) (hm : m ≤ cap) :
    readAt w size (.slice (if m = l then oa else oa.map (·.add (l * size))) (k - l) (m - l)) (k - l) ((xs.drop (l * size)).take ((k - l) * size)) := by
  have hlen : ((xs.drop (l * size)).take ((k - l) * size)).length = (k - l) * size := by
    rw [List.length_take, List.length_drop, h.1]
    have h1 : k * size ≤ n * size := Nat.mul_le_mul_right _ hk
    have h2 : (k - l) * size = k * size - l * size := Nat.sub_mul _ _ _
    omega
  refine ⟨hlen, ?_⟩
  by_cases h0 : k - l = 0
  · refine .inl ⟨h0, _, _, by rw [h0], fun he => ?_⟩
    split at he
    · omega
    · cases oa with
      | none =>
        rcases h.2 with ⟨rfl, oa, c, hv, hc⟩ | ⟨g, off, c, hv, _⟩
        · simp only [Value.slice.injEq] at hv
          have := hc hv.1.symm
          omega
        · cases hv
      | some a => simp at he
  · rcases h.2 with ⟨h1, _⟩ | ⟨g, off, c, hv, hn0, hg, hn, hc⟩
    · omega
    · simp only [Value.slice.injEq] at hv
      obtain ⟨rfl, -, rfl⟩ := hv
      have hml : ¬ m = l := by omega
      rw [if_neg hml]
      refine .inr ⟨g, off + l * size, m - l, by simp [Go.WideShapes.add_plain], by omega, hg, by omega, fun j u hu => ?_⟩
      rw [List.getElem?_take] at hu
      split at hu
      · rw [List.getElem?_drop] at hu
        have := hc (l * size + j) u hu
        rwa [← Nat.add_assoc] at this
      · cases hu
theorem crcAgg : (.agg (crcTab 16).toArray : Value) = .agg #[.int .u32 (crcFour 0), .int .u32 (crcFour 1), .int .u32 (crcFour 2), .int .u32 (crcFour 3), .int .u32 (crcFour 4), .int .u32 (crcFour 5), .int .u32 (crcFour 6), .int .u32 (crcFour 7), .int .u32 (crcFour 8), .int .u32 (crcFour 9), .int .u32 (crcFour 10), .int .u32 (crcFour 11), .int .u32 (crcFour 12), .int .u32 (crcFour 13), .int .u32 (crcFour 14), .int .u32 (crcFour 15)] := by rfl
theorem crcTab_get {n : Nat} (h : n < 16) : (crcTab 16).toArray[n]? = some (.int .u32 (crcFour n)) := by
  simp [crcTab, h]
theorem crcInto_succ {l : List UInt8} {k : Nat} (h : k < l.length) (x : Int) : crcInto x (l.take (k + 1)) = crcByte (crcInto x (l.take k)) l[k] := by
  unfold crcInto
  rw [List.take_succ_eq_append_getElem h, List.foldl_append]
  rfl
set_option maxRecDepth 100000 in
set_option maxHeartbeats 1000000 in
theorem crcInto_b {w : World} {x : Int} {oa : Option Addr} {n c : Nat} {l : List UInt8} (hx : 0 ≤ x ∧ x < 4294967296) (hn : l.length = n) (hl : readAt w 1 (.slice oa n c) n (byteCells l)) (hm : n ≤ 1000000000) :
    Calls Tryz.prog 212 #[.int .u32 x, .slice oa n c] w fun e w' => e = .returned (.int .u32 (crcInto x l)) ∧ Below w.heap.size w w' := by
  have HF := Lib.hid (crcFours_b (w := w))
  rw [crcAgg] at HF
  have HX := Lib.hid hx
  have HN := Lib.hid hn
  have HL := Lib.hid hl
  clear hx hn hl
  go_enter Tryz.func212, Tryz.ntmps212
  go_wp2_with fail
  refine HF.out.mono ?_
  rintro e w1 ⟨rfl, hb1⟩
  obtain ⟨w2, hw2⟩ : ∃ W : World, W = w1.alloc (.cells (crcTab 16).toArray 351) := ⟨_, rfl⟩
  obtain ⟨b5, hb5⟩ : ∃ b, b = w1.heap.size := ⟨_, rfl⟩
  have h5 : w2.heap[b5]? = some (.cells (crcTab 16).toArray 351 (0, 0)) := by rw [hw2, hb5]; exact alloc_cells _ _ _
  have hb2 : Below w.heap.size w w2 := hb1.trans ((by rw [hw2]; exact (Below.refl _ _).alloc (Nat.le_refl _) _ : Below w1.heap.size w1 w2).mono hb1.size)
  have hc5 : ∀ j, j < 16 → w2.cell? ⟨b5, j, none⟩ = some (.int .u32 (crcFour j)) := fun j hj => cell_of h5 (crcTab_get hj)
  have ea : (crcTab 16).toArray = #[.int .u32 (crcFour 0), .int .u32 (crcFour 1), .int .u32 (crcFour 2), .int .u32 (crcFour 3), .int .u32 (crcFour 4), .int .u32 (crcFour 5), .int .u32 (crcFour 6), .int .u32 (crcFour 7), .int .u32 (crcFour 8), .int .u32 (crcFour 9), .int .u32 (crcFour 10), .int .u32 (crcFour 11), .int .u32 (crcFour 12), .int .u32 (crcFour 13), .int .u32 (crcFour 14), .int .u32 (crcFour 15)] := rfl
  rw [ea] at hw2
  have HR := Lib.hid (HL.out.kept (fun k hk _ _ => hb2.block k hk))
  have HC := Lib.hid (And.intro hc5 hb2)
  clear hb1 h5 hb2 hc5 ea HF HL
  go_wp2_with fail
  rw [← hw2, ← hb5]
  clear hw2 hb5
  go_loopw [0, 11] (fun s i wr => ∃ k : Nat, s = .int .u32 (crcInto x (l.take k)) ∧ i = .int .i64 (k : Int) ∧ k ≤ n ∧ wr = w2) (fun _ i _ => n - (intOf i).toNat)
  case atStart => exact ⟨0, rfl, rfl, by omega, rfl⟩
  case round =>
    obtain ⟨k, rfl, rfl, hk, rfl⟩ := hrel
    by_cases hlt : k < n
    · have hkl : k < l.length := by rw [HN.out]; exact hlt
      have hs := crcInto_succ hkl x
      obtain ⟨y, hy⟩ : ∃ y, crcInto x (l.take k) = y := ⟨_, rfl⟩
      obtain ⟨ch, hch⟩ : ∃ ch, l[k] = ch := ⟨_, rfl⟩
      rw [hy, hch] at hs
      rw [hy]
      obtain ⟨g, off, rfl⟩ := HR.out.addr (by omega)
      have kc : wr.cell? ⟨g, off + k, none⟩ = some (.int .u8 (ch.toNat : Int)) := rdCell HR.out (i := k) (by unfold byteCells; rw [List.getElem?_map, List.getElem?_eq_getElem hkl, hch]; rfl)
      obtain ⟨c8, hc8⟩ : ∃ z : Int, (ch.toNat : Int) = z := ⟨_, rfl⟩
      have hc8b : 0 ≤ c8 ∧ c8 < 256 := by have := ch.toNat_lt; omega
      rw [hc8] at kc
      obtain ⟨x1, hx1⟩ : ∃ z, bits .xor .u32 y c8 = z := ⟨_, rfl⟩
      have hb1 : 0 ≤ x1 ∧ x1 < 4294967296 := by rw [← hx1]; exact u32_bits _ _ _
      obtain ⟨n1, hn1⟩ : ∃ m : Nat, (x1 % 16).toNat = m := ⟨_, rfl⟩
      have hn1l : n1 < 16 := by omega
      have ha1 : bits .and .u32 x1 15 = (n1 : Int) := by rw [u32_and15]; omega
      obtain ⟨t1, ht1⟩ : ∃ z, crcFour n1 = z := ⟨_, rfl⟩
      have k1 := HC.out.1 n1 hn1l
      rw [ht1] at k1
      obtain ⟨x2, hx2⟩ : ∃ z, bits .xor .u32 t1 (x1 / 16) = z := ⟨_, rfl⟩
      have hb2 : 0 ≤ x2 ∧ x2 < 4294967296 := by rw [← hx2]; exact u32_bits _ _ _
      obtain ⟨n2, hn2⟩ : ∃ m : Nat, (x2 % 16).toNat = m := ⟨_, rfl⟩
      have hn2l : n2 < 16 := by omega
      have ha2 : bits .and .u32 x2 15 = (n2 : Int) := by rw [u32_and15]; omega
      obtain ⟨t2, ht2⟩ : ∃ z, crcFour n2 = z := ⟨_, rfl⟩
      have k2 := HC.out.1 n2 hn2l
      rw [ht2] at k2
      have HS : Hid (crcInto x (l.take (k + 1)) = bits .xor .u32 t2 (x2 / 16)) := Lib.hid (by
        rw [hs]
        unfold crcByte crcHalf
        rw [hc8, hx1, hn1, ht1, hx2, hn2, ht2])
      clear hs hy hch hc8 hkl hn1 ht1 hn2 ht2
      go_wp2_with fail
      exact ⟨⟨k + 1, by rw [HS.out], by simp, by omega, trivial⟩, by simp [intOf]; omega⟩
    · obtain rfl : k = n := by omega
      have HT : Hid (l.take k = l) := Lib.hid (List.take_of_length_le (by rw [HN.out]; exact Nat.le_refl _))
      rw [HT.out]
      go_wp2_with fail
      go_ret
      exact ⟨rfl, HC.out.2⟩
theorem crcSum_b {w : World} {ob : Nat} {oa : Option Addr} {n c : Nat} {l : List UInt8} (hs : w.cell? ⟨ob, 0, none⟩ = some (.slice oa n c)) (hn : l.length = n) (hl : readAt w 1 (.slice oa n c) n (byteCells l)) (hm : n ≤ 1000000000) :
    Calls Tryz.prog 188 #[.slice (some ⟨ob, 0, none⟩) 1 1] w fun e w' => e = .returned (.int .u32 (crcSum l)) ∧ Below w.heap.size w w' := by
  have HI := Lib.hid (crcInto_b (x := 4294967295) (by decide) hn hl hm)
  clear hn hl
  go_enter Tryz.func188, Tryz.ntmps188
  go_wp2_with fail
  go_loopw [3, 8] (fun s i wr => (s = .int .u32 4294967295 ∧ i = .int .i64 0 ∧ wr = w) ∨ (s = .int .u32 (crcInto 4294967295 l) ∧ i = .int .i64 1 ∧ Hid (Below w.heap.size w wr))) (fun _ i _ => 1 - (intOf i).toNat)
  case atStart => exact .inl ⟨rfl, rfl, rfl⟩
  case round =>
    rcases hrel with ⟨rfl, rfl, rfl⟩ | ⟨rfl, rfl, HB⟩
    · go_wp2_with fail
      refine HI.out.mono ?_
      rintro e w2 ⟨rfl, hb2⟩
      have HB := Lib.hid hb2
      clear hb2
      go_wp2_with fail
      exact ⟨.inr ⟨rfl, rfl, HB⟩, by simp [intOf]⟩
    · have HX := Lib.hid (crcInto_u32 l 4294967295 (by decide))
      have HS : Hid (crcSum l = bits .xor .u32 4294967295 (crcInto 4294967295 l)) := Lib.hid rfl
      obtain ⟨y, hy⟩ : ∃ y, crcInto 4294967295 l = y := ⟨_, rfl⟩
      rw [hy] at HS ⊢
      clear hy HI
      go_wp2_with fail
      go_ret
      exact ⟨by rw [HS.out]; rfl, HB.out⟩
end Go.Proofs.YtlgcoaeddeiegaaGreat
/- Disk: a name is asked for; a file is found. -/
namespace Go.Proofs.YtlgcoaeddeiegaaGreat
open Go Go.Maps Go.RowKit

section
variable {w : World} {S : Nat → Prop} {q mb : Nat} {fv : Value} {L : List Fl} {d : Dk}
theorem DiskIs.at_some (h : DiskIs w S q mb fv L d) {s : List UInt8} {f : F0} (ha : d.at s = some f) : ∃ A x B, L = A ++ x :: B ∧ x.f = f ∧ x.f.name = s := by
  have hm : f ∈ L.map (·.f) := by rw [h.files]; exact List.mem_of_find?_eq_some ha
  obtain ⟨x, hx, rfl⟩ := List.mem_map.1 hm
  obtain ⟨A, B, rfl⟩ := List.append_of_mem hx
  exact ⟨A, x, B, rfl, rfl, by have := List.find?_some ha; simpa using this⟩
theorem DiskIs.at_none (h : DiskIs w S q mb fv L d) {s : List UInt8} (ha : d.at s = none) : ∀ x ∈ L, x.f.name ≠ s := fun x hx he => by
  have hm : x.f ∈ d.files := by rw [← h.files]; exact List.mem_map_of_mem hx
  have := List.find?_eq_none.1 ha x.f hm
  simp [he] at this
theorem DiskIs.lookup_some (h : DiskIs w S q mb fv L d) {x : Fl} (hx : x ∈ L) {nm : ByteArray} (hs : nm.size ≤ maxLen) (hn : x.f.name = nm.data.toList) :
    (Instr.lookup 118 (.map (some mb)) (.string nm) true).run Tryz.prog w = .ok (.tuple #[.pointer (some ⟨x.blk, 0, none⟩), .bool true]) w := by
  obtain ⟨D, ho, hsz, hd⟩ := h.look
  have hz : (zeroValue 175).run Tryz.prog w = .ok (.pointer none) w := by kernel_rfl
  obtain ⟨v, ps, hrun, hv⟩ := ho.look_ok (t := 118) (string_keyed Tryz.underlying9) Tryz.underlying118 hz ptrElem_nil (WideMaps.keyOf_string_mk (P := Tryz.prog) Tryz.underlying9 hs)
  have hm : (x.f.name, x.blk) ∈ L.map fun x => (x.f.name, x.blk) := List.mem_map_of_mem (f := fun x => (x.f.name, x.blk)) hx
  have hg := hd.get _ hm .nil
  have hh := (hd.has nm.data.toList).2 ⟨_, hm, hn⟩
  rw [← hn] at hv hrun hh
  rw [hg] at hv
  obtain rfl := ptrElem_inv hv
  rw [hh] at hrun
  exact hrun
theorem DiskIs.lookup_none (h : DiskIs w S q mb fv L d) {nm : ByteArray} (hs : nm.size ≤ maxLen) (hn : ∀ x ∈ L, x.f.name ≠ nm.data.toList) :
    (Instr.lookup 118 (.map (some mb)) (.string nm) true).run Tryz.prog w = .ok (.tuple #[.pointer none, .bool false]) w := by
  obtain ⟨D, ho, hsz, hd⟩ := h.look
  have hz : (zeroValue 175).run Tryz.prog w = .ok (.pointer none) w := by kernel_rfl
  obtain ⟨v, ps, hrun, hv⟩ := ho.look_ok (t := 118) (string_keyed Tryz.underlying9) Tryz.underlying118 hz ptrElem_nil (WideMaps.keyOf_string_mk (P := Tryz.prog) Tryz.underlying9 hs)
  have hh : Maps.has D (.string nm.data.toList) = false := by
    cases hb : Maps.has D (.string nm.data.toList) with
    | false => rfl
    | true =>
      obtain ⟨f, hf, he⟩ := (hd.has _).1 hb
      obtain ⟨x, hx, rfl⟩ := List.mem_map.1 hf
      exact absurd he (hn x hx)
  rw [hh] at hrun
  rw [atKey_of_not_has hh] at hv
  obtain rfl := ptrElem_inv_nil hv
  exact hrun
end
theorem map_nil_ne (mb : Nat) (W : World) : (binOp .eql 118 (.map (some mb)) (.map none)).run Tryz.prog W = .ok (.bool false) W := by kernel_rfl
set_option maxHeartbeats 400000 in
theorem none_b {w : World} {S : Nat → Prop} {q mb : Nat} {fv : Value} {L : List Fl} {d : Dk} (h : DiskIs w S q mb fv L d) :
    Calls Tryz.prog 94 #[.pointer (some ⟨q, 0, none⟩)] w fun e w' => e = .returned (.bool false) ∧ w' = w := by
  have c0 : w.cell? ⟨q, 0, none⟩ = some (.map (some mb)) := cell_of h.head rfl
  have hm := map_nil_ne mb
  clear h
  go_enter Tryz.func94, Tryz.ntmps94
  go_wp2_with fail
  go_ret
  exact ⟨rfl, rfl⟩
def askE (s : List UInt8) : Int := if nameOk s = true then 0 else 2
set_option maxHeartbeats 400000 in
theorem asked_b {w : World} {S : Nat → Prop} {q mb : Nat} {fv : Value} {L : List Fl} {d : Dk} (h : DiskIs w S q mb fv L d) (nm : ByteArray) (hs : nm.size ≤ maxLen) :
    Calls Tryz.prog 153 #[.pointer (some ⟨q, 0, none⟩), .string nm] w fun e w' => e = .returned (.int .i64 (askE nm.data.toList)) ∧ w' = w := by
  go_enter Tryz.func153, Tryz.ntmps153
  go_wp2_with fail
  refine (none_b h).mono ?_
  rintro e w' ⟨rfl, rfl⟩
  go_wp2_with fail
  refine (named_any nm _ hs).mono ?_
  rintro e w' ⟨rfl, rfl⟩
  obtain ⟨b, hb⟩ : ∃ b, nameOk nm.data.toList = b := ⟨_, rfl⟩
  have HE : Hid (askE nm.data.toList = if b = true then 0 else 2) := Lib.hid (by rw [askE, hb])
  rw [hb]
  clear hb
  cases b
  · go_wp2_with fail
    go_ret
    exact ⟨by rw [HE.out]; rfl, rfl⟩
  · go_wp2_with fail
    go_ret
    exact ⟨by rw [HE.out]; rfl, rfl⟩
def FindIs (L : List Fl) (d : Dk) (s : List UInt8) (e : Ending) : Prop :=
  (nameOk s = false ∧ e = .returned (.tuple #[.pointer none, .int .i64 2])) ∨ (nameOk s = true ∧ d.find s = none ∧ e = .returned (.tuple #[.pointer none, .int .i64 171])) ∨
  (nameOk s = true ∧ ∃ A x B, L = A ++ x :: B ∧ x.f.name = s ∧ x.f.there = true ∧ d.find s = some x.f ∧ e = .returned (.tuple #[.pointer (some ⟨x.blk, 0, none⟩), .int .i64 0]))
set_option maxHeartbeats 400000 in
theorem find_b {w : World} {S : Nat → Prop} {q mb : Nat} {fv : Value} {L : List Fl} {d : Dk} (h : DiskIs w S q mb fv L d) (nm : ByteArray) (hs : nm.size ≤ maxLen) :
    Calls Tryz.prog 82 #[.pointer (some ⟨q, 0, none⟩), .string nm] w fun e w' => FindIs L d nm.data.toList e ∧ w' = w := by
  have c0 : w.cell? ⟨q, 0, none⟩ = some (.map (some mb)) := cell_of h.head rfl
  go_enter Tryz.func82, Tryz.ntmps82
  go_wp2_with fail
  refine (asked_b h nm hs).mono ?_
  rintro e w' ⟨rfl, rfl⟩
  obtain ⟨s, hss⟩ : ∃ s, nm.data.toList = s := ⟨_, rfl⟩
  cases hn : nameOk s with
  | false =>
    have hF : FindIs L d nm.data.toList (.returned (.tuple #[.pointer none, .int .i64 2])) := by rw [hss]; exact (.inl ⟨hn, rfl⟩)
    have HF := Lib.hid hF
    rw [hss, show askE s = 2 by simp [askE, hn]]
    clear h hF hn hss
    go_wp2_with fail
    go_ret2
    exact ⟨HF.out, rfl⟩
  | true =>
    rw [hss, show askE s = 0 by simp [askE, hn]]
    cases ha : d.at s with
    | none =>
      have hl := h.lookup_none hs (by rw [hss]; exact h.at_none ha)
      have hF : FindIs L d nm.data.toList (.returned (.tuple #[.pointer none, .int .i64 171])) := by rw [hss]; exact (.inr (.inl ⟨hn, by simp [Dk.find, ha], rfl⟩))
      have HF := Lib.hid hF
      clear h hF hn hss ha
      go_wp2_with fail
      go_ret2
      exact ⟨HF.out, rfl⟩
    | some f =>
      obtain ⟨A, x, B, hL, rfl, hxn⟩ := h.at_some ha
      have hl := h.lookup_some (x := x) (by rw [hL]; simp) hs (by rw [hss]; exact hxn)
      have c2 : w'.cell? ⟨x.blk, 2, none⟩ = some (.bool x.f.there) := cell_of (h.each x (by rw [hL]; simp)).cells rfl
      cases ht : x.f.there with
      | false =>
        have hF : FindIs L d nm.data.toList (.returned (.tuple #[.pointer none, .int .i64 171])) := by rw [hss]; exact (.inr (.inl ⟨hn, by simp [Dk.find, ha, ht], rfl⟩))
        have HF := Lib.hid hF
        rw [ht] at c2
        clear h hF hn hss ha hL hxn ht
        go_wp2_with fail
        go_ret2
        exact ⟨HF.out, rfl⟩
      | true =>
        have hF : FindIs L d nm.data.toList (.returned (.tuple #[.pointer (some ⟨x.blk, 0, none⟩), .int .i64 0])) := by rw [hss]; exact (.inr (.inr ⟨hn, A, x, B, hL, hxn, ht, by simp [Dk.find, ha, ht], rfl⟩))
        have HF := Lib.hid hF
        rw [ht] at c2
        clear h hF hn hss ha hL hxn ht
        go_wp2_with fail
        go_ret2
        exact ⟨HF.out, rfl⟩
end Go.Proofs.YtlgcoaeddeiegaaGreat
/- Disk: Sync. -/
namespace Go.Proofs.YtlgcoaeddeiegaaGreat
open Go Go.Maps Go.RowKit

def Wid (S : Nat → Prop) (w w' : World) : Nat → Prop := fun k => S k ∨ (w.heap.size ≤ k ∧ k < w'.heap.size)
def OpIs (w : World) (S : Nat → Prop) (q : Nat) (r : Int × Dk) (e : Ending) (w' : World) : Prop :=
  e = .returned (.int .i64 r.1) ∧ DiskAt w' (Wid S w w') q r.2 ∧ Only S w w'
section
variable {w : World} {S : Nat → Prop} {q mb : Nat} {fv : Value} {L : List Fl} {d : Dk}
theorem DiskIs.q_mem (h : DiskIs w S q mb fv L d) : S q := h.foot q (by simp [diskBlocks])
theorem DiskIs.x_mem {A B : List Fl} {x : Fl} (h : DiskIs w S q mb fv (A ++ x :: B) d) : ∀ k ∈ x.blocks, S k := fun k hk =>
  h.foot k ((blocks_perm q mb fv A x B).mem_iff.2 (List.mem_append_left _ hk))
theorem OpIs.same (h : DiskIs w S q mb fv L d) (n : Int) : OpIs w S q (n, d) (.returned (.int .i64 n)) w :=
  ⟨rfl, ⟨mb, fv, L, h.wider (fun k hk => .inl hk) (fun k hk => by
    rcases hk with hk | hk
    · exact h.low k hk
    · omega)⟩, Only.refl _ _⟩
theorem turn_list {A B : List Fl} {x x' : Fl} {d : Dk} {s : List UInt8} (t : F0 → F0) (hf : (A ++ x :: B).map (·.f) = d.files) (hs : (d.files.map (·.name)).Pairwise (· < ·)) (hx : x.f.name = s) (ht : x'.f = t x.f) :
    (d.turn s t).files = A.map (·.f) ++ x'.f :: B.map (·.f) := by
  have hnd : (d.files.map (·.name)).Nodup := hs.imp (fun {a b} hab he => by rw [he] at hab; exact List.lt_irrefl _ hab)
  rw [← hf, List.map_append, List.map_cons, List.map_append, List.map_cons] at hnd
  have h2 := List.nodup_append.1 hnd
  have hA : ∀ y ∈ A, y.f.name ≠ s := fun y hy he => h2.2.2 y.f.name (List.mem_map_of_mem (List.mem_map_of_mem hy)) x.f.name (by simp) (by rw [he, hx])
  have hB : ∀ y ∈ B, y.f.name ≠ s := fun y hy he => (List.nodup_cons.1 h2.2.1).1 (by rw [hx, ← he]; exact List.mem_map_of_mem (List.mem_map_of_mem hy))
  show d.files.map _ = _
  rw [← hf, List.map_append, List.map_cons, List.map_append, List.map_cons, List.map_map, List.map_map, if_pos hx, ht]
  congr 1
  · exact List.map_congr_left fun y hy => by simp [hA y hy]
  · congr 1
    exact List.map_congr_left fun y hy => by simp [hB y hy]
end
theorem file_done {w w2 W : World} {S : Nat → Prop} {q mb : Nat} {fv' : Value} {A B : List Fl} {x x' : Fl} {d1 : Dk} (ho : Only (fun k => k = q) w w2) (h2 : DiskIs w2 S q mb fv' (A ++ x :: B) d1) (hw : Only (fun k => k ∈ x.blocks) w2 W)
    (hb : x'.blk = x.blk) (hn : x'.f.name = x.f.name) (hx : FlAt W x') (hv : ∀ k, x'.bv.ownBlock = some k → x.bv.ownBlock = some k ∨ (w2.heap.size ≤ k ∧ k < W.heap.size)) {s : List UInt8} {t : F0 → F0} (hs : x.f.name = s) (ht : x'.f = t x.f) (n : Int) :
    OpIs w S q (n, d1.turn s t) (.returned (.int .i64 n)) W := by
  have h3 := h2.file_turn hb hn hw hx hv
  have e : ({ d1 with files := A.map (·.f) ++ x'.f :: B.map (·.f) } : Dk) = d1.turn s t := by
    rw [← turn_list t h2.files h2.sorted hs ht]
    rfl
  rw [e] at h3
  refine ⟨rfl, ⟨mb, fv', _, h3.wider (fun k hk => ?_) (fun k hk => ?_)⟩, ?_⟩
  · rcases hk with hk | hk
    · exact .inl hk
    · exact .inr ⟨Nat.le_trans ho.size hk.1, hk.2⟩
  · rcases hk with hk | hk
    · exact Nat.lt_of_lt_of_le (h2.low k hk) hw.size
    · exact hk.2
  · exact (ho.mono (fun i _ hi => by rw [hi]; exact h2.q_mem)).trans hw (fun i _ hi => h2.x_mem i hi)
theorem FlAt.own_ne {w : World} {S : Nat → Prop} {q mb : Nat} {fv : Value} {A B : List Fl} {x : Fl} {d : Dk} (h : DiskIs w S q mb fv (A ++ x :: B) d) : ∀ k, x.bv.ownBlock = some k → k ≠ x.blk := fun k hk he => by
  have hp := (List.nodup_append.1 ((blocks_perm q mb fv A x B).nodup_iff.1 h.apart)).1
  simp only [Fl.blocks, hk, Option.toList_some, List.nodup_cons, List.mem_singleton] at hp
  exact hp.1 he.symm
theorem set_lasts {w w2 : World} {S : Nat → Prop} {q mb : Nat} {fv' : Value} {A B : List Fl} {x : Fl} {d1 : Dk} (ho : Only (fun k => k = q) w w2) (h2 : DiskIs w2 S q mb fv' (A ++ x :: B) d1) {l' : Nat} (hl : l' ≤ x.f.bytes.length) {v : Int} (hv : v = (l' : Int))
    {s : List UInt8} {t : F0 → F0} (hs : x.f.name = s) (ht : t x.f = { x.f with lasts := l' }) (n : Int) :
    OpIs w S q (n, d1.turn s t) (.returned (.int .i64 n)) ((w2.setCell ⟨x.blk, 1, none⟩ (.int .i64 v)).drew) := by
  subst hv
  have hx := h2.each x (by simp)
  have hset : Only (fun k => k = x.blk) w2 (w2.setCell ⟨x.blk, 1, none⟩ (.int .i64 l')).drew := only_drew (only_setCell (fun k => k = x.blk) w2 x.blk 1 _ rfl)
  refine file_done (x' := ⟨{ x.f with lasts := l' }, x.blk, x.bv⟩) ho h2 (hset.mono (fun i _ hi => by rw [hi]; simp [Fl.blocks])) rfl rfl ⟨?_, ?_, hl, hx.size⟩ (fun k hk => .inl hk) hs ht.symm n
  · exact heap_setCell_here (w := w2) _ hx.cells
  · exact hx.row.kept (fun k hk => hset.block k (hx.row.lt k hk) (FlAt.own_ne h2 k hk))
set_option maxRecDepth 100000 in
set_option maxHeartbeats 1000000 in
theorem sync_b {w : World} {S : Nat → Prop} {q : Nat} {d : Dk} (h : DiskAt w S q d) (nm : ByteArray) (hs : nm.size ≤ maxLen) :
    Calls Tryz.prog 69 #[.pointer (some ⟨q, 0, none⟩), .string nm] w fun e w' => OpIs w S q (d.sync nm.data.toList) e w' := by
  obtain ⟨mb, fv, L, h⟩ := h
  go_enter Tryz.func69, Tryz.ntmps69
  go_wp2_with fail
  refine (find_b h nm hs).mono ?_
  rintro e w' ⟨hF, rfl⟩
  rcases hF with ⟨hn, rfl⟩ | ⟨hn, hf, rfl⟩ | ⟨hn, A, x, B, rfl, hxn, hxt, hf, rfl⟩
  · have HO : Hid (OpIs w' S q (d.sync nm.data.toList) (.returned (.int .i64 2)) w') := Lib.hid (by
      rw [show d.sync nm.data.toList = (2, d) by simp [Dk.sync, hn]]
      exact OpIs.same h 2)
    clear h hn
    go_wp2_with fail
    go_ret
    exact HO.out
  · have HO : Hid (OpIs w' S q (d.sync nm.data.toList) (.returned (.int .i64 171)) w') := Lib.hid (by
      rw [show d.sync nm.data.toList = (171, d) by simp [Dk.sync, hn, hf]]
      exact OpIs.same h 171)
    clear h hn hf
    go_wp2_with fail
    go_ret
    exact HO.out
  · have H := Lib.hid h
    have HN := Lib.hid (And.intro hn hf)
    clear h hn hf
    go_wp2_with fail
    refine (step_b H.out).mono ?_
    rintro e w1 ⟨kd, kp, fv', rfl, hkp, h1, ho1⟩
    obtain ⟨er, her⟩ : ∃ er, d.fate.1 = er := ⟨_, rfl⟩
    rw [her]
    have H1 := Lib.hid h1
    have HO1 := Lib.hid ho1
    have HE := Lib.hid (And.intro hkp her)
    clear h1 ho1 hkp her
    go_upto_region 5 with fail
    obtain ⟨w2, hw2⟩ : ∃ w2 : World, w2 = w1.alloc (.cells #[.int .i64 kd, .int .i64 kp] 98) := ⟨_, rfl⟩
    obtain ⟨r, hr⟩ : ∃ r, r = w1.heap.size := ⟨_, rfl⟩
    have hr2 : w2.heap[r]? = some (.cells #[.int .i64 kd, .int .i64 kp] 98 (0, 0)) := by rw [hw2, hr]; exact alloc_cells _ _ _
    have h2 : DiskIs w2 S q mb fv' (A ++ x :: B) d.next := by rw [hw2]; exact H1.out.below ((Below.refl _ _).alloc (Nat.le_refl _) _)
    have ho2 : Only (fun k => k = q) w' w2 := by rw [hw2]; exact HO1.out.trans (only_alloc (fun k => k = q) _ _) (fun _ _ h => h)
    rw [← hw2, ← hr]
    clear hw2 hr H1 HO1
    have hx := h2.each x (by simp)
    obtain ⟨oa, c, hbv, hnc⟩ := hx.row.shape
    have hxc := hx.cells
    obtain ⟨n, hn⟩ : ∃ n, x.f.bytes.length = n := ⟨_, rfl⟩
    obtain ⟨l, hl⟩ : ∃ l, x.f.lasts = l := ⟨_, rfl⟩
    have hln : l ≤ n ∧ n ≤ 16777216 := by
      have h3 := hx.lasts
      have h4 := hx.size
      omega
    rw [hbv, hn, hl] at hxc
    have k0 : w2.drew.cell? ⟨x.blk, 0, none⟩ = some (.slice oa n c) := cell_of (w := w2) hxc rfl
    have k1 : w2.drew.cell? ⟨x.blk, 1, none⟩ = some (.int .i64 l) := cell_of (w := w2) hxc rfl
    have z1 : w2.drew.frozen? ⟨x.blk, 1, none⟩ = false := free_of (w := w2) hxc _
    have y1 : w2.drew.cell? ⟨r, 1, none⟩ = some (.int .i64 kp) := cell_of (w := w2) hr2 rfl
    obtain ⟨m, hm⟩ : ∃ m, m = n - l := ⟨_, rfl⟩
    have hsub : wrap64 ((n : Int) - (l : Int)) = (m : Int) := by unfold wrap64; omega
    have H2 := Lib.hid h2
    have HO2 := Lib.hid ho2
    have HX := Lib.hid hxc
    have HBV := Lib.hid (And.intro hbv (And.intro hn hl))
    have HXR := Lib.hid hx
    have HM := Lib.hid hm
    clear h2 ho2 hxc hbv hx hm hn hl hr2
    go_region
    by_cases h0 : er = 0
    · subst h0
      have HO : Hid (∀ v : Int, v = (n : Int) → OpIs w' S q (d.sync nm.data.toList) (.returned (.int .i64 0)) (w2.setCell ⟨x.blk, 1, none⟩ (.int .i64 v)).drew) := Lib.hid (fun v hv => by
        have := set_lasts HO2.out H2.out (l' := n) (by rw [HBV.out.2.1]; exact Nat.le_refl _) hv (s := nm.data.toList) (t := fun f => { f with lasts := f.bytes.length }) hxn (by rw [HBV.out.2.1]) 0
        simpa [Dk.sync, HN.out.1, HN.out.2, HE.out.2] using this)
      clear hsub
      go_wp2_with fail
      go_ret
      exact HO.out _ (by omega)
    · have hb0 : (er != 0) = true := by simpa using h0
      have HO : Hid (∀ v : Int, v = ((l + min (n - l) d.fate.2 : Nat) : Int) → OpIs w' S q (d.sync nm.data.toList) (.returned (.int .i64 er)) (w2.setCell ⟨x.blk, 1, none⟩ (.int .i64 v)).drew) := Lib.hid (fun v hv => by
        have := set_lasts HO2.out H2.out (l' := l + min (n - l) d.fate.2) (by rw [HBV.out.2.1]; omega) hv (s := nm.data.toList) (t := fun f => { f with lasts := f.lasts + min (f.bytes.length - f.lasts) d.fate.2 }) hxn (by simp only [HBV.out.2.1, HBV.out.2.2]) er
        simpa [Dk.sync, HN.out.1, HN.out.2, HE.out.2, h0] using this)
      have HK := Lib.hid HE.out.1
      clear hsub h0
      go_wp2_with fail
      all_goals (go_ret; refine HO.out _ ?_; have := HK.out; omega)
end Go.Proofs.YtlgcoaeddeiegaaGreat
/- Disk: Append. -/
namespace Go.Proofs.YtlgcoaeddeiegaaGreat
open Go Go.Maps Go.RowKit

theorem info_u8 : (Tryz.prog.info? 5).map (fun i => (i.zero, i.size, i.bytes)) = some (some (.int .u8 0), 1, 1) := by kernel_rfl
abbrev bytesAt (w : World) (v : Value) (l : List UInt8) : Prop := rowAt w 5 1 v l.length (byteCells l)
theorem rowAt.take {w : World} {e : TypeId} {size : Nat} {oa : Option Addr} {n cap : Nat} {xs : List Value} (h : rowAt w e size (.slice oa n cap) n xs) (k : Nat) (hk : k ≤ n) : rowAt w e size (.slice oa k cap) k (xs.take (k * size)) := by
  refine ⟨by rw [List.length_take, h.1]; exact Nat.min_eq_left (Nat.mul_le_mul_right _ hk), ?_⟩
  rcases h.2 with ⟨hv, h0⟩ | ⟨g, off, c, cur, fr, hv, hg, hnc, hcm, hcs, hfr, ht⟩
  · simp only [Value.slice.injEq] at hv
    obtain ⟨rfl, -, rfl⟩ := hv
    obtain rfl : k = 0 := by omega
    exact .inl ⟨rfl, rfl⟩
  · simp only [Value.slice.injEq] at hv
    obtain ⟨rfl, -, rfl⟩ := hv
    refine .inr ⟨g, off, cap, cur, fr, rfl, hg, by omega, hcm, hcs, hfr, ?_⟩
    rw [← ht, List.take_take, Nat.min_eq_left (Nat.mul_le_mul_right _ hk)]
theorem rowAt.map0 {w : World} {e : TypeId} {size : Nat} {oa : Option Addr} {n cap : Nat} {xs : List Value} (h : rowAt w e size (.slice oa n cap) n xs) : oa.map (fun x => x.add 0) = oa ∧ n ≤ cap := by
  rcases h.2 with ⟨hv, h0⟩ | ⟨g, off, c, cur, fr, hv, _, hn, _⟩
  · simp only [Value.slice.injEq] at hv
    rw [hv.1]
    exact ⟨rfl, by omega⟩
  · simp only [Value.slice.injEq] at hv
    rw [hv.1, hv.2.2]
    exact ⟨by simp [Go.WideShapes.add_plain], hn⟩
theorem Src.of_row {P : Program} {w : World} {size : Nat} {u e e2 : TypeId} (hu : P.underlying u = some (.slice e)) {v : Value} {n : Nat} {xs : List Value} (h : rowAt w e2 size v n xs) (h1 : ∀ v ∈ xs, v.oneCell' = true) : Src P w size u v n xs := by
  obtain ⟨oa, cap, rfl, _⟩ := h.shape
  cases oa with
  | none =>
    rcases h.2 with ⟨hv, h0⟩ | ⟨g, off, c, cur, fr, hv, _⟩
    · subst h0
      have hx : xs = [] := List.eq_nil_of_length_eq_zero (by simpa using h.1)
      subst hx
      exact Src.none hu _
    · simp at hv
  | some ad =>
    rcases h.2 with ⟨hv, h0⟩ | ⟨g, off, c, cur, fr, hv, _⟩
    · simp at hv
    · simp only [Value.slice.injEq, Option.some.injEq] at hv
      obtain ⟨rfl, -, -⟩ := hv
      exact Src.slice hu _ n cap xs h.1 (fun j u hj => h.cells rfl j u hj) h1
abbrev bytesRd (w : World) (v : Value) (l : List UInt8) : Prop := readAt w 1 v l.length (byteCells l)
theorem byteCells_take (l : List UInt8) (k : Nat) : (byteCells l).take k = byteCells (l.take k) := by simp [byteCells, List.map_take]
theorem byteCells_append (a b : List UInt8) : byteCells a ++ byteCells b = byteCells (a ++ b) := by simp [byteCells]
theorem bytesAt.take {w : World} {oa : Option Addr} {c : Nat} {l : List UInt8} (h : bytesAt w (.slice oa l.length c) l) (k : Nat) (hk : k ≤ l.length) : bytesAt w (.slice oa k c) (l.take k) := by
  have := rowAt.take h k hk
  rw [Nat.mul_one, byteCells_take] at this
  have e : (l.take k).length = k := by rw [List.length_take]; omega
  show rowAt w _ 1 _ (l.take k).length _
  rw [e]
  exact this
theorem bytesRd.take {w : World} {oa : Option Addr} {c : Nat} {l : List UInt8} (h : bytesRd w (.slice oa l.length c) l) (k : Nat) (hk : k ≤ l.length) : bytesRd w (.slice oa k c) (l.take k) := by
  have := readAt.take h k hk
  rw [Nat.mul_one, byteCells_take] at this
  have e : (l.take k).length = k := by rw [List.length_take]; omega
  show readAt w 1 _ (l.take k).length _
  rw [e]
  exact this
theorem set_bytes {w w2 w3 : World} {S : Nat → Prop} {q mb : Nat} {fv' v' : Value} {A B : List Fl} {x : Fl} {d1 : Dk} {l b : List UInt8} (ho : Only (fun k => k = q) w w2) (h2 : DiskIs w2 S q mb fv' (A ++ x :: B) d1)
    (hg : w2.grownBy w3 x.bv.ownBlock) (hr : rowAt w3 5 1 v' l.length (byteCells l)) (hown : v'.ownBlock = x.bv.ownBlock ∨ v'.ownBlock = some w2.heap.size) (hl : x.f.bytes ++ b = l) (hsz : l.length ≤ 16777216)
    {s : List UInt8} {t : F0 → F0} (hs : x.f.name = s) (ht : t x.f = { x.f with bytes := l }) (n : Int) :
    OpIs w S q (n, d1.turn s t) (.returned (.int .i64 n)) (w3.setCell ⟨x.blk, 0, none⟩ v') := by
  have hx := h2.each x (by simp)
  have hne := FlAt.own_ne h2
  have hblk : x.blk < w2.heap.size := h2.low _ (h2.x_mem _ (by simp [Fl.blocks]))
  have hc3 : w3.heap[x.blk]? = w2.heap[x.blk]? := hg.block _ hblk (fun e => hne x.blk e.symm rfl)
  have h3 : Only (fun k => k ∈ x.blocks) w2 w3 := Only.of_grown hg (fun k hk => by simp [Fl.blocks, hk])
  have hset : Only (fun k => k = x.blk) w3 (w3.setCell ⟨x.blk, 0, none⟩ v') := only_setCell (fun k => k = x.blk) w3 x.blk 0 _ rfl
  have hvne : ∀ k, v'.ownBlock = some k → k ≠ x.blk := fun k hk => by
    rcases hown with h | h
    · exact hne k (by rw [← h]; exact hk)
    · rw [h] at hk
      simp only [Option.some.injEq] at hk
      omega
  refine file_done (x' := ⟨{ x.f with bytes := l }, x.blk, v'⟩) ho h2 (h3.trans hset (fun i _ hi => by rw [hi]; simp [Fl.blocks])) rfl rfl ⟨?_, ?_, ?_, hsz⟩ (fun k hk => ?_) hs ht.symm n
  · exact heap_setCell_here (w := w3) _ (hc3.trans hx.cells)
  · exact hr.kept (fun k hk => hset.block k (hr.lt k hk) (hvne k hk))
  · have := hx.lasts
    rw [← hl]
    simp only [List.length_append]
    omega
  · rcases hown with h | h
    · exact .inl (by rw [← h]; exact hk)
    · have h4 := hr.lt k hk
      have hk2 : v'.ownBlock = some k := hk
      rw [h] at hk2
      simp only [Option.some.injEq] at hk2
      have h5 := hset.size
      exact .inr ⟨by omega, by omega⟩
theorem cell_kept_at {w w3 : World} {k i : Nat} (h : w3.heap[k]? = w.heap[k]?) : w3.cell? ⟨k, i, none⟩ = w.cell? ⟨k, i, none⟩ := by simp [World.cell?, h]
theorem frozen_kept_at {w w3 : World} {k i : Nat} (h : w3.heap[k]? = w.heap[k]?) : w3.frozen? ⟨k, i, none⟩ = w.frozen? ⟨k, i, none⟩ := by simp [World.frozen?, h]
set_option maxRecDepth 100000 in
set_option maxHeartbeats 1000000 in
theorem append_b {w : World} {S : Nat → Prop} {q : Nat} {d : Dk} (h : DiskAt w S q d) (nm : ByteArray) (hs : nm.size ≤ maxLen) (oa : Option Addr) (c : Nat) (b : List UInt8) (hb : bytesRd w (.slice oa b.length c) b) (hbS : ∀ k, (Value.slice oa b.length c).ownBlock = some k → 0 < b.length → ¬ S k) (hbl : b.length ≤ 1000000000) :
    Calls Tryz.prog 149 #[.pointer (some ⟨q, 0, none⟩), .string nm, .slice oa b.length c] w fun e w' => OpIs w S q (d.append nm.data.toList b) e w' := by
  obtain ⟨mb, fv, L, h⟩ := h
  obtain ⟨lb, hlb⟩ : ∃ lb, lb = b.length := ⟨_, rfl⟩
  rw [← hlb] at hb hbS hbl ⊢
  have HBW := Lib.hid (And.intro hb hbS)
  have HLB := Lib.hid hlb
  clear hb hbS hlb
  go_enter Tryz.func149, Tryz.ntmps149
  go_wp2_with fail
  refine (find_b h nm hs).mono ?_
  rintro e w' ⟨hF, rfl⟩
  rcases hF with ⟨hn, rfl⟩ | ⟨hn, hf, rfl⟩ | ⟨hn, A, x, B, rfl, hxn, hxt, hf, rfl⟩
  · have HO : Hid (OpIs w' S q (d.append nm.data.toList b) (.returned (.int .i64 2)) w') := Lib.hid (by
      rw [show d.append nm.data.toList b = (2, d) by simp [Dk.append, hn]]
      exact OpIs.same h 2)
    clear h hn
    go_wp2_with fail
    go_ret
    exact HO.out
  · have HO : Hid (OpIs w' S q (d.append nm.data.toList b) (.returned (.int .i64 171)) w') := Lib.hid (by
      rw [show d.append nm.data.toList b = (171, d) by simp [Dk.append, hn, hf]]
      exact OpIs.same h 171)
    clear h hn hf
    go_wp2_with fail
    go_ret
    exact HO.out
  · have hx0 := h.each x (by simp)
    obtain ⟨oaf, cf, hbv, hnc⟩ := hx0.row.shape
    obtain ⟨n, hnn⟩ : ∃ n, x.f.bytes.length = n := ⟨_, rfl⟩
    have hsz : n ≤ 16777216 := by rw [← hnn]; exact hx0.size
    have hxc := hx0.cells
    rw [hbv, hnn] at hxc
    have k0 : w'.cell? ⟨x.blk, 0, none⟩ = some (.slice oaf n cf) := cell_of hxc rfl
    have HBV := Lib.hid (And.intro hbv hnn)
    have H := Lib.hid h
    have HN := Lib.hid (And.intro hn hf)
    clear h hn hf hxc hx0 hbv hnn hnc
    by_cases hfull : 16777216 < lb + n
    · have HO : Hid (OpIs w' S q (d.append nm.data.toList b) (.returned (.int .i64 6)) w') := Lib.hid (by
        rw [show d.append nm.data.toList b = (6, d) by simp [Dk.append, HN.out.1, HN.out.2]; rw [← HLB.out, HBV.out.2]; intro h; omega]
        exact OpIs.same H.out 6)
      have hd : decide ((16777216 : Int) - (n : Int) < (lb : Int)) = true := by simp; omega
      go_wp2_with fail
      go_ret
      exact HO.out
    · have hd : decide ((16777216 : Int) - (n : Int) < (lb : Int)) = false := by simp; omega
      go_wp2_with fail
      refine (step_b H.out).mono ?_
      rintro e w1 ⟨kd, kp, fv', rfl, hkp, h1, ho1⟩
      obtain ⟨er, her⟩ : ∃ er, d.fate.1 = er := ⟨_, rfl⟩
      rw [her]
      have H1 := Lib.hid h1
      have HO1 := Lib.hid ho1
      have HE := Lib.hid (And.intro hkp her)
      clear h1 ho1 hkp her k0 hd
      go_upto_region 7 with fail
      obtain ⟨w2, hw2⟩ : ∃ w2 : World, w2 = w1.alloc (.cells #[.int .i64 kd, .int .i64 kp] 98) := ⟨_, rfl⟩
      obtain ⟨r, hr⟩ : ∃ r, r = w1.heap.size := ⟨_, rfl⟩
      have hr2 : w2.heap[r]? = some (.cells #[.int .i64 kd, .int .i64 kp] 98 (0, 0)) := by rw [hw2, hr]; exact alloc_cells _ _ _
      have h2 : DiskIs w2 S q mb fv' (A ++ x :: B) d.next := by rw [hw2]; exact H1.out.below ((Below.refl _ _).alloc (Nat.le_refl _) _)
      have ho2 : Only (fun k => k = q) w' w2 := by rw [hw2]; exact HO1.out.trans (only_alloc (fun k => k = q) _ _) (fun _ _ h => h)
      rw [← hw2, ← hr]
      clear hw2 hr H1 HO1
      have hx := h2.each x (by simp)
      have hxc := hx.cells
      have hxr := hx.row
      rw [HBV.out.1, HBV.out.2] at hxc hxr
      have hk0 : w2.cell? ⟨x.blk, 0, none⟩ = some (.slice oaf n cf) := cell_of hxc rfl
      have hz0 : w2.frozen? ⟨x.blk, 0, none⟩ = false := free_of hxc _
      have y1 : w2.cell? ⟨r, 1, none⟩ = some (.int .i64 kp) := cell_of hr2 rfl
      have HG : Hid (∀ w3 : World, w2.grownBy w3 (Value.slice oaf n cf).ownBlock → w3.heap[x.blk]? = w2.heap[x.blk]?) := Lib.hid fun w3 hg => hg.block _ (h2.low _ (h2.x_mem _ (by simp [Fl.blocks]))) (fun e => FlAt.own_ne h2 x.blk (by rw [HBV.out.1, HBV.out.2]; exact e.symm) rfl)
      have HROW : Hid (rowAt w2 5 1 (.slice oaf n cf) n (byteCells x.f.bytes)) := Lib.hid hxr
      have hb2 : bytesRd w2 (.slice oa b.length c) b := by
        rw [← HLB.out]
        show readAt w2 1 _ b.length _
        rw [← HLB.out]
        have h3 := HBW.out.1
        have h4 : readAt w' 1 (.slice oa lb c) b.length (byteCells b) := h3
        rw [← HLB.out] at h4
        exact h4.kept (fun k hl hk h0 => ho2.block k hl (fun e => HBW.out.2 k hk h0 (by rw [e]; exact h2.q_mem)))
      have H2 := Lib.hid h2
      have HO2 := Lib.hid ho2
      have HB2 := Lib.hid hb2
      clear h2 ho2 hb2 hx hxc hxr hr2 H
      by_cases h0 : er = 0
      · subst h0
        have HS : Hid (Src Tryz.prog w2 1 39 (.slice oa lb c) lb (byteCells b)) := Lib.hid (by
          have := Src.of_read Tryz.underlying39 HB2.out (byteCells_one _)
          rw [← HLB.out] at this
          exact this)
        go_wp2_with (at_builtin; refine wpList_append_at _ rfl (.tmp 47) (.tmp 48) 39 39 rfl 5 (.int .u8 0) 1 1 Tryz.underlying39 info_u8 rfl _ n _ rfl HROW.out _ lb _ rfl (HS.out) (by unfold maxLen; omega) (by omega) ?_; intro v' w3 hr hg hown _; obtain ⟨oa', c', rfl, _⟩ := hr.shape; have hc3 : w3.cell? ⟨x.blk, 0, none⟩ = some (.slice oaf n cf) := (by rw [← hk0]; exact cell_kept_at (HG.out w3 hg)); have hz3 : w3.frozen? ⟨x.blk, 0, none⟩ = false := (by rw [← hz0]; exact frozen_kept_at (HG.out w3 hg)); have HR := Lib.hid hr; have HGG := Lib.hid hg; have HOWN := Lib.hid hown; clear hr hg hown)
        go_ret
        have hrr := HR.out
        rw [byteCells_append] at hrr
        have hl : (x.f.bytes ++ b).length = n + lb := by rw [List.length_append, HBV.out.2, ← HLB.out]
        have := set_bytes (v' := .slice oa' (n + lb) c') (s := nm.data.toList) (t := fun f => { f with bytes := f.bytes ++ b }) HO2.out H2.out (by rw [HBV.out.1, HBV.out.2]; exact HGG.out) (by rw [hl]; exact hrr) (by rw [HBV.out.1, HBV.out.2]; exact HOWN.out) rfl (by rw [hl]; omega) hxn rfl 0
        simpa [Dk.append, HN.out.1, HN.out.2, HE.out.2, ← HLB.out, HBV.out.2, hfull] using this
      · have hb0 : (er != 0) = true := by simpa using h0
        go_upto_region 8 with fail
        go_cut [2] from 35 to 42 (fun s2 wx => ∃ k : Nat, s2 = .slice oa k c ∧ k = min lb d.fate.2 ∧ wx = w2)
        case first =>
          have HK := Lib.hid HE.out.1
          have hrb : readAt w' 1 (.slice oa lb c) lb (byteCells b) := by
            have h4 : readAt w' 1 (.slice oa lb c) b.length (byteCells b) := HBW.out.1
            rwa [← HLB.out] at h4
          obtain ⟨hm0, hlc⟩ := hrb.map0
          clear hrb
          go_wp2_with fail
          all_goals go_meet
          all_goals (refine ⟨_, rfl, ?_, rfl⟩; have := HK.out; omega)
        case rest =>
          obtain ⟨k, rfl, hkk, rfl⟩ := hcut
          have hkl : k ≤ lb := by omega
          have HKK := Lib.hid hkk
          clear hkk
          have HS : Hid (Src Tryz.prog wc 1 39 (.slice oa k c) k (byteCells (b.take k))) := Lib.hid (by
            have h4 := HB2.out.take k (by rw [← HLB.out]; exact hkl)
            have := Src.of_read Tryz.underlying39 h4 (byteCells_one _)
            rwa [show (b.take k).length = k by rw [List.length_take, ← HLB.out]; omega] at this)
          go_wp2_with (at_builtin; refine wpList_append_at _ rfl (.tmp 47) (.tmp 48) 39 39 rfl 5 (.int .u8 0) 1 1 Tryz.underlying39 info_u8 rfl _ n _ rfl HROW.out _ k _ rfl (HS.out) (by unfold maxLen; omega) (by omega) ?_; intro v' w3 hr hg hown _; obtain ⟨oa', c', rfl, _⟩ := hr.shape; have hc3 : w3.cell? ⟨x.blk, 0, none⟩ = some (.slice oaf n cf) := (by rw [← hk0]; exact cell_kept_at (HG.out w3 hg)); have hz3 : w3.frozen? ⟨x.blk, 0, none⟩ = false := (by rw [← hz0]; exact frozen_kept_at (HG.out w3 hg)); have HR := Lib.hid hr; have HGG := Lib.hid hg; have HOWN := Lib.hid hown; clear hr hg hown)
          go_ret
          have hrr := HR.out
          rw [byteCells_append] at hrr
          have hl : (x.f.bytes ++ b.take k).length = n + k := by rw [List.length_append, HBV.out.2, List.length_take, ← HLB.out]; omega
          have := set_bytes (v' := .slice oa' (n + k) c') (s := nm.data.toList) (t := fun f => { f with bytes := f.bytes ++ b.take k }) HO2.out H2.out (by rw [HBV.out.1, HBV.out.2]; exact HGG.out) (by rw [hl]; exact hrr) (by rw [HBV.out.1, HBV.out.2]; exact HOWN.out) rfl (by rw [hl]; omega) hxn rfl er
          have e : b.take k = b.take d.fate.2 := by
            rw [HKK.out, HLB.out]
            rcases Nat.le_total b.length d.fate.2 with h5 | h5
            · rw [Nat.min_eq_left h5, List.take_of_length_le (Nat.le_refl _), List.take_of_length_le h5]
            · rw [Nat.min_eq_right h5]
          simpa [Dk.append, HN.out.1, HN.out.2, HE.out.2, ← HLB.out, HBV.out.2, hfull, h0, e] using this
end Go.Proofs.YtlgcoaeddeiegaaGreat
/- record: numbers are put to bytes, and read; parts are taken off. -/
namespace Go.Proofs.YtlgcoaeddeiegaaGreat
open Go Go.RowKit
attribute [local go_sem] Oper.semAt_some

theorem one_byte (w : World) (b : UInt8) : rowAt (w.alloc (.cells #[.int .u8 (b.toNat : Int)] 5)) 5 1 (.slice (some ⟨w.heap.size, 0, none⟩) 1 1) 1 (byteCells [b]) :=
  ⟨rfl, .inr ⟨_, 0, 1, _, _, rfl, alloc_cells _ _ _, Nat.le_refl _, by unfold maxLen; omega, by simp, freeRow_zero _, rfl⟩⟩
structure NewB (w0 W : World) (v : Value) (l : List UInt8) : Prop where
  row : rowAt W 5 1 v l.length (byteCells l)
  own : ∀ k, v.ownBlock = some k → w0.heap.size ≤ k
  below : Below w0.heap.size w0 W
theorem NewB.nil {w0 W : World} (h : Below w0.heap.size w0 W) : NewB w0 W (.slice none 0 0) [] := ⟨⟨rfl, .inl ⟨rfl, rfl⟩⟩, fun k hk => by simp [Value.ownBlock] at hk, h⟩
theorem NewB.kept {w0 W W' : World} {v : Value} {l : List UInt8} (h : NewB w0 W v l) (hb : Below W.heap.size W W') : NewB w0 W' v l :=
  ⟨h.row.kept (fun k hk => hb.block k (h.row.lt k hk)), h.own, h.below.trans (hb.mono h.below.size)⟩
theorem NewB.len {w0 W : World} {oa : Option Addr} {m c : Nat} {l : List UInt8} (h : NewB w0 W (.slice oa m c) l) : l.length = m := by
  obtain ⟨oa', c', he, _⟩ := h.row.shape
  simp only [Value.slice.injEq] at he
  exact he.2.1.symm
theorem NewB.shape {w0 W : World} {v : Value} {l : List UInt8} (h : NewB w0 W v l) : ∃ oa c, v = .slice oa l.length c := by
  obtain ⟨oa', c', he, _⟩ := h.row.shape
  exact ⟨oa', c', he⟩
theorem NewB.grown {w0 W W1 W' : World} {v v' : Value} {l ys : List UInt8} (h : NewB w0 W v l) (hb : Below W.heap.size W W1) (hr : rowAt W' 5 1 v' (l.length + ys.length) (byteCells l ++ byteCells ys)) (hg : W1.grownBy W' v.ownBlock) (ho : v'.ownBlock = v.ownBlock ∨ v'.ownBlock = some W1.heap.size) : NewB w0 W' v' (l ++ ys) := by
  have h1 := h.below.trans (hb.mono h.below.size)
  refine ⟨by rw [List.length_append, ← byteCells_append]; exact hr, fun k hk => ?_, h1.grown hg h1.size h.own⟩
  rcases ho with ho | ho
  · exact h.own k (by rw [← ho]; exact hk)
  · rw [ho] at hk
    simp only [Option.some.injEq] at hk
    have := h1.size
    omega
structure PutB (w0 W : World) (v : Value) (W' : World) (v' : Value) (l : List UInt8) : Prop where
  new : NewB w0 W' v' l
  only : Only (fun k => v.ownBlock = some k) W W'
  own : ∀ k, v'.ownBlock = some k → v.ownBlock = some k ∨ W.heap.size ≤ k
theorem PutB.refl {w0 W : World} {v : Value} {l : List UInt8} (h : NewB w0 W v l) : PutB w0 W v W v l := ⟨h, Only.refl _ _, fun _ hk => .inl hk⟩
theorem PutB.trans {w0 W W1 W2 : World} {v v1 v2 : Value} {l l2 : List UInt8} (h : PutB w0 W v W1 v1 l) (k : PutB w0 W1 v1 W2 v2 l2) : PutB w0 W v W2 v2 l2 :=
  ⟨k.new, h.only.trans k.only (fun i hi e => (h.own i e).resolve_right (by omega)), fun i hi => by
    rcases k.own i hi with e | e
    · exact h.own i e
    · exact .inr (Nat.le_trans h.only.size e)⟩
theorem PutB.grown {w0 W W1 W' : World} {v v' : Value} {l ys : List UInt8} (h : NewB w0 W v l) (hb : Below W.heap.size W W1) (hr : rowAt W' 5 1 v' (l.length + ys.length) (byteCells l ++ byteCells ys)) (hg : W1.grownBy W' v.ownBlock) (ho : v'.ownBlock = v.ownBlock ∨ v'.ownBlock = some W1.heap.size) : PutB w0 W v W' v' (l ++ ys) :=
  ⟨h.grown hb hr hg ho, (Only.of_below hb (Nat.le_refl _) (fun k => v.ownBlock = some k)).trans (Only.of_grown hg (fun k e => e)) (fun _ _ e => e), fun k hk => by
    rcases ho with ho | ho
    · exact .inl (by rw [← ho]; exact hk)
    · rw [ho] at hk
      simp only [Option.some.injEq] at hk
      have := hb.size
      exact .inr (by omega)⟩
theorem PutB.box {w0 W W' : World} {v v' : Value} {l : List UInt8} {b : Nat} {o : Obj} (h : PutB w0 W v W' v' l) (hb : W.heap[b]? = some o) (hne : v.ownBlock ≠ some b) : W'.heap[b]? = some o ∧ v'.ownBlock ≠ some b := by
  have hlt := (Array.getElem?_eq_some_iff.1 hb).1
  exact ⟨(h.only.block b hlt hne).trans hb, fun e => by
    rcases h.own b e with h1 | h1
    · exact hne h1
    · omega⟩
theorem wpList_put1 {w0 W : World} {ops : Array Oper} {rest : List Oper} {o : Oper} {a : Act} {Q : Exit → Act → World → Prop} (hgd : o.guard = none) (s x : Operand)
    (ho : o.op = .call { callee := .builtin .append, args := #[s, x], argTypes := #[39, 39] }) {oa : Option Addr} {m c : Nat} {l : List UInt8} (h : NewB w0 W (.slice oa m c) l) (hm : m ≤ 1000000000) {b : UInt8}
    (hs : a.eval s = .slice oa m c) (hx : a.eval x = .slice (some ⟨W.heap.size, 0, none⟩) 1 1)
    (hK : ∀ oa3 c3 w3, Hid (PutB w0 W (.slice oa m c) w3 (.slice oa3 (m + 1) c3) (l ++ [b])) → wpList Tryz.prog ops Q rest (a.put o.dst (.slice oa3 (m + 1) c3)) w3) :
    wpList Tryz.prog ops Q (o :: rest) a (W.alloc (.cells #[.int .u8 (b.toNat : Int)] 5)) := by
  have hlm := h.len
  subst hlm
  refine wpList_append_at _ hgd s x 39 39 ho 5 (.int .u8 0) 1 1 Tryz.underlying39 info_u8 rfl _ l.length (byteCells l) hs (h.row.kept (fun k hk => Below.heap_alloc _ _ k (h.row.lt k hk))) _ 1 _ hx (Src.of_read Tryz.underlying39 (one_byte W b).read (byteCells_one _)) (by unfold maxLen; omega) (by omega) ?_
  intro v' w3 hr hg hown _
  obtain ⟨oa3, c3, rfl, _⟩ := hr.shape
  exact hK oa3 c3 w3 (Lib.hid (PutB.grown (ys := [b]) h ((Below.refl _ _).alloc (Nat.le_refl _) _) hr hg hown))
theorem wpList_putR {w0 W : World} {ops : Array Oper} {rest : List Oper} {o : Oper} {a : Act} {Q : Exit → Act → World → Prop} (hgd : o.guard = none) (s x : Operand)
    (ho : o.op = .call { callee := .builtin .append, args := #[s, x], argTypes := #[39, 39] }) {oa : Option Addr} {m c : Nat} {l : List UInt8} (h : NewB w0 W (.slice oa m c) l) {ob : Option Addr} {n d : Nat} {ys : List UInt8} (hn : ys.length = n) (hy : readAt W 1 (.slice ob n d) n (byteCells ys)) (hmn : m + n ≤ 1000000000)
    (hs : a.eval s = .slice oa m c) (hx : a.eval x = .slice ob n d)
    (hK : ∀ oa3 c3 w3, Hid (PutB w0 W (.slice oa m c) w3 (.slice oa3 (m + n) c3) (l ++ ys)) → wpList Tryz.prog ops Q rest (a.put o.dst (.slice oa3 (m + n) c3)) w3) :
    wpList Tryz.prog ops Q (o :: rest) a W := by
  have hlm := h.len
  subst hlm
  subst hn
  refine wpList_append_at _ hgd s x 39 39 ho 5 (.int .u8 0) 1 1 Tryz.underlying39 info_u8 rfl _ l.length (byteCells l) hs h.row _ ys.length _ hx (Src.of_read Tryz.underlying39 hy (byteCells_one _)) (by unfold maxLen; omega) (by omega) ?_
  intro v' w3 hr hg hown _
  obtain ⟨oa3, c3, rfl, _⟩ := hr.shape
  exact hK oa3 c3 w3 (Lib.hid (PutB.grown h (Below.refl _ _) hr hg hown))
theorem leT_succ : ∀ (n x : Nat), leT x (n + 1) = leT x n ++ [UInt8.ofNat (x / 256 ^ n % 256)]
  | 0, x => by simp [leT]
  | n + 1, x => by
    rw [leT, leT_succ n (x / 256), leT, Nat.div_div_eq_div_mul, Nat.pow_succ, Nat.mul_comm (256 ^ n) 256]
    rfl
set_option maxRecDepth 100000 in
set_option maxHeartbeats 1000000 in
theorem put_b {w0 W : World} {oa : Option Addr} {m c : Nat} {l : List UInt8} (h : NewB w0 W (.slice oa m c) l) (hm : m ≤ 100000000) (x n : Nat) (hx : x < 18446744073709551616) (hn : n ≤ 8) :
    Calls Tryz.prog 187 #[.slice oa m c, .int .u64 (x : Int), .int .i64 (n : Int)] W fun e w' => ∃ oa' c', e = .returned (.slice oa' (m + n) c') ∧ PutB w0 W (.slice oa m c) w' (.slice oa' (m + n) c') (l ++ leT x n) := by
  have HN := Lib.hid h
  clear h
  go_enter Tryz.func187, Tryz.ntmps187
  go_wp2_with fail
  go_loopw [0, 1, 8] (fun s y i wr => ∃ (k : Nat) (oa' : Option Addr) (c' : Nat), s = .slice oa' (m + k) c' ∧ y = .int .u64 ((x / 256 ^ k : Nat) : Int) ∧ i = .int .i64 (k : Int) ∧ k ≤ n ∧ Hid (PutB w0 W (.slice oa m c) wr (.slice oa' (m + k) c') (l ++ leT x k))) (fun _ _ i _ => n - (intOf i).toNat)
  case atStart => exact ⟨0, oa, c, rfl, by simp, rfl, by omega, Lib.hid (by simpa [leT] using PutB.refl HN.out)⟩
  case round =>
    obtain ⟨k, oa', c', rfl, rfl, rfl, hk, HR⟩ := hrel
    by_cases hlt : k < n
    · obtain ⟨y, hy⟩ : ∃ y, x / 256 ^ k = y := ⟨_, rfl⟩
      have hyb : y < 18446744073709551616 := by rw [← hy]; exact Nat.lt_of_le_of_lt (Nat.div_le_self _ _) hx
      have HY : Hid (x / 256 ^ (k + 1) = y / 256 ∧ leT x (k + 1) = leT x k ++ [UInt8.ofNat (y % 256)]) := Lib.hid ⟨by rw [← hy, Nat.div_div_eq_div_mul, Nat.pow_succ], by rw [leT_succ, hy]⟩
      have hb8 : (y : Int) % 256 = ((UInt8.ofNat (y % 256)).toNat : Int) := by
        rw [UInt8.toNat_ofNat']
        omega
      rw [hy]
      clear hy
      obtain ⟨b8, hb⟩ : ∃ b, UInt8.ofNat (y % 256) = b := ⟨_, rfl⟩
      rw [hb] at hb8 HY
      clear hb
      go_wp2_with (at_builtin; refine wpList_put1 rfl (.tmp 10) (.tmp 13) rfl HR.out.new (by omega) rfl rfl ?_; intro oa3 c3 w3 HR3)
      refine ⟨⟨k + 1, oa3, c3, rfl, by rw [HY.out.1]; simp, by simp, by omega, Lib.hid ?_⟩, by simp [intOf]; omega⟩
      have := HR.out.trans HR3.out
      rw [List.append_assoc, ← HY.out.2] at this
      exact this
    · obtain rfl : k = n := by omega
      go_wp2_with fail
      go_ret
      exact ⟨oa', c', rfl, HR.out⟩
theorem put0_b {w0 W : World} (hb : Below w0.heap.size w0 W) (x n : Nat) (hx : x < 18446744073709551616) (hn : n ≤ 8) :
    Calls Tryz.prog 187 #[.slice none 0 0, .int .u64 (x : Int), .int .i64 (n : Int)] W fun e w' => ∃ oa' c', e = .returned (.slice oa' n c') ∧ PutB w0 W (.slice none 0 0) w' (.slice oa' n c') (leT x n) := by
  refine (put_b (NewB.nil hb) (by omega) x n hx hn).mono ?_
  rintro e w' ⟨oa', c', he, h⟩
  rw [Nat.zero_add] at he h
  exact ⟨oa', c', he, by simpa using h⟩
theorem u64_wrap (n : Int) : IntKind.u64.wrap n = n % 18446744073709551616 := by
  unfold IntKind.wrap
  have : (IntKind.u64.signed) = false := rfl
  rw [this]
  simp [IntKind.bits]
theorem u64_or (x c : Nat) (hx : x < 72057594037927936) (hc : c < 256) : bits .or .u64 ((256 * x : Nat) : Int) (c : Int) = ((c + 256 * x : Nat) : Int) := by
  have hj := Nat.two_pow_add_eq_or_of_lt (i := 8) (b := c) (by omega) x
  have key : (BitVec.ofInt 64 ((256 * x : Nat) : Int) ||| BitVec.ofInt 64 (c : Int)).toNat = 2 ^ 8 * x ||| c := by
    rw [BitVec.toNat_or, BitVec.toNat_ofInt, BitVec.toNat_ofInt]
    congr 1 <;> omega
  show IntKind.u64.wrap ((BitVec.ofInt 64 ((256 * x : Nat) : Int) ||| BitVec.ofInt 64 (c : Int)).toNat : Nat) = _
  rw [key, ← hj, u64_wrap]
  omega
set_option maxRecDepth 100000 in
set_option maxHeartbeats 1000000 in
theorem get_b {W : World} {oa : Option Addr} {n c k : Nat} {l : List UInt8} (hn : l.length = n) (h : readAt W 1 (.slice oa n c) n (byteCells l)) (hk : k ≤ n) (hk8 : k ≤ 8) :
    Calls Tryz.prog 191 #[.slice oa n c, .int .i64 (k : Int)] W fun e w' => e = .returned (.int .u64 ((getT (l.take k) : Nat) : Int)) ∧ w' = W := by
  have HN := Lib.hid hn
  have HR := Lib.hid h
  clear hn h
  go_enter Tryz.func191, Tryz.ntmps191
  go_wp2_with fail
  go_loopw [5, 6] (fun x i wr => ∃ j : Nat, x = .int .u64 ((getT ((l.take k).drop j) : Nat) : Int) ∧ i = .int .i64 ((j : Int) - 1) ∧ j ≤ k ∧ wr = W) (fun _ i _ => (intOf i + 1).toNat)
  case atStart => exact ⟨k, by rw [List.drop_of_length_le (by rw [List.length_take]; omega)]; rfl, rfl, Nat.le_refl _, rfl⟩
  case round =>
    obtain ⟨j, rfl, rfl, hj, rfl⟩ := hrel
    cases j with
    | zero =>
      have hneg : ((0 : Nat) : Int) - 1 = -1 := rfl
      rw [hneg, List.drop_zero]
      clear hneg
      go_wp2_with fail
      go_ret
      exact ⟨rfl, rfl⟩
    | succ j =>
      have hjj : ((j + 1 : Nat) : Int) - 1 = (j : Int) := by omega
      rw [hjj]
      have hjl : j < l.length := by rw [HN.out]; omega
      obtain ⟨ch, hch⟩ : ∃ ch, l[j] = ch := ⟨_, rfl⟩
      obtain ⟨g, off, rfl⟩ := HR.out.addr (by omega)
      have kc : wr.cell? ⟨g, off + j, none⟩ = some (.int .u8 (ch.toNat : Int)) := rdCell HR.out (i := j) (by unfold byteCells; rw [List.getElem?_map, List.getElem?_eq_getElem hjl, hch]; rfl)
      obtain ⟨x, hx⟩ : ∃ x, getT ((l.take k).drop (j + 1)) = x := ⟨_, rfl⟩
      have hxl : x < 256 ^ (k - (j + 1)) := by
        have h1 := getT_lt ((l.take k).drop (j + 1))
        rw [hx, List.length_drop, List.length_take, HN.out, Nat.min_eq_left hk] at h1
        exact h1
      have hxb : x < 72057594037927936 := Nat.lt_of_lt_of_le hxl (by
        have : 256 ^ (k - (j + 1)) ≤ 256 ^ 7 := Nat.pow_le_pow_right (by decide) (by omega)
        exact this)
      have HD : Hid (getT ((l.take k).drop j) = ch.toNat + 256 * x) := Lib.hid (by
        rw [List.drop_eq_getElem_cons (by rw [List.length_take]; omega), getT, hx, List.getElem_take, hch])
      obtain ⟨c8, hc8⟩ : ∃ z : Nat, ch.toNat = z := ⟨_, rfl⟩
      have hc8b : c8 < 256 := by rw [← hc8]; exact ch.toNat_lt
      have hor := u64_or x c8 hxb hc8b
      have hcast : ((256 * x : Nat) : Int) = (x : Int) * 256 := by omega
      rw [hcast] at hor
      obtain ⟨z, hz⟩ : ∃ z : Int, ((c8 + 256 * x : Nat) : Int) = z := ⟨_, rfl⟩
      rw [hz] at hor
      rw [hc8] at HD kc
      rw [hx]
      have HZ := Lib.hid hz
      clear hz hcast hx hxl hch hc8 hjl hjj
      go_wp2_with fail
      exact ⟨⟨j, by rw [HD.out, HZ.out], rfl, by omega, trivial⟩, by simp [intOf]⟩
def PartIs (W : World) (b n m : Nat) (v : Value) (l : List UInt8) (e : Ending) (w' : World) : Prop :=
  ∃ o1 c1 o2 c2, e = .returned (.slice o1 n c1) ∧ (∀ V : World, readAt V 1 v m (byteCells l) → readAt V 1 (.slice o1 n c1) n (byteCells (l.take n)) ∧ readAt V 1 (.slice o2 (m - n) c2) (m - n) (byteCells (l.drop n))) ∧ w' = W.setCell ⟨b, 0, none⟩ (.slice o2 (m - n) c2)
set_option maxRecDepth 100000 in
set_option maxHeartbeats 1000000 in
theorem part_b {W : World} {b m c n : Nat} {oa : Option Addr} {l : List UInt8} {t : TypeId} (hb : W.heap[b]? = some (.cells #[.slice oa m c] t (0, 0))) (hm : l.length = m) (h : readAt W 1 (.slice oa m c) m (byteCells l)) (hn : n ≤ m) :
    Calls Tryz.prog 192 #[.pointer (some ⟨b, 0, none⟩), .int .i64 (n : Int)] W fun e w' => PartIs W b n m (.slice oa m c) l e w' := by
  have hc := h.cap
  have k0 : W.cell? ⟨b, 0, none⟩ = some (.slice oa m c) := cell_of hb rfl
  have z0 : W.frozen? ⟨b, 0, none⟩ = false := free_of hb _
  have e1 : (byteCells l).take n = byteCells (l.take n) := by unfold byteCells; rw [List.map_take]
  have e2 : ((byteCells l).drop n).take (m - n) = byteCells (l.drop n) := by
    unfold byteCells
    rw [← List.map_drop, List.take_of_length_le]
    rw [List.length_map, List.length_drop]
    omega
  have h12 : ∀ V : World, readAt V 1 (.slice oa m c) m (byteCells l) → readAt V 1 (.slice oa n c) n (byteCells (l.take n)) ∧ readAt V 1 (.slice (if c = n then oa else oa.map (·.add n)) (m - n) (c - n)) (m - n) (byteCells (l.drop n)) := fun V hV => by
    have h1 := hV.take n hn
    have h2 := hV.sub n m c hn (Nat.le_refl _) hc (Nat.le_refl _)
    rw [Nat.mul_one, e1] at h1
    rw [Nat.mul_one, Nat.mul_one, e2] at h2
    exact ⟨h1, h2⟩
  have hmp := h.map0.1
  by_cases hcn : c = n
  · rw [if_pos hcn] at h12
    subst hcn
    rw [Nat.sub_self] at h12
    have H := Lib.hid h12
    clear hb h h12 e1 e2
    go_enter Tryz.func192, Tryz.ntmps192
    go_wp2_with fail
    go_ret
    exact ⟨oa, c, oa, 0, rfl, H.out, by rw [show m - c = 0 by omega]⟩
  · rw [if_neg hcn] at h12
    have H := Lib.hid h12
    clear hb h h12 e1 e2
    go_enter Tryz.func192, Tryz.ntmps192
    go_wp2_with fail
    go_ret
    exact ⟨oa, c, _, _, rfl, H.out, rfl⟩
end Go.Proofs.YtlgcoaeddeiegaaGreat
/- record: records that lie there; May, Size. -/
namespace Go.Proofs.YtlgcoaeddeiegaaGreat
open Go Go.RowKit
attribute [local go_sem] Oper.semAt_some

structure RcV where
  r : Rc
  kv : Value
  vv : Value
def recCells (x : RcV) : List Value := [.int .i64 x.r.time, x.kv, x.vv]
def recsCells (xs : List RcV) : List Value := xs.flatMap recCells
structure RecsIs (w : World) (v : Value) (xs : List RcV) : Prop where
  row : readAt w 3 v xs.length (recsCells xs)
  each : ∀ x ∈ xs, bytesRd w x.kv x.r.key ∧ bytesRd w x.vv x.r.val
def RecsAt (w : World) (v : Value) (l : List Rc) : Prop := ∃ xs : List RcV, xs.map (·.r) = l ∧ RecsIs w v xs
theorem flat_get {α : Type} {f : α → List Value} {m : Nat} (hf : ∀ x, (f x).length = m) : ∀ (l : List α) (i : Nat) (h : i < l.length) (j : Nat), j < m → (l.flatMap f)[i * m + j]? = (f l[i])[j]?
  | x :: l, 0, _, j, hj => by
    rw [List.flatMap_cons, List.getElem?_append_left (by rw [hf]; omega)]
    simp
  | x :: l, i + 1, h, j, hj => by
    rw [List.flatMap_cons, List.getElem?_append_right (by rw [hf, Nat.add_mul]; omega), hf, show (i + 1) * m + j - m = i * m + j by rw [Nat.add_mul]; omega]
    exact flat_get hf l i (by simpa using h) j hj
theorem recsCells_get {xs : List RcV} {i j : Nat} (h : i < xs.length) (hj : j < 3) : (recsCells xs)[i * 3 + j]? = (recCells xs[i])[j]? := flat_get (f := recCells) (m := 3) (fun _ => rfl) xs i h j hj
theorem bytesRd.kept' {w w' : World} {v : Value} {l : List UInt8} (h : bytesRd w v l) (hb : Below w.heap.size w w') : bytesRd w' v l := readAt.kept h (fun k hk _ _ => hb.block k hk)
theorem RecsIs.below {w w' : World} {v : Value} {xs : List RcV} (h : RecsIs w v xs) (hb : Below w.heap.size w w') : RecsIs w' v xs :=
  ⟨h.row.kept (fun k hk _ _ => hb.block k hk), fun x hx => ⟨(h.each x hx).1.kept' hb, (h.each x hx).2.kept' hb⟩⟩
theorem RecsAt.below {w w' : World} {v : Value} {l : List Rc} (h : RecsAt w v l) (hb : Below w.heap.size w w') : RecsAt w' v l := by
  obtain ⟨xs, h1, h2⟩ := h
  exact ⟨xs, h1, h2.below hb⟩
def mayV (t : Int) (n m : Nat) : Bool := decide (0 ≤ t) && decide (t ≤ 9007199254740992) && decide (n ≤ 256) && decide (m ≤ 4096)
theorem mayV_ok (r : Rc) : mayV r.time r.key.length r.val.length = r.ok := rfl
set_option maxRecDepth 100000 in
set_option maxHeartbeats 1000000 in
theorem may_b {w : World} {t : Int} {oa ob : Option Addr} {n c m d : Nat} :
    Calls Tryz.prog 144 #[.agg #[.int .i64 t, .slice oa n c, .slice ob m d]] w fun e w' => e = .returned (.bool (mayV t n m)) ∧ Below w.heap.size w w' := by
  have hbl : Below w.heap.size w (w.alloc (.cells #[.int .i64 t, .slice oa n c, .slice ob m d] 150)) := (Below.refl _ _).alloc (Nat.le_refl _) _
  have HB := Lib.hid hbl
  clear hbl
  obtain ⟨q, hq⟩ : ∃ q, mayV t n m = q := ⟨_, rfl⟩
  rw [hq]
  have HQ := Lib.hid hq
  clear hq
  unfold mayV at HQ
  by_cases h1 : 0 ≤ t
  · have d1 : decide (0 ≤ t) = true := decide_eq_true h1
    rw [d1] at HQ
    by_cases h2 : t ≤ 9007199254740992
    · have d2 : decide (t ≤ 9007199254740992) = true := decide_eq_true h2
      rw [d2] at HQ
      by_cases h3 : n ≤ 256
      · have d3 : decide ((n : Int) ≤ 256) = true := decide_eq_true (by omega)
        have d3' : decide (n ≤ 256) = true := decide_eq_true h3
        rw [d3'] at HQ
        by_cases h4 : m ≤ 4096
        · have d4 : decide ((m : Int) ≤ 4096) = true := decide_eq_true (by omega)
          have d4' : decide (m ≤ 4096) = true := decide_eq_true h4
          rw [d4'] at HQ
          go_enter Tryz.func144, Tryz.ntmps144
          go_wp2_with fail
          go_ret
          exact ⟨by rw [← HQ.out]; rfl, HB.out⟩
        · have d4 : decide ((m : Int) ≤ 4096) = false := decide_eq_false (by omega)
          have d4' : decide (m ≤ 4096) = false := decide_eq_false h4
          rw [d4'] at HQ
          go_enter Tryz.func144, Tryz.ntmps144
          go_wp2_with fail
          go_ret
          exact ⟨by rw [← HQ.out]; rfl, HB.out⟩
      · have d3 : decide ((n : Int) ≤ 256) = false := decide_eq_false (by omega)
        have d3' : decide (n ≤ 256) = false := decide_eq_false h3
        rw [d3'] at HQ
        go_enter Tryz.func144, Tryz.ntmps144
        go_wp2_with fail
        go_ret
        exact ⟨by rw [← HQ.out]; rfl, HB.out⟩
    · have d2 : decide (t ≤ 9007199254740992) = false := decide_eq_false h2
      rw [d2] at HQ
      go_enter Tryz.func144, Tryz.ntmps144
      go_wp2_with fail
      go_ret
      exact ⟨by rw [← HQ.out]; rfl, HB.out⟩
  · have d1 : decide (0 ≤ t) = false := decide_eq_false h1
    rw [d1] at HQ
    go_enter Tryz.func144, Tryz.ntmps144
    go_wp2_with fail
    go_ret
    exact ⟨by rw [← HQ.out]; rfl, HB.out⟩
set_option maxRecDepth 100000 in
set_option maxHeartbeats 1000000 in
theorem size_b {w : World} {t : Int} {oa ob : Option Addr} {n c m d : Nat} (hn : n ≤ 1000000000) (hm : m ≤ 1000000000) :
    Calls Tryz.prog 146 #[.agg #[.int .i64 t, .slice oa n c, .slice ob m d]] w fun e w' => e = .returned (.int .i64 ((12 + n + m : Nat) : Int)) ∧ Below w.heap.size w w' := by
  have hbl : Below w.heap.size w (w.alloc (.cells #[.int .i64 t, .slice oa n c, .slice ob m d] 150)) := (Below.refl _ _).alloc (Nat.le_refl _) _
  have HB := Lib.hid hbl
  clear hbl
  go_enter Tryz.func146, Tryz.ntmps146
  go_wp2_with fail
  go_ret
  exact ⟨by simp, HB.out⟩
end Go.Proofs.YtlgcoaeddeiegaaGreat
/- record: Fits. -/
namespace Go.Proofs.YtlgcoaeddeiegaaGreat
open Go Go.RowKit
attribute [local go_sem] Oper.semAt_some

set_option maxRecDepth 100000 in
set_option maxHeartbeats 1000000 in
theorem fits1_b {w : World} {b k : Nat} {t : Int} {oa ob : Option Addr} {n c m d : Nat} (hb : w.heap[b]? = some (.cells #[.int .i64 (k : Int)] 3 (0, 0))) (hk : k ≤ 1000000000) (hn : n ≤ 1000000000) (hm : m ≤ 1000000000) :
    Calls Tryz.prog 145 #[.agg #[.int .i64 t, .slice oa n c, .slice ob m d], .pointer (some ⟨b, 0, none⟩)] w fun e w' => e = .returned (.tuple #[]) ∧ w'.heap[b]? = some (.cells #[.int .i64 ((k + (12 + n + m) : Nat) : Int)] 3 (0, 0)) ∧ Only (fun i => i = b) w w' := by
  obtain ⟨w1, hw1⟩ : ∃ W : World, W = w.alloc (.cells #[.int .i64 t, .slice oa n c, .slice ob m d] 150) := ⟨_, rfl⟩
  obtain ⟨b2, hb2⟩ : ∃ b, b = w.heap.size := ⟨_, rfl⟩
  have h2 : w1.heap[b2]? = some (.cells #[.int .i64 t, .slice oa n c, .slice ob m d] 150 (0, 0)) := by rw [hw1, hb2]; exact alloc_cells _ _ _
  have hb1 : Below w.heap.size w w1 := by rw [hw1]; exact (Below.refl _ _).alloc (Nat.le_refl _) _
  have hbb : w1.heap[b]? = some (.cells #[.int .i64 (k : Int)] 3 (0, 0)) := (hb1.block b (Array.getElem?_eq_some_iff.1 hb).1).trans hb
  have HB := Lib.hid (And.intro hbb hb1)
  have k0 : w1.cell? ⟨b2, 0, none⟩ = some (.int .i64 t) := cell_of h2 rfl
  have k1 : w1.cell? ⟨b2, 1, none⟩ = some (.slice oa n c) := cell_of h2 rfl
  have k2 : w1.cell? ⟨b2, 2, none⟩ = some (.slice ob m d) := cell_of h2 rfl
  have kb : w1.cell? ⟨b, 0, none⟩ = some (.int .i64 (k : Int)) := cell_of hbb rfl
  have zb : w1.frozen? ⟨b, 0, none⟩ = false := free_of hbb _
  have HS := Lib.hid (fun (W : World) => size_b (w := W) (t := t) (oa := oa) (ob := ob) (n := n) (c := c) (m := m) (d := d) hn hm)
  have hw : IntKind.i64.wrap ((k : Int) + (12 + (n : Int) + (m : Int))) = ((k + (12 + n + m) : Nat) : Int) := by rw [IntKind.wrap_i64]; omega
  clear hb h2 hb1 hbb
  go_enter Tryz.func145, Tryz.ntmps145
  go_upto_region 1 with fail
  rw [← hw1, ← hb2]
  clear hw1 hb2
  go_region_with (go_at_call 146; refine (HS.out _).mono ?_; rintro e w2 ⟨rfl, hbz⟩; have hz := (hbz.block b (Array.getElem?_eq_some_iff.1 HB.out.1).1).trans HB.out.1; have kz : w2.cell? ⟨b, 0, none⟩ = some (.int .i64 (k : Int)) := cell_of hz rfl; have zz : w2.frozen? ⟨b, 0, none⟩ = false := free_of hz _; have HZ := Lib.hid (And.intro hz hbz); clear hz hbz)
  all_goals have he : (k : Int) + (12 + (n : Int) + (m : Int)) = ((k + (12 + n + m) : Nat) : Int) := by omega
  all_goals
    rw [he]
    refine ⟨rfl, _, results_none rfl _ _ _, rfl, heap_setCell_here _ HZ.out.1, ?_⟩
    have h0 := HB.out.2
    have h1 : Below w1.heap.size w1 w2 := (show Below w1.heap.size w1 w1.drew from ⟨rfl, rfl, rfl, Nat.le_refl _, fun _ _ => rfl⟩).trans HZ.out.2
    exact (Only.of_below (h0.trans (Below.mono h1 h0.size)) (Nat.le_refl _) _).trans (only_setCell _ _ _ _ _ rfl) (fun _ _ e => e.symm)
end Go.Proofs.YtlgcoaeddeiegaaGreat
/- record: Fits. -/
namespace Go.Proofs.YtlgcoaeddeiegaaGreat
open Go Go.RowKit
attribute [local go_sem] Oper.semAt_some

theorem rcsSize_take {l : List Rc} {i : Nat} (h : i < l.length) : rcsSize (l.take (i + 1)) = rcsSize (l.take i) + l[i].size := by
  unfold rcsSize
  rw [List.take_succ_eq_append_getElem h, List.map_append, List.sum_append]
  simp
  omega
theorem rcsSize_max : ∀ (l : List Rc), (∀ r ∈ l, r.ok = true) → rcsSize l ≤ 20 + 4364 * l.length
  | [], _ => by simp [rcsSize]
  | r :: l, h => by
    have h1 := rcsSize_max l (fun x hx => h x (List.mem_cons_of_mem _ hx))
    have h2 := h r (List.mem_cons_self ..)
    unfold Rc.ok at h2
    simp only [Bool.and_eq_true, decide_eq_true_eq] at h2
    unfold rcsSize at h1 ⊢
    rw [List.map_cons, List.sum_cons, List.length_cons]
    have h3 : r.size = 12 + r.key.length + r.val.length := rfl
    omega
theorem RecsIs.cells {w : World} {oa : Option Addr} {n c i : Nat} {xs : List RcV} (h : RecsIs w (.slice oa n c) xs) (hn : xs.length = n) (hi : i < xs.length) : ∃ g off ka kc va vc, oa = some ⟨g, off, none⟩ ∧ xs[i].kv = .slice ka xs[i].r.key.length kc ∧ xs[i].vv = .slice va xs[i].r.val.length vc ∧
    w.cell? ⟨g, off + i * 3, none⟩ = some (.int .i64 xs[i].r.time) ∧ w.cell? ⟨g, off + i * 3 + 1, none⟩ = some (.slice ka xs[i].r.key.length kc) ∧ w.cell? ⟨g, off + i * 3 + 2, none⟩ = some (.slice va xs[i].r.val.length vc) := by
  subst hn
  obtain ⟨g, off, rfl⟩ := h.row.addr (by omega)
  have hm := h.each xs[i] (List.getElem_mem hi)
  obtain ⟨ka, kc, hk⟩ := hm.1.shape
  obtain ⟨va, vc, hv⟩ := hm.2.shape
  refine ⟨g, off, ka, kc, va, vc, rfl, hk, hv, ?_, ?_, ?_⟩
  · exact rdCell h.row (i := i * 3) (by have := recsCells_get hi (show 0 < 3 by omega); rw [Nat.add_zero] at this; rw [this]; rfl)
  · have := rdCell h.row (i := i * 3 + 1) (u := xs[i].kv) (by rw [recsCells_get hi (by omega)]; rfl)
    rw [hk, ← Nat.add_assoc] at this
    exact this
  · have := rdCell h.row (i := i * 3 + 2) (u := xs[i].vv) (by rw [recsCells_get hi (by omega)]; rfl)
    rw [hv, ← Nat.add_assoc] at this
    exact this
set_option maxRecDepth 100000 in
set_option maxHeartbeats 2000000 in
theorem fits_b {w : World} {oa : Option Addr} {n c : Nat} {xs : List RcV} {l : List Rc} (hl : xs.map (·.r) = l) (hn : xs.length = n) (h : RecsIs w (.slice oa n c) xs) (hnm : n ≤ 1000000000) :
    Calls Tryz.prog 72 #[.slice oa n c] w fun e w' => e = .returned (.tuple #[.int .i64 ((fitsT l).1 : Int), .int .i64 (fitsT l).2]) ∧ Below w.heap.size w w' := by
  have hln : l.length = n := by rw [← hl, List.length_map, hn]
  have HL := Lib.hid (And.intro hl (And.intro hn hln))
  have H := Lib.hid h
  obtain ⟨f1, hf1⟩ : ∃ x, (fitsT l).1 = x := ⟨_, rfl⟩
  obtain ⟨f2, hf2⟩ : ∃ x, (fitsT l).2 = x := ⟨_, rfl⟩
  rw [hf1, hf2]
  have HF := Lib.hid (And.intro hf1 hf2)
  clear hl hn h hln hf1 hf2
  by_cases h0 : n = 0
  · subst h0
    have hz : f1 = 0 ∧ f2 = 2 := by
      have h1 := HL.out.2.2
      have h2 := HF.out
      rw [List.eq_nil_of_length_eq_zero h1] at h2
      exact ⟨by rw [← h2.1]; rfl, by rw [← h2.2]; rfl⟩
    obtain ⟨rfl, rfl⟩ := hz
    go_enter Tryz.func72, Tryz.ntmps72
    go_wp2_with fail
    go_ret2
    exact ⟨rfl, Below.refl _ _⟩
  have hne : ((n : Int) == 0) = false := by rw [beq_eq_false_iff_ne]; omega
  go_enter Tryz.func72, Tryz.ntmps72
  go_wp2_with fail
  go_loopw [15] (fun i wr => ∃ k : Nat, i = .int .i64 (k : Int) ∧ k ≤ n ∧ Hid ((∀ r ∈ l.take k, r.ok = true) ∧ Below w.heap.size w wr)) (fun i _ => n - (intOf i).toNat)
  case atStart => exact ⟨0, rfl, by omega, Lib.hid ⟨fun r hr => by simp at hr, Below.refl _ _⟩⟩
  case round =>
    obtain ⟨k, rfl, hk, HR⟩ := hrel
    by_cases hlt : k < n
    · have hkx : k < xs.length := by rw [HL.out.2.1]; exact hlt
      have hkl : k < l.length := by rw [HL.out.2.2]; exact hlt
      obtain ⟨g, off, ka, kc, va, vc, rfl, -, -, c0, c1, c2⟩ := (H.out.below HR.out.2).cells HL.out.2.1 hkx
      have hrx : xs[k].r = l[k] := by simp [← HL.out.1]
      rw [hrx] at c0 c1 c2
      obtain ⟨r, hr⟩ : ∃ r, l[k] = r := ⟨_, rfl⟩
      rw [hr] at c0 c1 c2
      obtain ⟨rt, hrt⟩ : ∃ x, r.time = x := ⟨_, rfl⟩
      obtain ⟨rk, hrk⟩ : ∃ x, r.key.length = x := ⟨_, rfl⟩
      obtain ⟨rv, hrv⟩ : ∃ x, r.val.length = x := ⟨_, rfl⟩
      rw [hrt] at c0
      rw [hrk] at c1
      rw [hrv] at c2
      obtain ⟨q, hq⟩ : ∃ q, mayV rt rk rv = q := ⟨_, rfl⟩
      have HQ : Hid (r.ok = q ∧ l[k]? = some r) := Lib.hid ⟨by rw [← mayV_ok, hrt, hrk, hrv]; exact hq, by rw [List.getElem?_eq_getElem hkl, hr]⟩
      have HM := Lib.hid (fun (W : World) => may_b (w := W) (t := rt) (oa := ka) (ob := va) (n := rk) (c := kc) (m := rv) (d := vc))
      rw [hq] at HM
      obtain ⟨w1, hw1⟩ : ∃ W : World, W = wr.alloc (.cells #[.int .i64 rt, .slice ka rk kc, .slice va rv vc] 150) := ⟨_, rfl⟩
      obtain ⟨b5, hb5⟩ : ∃ b, b = wr.heap.size := ⟨_, rfl⟩
      have h5 : w1.heap[b5]? = some (.cells #[.int .i64 rt, .slice ka rk kc, .slice va rv vc] 150 (0, 0)) := by rw [hw1, hb5]; exact alloc_cells _ _ _
      have hb1 : Below wr.heap.size wr w1 := by rw [hw1]; exact (Below.refl _ _).alloc (Nat.le_refl _) _
      have d0 : w1.cell? ⟨b5, 0, none⟩ = some (.int .i64 rt) := cell_of h5 rfl
      have d1 : w1.cell? ⟨b5, 1, none⟩ = some (.slice ka rk kc) := cell_of h5 rfl
      have d2 : w1.cell? ⟨b5, 2, none⟩ = some (.slice va rv vc) := cell_of h5 rfl
      have HB := Lib.hid hb1
      clear hkx hkl hrx hr hrt hrk hrv hq h5 hb1
      go_upto_region 6 with fail
      rw [← hw1, ← hb5]
      clear hw1 hb5
      go_wp2_with fail
      refine (HM.out _).mono ?_
      rintro e w2 ⟨rfl, hb2⟩
      have HB2 := Lib.hid (HR.out.2.trans ((HB.out.trans (hb2.mono HB.out.size)).mono HR.out.2.size))
      clear hb2
      cases q with
      | false =>
        have hz : f1 = 0 ∧ f2 = 2 := by
          have hkl : k < l.length := by rw [HL.out.2.2]; exact hlt
          have h1 : l.any (fun r => !r.ok) = true := List.any_eq_true.2 ⟨r, List.mem_of_getElem? HQ.out.2, by rw [HQ.out.1]; rfl⟩
          have h2 : l ≠ [] := fun e => by rw [e] at hkl; simp at hkl
          have h3 := HF.out
          unfold fitsT at h3
          rw [if_neg h2, if_pos h1] at h3
          exact ⟨h3.1.symm, h3.2.symm⟩
        obtain ⟨rfl, rfl⟩ := hz
        go_wp2_with fail
        go_ret2
        exact ⟨rfl, HB2.out⟩
      | true =>
        go_wp2_with fail
        refine ⟨⟨k + 1, by simp, by omega, Lib.hid ⟨fun x hx => ?_, HB2.out⟩⟩, by simp [intOf]; omega⟩
        rw [List.take_add_one, HQ.out.2] at hx
        rcases List.mem_append.1 hx with hx | hx
        · exact HR.out.1 x hx
        · rw [Option.toList_some, List.mem_singleton] at hx
          rw [hx]
          exact HQ.out.1
    · obtain rfl : k = n := by omega
      have hall : ∀ r ∈ l, r.ok = true := fun r hr => HR.out.1 r (by rw [List.take_of_length_le (by rw [HL.out.2.2]; exact Nat.le_refl _)]; exact hr)
      have HA := Lib.hid hall
      clear hall
      have HBW := Lib.hid HR.out.2
      have hfit : fitsT l = if 256 < l.length then (0, 8) else if 65536 < rcsSize l then (0, 8) else (rcsSize l, 0) := by
        have h2 : l ≠ [] := fun e => by have := HL.out.2.2; rw [e] at this; simp at this; omega
        have h1 : l.any (fun r => !r.ok) = false := List.any_eq_false.2 (fun r hr => by rw [HA.out r hr]; simp)
        unfold fitsT
        rw [if_neg h2, if_neg (by rw [h1]; simp)]
      rw [hfit, HL.out.2.2] at HF
      clear hfit HR hlt hk
      by_cases h256 : 256 < k
      · have hz : f1 = 0 ∧ f2 = 8 := by
          have h3 := HF.out
          rw [if_pos h256] at h3
          exact ⟨h3.1.symm, h3.2.symm⟩
        obtain ⟨rfl, rfl⟩ := hz
        have hd : decide ((256 : Int) < (k : Int)) = true := decide_eq_true (by omega)
        go_wp2_with fail
        go_ret2
        exact ⟨rfl, HBW.out⟩
      · have hd : decide ((256 : Int) < (k : Int)) = false := decide_eq_false (by omega)
        have HF2 : Hid ((f1 : Int) = (if 65536 < rcsSize l then 0 else (rcsSize l : Int)) ∧ f2 = if 65536 < rcsSize l then 8 else 0) := Lib.hid (by
          have h3 := HF.out
          rw [if_neg h256] at h3
          split at h3
          · rename_i h4
            rw [if_pos h4, if_pos h4]
            exact ⟨by rw [← h3.1]; rfl, h3.2.symm⟩
          · rename_i h4
            rw [if_neg h4, if_neg h4]
            exact ⟨by rw [← h3.1], h3.2.symm⟩)
        obtain ⟨w6, hw6⟩ : ∃ W : World, W = wr.alloc (.cells #[.int .i64 20] 3) := ⟨_, rfl⟩
        obtain ⟨b6, hb6⟩ : ∃ b, b = wr.heap.size := ⟨_, rfl⟩
        have h66 : w6.heap[b6]? = some (.cells #[.int .i64 ((20 : Nat) : Int)] 3 (0, 0)) := by rw [hw6, hb6]; exact alloc_cells _ _ _
        have hbw6 : Below w.heap.size w w6 := HBW.out.trans ((by rw [hw6]; exact (Below.refl _ _).alloc (Nat.le_refl _) _ : Below wr.heap.size wr w6).mono HBW.out.size)
        have hb6w : w.heap.size ≤ b6 := by rw [hb6]; exact HBW.out.size
        have H6 := Lib.hid (And.intro h66 (And.intro hbw6 hb6w))
        go_upto_region 12 with fail
        rw [← hw6, ← hb6]
        clear hw6 hb6 h66 hbw6 hb6w HF HBW
        go_wp2_with fail
        go_loopw [29] (fun i wi => ∃ j : Nat, i = .int .i64 (j : Int) ∧ j ≤ k ∧ Hid (wi.heap[b6]? = some (.cells #[.int .i64 (rcsSize (l.take j) : Int)] 3 (0, 0)) ∧ Below w.heap.size w wi)) (fun i _ => k - (intOf i).toNat)
        case atStart => exact ⟨0, rfl, by omega, Lib.hid ⟨by simpa [rcsSize] using H6.out.1, H6.out.2.1⟩⟩
        case round =>
          obtain ⟨j, rfl, hj, HI⟩ := hrel
          by_cases hlt : j < k
          · have hkx : j < xs.length := by rw [HL.out.2.1]; exact hlt
            have hkl : j < l.length := by rw [HL.out.2.2]; exact hlt
            obtain ⟨g, off, ka, kc, va, vc, rfl, -, -, c0, c1, c2⟩ := (H.out.below HI.out.2).cells HL.out.2.1 hkx
            have hrx : xs[j].r = l[j] := by simp [← HL.out.1]
            rw [hrx] at c0 c1 c2
            have hrs := rcsSize_take hkl
            have hok := HA.out l[j] (List.getElem_mem hkl)
            obtain ⟨r, hr⟩ : ∃ r, l[j] = r := ⟨_, rfl⟩
            rw [hr] at c0 c1 c2 hrs hok
            unfold Rc.ok at hok
            simp only [Bool.and_eq_true, decide_eq_true_eq] at hok
            have hsz : r.size = 12 + r.key.length + r.val.length := rfl
            rw [hsz] at hrs
            obtain ⟨rt, hrt⟩ : ∃ x, r.time = x := ⟨_, rfl⟩
            obtain ⟨rk, hrk⟩ : ∃ x, r.key.length = x := ⟨_, rfl⟩
            obtain ⟨rv, hrv⟩ : ∃ x, r.val.length = x := ⟨_, rfl⟩
            rw [hrt] at c0
            rw [hrk] at c1 hrs
            rw [hrv] at c2 hrs
            have hsm := rcsSize_max (l.take j) (fun x hx => HA.out x (List.mem_of_mem_take hx))
            rw [List.length_take] at hsm
            obtain ⟨s, hs⟩ : ∃ s, rcsSize (l.take j) = s := ⟨_, rfl⟩
            rw [hs] at hrs hsm HI
            have hsm' : s ≤ 1000000000 := by omega
            have hrk' : rk ≤ 1000000000 := by omega
            have hrv' : rv ≤ 1000000000 := by omega
            obtain ⟨w1, hw1⟩ : ∃ W : World, W = wr.alloc (.cells #[.int .i64 rt, .slice ka rk kc, .slice va rv vc] 150) := ⟨_, rfl⟩
            obtain ⟨b5, hb5⟩ : ∃ b, b = wr.heap.size := ⟨_, rfl⟩
            have h5 : w1.heap[b5]? = some (.cells #[.int .i64 rt, .slice ka rk kc, .slice va rv vc] 150 (0, 0)) := by rw [hw1, hb5]; exact alloc_cells _ _ _
            have hb1 : Below wr.heap.size wr w1 := by rw [hw1]; exact (Below.refl _ _).alloc (Nat.le_refl _) _
            have hb61 := (hb1.block b6 (Array.getElem?_eq_some_iff.1 HI.out.1).1).trans HI.out.1
            have HC := Lib.hid (fits1_b (t := rt) (oa := ka) (ob := va) (n := rk) (c := kc) (m := rv) (d := vc) hb61 hsm' hrk' hrv')
            have d0 : w1.cell? ⟨b5, 0, none⟩ = some (.int .i64 rt) := cell_of h5 rfl
            have d1 : w1.cell? ⟨b5, 1, none⟩ = some (.slice ka rk kc) := cell_of h5 rfl
            have d2 : w1.cell? ⟨b5, 2, none⟩ = some (.slice va rv vc) := cell_of h5 rfl
            have HB := Lib.hid (And.intro hb1 hrs)
            clear hkx hkl hrx hr hrt hrk hrv h5 hb1 hsz hok hsm hsm' hrk' hrv' hb61 hs hrs
            go_upto_region 16 with fail
            rw [← hw1, ← hb5]
            clear hw1 hb5
            go_wp2_with fail
            refine HC.out.mono ?_
            rintro e w2 ⟨rfl, hc2, ho2⟩
            have HE := Lib.hid (And.intro hc2 (HI.out.2.trans (HB.out.1.mono HI.out.2.size) |>.trans (ho2.below (fun i hi e => by have := H6.out.2.2; omega) (HI.out.2.trans (HB.out.1.mono HI.out.2.size)).size)))
            clear hc2 ho2
            go_wp2_with fail
            refine ⟨⟨j + 1, by simp, by omega, Lib.hid ⟨by rw [HB.out.2]; exact HE.out.1, HE.out.2⟩⟩, by simp [intOf]; omega⟩
          · obtain rfl : j = k := by omega
            have htk : l.take j = l := List.take_of_length_le (by rw [HL.out.2.2]; exact Nat.le_refl _)
            have hi1 := HI.out.1
            rw [htk] at hi1
            obtain ⟨s, hs⟩ : ∃ s, rcsSize l = s := ⟨_, rfl⟩
            rw [hs] at hi1 HF2
            have c6 : wr.cell? ⟨b6, 0, none⟩ = some (.int .i64 (s : Int)) := cell_of hi1 rfl
            have HBI := Lib.hid HI.out.2
            clear htk hi1 hs HI hlt hj
            by_cases hbig : 65536 < s
            · have hdb : decide ((65536 : Int) < (s : Int)) = true := decide_eq_true (by omega)
              have hz : f1 = 0 ∧ f2 = 8 := by
                have h3 := HF2.out
                rw [if_pos hbig, if_pos hbig] at h3
                exact ⟨by have := h3.1; omega, h3.2⟩
              obtain ⟨rfl, rfl⟩ := hz
              go_wp2_with fail
              go_ret2
              exact ⟨rfl, HBI.out⟩
            · have hdb : decide ((65536 : Int) < (s : Int)) = false := decide_eq_false (by omega)
              have hz : f1 = s ∧ f2 = 0 := by
                have h3 := HF2.out
                rw [if_neg hbig, if_neg hbig] at h3
                exact ⟨by have := h3.1; omega, h3.2⟩
              obtain ⟨rfl, rfl⟩ := hz
              go_wp2_with fail
              go_ret2
              exact ⟨rfl, HBI.out⟩
end Go.Proofs.YtlgcoaeddeiegaaGreat
