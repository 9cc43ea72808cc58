/- Real: the key of 1. -/
import Derived.Test.YthfgjibhpenfkaaDoorRa
namespace Go.Proofs.YthfgjibhpenfkaaDoor
open Go.RowKit Fl

theorem place_1 : placeW 4607182418800017408 = 13830554455654793216 := by decide +kernel
theorem cells8 {W : World} {A : Nat} {a b c d e f g h : Value} {T : TypeId} (q : W.heap[A]? = some (.cells #[a, b, c, d, e, f, g, h] T (0, 0))) :
    W.cell? ⟨A, 0, none⟩ = some a ∧ W.cell? ⟨A, 1, none⟩ = some b ∧ W.cell? ⟨A, 2, none⟩ = some c ∧ W.cell? ⟨A, 3, none⟩ = some d ∧ W.cell? ⟨A, 4, none⟩ = some e ∧ W.cell? ⟨A, 5, none⟩ = some f ∧ W.cell? ⟨A, 6, none⟩ = some g ∧ W.cell? ⟨A, 7, none⟩ = some h ∧ ∀ k, W.frozen? ⟨A, k, none⟩ = false := by
  refine ⟨?_, ?_, ?_, ?_, ?_, ?_, ?_, ?_, fun k => ?_⟩ <;> simp [World.cell?, World.frozen?, q]
/-- what stands at the head of a round: c bytes are still to come -/
def KeyAt (w wx : World) (cs : Array Value) : Prop := wx.heap[w.heap.size + 1]? = some (.cells cs 31 (0, 0)) ∧ wx.heap[w.heap.size]? = some (.cells #[.int .u8 0, .int .u8 0, .int .u8 0, .int .u8 0, .int .u8 0, .int .u8 0, .int .u8 0, .int .u8 0] 31 (0, 0)) ∧ Below w.heap.size w wx
theorem keyAt_set {w wx : World} {cs cs' : Array Value} (h : KeyAt w wx cs) (k : Nat) (v : Value) (e : cs.set! k v = cs') : KeyAt w (wx.setCell ⟨w.heap.size + 1, k, none⟩ v) cs' := by
  refine ⟨?_, ?_, h.2.2.os, h.2.2.tape, h.2.2.output, by simpa [World.setCell] using h.2.2.size, fun j hj => ?_⟩
  · show (wx.heap.modify (w.heap.size + 1) _)[w.heap.size + 1]? = _
    rw [Array.getElem?_modify, if_pos rfl, h.1, ← e]
    rfl
  · show (wx.heap.modify (w.heap.size + 1) _)[w.heap.size]? = _
    rw [Array.getElem?_modify, if_neg (by omega)]
    exact h.2.1
  · show (wx.heap.modify (w.heap.size + 1) _)[j]? = _
    rw [Array.getElem?_modify, if_neg (by omega)]
    exact h.2.2.block j hj
theorem set_row {W : World} {A : Nat} {cs : Array Value} {T : TypeId} (h : W.heap[A]? = some (.cells cs T (0, 0))) (k : Nat) (v : Value) : (W.setCell ⟨A, k, none⟩ v).heap[A]? = some (.cells (cs.set! k v) T (0, 0)) := by
  show (W.heap.modify A _)[A]? = _
  rw [Array.getElem?_modify, if_pos rfl, h]
  rfl
theorem _root_.Go.RowKit.Below.set1 {n : Nat} {w w' : World} (h : Below n w w') (a : Addr) (v : Value) (ha : n ≤ a.block) : Below n w (w'.setCell a v) :=
  ⟨h.os, h.tape, h.output, by simpa [World.setCell] using h.size, fun k hk => by
    show (w'.heap.modify a.block _)[k]? = _
    rw [Array.getElem?_modify, if_neg (by omega)]
    exact h.block k hk⟩
set_option maxRecDepth 100000 in
set_option maxHeartbeats 1000000 in
theorem key_1 (w : World) : Calls Tryd.prog 12 #[.float .f64 4607182418800017408] w fun e w' => e = .returned (.agg #[.int .u8 191, .int .u8 240, .int .u8 0, .int .u8 0, .int .u8 0, .int .u8 0, .int .u8 0, .int .u8 0]) ∧ Below w.heap.size w w' := by
  go_enter Tryd.func12, Tryd.ntmps12
  go_wp2_with fail
  refine (rplace_any 4607182418800017408 _ (by decide)).mono ?_
  rintro e w' ⟨rfl, rfl⟩
  rw [place_1]
  go_wp2_with fail
  go_loopg [4, 5] 8 (fun g s4 s5 wx => (g = 8 ∧ s4 = .int .u64 13830554455654793216 ∧ s5 = .int .i64 (7) ∧ Hid (KeyAt w wx #[.int .u8 0, .int .u8 0, .int .u8 0, .int .u8 0, .int .u8 0, .int .u8 0, .int .u8 0, .int .u8 0])) ∨
    (g = 7 ∧ s4 = .int .u64 54025603342401536 ∧ s5 = .int .i64 (6) ∧ Hid (KeyAt w wx #[.int .u8 0, .int .u8 0, .int .u8 0, .int .u8 0, .int .u8 0, .int .u8 0, .int .u8 0, .int .u8 0])) ∨
    (g = 6 ∧ s4 = .int .u64 211037513056256 ∧ s5 = .int .i64 (5) ∧ Hid (KeyAt w wx #[.int .u8 0, .int .u8 0, .int .u8 0, .int .u8 0, .int .u8 0, .int .u8 0, .int .u8 0, .int .u8 0])) ∨
    (g = 5 ∧ s4 = .int .u64 824365285376 ∧ s5 = .int .i64 (4) ∧ Hid (KeyAt w wx #[.int .u8 0, .int .u8 0, .int .u8 0, .int .u8 0, .int .u8 0, .int .u8 0, .int .u8 0, .int .u8 0])) ∨
    (g = 4 ∧ s4 = .int .u64 3220176896 ∧ s5 = .int .i64 (3) ∧ Hid (KeyAt w wx #[.int .u8 0, .int .u8 0, .int .u8 0, .int .u8 0, .int .u8 0, .int .u8 0, .int .u8 0, .int .u8 0])) ∨
    (g = 3 ∧ s4 = .int .u64 12578816 ∧ s5 = .int .i64 (2) ∧ Hid (KeyAt w wx #[.int .u8 0, .int .u8 0, .int .u8 0, .int .u8 0, .int .u8 0, .int .u8 0, .int .u8 0, .int .u8 0])) ∨
    (g = 2 ∧ s4 = .int .u64 49136 ∧ s5 = .int .i64 (1) ∧ Hid (KeyAt w wx #[.int .u8 0, .int .u8 0, .int .u8 0, .int .u8 0, .int .u8 0, .int .u8 0, .int .u8 0, .int .u8 0])) ∨
    (g = 1 ∧ s4 = .int .u64 191 ∧ s5 = .int .i64 (0) ∧ Hid (KeyAt w wx #[.int .u8 0, .int .u8 240, .int .u8 0, .int .u8 0, .int .u8 0, .int .u8 0, .int .u8 0, .int .u8 0])) ∨
    (g = 0 ∧ s4 = .int .u64 0 ∧ s5 = .int .i64 (-1) ∧ Hid (KeyAt w wx #[.int .u8 191, .int .u8 240, .int .u8 0, .int .u8 0, .int .u8 0, .int .u8 0, .int .u8 0, .int .u8 0])))
  case atStart =>
    refine .inl ⟨rfl, rfl, rfl, Lib.hid ⟨?_, ?_, ?_⟩⟩
    · rw [show w.heap.size + 1 = (w.alloc (.cells #[.int .u8 0, .int .u8 0, .int .u8 0, .int .u8 0, .int .u8 0, .int .u8 0, .int .u8 0, .int .u8 0] 31)).heap.size by simp]; exact heap_alloc_new _ _
    · exact (Below.heap_alloc _ _ _ (by simp)).trans (heap_alloc_new w _)
    · exact ((Below.refl w.heap.size w).alloc (Nat.le_refl _) _).alloc (by simp) _
  case round =>
    have hne : ¬ w.heap.size = w.heap.size + 1 := by omega
    rcases hrel with ⟨hg, rfl, rfl, HI⟩ | ⟨hg, rfl, rfl, HI⟩ | ⟨hg, rfl, rfl, HI⟩ | ⟨hg, rfl, rfl, HI⟩ | ⟨hg, rfl, rfl, HI⟩ | ⟨hg, rfl, rfl, HI⟩ | ⟨hg, rfl, rfl, HI⟩ | ⟨hg, rfl, rfl, HI⟩ | ⟨hg, rfl, rfl, HI⟩
    · obtain ⟨c0, c1, c2, c3, c4, c5, c6, c7, cfr⟩ := cells8 HI.out.1
      go_wp2_with fail
      go_roundg 7
      case measure => omega
      case rel => exact .inr (.inl ⟨rfl, rfl, rfl, Lib.hid (keyAt_set HI.out 7 _ rfl)⟩)
    · obtain ⟨c0, c1, c2, c3, c4, c5, c6, c7, cfr⟩ := cells8 HI.out.1
      go_wp2_with fail
      go_roundg 6
      case measure => omega
      case rel => exact .inr (.inr (.inl ⟨rfl, rfl, rfl, Lib.hid (keyAt_set HI.out 6 _ rfl)⟩))
    · obtain ⟨c0, c1, c2, c3, c4, c5, c6, c7, cfr⟩ := cells8 HI.out.1
      go_wp2_with fail
      go_roundg 5
      case measure => omega
      case rel => exact .inr (.inr (.inr (.inl ⟨rfl, rfl, rfl, Lib.hid (keyAt_set HI.out 5 _ rfl)⟩)))
    · obtain ⟨c0, c1, c2, c3, c4, c5, c6, c7, cfr⟩ := cells8 HI.out.1
      go_wp2_with fail
      go_roundg 4
      case measure => omega
      case rel => exact .inr (.inr (.inr (.inr (.inl ⟨rfl, rfl, rfl, Lib.hid (keyAt_set HI.out 4 _ rfl)⟩))))
    · obtain ⟨c0, c1, c2, c3, c4, c5, c6, c7, cfr⟩ := cells8 HI.out.1
      go_wp2_with fail
      go_roundg 3
      case measure => omega
      case rel => exact .inr (.inr (.inr (.inr (.inr (.inl ⟨rfl, rfl, rfl, Lib.hid (keyAt_set HI.out 3 _ rfl)⟩)))))
    · obtain ⟨c0, c1, c2, c3, c4, c5, c6, c7, cfr⟩ := cells8 HI.out.1
      go_wp2_with fail
      go_roundg 2
      case measure => omega
      case rel => exact .inr (.inr (.inr (.inr (.inr (.inr (.inl ⟨rfl, rfl, rfl, Lib.hid (keyAt_set HI.out 2 _ rfl)⟩))))))
    · obtain ⟨c0, c1, c2, c3, c4, c5, c6, c7, cfr⟩ := cells8 HI.out.1
      go_wp2_with fail
      go_roundg 1
      case measure => omega
      case rel => exact .inr (.inr (.inr (.inr (.inr (.inr (.inr (.inl ⟨rfl, rfl, rfl, Lib.hid (keyAt_set HI.out 1 _ rfl)⟩)))))))
    · obtain ⟨c0, c1, c2, c3, c4, c5, c6, c7, cfr⟩ := cells8 HI.out.1
      go_wp2_with fail
      go_roundg 0
      case measure => omega
      case rel => exact .inr (.inr (.inr (.inr (.inr (.inr (.inr (.inr ⟨rfl, rfl, rfl, Lib.hid (keyAt_set HI.out 0 _ rfl)⟩)))))))
    · obtain ⟨c0, c1, c2, c3, c4, c5, c6, c7, cfr⟩ := cells8 HI.out.1
      obtain ⟨d0, d1, d2, d3, d4, d5, d6, d7, dfr⟩ := cells8 HI.out.2.1
      go_wp2_with fail
      have hfin := set_row (set_row (set_row (set_row (set_row (set_row (set_row (set_row HI.out.2.1 0 (.int .u8 191)) 1 (.int .u8 240)) 2 (.int .u8 0)) 3 (.int .u8 0)) 4 (.int .u8 0)) 5 (.int .u8 0)) 6 (.int .u8 0)) 7 (.int .u8 0)
      have hbel := (((((((HI.out.2.2.set1 ⟨w.heap.size, 0, none⟩ (.int .u8 191) (Nat.le_refl _)).set1 ⟨w.heap.size, 1, none⟩ (.int .u8 240) (Nat.le_refl _)).set1 ⟨w.heap.size, 2, none⟩ (.int .u8 0) (Nat.le_refl _)).set1 ⟨w.heap.size, 3, none⟩ (.int .u8 0) (Nat.le_refl _)).set1 ⟨w.heap.size, 4, none⟩ (.int .u8 0) (Nat.le_refl _)).set1 ⟨w.heap.size, 5, none⟩ (.int .u8 0) (Nat.le_refl _)).set1 ⟨w.heap.size, 6, none⟩ (.int .u8 0) (Nat.le_refl _)).set1 ⟨w.heap.size, 7, none⟩ (.int .u8 0) (Nat.le_refl _)
      obtain ⟨wf, hwf⟩ : ∃ x, x = ((((((((wr.setCell ⟨w.heap.size, 0, none⟩ (.int .u8 191)).setCell ⟨w.heap.size, 1, none⟩ (.int .u8 240)).setCell ⟨w.heap.size, 2, none⟩ (.int .u8 0)).setCell ⟨w.heap.size, 3, none⟩ (.int .u8 0)).setCell ⟨w.heap.size, 4, none⟩ (.int .u8 0)).setCell ⟨w.heap.size, 5, none⟩ (.int .u8 0)).setCell ⟨w.heap.size, 6, none⟩ (.int .u8 0)).setCell ⟨w.heap.size, 7, none⟩ (.int .u8 0)) := ⟨_, rfl⟩
      rw [← hwf] at hfin hbel ⊢
      have hfin2 : wf.heap[w.heap.size]? = some (.cells #[.int .u8 191, .int .u8 240, .int .u8 0, .int .u8 0, .int .u8 0, .int .u8 0, .int .u8 0, .int .u8 0] 31 (0, 0)) := hfin
      obtain ⟨f0, f1, f2, f3, f4, f5, f6, f7, -⟩ := cells8 hfin2
      exact bodyPost_ret (v := .agg #[.int .u8 191, .int .u8 240, .int .u8 0, .int .u8 0, .int .u8 0, .int .u8 0, .int .u8 0, .int .u8 0]) (by simp [results, Tryd.results12, go_sem, f0, f1, f2, f3, f4, f5, f6, f7]) rfl ⟨rfl, hbel⟩
end Go.Proofs.YthfgjibhpenfkaaDoor
