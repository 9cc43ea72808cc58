/- The texts Km in one. -/
import Derived.Test.YtmkjejngnahpeaaC1
/- stops: Plain of a disk that is there; refused picks. -/
namespace Go.Proofs.Ytmkjejngnahpeaa
open Go Go.Maps Go.RowKit

/-- what a region that draws holds of the world: one cell -/
theorem hold1 {w W W' : World} {b : Nat} {x : Value} (h : W.cell? ⟨b, 0, none⟩ = some x ∧ Below w.heap.size w W ∧ b < W.heap.size) (hb : Below W.heap.size W W') : W'.cell? ⟨b, 0, none⟩ = some x ∧ Below w.heap.size w W' ∧ b < W'.heap.size :=
  ⟨(hb.cell (p := ⟨b, 0, none⟩) h.2.2).trans h.1, h.2.1.trans (hb.mono h.2.1.size), Nat.lt_of_lt_of_le h.2.2 hb.size⟩
theorem hold1_drew {w W : World} {b : Nat} {x : Value} (h : W.cell? ⟨b, 0, none⟩ = some x ∧ Below w.heap.size w W ∧ b < W.heap.size) : W.drew.cell? ⟨b, 0, none⟩ = some x ∧ Below w.heap.size w W.drew ∧ b < W.drew.heap.size := hold1 h ⟨rfl, rfl, rfl, Nat.le_refl _, fun _ _ => rfl⟩
theorem hold1_below {w W : World} {b : Nat} {x : Value} (h : W.cell? ⟨b, 0, none⟩ = some x ∧ Below w.heap.size w W ∧ b < W.heap.size) : Below w.heap.size w W := h.2.1
/-- a row of numbers does not lie in a slice's box -/
theorem readAt.not_box {w : World} {oa : Option Addr} {n c b : Nat} {l : List Nat} {u : Value} {t : TypeId} {fr : Nat × Nat} (h : readAt w 1 (.slice oa n c) n (natCells l)) (h0 : 0 < n) (hb : w.heap[b]? = some (.cells #[u] t fr)) (hu : ∀ x : Int, u ≠ .int .i64 x) :
    ∀ k, (Value.slice oa n c).ownBlock = some k → k ≠ b := fun k hk e => by
  subst e
  have hl : l.length = n := by
    have := h.1
    unfold natCells at this
    rw [List.length_map, Nat.mul_one] at this
    exact this
  obtain ⟨g, off, rfl⟩ := h.addr h0
  simp only [Value.ownBlock, Option.some.injEq] at hk
  subst hk
  have hc : w.cell? ⟨g, off + 0, none⟩ = some (.int .i64 ((l[0]'(by omega) : Nat) : Int)) := h.cellAt (i := 0) (by unfold natCells; rw [List.getElem?_map, List.getElem?_eq_getElem (by omega)]; rfl)
  unfold World.cell? at hc
  simp only [hb] at hc
  cases off with
  | zero => exact hu _ (by simpa using hc)
  | succ m => simp at hc
/-- what Plain answers -/
def PlainIs (w : World) (d : Dk) (ps : List Int) (e : Ending) (w' : World) : Prop :=
  (AllGe ps ∧ ∃ o1 m1 c1, e = .returned (.tuple #[.agg #[.slice o1 m1 c1], .int .i64 0]) ∧ (plainT (unsT d.files) ps).out.length = m1 ∧ readAt w' 1 (.slice o1 m1 c1) m1 (natCells (plainT (unsT d.files) ps).out) ∧ Below w.heap.size w w') ∨
  (¬ AllGe ps ∧ e = .returned (.tuple #[.agg #[.slice none 0 0], .int .i64 2]) ∧ Below w.heap.size w w')
set_option maxRecDepth 100000 in
set_option maxHeartbeats 4000000 in
theorem sPlain_b {w : World} {S : Nat → Prop} {q : Nat} {d : Dk} (h : DiskAt w S q d) (hfm : d.fates.length ≤ 1000000000) {oa : Option Addr} {n c : Nat} {ps : List Int} (hn : ps.length = n) (hp : readAt w 1 (.slice oa n c) n (intCells ps)) (hm : n ≤ 1000000000) (hmx : ∀ x ∈ ps, x ≤ 9223372036854775807) :
    Calls Try.prog 75 #[.pointer (some ⟨q, 0, none⟩), .agg #[.slice oa n c]] w fun e w' => PlainIs w d ps e w' := by
  have HMX := Lib.hid hmx
  have HNN := Lib.hid hn
  obtain ⟨w1, hw1⟩ : ∃ W : World, W = (w.alloc (.cells #[.slice oa n c] 72)).alloc (.cells #[.slice none 0 0] 72) := ⟨_, rfl⟩
  obtain ⟨b3, hb3⟩ : ∃ b, b = w.heap.size := ⟨_, rfl⟩
  obtain ⟨b4, hb4⟩ : ∃ b, b = w.heap.size + 1 := ⟨_, rfl⟩
  have hb1 : Below w.heap.size w w1 := by rw [hw1]; exact ((Below.refl _ _).alloc (Nat.le_refl _) _).alloc (by simp) _
  have h3 : w1.heap[b3]? = some (.cells #[.slice oa n c] 72 (0, 0)) := by
    rw [hw1, hb3]
    exact (Below.heap_alloc _ _ _ (by simp)).trans (alloc_cells _ _ _)
  have h4 : w1.heap[b4]? = some (.cells #[.slice none 0 0] 72 (0, 0)) := by
    rw [hw1, hb4]
    have := alloc_cells (w.alloc (.cells #[.slice oa n c] 72)) #[.slice none 0 0] 72
    rwa [World.size_alloc] at this
  have c3 : w1.cell? ⟨b3, 0, none⟩ = some (.slice oa n c) := cell_of h3 rfl
  have H := Lib.hid (And.intro (h.below hb1) (And.intro hb1 (And.intro h3 (And.intro h4 (show w.heap.size ≤ b4 by omega)))))
  have HP := Lib.hid (hp.kept (fun k hk _ _ => hb1.block k hk))
  have HZ := Lib.hid h.sizes
  have HLO : Hid (w.heap.size ≤ b4) := Lib.hid (by omega)
  clear h hp hb1 h3 h4 hmx hn
  go_enter Try.func75, Try.ntmps75
  go_upto_region 1 with fail
  rw [← hw1, ← hb4, ← hb3]
  clear hw1 hb3 hb4
  go_wp2_with fail
  refine (sright_b H.out.1 hfm HNN.out HP.out hm).mono ?_
  rintro e w2 ⟨er, rfl, her, her2, hb2⟩
  have h32 := (hb2.block b3 (Array.getElem?_eq_some_iff.1 H.out.2.2.1).1).trans H.out.2.2.1
  have h42 := (hb2.block b4 (Array.getElem?_eq_some_iff.1 H.out.2.2.2.1).1).trans H.out.2.2.2.1
  have H2 := Lib.hid (And.intro (H.out.1.below hb2) (And.intro (H.out.2.1.trans (hb2.mono H.out.2.1.size)) (And.intro h32 h42)))
  have HP2 := Lib.hid (HP.out.kept (fun k hk _ _ => hb2.block k hk))
  by_cases hge : AllGe ps
  · obtain rfl := her hge
    have HOK : Hid (PicksOk ps) := Lib.hid (fun x hx => ⟨hge x hx, HMX.out x hx⟩)
    have HGE := Lib.hid hge
    obtain ⟨l, hl⟩ : ∃ l, unsT d.files = l := ⟨_, rfl⟩
    have hmore := unsT_more (l := d.files) (fun f hf => (HZ.out.2 f hf).2)
    have hlen := unsT_len d.files
    have hl4 : l.length ≤ 4096 := by rw [← hl]; have := HZ.out.1; omega
    rw [hl] at hmore
    have HALL : Hid (∀ W, Below w2.heap.size w2 W → Calls Try.prog 135 #[.pointer (some ⟨q, 0, none⟩)] W fun e w' => ∃ o1 m1 c1, e = .returned (.slice o1 m1 c1) ∧ Hid (l.length = m1 ∧ rowAt w' 213 2 (.slice o1 m1 c1) m1 (uCells l) ∧ Below W.heap.size W w')) := Lib.hid (fun W hb => by
      refine (sall_b (H2.out.1.below hb)).mono ?_
      rintro e w' ⟨o1, m1, c1, rfl, h1, h2, h3⟩
      rw [hl] at h1 h2
      exact ⟨o1, m1, c1, rfl, Lib.hid ⟨h1, h2, h3⟩⟩)
    have HPLN : Hid (∀ X W V o1 m1 c1, Hid (l.length = m1 ∧ rowAt W 213 2 (.slice o1 m1 c1) m1 (uCells l) ∧ Below V.heap.size V W) → Below w2.heap.size w2 V → Below W.heap.size W X → Calls Try.prog 137 #[.slice o1 m1 c1, .slice oa n c] X fun e w' => ∃ p1 k1 d1 p2 k2 d2, e = .returned (.tuple #[.slice p1 k1 d1, .slice p2 k2 d2]) ∧ Hid ((plainT l ps).out.length = k1 ∧ readAt w' 1 (.slice p1 k1 d1) k1 (natCells (plainT l ps).out) ∧ Below w2.heap.size w2 w') ∧ Below X.heap.size X w') := Lib.hid (fun X W V o1 m1 c1 hh hV hX => by
      obtain ⟨h1, h2, h3⟩ := hh.out
      have hWX := hX
      have h2 := h2.kept (fun k hk => hWX.block k (h2.lt k hk))
      have h3 := h3.trans (hWX.mono h3.size)
      have hW : Below w2.heap.size w2 X := hV.trans (h3.mono hV.size)
      refine (plain_b h1 h2.read (by omega) hmore HNN.out (HP2.out.kept (fun k hk _ _ => hW.block k hk)) HOK.out).mono ?_
      rintro e w' ⟨p1, k1, d1, p2, k2, d2, rfl, g1, _, g2, _, g3⟩
      exact ⟨p1, k1, d1, p2, k2, d2, rfl, Lib.hid ⟨g1, g2, hW.trans (g3.mono hW.size)⟩, g3⟩)
    have HL := Lib.hid hl
    have hS : w2.cell? ⟨b3, 0, none⟩ = some (.slice oa n c) ∧ Below w2.heap.size w2 w2 ∧ b3 < w2.heap.size := ⟨cell_of h32 rfl, Below.refl _ _, (Array.getElem?_eq_some_iff.1 h32).1⟩
    clear her her2 hb2 c3 HP H hge hl hmore hlen h32 h42 hl4
    go_wp2_with fail
    go_region_held3 (fun W => W.cell? ⟨b3, 0, none⟩ = some (.slice oa n c) ∧ Below w2.heap.size w2 W ∧ b3 < W.heap.size)
      (first | assumption | exact hold1_drew (by assumption) | exact hold1 (by assumption) (by assumption) | exact hold1 (by assumption) HAX.out.2.2)
      (first | (go_at_call 135; refine (HALL.out _ (hold1_below (by assumption))).mono ?_; rintro e wa ⟨o1, m1, c1, rfl, HAX⟩; have hbax := HAX.out.2.2) | (go_at_call 137; refine (HPLN.out _ _ _ _ _ _ HAX ⟨rfl, rfl, rfl, Nat.le_refl _, fun _ _ => rfl⟩ ⟨rfl, rfl, rfl, Nat.le_refl _, fun _ _ => rfl⟩).mono ?_; rintro e wb ⟨p1, k1, d1, p2, k2, d2, rfl, HBX, hbbx⟩))
    all_goals
      have h4b := (HBX.out.2.2.block b4 (Array.getElem?_eq_some_iff.1 H2.out.2.2.2).1).trans H2.out.2.2.2
      have c4 : wb.cell? ⟨b4, 0, none⟩ = some (.slice none 0 0) := cell_of h4b rfl
      have z4 : wb.frozen? ⟨b4, 0, none⟩ = false := free_of h4b _
      have HB := Lib.hid h4b
      clear h4b hS
      go_wp2_with fail
      have hrr := cell_of (i := 0) (v := .slice p1 k1 d1) (heap_setCell_here (i := 0) (.slice p1 k1 d1) HB.out) rfl
      refine bodyPost_ret (v := .tuple #[.agg #[.slice p1 k1 d1], .int .i64 0]) (by simp [results, Try.results75, go_sem, hrr]) rfl (.inl ⟨HGE.out, p1, k1, d1, rfl, by rw [HL.out]; exact HBX.out.1, ?_, ?_⟩)
      · rw [HL.out]
        exact HBX.out.2.1.kept (fun k hk1 hk2 h0 => Below.heap_setCell _ _ _ _ (HBX.out.2.1.not_box h0 HB.out (fun x e => by cases e) k hk2))
      · exact (H2.out.2.1.trans (HBX.out.2.2.mono H2.out.2.1.size)).setCell (p := ⟨b4, 0, none⟩) HLO.out _
  · obtain rfl := her2 hge
    have c4 : w2.cell? ⟨b4, 0, none⟩ = some (.slice none 0 0) := cell_of h42 rfl
    have z4 : w2.frozen? ⟨b4, 0, none⟩ = false := free_of h42 _
    have HNG := Lib.hid hge
    clear her her2 hb2 c3 HP H hge h32 h42
    go_wp2_with fail
    have hrr := cell_of (i := 0) (v := .slice none 0 0) (heap_setCell_here (i := 0) (.slice none 0 0) H2.out.2.2.2) rfl
    exact bodyPost_ret (v := .tuple #[.agg #[.slice none 0 0], .int .i64 2]) (by simp [results, Try.results75, go_sem, hrr]) rfl (.inr ⟨HNG.out, rfl, H2.out.2.1.setCell (p := ⟨b4, 0, none⟩) HLO.out _⟩)
/-- .. and Number refuses such picks -/
theorem sNumber_bad {w : World} {S : Nat → Prop} {q : Nat} {d : Dk} (h : DiskAt w S q d) (hfm : d.fates.length ≤ 1000000000) {oa : Option Addr} {n c : Nat} {ps : List Int} (hn : ps.length = n) (hp : readAt w 1 (.slice oa n c) n (intCells ps)) (hm : n ≤ 1000000000) (hge : ¬ AllGe ps) :
    Calls Try.prog 76 #[.pointer (some ⟨q, 0, none⟩), .agg #[.slice oa n c]] w fun e w' => e = .returned (.tuple #[.int .i64 0, .int .i64 2]) ∧ Below w.heap.size w w' := by
  have HGE := Lib.hid hge
  have HNN := Lib.hid hn
  obtain ⟨w1, hw1⟩ : ∃ W : World, W = w.alloc (.cells #[.slice oa n c] 72) := ⟨_, rfl⟩
  obtain ⟨b3, hb3⟩ : ∃ b, b = w.heap.size := ⟨_, rfl⟩
  have h1 : w1.heap[b3]? = some (.cells #[.slice oa n c] 72 (0, 0)) := by rw [hw1, hb3]; exact alloc_cells _ _ _
  have hb1 : Below w.heap.size w w1 := by rw [hw1]; exact (Below.refl _ _).alloc (Nat.le_refl _) _
  have H := Lib.hid (And.intro (h.below hb1) (And.intro h1 hb1))
  have HP := Lib.hid (hp.kept (fun k hk _ _ => hb1.block k hk))
  have c0 : w1.cell? ⟨b3, 0, none⟩ = some (.slice oa n c) := cell_of h1 rfl
  clear h hp hb1 h1 hge hn
  go_enter Try.func76, Try.ntmps76
  go_upto_region 1 with fail
  rw [← hw1, ← hb3]
  clear hw1 hb3
  go_wp2_with fail
  refine (sright_b H.out.1 hfm HNN.out HP.out hm).mono ?_
  rintro e w2 ⟨er, rfl, -, her, hb2⟩
  obtain rfl := her HGE.out
  have H2 := Lib.hid (H.out.2.2.trans (hb2.mono H.out.2.2.size))
  clear her hb2 c0 HP H
  go_wp2_with fail
  go_ret2
  exact ⟨rfl, H2.out⟩
end Go.Proofs.Ytmkjejngnahpeaa
