/- The texts Ze in one. -/
import Derived.Test.YtlgcoaeddeiegaaGreatV19
/- segment: Mend. -/
namespace Go.Proofs.YtlgcoaeddeiegaaGreat
open Go Go.RowKit
attribute [local go_sem] Oper.semAt_some

set_option maxRecDepth 100000 in
set_option maxHeartbeats 1000000 in
theorem mend1_b {w : World} {S : Nat → Prop} {q b2 b3 b6 : Nat} {d : Dk} {nm : ByteArray} {z : Int} (h : DiskAt w S q d) (hnm : nm.size ≤ 32) (k2 : w.cell? ⟨b2, 0, none⟩ = some (.pointer (some ⟨q, 0, none⟩))) (k3 : w.cell? ⟨b3, 0, none⟩ = some (.string nm)) (k6 : w.cell? ⟨b6, 2, none⟩ = some (.int .i64 z)) :
    Calls Tryz.prog 139 #[.pointer (some ⟨b2, 0, none⟩), .pointer (some ⟨b3, 0, none⟩), .pointer (some ⟨b6, 0, none⟩)] w fun e w' => OpIs w S q (d.cut nm.data.toList z) e w' := by
  have HC := Lib.hid (cut_b h nm (Nat.le_trans hnm (by decide)) z)
  clear h hnm
  go_enter Tryz.func139, Tryz.ntmps139
  go_wp2_with fail
  refine HC.out.mono ?_
  rintro e w1 ⟨rfl, hd, ho⟩
  have H := Lib.hid (And.intro hd ho)
  clear hd ho
  go_wp2_with fail
  go_ret
  exact ⟨rfl, H.out.1, H.out.2⟩
set_option maxRecDepth 100000 in
set_option maxHeartbeats 1000000 in
theorem mend2_b {w : World} {S : Nat → Prop} {q b2 b3 : Nat} {d : Dk} {nm : ByteArray} (h : DiskAt w S q d) (hnm : nm.size ≤ 32) (k2 : w.cell? ⟨b2, 0, none⟩ = some (.pointer (some ⟨q, 0, none⟩))) (k3 : w.cell? ⟨b3, 0, none⟩ = some (.string nm)) :
    Calls Tryz.prog 141 #[.pointer (some ⟨b2, 0, none⟩), .pointer (some ⟨b3, 0, none⟩)] w fun e w' => OpIs w S q (d.sync nm.data.toList) e w' := by
  have HC := Lib.hid (sync_b h nm (Nat.le_trans hnm (by decide)))
  clear h hnm
  go_enter Tryz.func141, Tryz.ntmps141
  go_wp2_with fail
  refine HC.out.mono ?_
  rintro e w1 ⟨rfl, hd, ho⟩
  have H := Lib.hid (And.intro hd ho)
  clear hd ho
  go_wp2_with fail
  go_ret
  exact ⟨rfl, H.out.1, H.out.2⟩
def MendIs (w : World) (S : Nat → Prop) (q : Nat) (_d d2 : Dk) (L : List Bat) (bn : Nat) (tl : List UInt8) (e : Ending) (w' : World) : Prop :=
  e = .returned (.tuple #[foundV L.length (bn + cntT L) (batsT L).length (whyT tl), .int .i64 0]) ∧ ((tl = [] ∧ Below w.heap.size w w') ∨ (tl ≠ [] ∧ ∃ S', (∀ k, S' k → S k ∨ w.heap.size ≤ k) ∧ DiskAt w' S' q d2 ∧ Only S w w'))
set_option maxRecDepth 100000 in
set_option maxHeartbeats 4000000 in
theorem mendS_b {w : World} {S : Nat → Prop} {q bn : Nat} {d : Dk} {nm : ByteArray} {f : F0} {L : List Bat} {tl : List UInt8} (h : DiskAt w S q d) (hnm : nm.size ≤ 32) (hok : okName nm.data.toList = true) (hbn : hnum (digs nm.data.toList) = bn) (hf : d.find nm.data.toList = some f) (hfb : f.bytes = batsT L ++ tl) (hgo : BatsOk L tl) (hch : Chain bn L) (hbl : bn ≤ 9007199254740992)
    (hc0 : (d.cut nm.data.toList ((batsT L).length : Int)).1 = 0) (hs0 : ((d.cut nm.data.toList ((batsT L).length : Int)).2.sync nm.data.toList).1 = 0) :
    Calls Tryz.prog 68 #[.pointer (some ⟨q, 0, none⟩), .string nm] w fun e w' => MendIs w S q d ((d.cut nm.data.toList ((batsT L).length : Int)).2.sync nm.data.toList).2 L bn tl e w' := by
  have hmf : ∀ (fn : Fn) (first cap : Array Value) (W : World), (Instr.makeFunc fn first cap).run Tryz.prog W = .ok (.func fn first cap) W := fun _ _ _ _ => rfl
  obtain ⟨w1, hw1⟩ : ∃ W : World, W = ((w.alloc (.cells #[.pointer (some ⟨q, 0, none⟩)] 27)).alloc (.cells #[.string nm] 9)).alloc (.cells #[.int .i64 0, .int .i64 0, .int .i64 0, .int .i64 0] 48) := ⟨_, rfl⟩
  obtain ⟨b2, hb2⟩ : ∃ b, b = w.heap.size := ⟨_, rfl⟩
  obtain ⟨b3, hb3⟩ : ∃ b, b = w.heap.size + 1 := ⟨_, rfl⟩
  obtain ⟨b4, hb4⟩ : ∃ b, b = w.heap.size + 1 + 1 := ⟨_, rfl⟩
  have hbl1 : Below w.heap.size w w1 := by rw [hw1]; exact (((Below.refl _ _).alloc (Nat.le_refl _) _).alloc (by simp) _).alloc (by simp; omega) _
  have g2 : w1.heap[b2]? = some (.cells #[.pointer (some ⟨q, 0, none⟩)] 27 (0, 0)) := by
    rw [hw1, hb2]
    exact (Below.heap_alloc _ _ _ (by simp; omega)).trans ((Below.heap_alloc _ _ _ (by simp)).trans (alloc_cells _ _ _))
  have g3 : w1.heap[b3]? = some (.cells #[.string nm] 9 (0, 0)) := by
    rw [hw1, hb3]
    have := alloc_cells (w.alloc (.cells #[.pointer (some ⟨q, 0, none⟩)] 27)) #[.string nm] 9
    rw [World.size_alloc] at this
    exact (Below.heap_alloc _ _ _ (by simp)).trans this
  have g4 : w1.heap[b4]? = some (.cells #[.int .i64 0, .int .i64 0, .int .i64 0, .int .i64 0] 48 (0, 0)) := by
    rw [hw1, hb4]
    have := alloc_cells ((w.alloc (.cells #[.pointer (some ⟨q, 0, none⟩)] 27)).alloc (.cells #[.string nm] 9)) #[.int .i64 0, .int .i64 0, .int .i64 0, .int .i64 0] 48
    rwa [World.size_alloc, World.size_alloc] at this
  have hl := lookS_b (h.belowS hbl1) hnm hok hbn hf hfb hgo hch hbl
  obtain ⟨wy, hwy⟩ : ∃ y, y = whyT tl := ⟨_, rfl⟩
  have HMV : Hid (∀ w', MendIs w S q d ((d.cut nm.data.toList ((batsT L).length : Int)).2.sync nm.data.toList).2 L bn tl (.returned (.tuple #[foundV L.length (bn + cntT L) (batsT L).length (whyT tl), .int .i64 0])) w' ↔ ((tl = [] ∧ Below w.heap.size w w') ∨ (tl ≠ [] ∧ ∃ S', (∀ k, S' k → S k ∨ w.heap.size ≤ k) ∧ DiskAt w' S' q ((d.cut nm.data.toList ((batsT L).length : Int)).2.sync nm.data.toList).2 ∧ Only S w w'))) := Lib.hid (fun w' => ⟨fun hh => hh.2, fun hh => ⟨rfl, hh⟩⟩)
  unfold foundV at hl HMV
  obtain ⟨x0, hx0⟩ : ∃ x : Int, x = (L.length : Int) := ⟨_, rfl⟩
  obtain ⟨x1, hx1⟩ : ∃ x : Int, x = ((bn + cntT L : Nat) : Int) := ⟨_, rfl⟩
  obtain ⟨xz, hxz⟩ : ∃ x : Int, x = ((batsT L).length : Int) := ⟨_, rfl⟩
  obtain ⟨dc, hdc⟩ : ∃ r, r = d.cut nm.data.toList ((batsT L).length : Int) := ⟨_, rfl⟩
  obtain ⟨ds, hds⟩ : ∃ r, r = (d.cut nm.data.toList ((batsT L).length : Int)).2.sync nm.data.toList := ⟨_, rfl⟩
  rw [← hds] at HMV hs0 ⊢
  rw [← hdc] at hds hc0
  rw [← hxz] at hdc
  rw [← hx0, ← hx1, ← hxz, ← hwy] at hl HMV
  have HL := Lib.hid hl
  have H := Lib.hid (And.intro h (And.intro hnm (And.intro hdc (And.intro hds (And.intro hc0 hs0)))))
  have H1 := Lib.hid (And.intro hbl1 (And.intro g2 (And.intro g3 (And.intro g4 (And.intro hb2 (And.intro hb3 hb4))))))
  have HWY := Lib.hid hwy
  have k2 : w1.cell? ⟨b2, 0, none⟩ = some (.pointer (some ⟨q, 0, none⟩)) := cell_of g2 rfl
  have k3 : w1.cell? ⟨b3, 0, none⟩ = some (.string nm) := cell_of g3 rfl
  clear h hnm hok hbn hf hfb hgo hch hbl hc0 hs0 hl hx0 hx1 hxz hdc hds hbl1 g2 g3 g4 hwy
  go_enter Tryz.func68, Tryz.ntmps68
  go_upto_region 1 with fail
  rw [← hw1, ← hb4, ← hb3, ← hb2]
  clear hw1 hb2 hb3 hb4
  go_wp2_with fail
  refine HL.out.mono ?_
  rintro e w2 ⟨rfl, hb12⟩
  obtain ⟨w3, hw3⟩ : ∃ W : World, W = w2.alloc (.cells #[.int .i64 x0, .int .i64 x1, .int .i64 xz, .int .i64 wy] 48) := ⟨_, rfl⟩
  obtain ⟨b6, hb6⟩ : ∃ b, b = w2.heap.size := ⟨_, rfl⟩
  have hb13 : Below w1.heap.size w1 w3 := by rw [hw3]; exact hb12.alloc hb12.size _
  have g6 : w3.heap[b6]? = some (.cells #[.int .i64 x0, .int .i64 x1, .int .i64 xz, .int .i64 wy] 48 (0, 0)) := by rw [hw3, hb6]; exact alloc_cells _ _ _
  have g43 := (hb13.block b4 (Array.getElem?_eq_some_iff.1 H1.out.2.2.2.1).1).trans H1.out.2.2.2.1
  have q3 : w3.cell? ⟨b6, 3, none⟩ = some (.int .i64 wy) := cell_of g6 rfl
  have H3 := Lib.hid (And.intro hb13 (And.intro g6 (And.intro g43 (show w1.heap.size ≤ b6 by rw [hb6]; exact hb12.size))))
  go_upto_region 2 with fail
  rw [← hw3, ← hb6]
  clear hw3 hb6 hb12 hb13 g6 g43 k2 k3 HL
  by_cases htl : tl = []
  · have hy : wy = 150 := by rw [HWY.out]; unfold whyT; rw [if_pos htl]
    subst hy
    have HTL := Lib.hid htl
    clear htl
    have q0 : w3.cell? ⟨b6, 0, none⟩ = some (.int .i64 x0) := cell_of H3.out.2.1 rfl
    have q1 : w3.cell? ⟨b6, 1, none⟩ = some (.int .i64 x1) := cell_of H3.out.2.1 rfl
    have q2 : w3.cell? ⟨b6, 2, none⟩ = some (.int .i64 xz) := cell_of H3.out.2.1 rfl
    have y0 : w3.cell? ⟨b4, 0, none⟩ = some (.int .i64 0) := cell_of H3.out.2.2.1 rfl
    have y1 : w3.cell? ⟨b4, 1, none⟩ = some (.int .i64 0) := cell_of H3.out.2.2.1 rfl
    have y2 : w3.cell? ⟨b4, 2, none⟩ = some (.int .i64 0) := cell_of H3.out.2.2.1 rfl
    have y3 : w3.cell? ⟨b4, 3, none⟩ = some (.int .i64 0) := cell_of H3.out.2.2.1 rfl
    have v0 : w3.frozen? ⟨b4, 0, none⟩ = false := free_of H3.out.2.2.1 _
    have v1 : w3.frozen? ⟨b4, 1, none⟩ = false := free_of H3.out.2.2.1 _
    have v2 : w3.frozen? ⟨b4, 2, none⟩ = false := free_of H3.out.2.2.1 _
    have v3 : w3.frozen? ⟨b4, 3, none⟩ = false := free_of H3.out.2.2.1 _
    go_wp2_with fail
    obtain ⟨w7, hw7⟩ : ∃ W : World, W = (((w3.setCell ⟨b4, 0, none⟩ (.int .i64 x0)).setCell ⟨b4, 1, none⟩ (.int .i64 x1)).setCell ⟨b4, 2, none⟩ (.int .i64 xz)).setCell ⟨b4, 3, none⟩ (.int .i64 150) := ⟨_, rfl⟩
    rw [← hw7]
    have g7 : w7.heap[b4]? = some (.cells #[.int .i64 x0, .int .i64 x1, .int .i64 xz, .int .i64 150] 48 (0, 0)) := by
      rw [hw7]
      exact heap_setCell_here _ (heap_setCell_here _ (heap_setCell_here _ (heap_setCell_here _ H3.out.2.2.1)))
    have ho7 : Only (fun k => k = b4) w3 w7 := by
      rw [hw7]
      exact (((only_setCell (fun k => k = b4) _ b4 0 _ rfl).trans (only_setCell (fun k => k = b4) _ b4 1 _ rfl) (fun _ _ e => e)).trans (only_setCell (fun k => k = b4) _ b4 2 _ rfl) (fun _ _ e => e)).trans (only_setCell (fun k => k = b4) _ b4 3 _ rfl) (fun _ _ e => e)
    have r0 := cell_of (i := 0) g7 rfl
    have r1 := cell_of (i := 1) g7 rfl
    have r2 := cell_of (i := 2) g7 rfl
    have r3 := cell_of (i := 3) g7 rfl
    refine bodyPost_ret (v := .tuple #[.agg #[.int .i64 x0, .int .i64 x1, .int .i64 xz, .int .i64 150], .int .i64 0]) (by simp [results, Tryz.results68, go_sem, r0, r1, r2, r3]) rfl ((HMV.out _).2 (.inl ⟨HTL.out, ?_⟩))
    have hb03 := H1.out.1.trans (H3.out.1.mono H1.out.1.size)
    exact hb03.trans (ho7.below (fun i hi e => by have := H1.out.2.2.2.2.2.2; omega) hb03.size)
  · have hy : wy = 151 := by rw [HWY.out]; unfold whyT; rw [if_neg htl]
    subst hy
    have HTL := Lib.hid htl
    clear htl
    go_upto_region 9 with fail
    obtain ⟨w4, hw4⟩ : ∃ W : World, W = w3.alloc (.cells #[.func (.func 139) #[] #[.pointer (some ⟨b2, 0, none⟩), .pointer (some ⟨b3, 0, none⟩), .pointer (some ⟨b6, 0, none⟩)], .func (.func 141) #[] #[.pointer (some ⟨b2, 0, none⟩), .pointer (some ⟨b3, 0, none⟩)]] 67) := ⟨_, rfl⟩
    obtain ⟨b34, hb34⟩ : ∃ b, b = w3.heap.size := ⟨_, rfl⟩
    have hb3 : Below w3.heap.size w3 w4 := by rw [hw4]; exact (Below.refl _ _).alloc (Nat.le_refl _) _
    have g34 : w4.heap[b34]? = some (.cells #[.func (.func 139) #[] #[.pointer (some ⟨b2, 0, none⟩), .pointer (some ⟨b3, 0, none⟩), .pointer (some ⟨b6, 0, none⟩)], .func (.func 141) #[] #[.pointer (some ⟨b2, 0, none⟩), .pointer (some ⟨b3, 0, none⟩)]] 67 (0, 0)) := by rw [hw4, hb34]; exact alloc_cells _ _ _
    rw [← hw4, ← hb34]
    have hb14 : Below w1.heap.size w1 w4 := H3.out.1.trans (hb3.mono H3.out.1.size)
    have hb04 : Below w.heap.size w w4 := H1.out.1.trans (hb14.mono H1.out.1.size)
    have lo : ∀ k, S k → k < w.heap.size := H.out.1.lowS
    have s1 := H1.out.1.size
    have s3 := H3.out.1.size
    have e2 := (hb14.block b2 (Array.getElem?_eq_some_iff.1 H1.out.2.1).1).trans H1.out.2.1
    have e3 := (hb14.block b3 (Array.getElem?_eq_some_iff.1 H1.out.2.2.1).1).trans H1.out.2.2.1
    have e4 := (hb14.block b4 (Array.getElem?_eq_some_iff.1 H1.out.2.2.2.1).1).trans H1.out.2.2.2.1
    have e6 := (hb3.block b6 (Array.getElem?_eq_some_iff.1 H3.out.2.1).1).trans H3.out.2.1
    have HNS : Hid (¬ S b2 ∧ ¬ S b3 ∧ ¬ S b4 ∧ ¬ S b6 ∧ ¬ S b34) := Lib.hid ⟨fun hk => by have := lo _ hk; have := H1.out.2.2.2.2; omega, fun hk => by have := lo _ hk; have := H1.out.2.2.2.2; omega, fun hk => by have := lo _ hk; have := H1.out.2.2.2.2; omega, fun hk => by have := lo _ hk; have := H3.out.2.2.2; omega, fun hk => by have := lo _ hk; omega⟩
    have H4 := Lib.hid (And.intro hb04 (And.intro e2 (And.intro e3 (And.intro e4 (And.intro e6 g34)))))
    clear hw4 hb34 hb3 g34 hb14 hb04 lo s1 s3 e2 e3 e4 e6 q3
    have kept : Hid (∀ (W : World), Only S w4 W → W.heap[b2]? = w4.heap[b2]? ∧ W.heap[b3]? = w4.heap[b3]? ∧ W.heap[b4]? = w4.heap[b4]? ∧ W.heap[b6]? = w4.heap[b6]? ∧ W.heap[b34]? = w4.heap[b34]?) := Lib.hid (fun W ho =>
      ⟨ho.block _ (Array.getElem?_eq_some_iff.1 H4.out.2.1).1 HNS.out.1, ho.block _ (Array.getElem?_eq_some_iff.1 H4.out.2.2.1).1 HNS.out.2.1, ho.block _ (Array.getElem?_eq_some_iff.1 H4.out.2.2.2.1).1 HNS.out.2.2.1, ho.block _ (Array.getElem?_eq_some_iff.1 H4.out.2.2.2.2.1).1 HNS.out.2.2.2.1, ho.block _ (Array.getElem?_eq_some_iff.1 H4.out.2.2.2.2.2).1 HNS.out.2.2.2.2⟩)
    go_loopw [36] (fun i wr => ∃ (t : Nat) (S1 : Nat → Prop), i = .int .i64 (t : Int) ∧ t ≤ 2 ∧ Hid (Only S w4 wr ∧ (∀ k, S1 k → S k ∨ w4.heap.size ≤ k) ∧ DiskAt wr S1 q (if t = 0 then d else if t = 1 then dc.2 else ds.2))) (fun i _ => 2 - (intOf i).toNat)
    case atStart => exact ⟨0, S, rfl, by omega, Lib.hid ⟨Only.refl _ _, fun k hk => .inl hk, H.out.1.belowS H4.out.1⟩⟩
    case round =>
      obtain ⟨t, S1, rfl, ht, HI⟩ := hrel
      obtain ⟨t2, t3, t4, t6, t34⟩ := kept.out _ HI.out.1
      have m2 : wr.cell? ⟨b2, 0, none⟩ = some (.pointer (some ⟨q, 0, none⟩)) := cell_of (t2.trans H4.out.2.1) rfl
      have m3 : wr.cell? ⟨b3, 0, none⟩ = some (.string nm) := cell_of (t3.trans H4.out.2.2.1) rfl
      have hg34 := t34.trans H4.out.2.2.2.2.2
      have hg6 := t6.trans H4.out.2.2.2.2.1
      have hg4 := t4.trans H4.out.2.2.2.1
      have sub : ∀ (W : World) (S2 : Nat → Prop), Only S1 wr W → (∀ k, S2 k → Wid S1 wr W k) → Only S w4 W ∧ ∀ k, S2 k → S k ∨ w4.heap.size ≤ k := fun W S2 ho hs => by
        refine ⟨HI.out.1.trans ho (fun k hk h1 => ?_), fun k hk => ?_⟩
        · rcases HI.out.2.1 k h1 with h | h
          · exact h
          · omega
        · rcases hs k hk with h | h
          · exact HI.out.2.1 k h
          · have := h.1; have := HI.out.1.size; exact .inr (by omega)
      have SUB := Lib.hid sub
      clear t2 t3 t4 t6 t34 sub
      by_cases h0 : t = 0
      · subst h0
        have hd0 := HI.out.2.2
        rw [if_pos rfl] at hd0
        have k0 : wr.cell? ⟨b34, 0, none⟩ = some (.func (.func 139) #[] #[.pointer (some ⟨b2, 0, none⟩), .pointer (some ⟨b3, 0, none⟩), .pointer (some ⟨b6, 0, none⟩)]) := cell_of hg34 rfl
        have m6 : wr.cell? ⟨b6, 2, none⟩ = some (.int .i64 xz) := cell_of hg6 rfl
        have hcl := mend1_b hd0 H.out.2.1 m2 m3 m6
        rw [← H.out.2.2.1] at hcl
        have HCL := Lib.hid hcl
        clear hcl hd0 hg34 hg6 hg4 m2 m3 m6
        go_wp2_with fail
        refine HCL.out.mono ?_
        rintro e w5 ⟨rfl, hd5, ho5⟩
        rw [H.out.2.2.2.2.1]
        have hs5 := SUB.out w5 _ ho5 (fun k hk => hk)
        have HN5 : Hid (Only S w4 w5 ∧ (∀ k, Wid S1 wr w5 k → S k ∨ w4.heap.size ≤ k) ∧ DiskAt w5 (Wid S1 wr w5) q (if 1 = 0 then d else if 1 = 1 then dc.2 else ds.2)) := Lib.hid ⟨hs5.1, hs5.2, by rw [if_neg (by decide), if_pos rfl]; exact hd5⟩
        clear hd5 ho5 hs5
        go_wp2_with fail
        exact ⟨⟨1, _, rfl, by omega, HN5⟩, by simp [intOf]⟩
      by_cases h1 : t = 1
      · subst h1
        have hd0 := HI.out.2.2
        rw [if_neg (by decide), if_pos rfl] at hd0
        have k0 : wr.cell? ⟨b34, 1, none⟩ = some (.func (.func 141) #[] #[.pointer (some ⟨b2, 0, none⟩), .pointer (some ⟨b3, 0, none⟩)]) := cell_of hg34 rfl
        have hcl := mend2_b hd0 H.out.2.1 m2 m3
        rw [← H.out.2.2.2.1] at hcl
        have HCL := Lib.hid hcl
        clear hcl hd0 hg34 hg6 hg4 m2 m3
        go_wp2_with fail
        refine HCL.out.mono ?_
        rintro e w5 ⟨rfl, hd5, ho5⟩
        rw [H.out.2.2.2.2.2]
        have hs5 := SUB.out w5 _ ho5 (fun k hk => hk)
        have HN5 : Hid (Only S w4 w5 ∧ (∀ k, Wid S1 wr w5 k → S k ∨ w4.heap.size ≤ k) ∧ DiskAt w5 (Wid S1 wr w5) q (if 2 = 0 then d else if 2 = 1 then dc.2 else ds.2)) := Lib.hid ⟨hs5.1, hs5.2, by rw [if_neg (by decide), if_neg (by decide)]; exact hd5⟩
        clear hd5 ho5 hs5
        go_wp2_with fail
        exact ⟨⟨2, _, rfl, by omega, HN5⟩, by simp [intOf]⟩
      · obtain rfl : t = 2 := by omega
        have q0 : wr.cell? ⟨b6, 0, none⟩ = some (.int .i64 x0) := cell_of hg6 rfl
        have q1 : wr.cell? ⟨b6, 1, none⟩ = some (.int .i64 x1) := cell_of hg6 rfl
        have q2 : wr.cell? ⟨b6, 2, none⟩ = some (.int .i64 xz) := cell_of hg6 rfl
        have q3 : wr.cell? ⟨b6, 3, none⟩ = some (.int .i64 151) := cell_of hg6 rfl
        have y0 : wr.cell? ⟨b4, 0, none⟩ = some (.int .i64 0) := cell_of hg4 rfl
        have y1 : wr.cell? ⟨b4, 1, none⟩ = some (.int .i64 0) := cell_of hg4 rfl
        have y2 : wr.cell? ⟨b4, 2, none⟩ = some (.int .i64 0) := cell_of hg4 rfl
        have y3 : wr.cell? ⟨b4, 3, none⟩ = some (.int .i64 0) := cell_of hg4 rfl
        have v0 : wr.frozen? ⟨b4, 0, none⟩ = false := free_of hg4 _
        have v1 : wr.frozen? ⟨b4, 1, none⟩ = false := free_of hg4 _
        have v2 : wr.frozen? ⟨b4, 2, none⟩ = false := free_of hg4 _
        have v3 : wr.frozen? ⟨b4, 3, none⟩ = false := free_of hg4 _
        have HG4 := Lib.hid hg4
        clear hg34 hg6 hg4 m2 m3
        go_wp2_with fail
        obtain ⟨w7, hw7⟩ : ∃ W : World, W = (((wr.setCell ⟨b4, 0, none⟩ (.int .i64 x0)).setCell ⟨b4, 1, none⟩ (.int .i64 x1)).setCell ⟨b4, 2, none⟩ (.int .i64 xz)).setCell ⟨b4, 3, none⟩ (.int .i64 151) := ⟨_, rfl⟩
        rw [← hw7]
        have g7 : w7.heap[b4]? = some (.cells #[.int .i64 x0, .int .i64 x1, .int .i64 xz, .int .i64 151] 48 (0, 0)) := by
          rw [hw7]
          exact heap_setCell_here _ (heap_setCell_here _ (heap_setCell_here _ (heap_setCell_here _ HG4.out)))
        have ho7 : Only (fun k => k = b4) wr w7 := by
          rw [hw7]
          exact (((only_setCell (fun k => k = b4) _ b4 0 _ rfl).trans (only_setCell (fun k => k = b4) _ b4 1 _ rfl) (fun _ _ e => e)).trans (only_setCell (fun k => k = b4) _ b4 2 _ rfl) (fun _ _ e => e)).trans (only_setCell (fun k => k = b4) _ b4 3 _ rfl) (fun _ _ e => e)
        have r0 := cell_of (i := 0) g7 rfl
        have r1 := cell_of (i := 1) g7 rfl
        have r2 := cell_of (i := 2) g7 rfl
        have r3 := cell_of (i := 3) g7 rfl
        refine bodyPost_ret (v := .tuple #[.agg #[.int .i64 x0, .int .i64 x1, .int .i64 xz, .int .i64 151], .int .i64 0]) (by simp [results, Tryz.results68, go_sem, r0, r1, r2, r3]) rfl ((HMV.out _).2 (.inr ⟨HTL.out, S1, fun k hk => ?_, ?_, ?_⟩))
        · have h4s := H4.out.1.size
          rcases HI.out.2.1 k hk with h | h
          · exact .inl h
          · exact .inr (by omega)
        · have hd := HI.out.2.2
          rw [if_neg (by decide), if_neg (by decide)] at hd
          refine hd.onlyS ho7 (fun k hk e => ?_)
          subst e
          rcases HI.out.2.1 _ hk with h | h
          · exact HNS.out.2.2.1 h
          · have := (Array.getElem?_eq_some_iff.1 H4.out.2.2.2.1).1; omega
        · have h04 := H4.out.1
          exact ((Only.of_below h04 (Nat.le_refl _) S).trans HI.out.1 (fun _ _ h => h)).trans (ho7.mono (S := fun k => k = b4) (T := fun k => S k ∨ w.heap.size ≤ k) (fun k _ e => .inr (by have := H1.out.2.2.2.2.2.2; omega))) (fun k hk e => by
            rcases e with e | e
            · exact e
            · omega)
end Go.Proofs.YtlgcoaeddeiegaaGreat
