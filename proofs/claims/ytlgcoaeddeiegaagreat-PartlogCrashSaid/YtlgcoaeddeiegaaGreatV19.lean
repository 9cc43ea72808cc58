/- The texts Zd in one. -/
import Derived.Test.YtlgcoaeddeiegaaGreatV15
/- segment: Open, whole. -/
namespace Go.Proofs.YtlgcoaeddeiegaaGreat
open Go Go.RowKit
attribute [local go_sem] Oper.semAt_some

set_option maxRecDepth 100000 in
set_option maxHeartbeats 4000000 in
theorem openS_b {w : World} {S : Nat → Prop} {q bn step : Nat} {d : Dk} {nm : ByteArray} {f : F0} {L : List Bat} (h : DiskAt w S q d) (hnm : nm.size ≤ 32) (hok : okName nm.data.toList = true) (hbn : hnum (digs nm.data.toList) = bn) (hf : d.find nm.data.toList = some f) (hfb : f.bytes = batsT L) (hch : Chain bn L) (hbl : bn ≤ 9007199254740992) (hs1 : 1 ≤ step) (hs2 : step ≤ 16777216) :
    Calls Tryz.prog 70 #[.pointer (some ⟨q, 0, none⟩), .string nm, .int .i64 (step : Int)] w fun e w' => ∃ s x sv sp, e = .returned (.tuple #[.pointer (some ⟨s, 0, none⟩), .int .i64 0]) ∧ SegI w' S s x q nm bn step sv sp L d ∧ Below w.heap.size w w' := by
  have hmf : ∀ (fn : Fn) (first cap : Array Value) (W : World), (Instr.makeFunc fn first cap).run Tryz.prog W = .ok (.func fn first cap) W := fun _ _ _ _ => rfl
  have hp := (parse_any nm w (Nat.le_trans hnm (by decide))).mono (fun e w' (hq : ParsePost nm e ∧ Below w.heap.size w w') => And.intro (hq.1.1 hok) hq.2)
  rw [hbn] at hp
  obtain ⟨ex, hex⟩ : ∃ s, s = nm.extract 0 (nm.size - 15) := ⟨_, rfl⟩
  rw [← hex] at hp
  have HP := Lib.hid hp
  have H := Lib.hid (And.intro h (And.intro hnm (And.intro hok (And.intro hbn (And.intro hf (And.intro hfb (And.intro hch (And.intro hs1 hs2))))))))
  have hlen : (batsT L).length ≤ 16777216 := by rw [← hfb]; exact (h.has hf).2.2.2
  have HLN := Lib.hid hlen
  clear h hnm hok hbn hf hfb hch hp hex hlen
  go_enter Tryz.func70, Tryz.ntmps70
  go_wp2_with fail
  refine HP.out.mono ?_
  rintro e w1 ⟨rfl, hb1⟩
  have HB1 := Lib.hid hb1
  clear hb1 HP
  go_wp2_with fail
  refine idxNew_b.mono ?_
  rintro e w2 hN
  rcases hN with ⟨hst, rfl, rfl⟩ | ⟨h1, h2, rfl, rfl⟩
  · omega
  obtain ⟨x, hx⟩ : ∃ x, x = w1.heap.size := ⟨_, rfl⟩
  obtain ⟨b11, hb11⟩ : ∃ b, b = w1.heap.size + 1 := ⟨_, rfl⟩
  obtain ⟨w2, hw2⟩ : ∃ W : World, W = (w1.alloc (.cells #[.int .i64 (step : Int), .slice none 0 0] 311)).alloc (.cells #[.pointer (some ⟨x, 0, none⟩)] 246) := ⟨_, rfl⟩
  have hx2 : w2.heap[x]? = some (.cells #[.int .i64 (step : Int), .slice none 0 0] 311 (0, 0)) := by
    rw [hw2, hx]
    exact (Below.heap_alloc _ _ _ (by simp)).trans (alloc_cells _ _ _)
  have h112 : w2.heap[b11]? = some (.cells #[.pointer (some ⟨x, 0, none⟩)] 246 (0, 0)) := by
    rw [hw2, hb11]
    have := alloc_cells (w1.alloc (.cells #[.int .i64 (step : Int), .slice none 0 0] 311)) #[.pointer (some ⟨x, 0, none⟩)] 246
    rwa [World.size_alloc] at this
  have hb2 : Below w.heap.size w w2 := by
    rw [hw2]
    have h0 := HB1.out
    exact (h0.alloc h0.size _).alloc (by simp; have := h0.size; omega) _
  have hsz2 : w2.heap.size = w1.heap.size + 2 := by rw [hw2]; simp
  have hT : TellIs w2 L 142 #[.pointer (some ⟨b11, 0, none⟩)] (OpenJ w2 b11 x step bn L) := by
    refine ⟨fun W hW => ⟨.slice none 0 0, [], (hW.block _ (Array.getElem?_eq_some_iff.1 h112).1).trans h112, ⟨(hW.block _ (Array.getElem?_eq_some_iff.1 hx2).1).trans hx2, by simp [spsCells], .inl ⟨rfl, rfl⟩⟩, by rw [List.take_zero]; exact SpotsOk.nil bn, fun k hk => by simp [Value.ownBlock] at hk, Only.of_below hW (Nat.le_refl _) _⟩, fun j A B hJ ho => ?_, fun j W hj hJ => ?_⟩
    · obtain ⟨sv, sp, g1, g2, g3, g4, g5⟩ := hJ
      refine ⟨sv, sp, (ho.block _ (Array.getElem?_eq_some_iff.1 g1).1 (fun e => by have := e.1; omega)).trans g1, ⟨(ho.block _ (Array.getElem?_eq_some_iff.1 g2.head).1 (fun e => by have := e.1; omega)).trans g2.head, g2.row.kept (fun k hk => ho.block k (g2.row.lt k hk) (fun e => ?_))⟩, g3, g4, g5.trans ho (fun k hk e => by have := e.1; omega)⟩
      obtain ⟨-, cs, fr, hc⟩ := e
      exact g2.row.notX hc (by decide) hk
    · exact tellA_b H.out.2.2.2.2.2.2.1 HLN.out hs1 hj (by omega) hJ (by omega) (by omega)
  have hl := lookA_b (tl := []) b11 (H.out.1.belowS hb2) H.out.2.1 H.out.2.2.1 H.out.2.2.2.1 H.out.2.2.2.2.1 (by rw [List.append_nil]; exact H.out.2.2.2.2.2.1) ⟨H.out.2.2.2.2.2.2.1.good, .inl rfl⟩ H.out.2.2.2.2.2.2.1 hbl hT
  rw [show whyT [] = 150 from rfl] at hl
  unfold foundV at hl
  obtain ⟨x0, hx0⟩ : ∃ x : Int, x = (L.length : Int) := ⟨_, rfl⟩
  obtain ⟨x1, hx1⟩ : ∃ x : Int, x = ((bn + cntT L : Nat) : Int) := ⟨_, rfl⟩
  obtain ⟨xz, hxz⟩ : ∃ x : Int, x = ((batsT L).length : Int) := ⟨_, rfl⟩
  rw [← hx0, ← hx1, ← hxz] at hl
  have HL := Lib.hid hl
  have HX := Lib.hid (And.intro hx0 (And.intro hx1 hxz))
  have H2 := Lib.hid (And.intro hb2 (And.intro hsz2 (And.intro hx2 (And.intro h112 (And.intro hx hb11)))))
  have hwx : x + 1 = b11 := by rw [hb11, hx]
  go_upto_region 5 with fail
  rw [← hx, ← hw2, hwx]
  clear hT hl hx0 hx1 hxz hb2 hsz2 hx2 h112 hx hb11 hw2 hwx h1 h2
  go_wp2_with fail
  refine HL.out.mono ?_
  rintro e w3 ⟨rfl, hJ⟩
  have HJ := Lib.hid hJ
  clear hJ HL
  obtain ⟨sv, sp, j1, j2, j3, j4, j5⟩ := HJ.out
  obtain ⟨w4, hw4⟩ : ∃ W : World, W = w3.alloc (.cells #[.int .i64 x0, .int .i64 x1, .int .i64 xz, .int .i64 150] 48) := ⟨_, rfl⟩
  obtain ⟨b13, hb13⟩ : ∃ b, b = w3.heap.size := ⟨_, rfl⟩
  have hb34 : Below w3.heap.size w3 w4 := by rw [hw4]; exact (Below.refl _ _).alloc (Nat.le_refl _) _
  have g4 : w4.heap[b13]? = some (.cells #[.int .i64 x0, .int .i64 x1, .int .i64 xz, .int .i64 150] 48 (0, 0)) := by rw [hw4, hb13]; exact alloc_cells _ _ _
  have k3 : w4.cell? ⟨b13, 3, none⟩ = some (.int .i64 150) := cell_of g4 rfl
  have z3 : w4.frozen? ⟨b13, 3, none⟩ = false := free_of g4 _
  have H4 := Lib.hid (And.intro hb34 (And.intro g4 hb13))
  go_upto_region 8 with fail
  rw [← hw4, ← hb13]
  clear hw4 hb13 hb34 g4
  go_upto_region 13 with fail
  obtain ⟨w5, hw5⟩ : ∃ W : World, W = w4.setCell ⟨b13, 3, none⟩ (.int .i64 0) := ⟨_, rfl⟩
  rw [← hw5]
  have g5 : w5.heap[b13]? = some (.cells #[.int .i64 x0, .int .i64 x1, .int .i64 xz, .int .i64 0] 48 (0, 0)) := by rw [hw5]; exact heap_setCell_here _ H4.out.2.1
  have ho5 : Only (fun k => k = b13) w4 w5 := by rw [hw5]; exact only_setCell (fun k => k = b13) _ b13 3 _ rfl
  have hb35 : Below w3.heap.size w3 w5 := H4.out.1.trans (ho5.below (fun i hi e => by have := H4.out.2.2; omega) H4.out.1.size)
  have l0 : w5.cell? ⟨b13, 0, none⟩ = some (.int .i64 x0) := cell_of g5 rfl
  have l1 : w5.cell? ⟨b13, 1, none⟩ = some (.int .i64 x1) := cell_of g5 rfl
  have l2 : w5.cell? ⟨b13, 2, none⟩ = some (.int .i64 xz) := cell_of g5 rfl
  have l3 : w5.cell? ⟨b13, 3, none⟩ = some (.int .i64 0) := cell_of g5 rfl
  have k11 : w5.cell? ⟨b11, 0, none⟩ = some (.pointer (some ⟨x, 0, none⟩)) := cell_of ((hb35.block b11 (Array.getElem?_eq_some_iff.1 j1).1).trans j1) rfl
  have H5 := Lib.hid hb35
  clear hw5 g5 ho5 hb35 k3 z3
  have HJJ := Lib.hid (And.intro j1 (And.intro j2 (And.intro j3 (And.intro j4 j5))))
  clear j1 j2 j3 j4 j5
  go_wp2_with fail
  go_ret2
  obtain ⟨j1, j2, j3, j4, j5⟩ := HJJ.out
  have hb23 : Below w.heap.size w w3 := H2.out.1.trans (j5.below (fun i hi e => by have h1 := H2.out.2.2.2.2.1; have h2 := HB1.out.size; omega) H2.out.1.size)
  have hb25 : Below w.heap.size w w5 := hb23.trans (H5.out.mono hb23.size)
  obtain ⟨w6, hw6⟩ : ∃ W : World, W = w5.alloc (.cells #[.int .i64 x0, .int .i64 x1, .int .i64 xz, .int .i64 0, .pointer (some ⟨q, 0, none⟩), .string nm, .int .i64 (bn : Int), .pointer (some ⟨x, 0, none⟩)] 250) := ⟨_, rfl⟩
  have hb56 : Below w5.heap.size w5 w6 := by rw [hw6]; exact (Below.refl _ _).alloc (Nat.le_refl _) _
  have g6 : w6.heap[w5.heap.size]? = some (.cells #[.int .i64 x0, .int .i64 x1, .int .i64 xz, .int .i64 0, .pointer (some ⟨q, 0, none⟩), .string nm, .int .i64 (bn : Int), .pointer (some ⟨x, 0, none⟩)] 250 (0, 0)) := by rw [hw6]; exact alloc_cells _ _ _
  rw [← hw6]
  rw [HX.out.1, HX.out.2.1, HX.out.2.2] at g6
  have hb36 : Below w3.heap.size w3 w6 := H5.out.trans (hb56.mono H5.out.size)
  have hb26 : Below w.heap.size w w6 := hb25.trans (hb56.mono hb25.size)
  have hxw : w.heap.size ≤ x := by have h1 := H2.out.2.2.2.2.1; have h2 := HB1.out.size; omega
  have hx2l := (Array.getElem?_eq_some_iff.1 H2.out.2.2.1).1
  have hx3 := (Array.getElem?_eq_some_iff.1 j2.head).1
  have h36 := H5.out.size
  rw [List.take_length] at j3
  refine ⟨w5.heap.size, x, sv, sp, rfl, ?_, hb26⟩
  exact {
    head := g6
    idx := j2.later hb36
    spots := j3
    chain := H.out.2.2.2.2.2.2.1
    disk := H.out.1.belowS hb26
    file := ⟨f, H.out.2.2.2.2.1, H.out.2.2.2.2.2.1⟩
    sS := fun hk => by have h1 := H.out.1.lowS _ hk; have h2 := hb25.size; omega
    xS := fun hk => by have h1 := H.out.1.lowS _ hk; omega
    vS := fun k hk hS => by have h1 := H.out.1.lowS _ hS; have h2 := j4 k hk; have h3 := H2.out.1.size; omega
    sx := fun e => by omega
    sv := fun k hk => by
      have h1 := j2.row.lt k hk
      have h2 := j4 k hk
      exact ⟨by omega, by omega⟩
    stp := ⟨hs1, hs2⟩
    off := hbl
    nms := H.out.2.1 }
end Go.Proofs.YtlgcoaeddeiegaaGreat
