/- The texts Zc, Zd, Ze, Ee in one. -/
import Derived.Test.YtmkjejngnahpeaaGreatV15
import Derived.Test.YtmkjejngnahpeaaGreatV13
/- segment: Open. -/
namespace Go.Proofs.YtmkjejngnahpeaaGreat
open Go Go.RowKit
attribute [local go_sem] Oper.semAt_some

theorem Chain.take {bn : Nat} {L : List Bat} (h : Chain bn L) (j : Nat) : Chain bn (L.take j) := by
  refine ⟨fun i hi => ?_, fun b hb => h.good b (List.mem_of_mem_take hb)⟩
  rw [List.length_take] at hi
  rw [List.getElem_take, List.take_take, Nat.min_eq_left (by omega)]
  exact h.base i (by omega)
theorem Chain.snocT {bn : Nat} {L : List Bat} (h : Chain bn L) {j : Nat} (hj : j < L.length) : L.take j ++ [(((bn + cntT (L.take j) : Nat) : Int), L[j].2)] = L.take (j + 1) := by
  rw [List.take_succ_eq_append_getElem hj, ← h.base j hj]
/-- the index, while a file is gone through -/
def OpenJ (w1 : World) (b11 x step bn : Nat) (L : List Bat) (j : Nat) (W : World) : Prop :=
  ∃ sv sp, W.heap[b11]? = some (.cells #[.pointer (some ⟨x, 0, none⟩)] 70 (0, 0)) ∧ IdxI W x step sv sp ∧ SpotsOk bn (L.take j) sp ∧ (∀ k, sv.ownBlock = some k → w1.heap.size ≤ k) ∧ Only (fun k => k = x) w1 W
set_option maxRecDepth 100000 in
set_option maxHeartbeats 1000000 in
theorem tellA_b {w1 W : World} {b11 x step bn j : Nat} {L : List Bat} (hch : Chain bn L) (hbl : (batsT L).length ≤ 16777216) (hst : 1 ≤ step) (hj : j < L.length) (hx : x < w1.heap.size) (hJ : OpenJ w1 b11 x step bn L j W) (hbx : b11 ≠ x) (hb11 : b11 < w1.heap.size) :
    Calls Tryz.prog 44 #[.int .i64 (posT L j : Int), .int .i64 L[j].1, .pointer (some ⟨b11, 0, none⟩)] W fun e W' => (∃ v, e = .returned v) ∧ OpenJ w1 b11 x step bn L (j + 1) W' ∧ W.heap.size ≤ W'.heap.size ∧ TypeKept 47 W W' ∧ TypeKept 5 W W' := by
  obtain ⟨sv, sp, h1, h2, h3, h4, h5⟩ := hJ
  have hct := hch.take j
  have hb := hch.base j hj
  have hg := hch.good _ (List.getElem_mem hj)
  have hpj : posT (L.take j) (L.take j).length = posT L j := by rw [posT_all]; rfl
  have hpl : (batsT (L.take j)).length ≤ 16777216 := by
    have h := bats_split L j
    have h2 : (batsT L).length = (batsT (L.take j)).length + (batsT (L.drop j)).length := by rw [h, List.length_append]
    omega
  have hhi : bn + cntT (L.take j) ≤ 9007199254740992 := by
    have h1 := hg.high
    have h2 := hg.pos.1
    rw [hb] at h1
    omega
  have hfew : sp.length ≤ 1000000 := by
    have h1 := h3.len
    have h2 := bats_many _ hct.good
    omega
  have had := idxAdd_b h2 (spMay_next hct h3 hhi hpl) hfew hst
  have hsn := SpotsOk.snoc (step := step) (l := L[j].2) hct h3
  rw [hch.snocT hj] at hsn
  rw [hpj] at had hsn
  dsimp only at had
  rw [← hb] at had
  obtain ⟨bs, hbs⟩ : ∃ b : Int, b = L[j].1 := ⟨_, rfl⟩
  obtain ⟨p, hp⟩ : ∃ p : Nat, p = posT L j := ⟨_, rfl⟩
  have HS := Lib.hid hsn
  have c11 : W.cell? ⟨b11, 0, none⟩ = some (.pointer (some ⟨x, 0, none⟩)) := cell_of h1 rfl
  have HAD := Lib.hid had
  have H := Lib.hid (And.intro h1 (And.intro h2 (And.intro h4 h5)))
  rw [← hbs, ← hp] at *
  clear h1 h2 h3 h4 h5 hct hb hg hpj hpl hhi hfew had hsn
  go_enter Tryz.func44, Tryz.ntmps44
  go_wp2_with fail
  refine HAD.out.mono ?_
  rintro e W' ⟨sv', rfl, hi', ho', hov'⟩
  have HI := Lib.hid (And.intro hi' (And.intro ho' hov'))
  clear hi' ho' hov' HAD
  go_wp2_with fail
  go_end0
  have hrow := H.out.2.1.row
  have keep : ∀ (T : TypeId), 89 ≠ T → 111 ≠ T → TypeKept T W W' := fun T h1 h2 k cs fr hk => HI.out.2.1.block k (Array.getElem?_eq_some_iff.1 hk).1 (fun e => by
    rcases e with e | e
    · subst e
      rw [H.out.2.1.head] at hk
      simp only [Option.some.injEq, Obj.cells.injEq] at hk
      exact h2 hk.2.1
    · exact hrow.notX hk h1 e)
  refine ⟨⟨_, rfl⟩, ⟨sv', _, ?_, HI.out.1, HS.out, fun k hk => ?_, ?_⟩, HI.out.2.1.size, keep _ (by decide) (by decide), keep _ (by decide) (by decide)⟩
  · refine (HI.out.2.1.block b11 (Array.getElem?_eq_some_iff.1 H.out.1).1 (fun e => ?_)).trans H.out.1
    rcases e with e | e
    · exact hbx e
    · have := H.out.2.2.1 b11 e; omega
  · rcases HI.out.2.2 k hk with e | e
    · exact H.out.2.2.1 k e
    · exact Nat.le_trans H.out.2.2.2.size e
  · exact H.out.2.2.2.trans HI.out.2.1 (fun k hk e => by
      rcases e with e | e
      · exact e
      · have := H.out.2.2.1 k e; omega)
end Go.Proofs.YtmkjejngnahpeaaGreat
/- segment: Open, whole. -/
namespace Go.Proofs.YtmkjejngnahpeaaGreat
open Go Go.RowKit
attribute [local go_sem] Oper.semAt_some

set_option maxRecDepth 100000 in
set_option maxHeartbeats 4000000 in
theorem openS_b {w : World} {S : Nat → Prop} {q bn step : Nat} {d : Dk} {nm : ByteArray} {f : F0} {L : List Bat} (h : DiskAt w S q d) (hnm : nm.size ≤ 32) (hok : okName nm.data.toList = true) (hbn : hnum (digs nm.data.toList) = bn) (hf : d.find nm.data.toList = some f) (hfb : f.bytes = batsT L) (hch : Chain bn L) (hbl : bn ≤ 9007199254740992) (hs1 : 1 ≤ step) (hs2 : step ≤ 16777216) :
    Calls Tryz.prog 16 #[.pointer (some ⟨q, 0, none⟩), .string nm, .int .i64 (step : Int)] w fun e w' => ∃ s x sv sp, e = .returned (.tuple #[.pointer (some ⟨s, 0, none⟩), .int .i64 0]) ∧ SegI w' S s x q nm bn step sv sp L d ∧ Below w.heap.size w w' := by
  have hmf : ∀ (fn : Fn) (first cap : Array Value) (W : World), (Instr.makeFunc fn first cap).run Tryz.prog W = .ok (.func fn first cap) W := fun _ _ _ _ => rfl
  have hp := (parse_any nm w (Nat.le_trans hnm (by decide))).mono (fun e w' (hq : ParsePost nm e ∧ Below w.heap.size w w') => And.intro (hq.1.1 hok) hq.2)
  rw [hbn] at hp
  obtain ⟨ex, hex⟩ : ∃ s, s = nm.extract 0 (nm.size - 15) := ⟨_, rfl⟩
  rw [← hex] at hp
  have HP := Lib.hid hp
  have H := Lib.hid (And.intro h (And.intro hnm (And.intro hok (And.intro hbn (And.intro hf (And.intro hfb (And.intro hch (And.intro hs1 hs2))))))))
  have hlen : (batsT L).length ≤ 16777216 := by rw [← hfb]; exact (h.has hf).2.2.2
  have HLN := Lib.hid hlen
  clear h hnm hok hbn hf hfb hch hp hex hlen
  go_enter Tryz.func16, Tryz.ntmps16
  go_wp2_with fail
  refine HP.out.mono ?_
  rintro e w1 ⟨rfl, hb1⟩
  have HB1 := Lib.hid hb1
  clear hb1 HP
  go_wp2_with fail
  refine idxNew_b.mono ?_
  rintro e w2 hN
  rcases hN with ⟨hst, rfl, rfl⟩ | ⟨h1, h2, rfl, rfl⟩
  · omega
  obtain ⟨x, hx⟩ : ∃ x, x = w1.heap.size := ⟨_, rfl⟩
  obtain ⟨b11, hb11⟩ : ∃ b, b = w1.heap.size + 1 := ⟨_, rfl⟩
  obtain ⟨w2, hw2⟩ : ∃ W : World, W = (w1.alloc (.cells #[.int .i64 (step : Int), .slice none 0 0] 111)).alloc (.cells #[.pointer (some ⟨x, 0, none⟩)] 70) := ⟨_, rfl⟩
  have hx2 : w2.heap[x]? = some (.cells #[.int .i64 (step : Int), .slice none 0 0] 111 (0, 0)) := by
    rw [hw2, hx]
    exact (Below.heap_alloc _ _ _ (by simp)).trans (alloc_cells _ _ _)
  have h112 : w2.heap[b11]? = some (.cells #[.pointer (some ⟨x, 0, none⟩)] 70 (0, 0)) := by
    rw [hw2, hb11]
    have := alloc_cells (w1.alloc (.cells #[.int .i64 (step : Int), .slice none 0 0] 111)) #[.pointer (some ⟨x, 0, none⟩)] 70
    rwa [World.size_alloc] at this
  have hb2 : Below w.heap.size w w2 := by
    rw [hw2]
    have h0 := HB1.out
    exact (h0.alloc h0.size _).alloc (by simp; have := h0.size; omega) _
  have hsz2 : w2.heap.size = w1.heap.size + 2 := by rw [hw2]; simp
  have hT : TellIs w2 L 44 #[.pointer (some ⟨b11, 0, none⟩)] (OpenJ w2 b11 x step bn L) := by
    refine ⟨fun W hW => ⟨.slice none 0 0, [], (hW.block _ (Array.getElem?_eq_some_iff.1 h112).1).trans h112, ⟨(hW.block _ (Array.getElem?_eq_some_iff.1 hx2).1).trans hx2, by simp [spsCells], .inl ⟨rfl, rfl⟩⟩, by rw [List.take_zero]; exact SpotsOk.nil bn, fun k hk => by simp [Value.ownBlock] at hk, Only.of_below hW (Nat.le_refl _) _⟩, fun j A B hJ ho => ?_, fun j W hj hJ => ?_⟩
    · obtain ⟨sv, sp, g1, g2, g3, g4, g5⟩ := hJ
      refine ⟨sv, sp, (ho.block _ (Array.getElem?_eq_some_iff.1 g1).1 (fun e => by have := e.1; omega)).trans g1, ⟨(ho.block _ (Array.getElem?_eq_some_iff.1 g2.head).1 (fun e => by have := e.1; omega)).trans g2.head, g2.row.kept (fun k hk => ho.block k (g2.row.lt k hk) (fun e => ?_))⟩, g3, g4, g5.trans ho (fun k hk e => by have := e.1; omega)⟩
      obtain ⟨-, cs, fr, hc⟩ := e
      exact g2.row.notX hc (by decide) hk
    · exact tellA_b H.out.2.2.2.2.2.2.1 HLN.out hs1 hj (by omega) hJ (by omega) (by omega)
  have hl := lookA_b (tl := []) b11 (H.out.1.belowS hb2) H.out.2.1 H.out.2.2.1 H.out.2.2.2.1 H.out.2.2.2.2.1 (by rw [List.append_nil]; exact H.out.2.2.2.2.2.1) ⟨H.out.2.2.2.2.2.2.1.good, .inl rfl⟩ H.out.2.2.2.2.2.2.1 hbl hT
  rw [show whyT [] = 150 from rfl] at hl
  unfold foundV at hl
  obtain ⟨x0, hx0⟩ : ∃ x : Int, x = (L.length : Int) := ⟨_, rfl⟩
  obtain ⟨x1, hx1⟩ : ∃ x : Int, x = ((bn + cntT L : Nat) : Int) := ⟨_, rfl⟩
  obtain ⟨xz, hxz⟩ : ∃ x : Int, x = ((batsT L).length : Int) := ⟨_, rfl⟩
  rw [← hx0, ← hx1, ← hxz] at hl
  have HL := Lib.hid hl
  have HX := Lib.hid (And.intro hx0 (And.intro hx1 hxz))
  have H2 := Lib.hid (And.intro hb2 (And.intro hsz2 (And.intro hx2 (And.intro h112 (And.intro hx hb11)))))
  have hwx : x + 1 = b11 := by rw [hb11, hx]
  go_upto_region 5 with fail
  rw [← hx, ← hw2, hwx]
  clear hT hl hx0 hx1 hxz hb2 hsz2 hx2 h112 hx hb11 hw2 hwx h1 h2
  go_wp2_with fail
  refine HL.out.mono ?_
  rintro e w3 ⟨rfl, hJ⟩
  have HJ := Lib.hid hJ
  clear hJ HL
  obtain ⟨sv, sp, j1, j2, j3, j4, j5⟩ := HJ.out
  obtain ⟨w4, hw4⟩ : ∃ W : World, W = w3.alloc (.cells #[.int .i64 x0, .int .i64 x1, .int .i64 xz, .int .i64 150] 47) := ⟨_, rfl⟩
  obtain ⟨b13, hb13⟩ : ∃ b, b = w3.heap.size := ⟨_, rfl⟩
  have hb34 : Below w3.heap.size w3 w4 := by rw [hw4]; exact (Below.refl _ _).alloc (Nat.le_refl _) _
  have g4 : w4.heap[b13]? = some (.cells #[.int .i64 x0, .int .i64 x1, .int .i64 xz, .int .i64 150] 47 (0, 0)) := by rw [hw4, hb13]; exact alloc_cells _ _ _
  have k3 : w4.cell? ⟨b13, 3, none⟩ = some (.int .i64 150) := cell_of g4 rfl
  have z3 : w4.frozen? ⟨b13, 3, none⟩ = false := free_of g4 _
  have H4 := Lib.hid (And.intro hb34 (And.intro g4 hb13))
  go_upto_region 8 with fail
  rw [← hw4, ← hb13]
  clear hw4 hb13 hb34 g4
  go_upto_region 13 with fail
  obtain ⟨w5, hw5⟩ : ∃ W : World, W = w4.setCell ⟨b13, 3, none⟩ (.int .i64 0) := ⟨_, rfl⟩
  rw [← hw5]
  have g5 : w5.heap[b13]? = some (.cells #[.int .i64 x0, .int .i64 x1, .int .i64 xz, .int .i64 0] 47 (0, 0)) := by rw [hw5]; exact heap_setCell_here _ H4.out.2.1
  have ho5 : Only (fun k => k = b13) w4 w5 := by rw [hw5]; exact only_setCell (fun k => k = b13) _ b13 3 _ rfl
  have hb35 : Below w3.heap.size w3 w5 := H4.out.1.trans (ho5.below (fun i hi e => by have := H4.out.2.2; omega) H4.out.1.size)
  have l0 : w5.cell? ⟨b13, 0, none⟩ = some (.int .i64 x0) := cell_of g5 rfl
  have l1 : w5.cell? ⟨b13, 1, none⟩ = some (.int .i64 x1) := cell_of g5 rfl
  have l2 : w5.cell? ⟨b13, 2, none⟩ = some (.int .i64 xz) := cell_of g5 rfl
  have l3 : w5.cell? ⟨b13, 3, none⟩ = some (.int .i64 0) := cell_of g5 rfl
  have k11 : w5.cell? ⟨b11, 0, none⟩ = some (.pointer (some ⟨x, 0, none⟩)) := cell_of ((hb35.block b11 (Array.getElem?_eq_some_iff.1 j1).1).trans j1) rfl
  have H5 := Lib.hid hb35
  clear hw5 g5 ho5 hb35 k3 z3
  have HJJ := Lib.hid (And.intro j1 (And.intro j2 (And.intro j3 (And.intro j4 j5))))
  clear j1 j2 j3 j4 j5
  go_wp2_with fail
  go_ret2
  obtain ⟨j1, j2, j3, j4, j5⟩ := HJJ.out
  have hb23 : Below w.heap.size w w3 := H2.out.1.trans (j5.below (fun i hi e => by have h1 := H2.out.2.2.2.2.1; have h2 := HB1.out.size; omega) H2.out.1.size)
  have hb25 : Below w.heap.size w w5 := hb23.trans (H5.out.mono hb23.size)
  obtain ⟨w6, hw6⟩ : ∃ W : World, W = w5.alloc (.cells #[.int .i64 x0, .int .i64 x1, .int .i64 xz, .int .i64 0, .pointer (some ⟨q, 0, none⟩), .string nm, .int .i64 (bn : Int), .pointer (some ⟨x, 0, none⟩)] 75) := ⟨_, rfl⟩
  have hb56 : Below w5.heap.size w5 w6 := by rw [hw6]; exact (Below.refl _ _).alloc (Nat.le_refl _) _
  have g6 : w6.heap[w5.heap.size]? = some (.cells #[.int .i64 x0, .int .i64 x1, .int .i64 xz, .int .i64 0, .pointer (some ⟨q, 0, none⟩), .string nm, .int .i64 (bn : Int), .pointer (some ⟨x, 0, none⟩)] 75 (0, 0)) := by rw [hw6]; exact alloc_cells _ _ _
  rw [← hw6]
  rw [HX.out.1, HX.out.2.1, HX.out.2.2] at g6
  have hb36 : Below w3.heap.size w3 w6 := H5.out.trans (hb56.mono H5.out.size)
  have hb26 : Below w.heap.size w w6 := hb25.trans (hb56.mono hb25.size)
  have hxw : w.heap.size ≤ x := by have h1 := H2.out.2.2.2.2.1; have h2 := HB1.out.size; omega
  have hx2l := (Array.getElem?_eq_some_iff.1 H2.out.2.2.1).1
  have hx3 := (Array.getElem?_eq_some_iff.1 j2.head).1
  have h36 := H5.out.size
  rw [List.take_length] at j3
  refine ⟨w5.heap.size, x, sv, sp, rfl, ?_, hb26⟩
  exact {
    head := g6
    idx := j2.later hb36
    spots := j3
    chain := H.out.2.2.2.2.2.2.1
    disk := H.out.1.belowS hb26
    file := ⟨f, H.out.2.2.2.2.1, H.out.2.2.2.2.2.1⟩
    sS := fun hk => by have h1 := H.out.1.lowS _ hk; have h2 := hb25.size; omega
    xS := fun hk => by have h1 := H.out.1.lowS _ hk; omega
    vS := fun k hk hS => by have h1 := H.out.1.lowS _ hS; have h2 := j4 k hk; have h3 := H2.out.1.size; omega
    sx := fun e => by omega
    sv := fun k hk => by
      have h1 := j2.row.lt k hk
      have h2 := j4 k hk
      exact ⟨by omega, by omega⟩
    stp := ⟨hs1, hs2⟩
    off := hbl
    nms := H.out.2.1 }
end Go.Proofs.YtmkjejngnahpeaaGreat
/- segment: Mend. -/
namespace Go.Proofs.YtmkjejngnahpeaaGreat
open Go Go.RowKit
attribute [local go_sem] Oper.semAt_some

set_option maxRecDepth 100000 in
set_option maxHeartbeats 1000000 in
theorem mend1_b {w : World} {S : Nat → Prop} {q b2 b3 b6 : Nat} {d : Dk} {nm : ByteArray} {z : Int} (h : DiskAt w S q d) (hnm : nm.size ≤ 32) (k2 : w.cell? ⟨b2, 0, none⟩ = some (.pointer (some ⟨q, 0, none⟩))) (k3 : w.cell? ⟨b3, 0, none⟩ = some (.string nm)) (k6 : w.cell? ⟨b6, 2, none⟩ = some (.int .i64 z)) :
    Calls Tryz.prog 41 #[.pointer (some ⟨b2, 0, none⟩), .pointer (some ⟨b3, 0, none⟩), .pointer (some ⟨b6, 0, none⟩)] w fun e w' => OpIs w S q (d.cut nm.data.toList z) e w' := by
  have HC := Lib.hid (cut_b h nm (Nat.le_trans hnm (by decide)) z)
  clear h hnm
  go_enter Tryz.func41, Tryz.ntmps41
  go_wp2_with fail
  refine HC.out.mono ?_
  rintro e w1 ⟨rfl, hd, ho⟩
  have H := Lib.hid (And.intro hd ho)
  clear hd ho
  go_wp2_with fail
  go_ret
  exact ⟨rfl, H.out.1, H.out.2⟩
set_option maxRecDepth 100000 in
set_option maxHeartbeats 1000000 in
theorem mend2_b {w : World} {S : Nat → Prop} {q b2 b3 : Nat} {d : Dk} {nm : ByteArray} (h : DiskAt w S q d) (hnm : nm.size ≤ 32) (k2 : w.cell? ⟨b2, 0, none⟩ = some (.pointer (some ⟨q, 0, none⟩))) (k3 : w.cell? ⟨b3, 0, none⟩ = some (.string nm)) :
    Calls Tryz.prog 43 #[.pointer (some ⟨b2, 0, none⟩), .pointer (some ⟨b3, 0, none⟩)] w fun e w' => OpIs w S q (d.sync nm.data.toList) e w' := by
  have HC := Lib.hid (sync_b h nm (Nat.le_trans hnm (by decide)))
  clear h hnm
  go_enter Tryz.func43, Tryz.ntmps43
  go_wp2_with fail
  refine HC.out.mono ?_
  rintro e w1 ⟨rfl, hd, ho⟩
  have H := Lib.hid (And.intro hd ho)
  clear hd ho
  go_wp2_with fail
  go_ret
  exact ⟨rfl, H.out.1, H.out.2⟩
/-- what Mend leaves -/
def MendIs (w : World) (S : Nat → Prop) (q : Nat) (_d d2 : Dk) (L : List Bat) (bn : Nat) (tl : List UInt8) (e : Ending) (w' : World) : Prop :=
  e = .returned (.tuple #[foundV L.length (bn + cntT L) (batsT L).length (whyT tl), .int .i64 0]) ∧ ((tl = [] ∧ Below w.heap.size w w') ∨ (tl ≠ [] ∧ ∃ S', (∀ k, S' k → S k ∨ w.heap.size ≤ k) ∧ DiskAt w' S' q d2 ∧ Only S w w'))
set_option maxRecDepth 100000 in
set_option maxHeartbeats 4000000 in
theorem mendS_b {w : World} {S : Nat → Prop} {q bn : Nat} {d : Dk} {nm : ByteArray} {f : F0} {L : List Bat} {tl : List UInt8} (h : DiskAt w S q d) (hnm : nm.size ≤ 32) (hok : okName nm.data.toList = true) (hbn : hnum (digs nm.data.toList) = bn) (hf : d.find nm.data.toList = some f) (hfb : f.bytes = batsT L ++ tl) (hgo : BatsOk L tl) (hch : Chain bn L) (hbl : bn ≤ 9007199254740992)
    (hc0 : (d.cut nm.data.toList ((batsT L).length : Int)).1 = 0) (hs0 : ((d.cut nm.data.toList ((batsT L).length : Int)).2.sync nm.data.toList).1 = 0) :
    Calls Tryz.prog 15 #[.pointer (some ⟨q, 0, none⟩), .string nm] w fun e w' => MendIs w S q d ((d.cut nm.data.toList ((batsT L).length : Int)).2.sync nm.data.toList).2 L bn tl e w' := by
  have hmf : ∀ (fn : Fn) (first cap : Array Value) (W : World), (Instr.makeFunc fn first cap).run Tryz.prog W = .ok (.func fn first cap) W := fun _ _ _ _ => rfl
  obtain ⟨w1, hw1⟩ : ∃ W : World, W = ((w.alloc (.cells #[.pointer (some ⟨q, 0, none⟩)] 29)).alloc (.cells #[.string nm] 9)).alloc (.cells #[.int .i64 0, .int .i64 0, .int .i64 0, .int .i64 0] 47) := ⟨_, rfl⟩
  obtain ⟨b2, hb2⟩ : ∃ b, b = w.heap.size := ⟨_, rfl⟩
  obtain ⟨b3, hb3⟩ : ∃ b, b = w.heap.size + 1 := ⟨_, rfl⟩
  obtain ⟨b4, hb4⟩ : ∃ b, b = w.heap.size + 1 + 1 := ⟨_, rfl⟩
  have hbl1 : Below w.heap.size w w1 := by rw [hw1]; exact (((Below.refl _ _).alloc (Nat.le_refl _) _).alloc (by simp) _).alloc (by simp; omega) _
  have g2 : w1.heap[b2]? = some (.cells #[.pointer (some ⟨q, 0, none⟩)] 29 (0, 0)) := by
    rw [hw1, hb2]
    exact (Below.heap_alloc _ _ _ (by simp; omega)).trans ((Below.heap_alloc _ _ _ (by simp)).trans (alloc_cells _ _ _))
  have g3 : w1.heap[b3]? = some (.cells #[.string nm] 9 (0, 0)) := by
    rw [hw1, hb3]
    have := alloc_cells (w.alloc (.cells #[.pointer (some ⟨q, 0, none⟩)] 29)) #[.string nm] 9
    rw [World.size_alloc] at this
    exact (Below.heap_alloc _ _ _ (by simp)).trans this
  have g4 : w1.heap[b4]? = some (.cells #[.int .i64 0, .int .i64 0, .int .i64 0, .int .i64 0] 47 (0, 0)) := by
    rw [hw1, hb4]
    have := alloc_cells ((w.alloc (.cells #[.pointer (some ⟨q, 0, none⟩)] 29)).alloc (.cells #[.string nm] 9)) #[.int .i64 0, .int .i64 0, .int .i64 0, .int .i64 0] 47
    rwa [World.size_alloc, World.size_alloc] at this
  have hl := lookS_b (h.belowS hbl1) hnm hok hbn hf hfb hgo hch hbl
  obtain ⟨wy, hwy⟩ : ∃ y, y = whyT tl := ⟨_, rfl⟩
  have HMV : Hid (∀ w', MendIs w S q d ((d.cut nm.data.toList ((batsT L).length : Int)).2.sync nm.data.toList).2 L bn tl (.returned (.tuple #[foundV L.length (bn + cntT L) (batsT L).length (whyT tl), .int .i64 0])) w' ↔ ((tl = [] ∧ Below w.heap.size w w') ∨ (tl ≠ [] ∧ ∃ S', (∀ k, S' k → S k ∨ w.heap.size ≤ k) ∧ DiskAt w' S' q ((d.cut nm.data.toList ((batsT L).length : Int)).2.sync nm.data.toList).2 ∧ Only S w w'))) := Lib.hid (fun w' => ⟨fun hh => hh.2, fun hh => ⟨rfl, hh⟩⟩)
  unfold foundV at hl HMV
  obtain ⟨x0, hx0⟩ : ∃ x : Int, x = (L.length : Int) := ⟨_, rfl⟩
  obtain ⟨x1, hx1⟩ : ∃ x : Int, x = ((bn + cntT L : Nat) : Int) := ⟨_, rfl⟩
  obtain ⟨xz, hxz⟩ : ∃ x : Int, x = ((batsT L).length : Int) := ⟨_, rfl⟩
  obtain ⟨dc, hdc⟩ : ∃ r, r = d.cut nm.data.toList ((batsT L).length : Int) := ⟨_, rfl⟩
  obtain ⟨ds, hds⟩ : ∃ r, r = (d.cut nm.data.toList ((batsT L).length : Int)).2.sync nm.data.toList := ⟨_, rfl⟩
  rw [← hds] at HMV hs0 ⊢
  rw [← hdc] at hds hc0
  rw [← hxz] at hdc
  rw [← hx0, ← hx1, ← hxz, ← hwy] at hl HMV
  have HL := Lib.hid hl
  have H := Lib.hid (And.intro h (And.intro hnm (And.intro hdc (And.intro hds (And.intro hc0 hs0)))))
  have H1 := Lib.hid (And.intro hbl1 (And.intro g2 (And.intro g3 (And.intro g4 (And.intro hb2 (And.intro hb3 hb4))))))
  have HWY := Lib.hid hwy
  have k2 : w1.cell? ⟨b2, 0, none⟩ = some (.pointer (some ⟨q, 0, none⟩)) := cell_of g2 rfl
  have k3 : w1.cell? ⟨b3, 0, none⟩ = some (.string nm) := cell_of g3 rfl
  clear h hnm hok hbn hf hfb hgo hch hbl hc0 hs0 hl hx0 hx1 hxz hdc hds hbl1 g2 g3 g4 hwy
  go_enter Tryz.func15, Tryz.ntmps15
  go_upto_region 1 with fail
  rw [← hw1, ← hb4, ← hb3, ← hb2]
  clear hw1 hb2 hb3 hb4
  go_wp2_with fail
  refine HL.out.mono ?_
  rintro e w2 ⟨rfl, hb12⟩
  obtain ⟨w3, hw3⟩ : ∃ W : World, W = w2.alloc (.cells #[.int .i64 x0, .int .i64 x1, .int .i64 xz, .int .i64 wy] 47) := ⟨_, rfl⟩
  obtain ⟨b6, hb6⟩ : ∃ b, b = w2.heap.size := ⟨_, rfl⟩
  have hb13 : Below w1.heap.size w1 w3 := by rw [hw3]; exact hb12.alloc hb12.size _
  have g6 : w3.heap[b6]? = some (.cells #[.int .i64 x0, .int .i64 x1, .int .i64 xz, .int .i64 wy] 47 (0, 0)) := by rw [hw3, hb6]; exact alloc_cells _ _ _
  have g43 := (hb13.block b4 (Array.getElem?_eq_some_iff.1 H1.out.2.2.2.1).1).trans H1.out.2.2.2.1
  have q3 : w3.cell? ⟨b6, 3, none⟩ = some (.int .i64 wy) := cell_of g6 rfl
  have H3 := Lib.hid (And.intro hb13 (And.intro g6 (And.intro g43 (show w1.heap.size ≤ b6 by rw [hb6]; exact hb12.size))))
  go_upto_region 2 with fail
  rw [← hw3, ← hb6]
  clear hw3 hb6 hb12 hb13 g6 g43 k2 k3 HL
  by_cases htl : tl = []
  · have hy : wy = 150 := by rw [HWY.out]; unfold whyT; rw [if_pos htl]
    subst hy
    have HTL := Lib.hid htl
    clear htl
    have q0 : w3.cell? ⟨b6, 0, none⟩ = some (.int .i64 x0) := cell_of H3.out.2.1 rfl
    have q1 : w3.cell? ⟨b6, 1, none⟩ = some (.int .i64 x1) := cell_of H3.out.2.1 rfl
    have q2 : w3.cell? ⟨b6, 2, none⟩ = some (.int .i64 xz) := cell_of H3.out.2.1 rfl
    have y0 : w3.cell? ⟨b4, 0, none⟩ = some (.int .i64 0) := cell_of H3.out.2.2.1 rfl
    have y1 : w3.cell? ⟨b4, 1, none⟩ = some (.int .i64 0) := cell_of H3.out.2.2.1 rfl
    have y2 : w3.cell? ⟨b4, 2, none⟩ = some (.int .i64 0) := cell_of H3.out.2.2.1 rfl
    have y3 : w3.cell? ⟨b4, 3, none⟩ = some (.int .i64 0) := cell_of H3.out.2.2.1 rfl
    have v0 : w3.frozen? ⟨b4, 0, none⟩ = false := free_of H3.out.2.2.1 _
    have v1 : w3.frozen? ⟨b4, 1, none⟩ = false := free_of H3.out.2.2.1 _
    have v2 : w3.frozen? ⟨b4, 2, none⟩ = false := free_of H3.out.2.2.1 _
    have v3 : w3.frozen? ⟨b4, 3, none⟩ = false := free_of H3.out.2.2.1 _
    go_wp2_with fail
    obtain ⟨w7, hw7⟩ : ∃ W : World, W = (((w3.setCell ⟨b4, 0, none⟩ (.int .i64 x0)).setCell ⟨b4, 1, none⟩ (.int .i64 x1)).setCell ⟨b4, 2, none⟩ (.int .i64 xz)).setCell ⟨b4, 3, none⟩ (.int .i64 150) := ⟨_, rfl⟩
    rw [← hw7]
    have g7 : w7.heap[b4]? = some (.cells #[.int .i64 x0, .int .i64 x1, .int .i64 xz, .int .i64 150] 47 (0, 0)) := by
      rw [hw7]
      exact heap_setCell_here _ (heap_setCell_here _ (heap_setCell_here _ (heap_setCell_here _ H3.out.2.2.1)))
    have ho7 : Only (fun k => k = b4) w3 w7 := by
      rw [hw7]
      exact (((only_setCell (fun k => k = b4) _ b4 0 _ rfl).trans (only_setCell (fun k => k = b4) _ b4 1 _ rfl) (fun _ _ e => e)).trans (only_setCell (fun k => k = b4) _ b4 2 _ rfl) (fun _ _ e => e)).trans (only_setCell (fun k => k = b4) _ b4 3 _ rfl) (fun _ _ e => e)
    have r0 := cell_of (i := 0) g7 rfl
    have r1 := cell_of (i := 1) g7 rfl
    have r2 := cell_of (i := 2) g7 rfl
    have r3 := cell_of (i := 3) g7 rfl
    refine bodyPost_ret (v := .tuple #[.agg #[.int .i64 x0, .int .i64 x1, .int .i64 xz, .int .i64 150], .int .i64 0]) (by simp [results, Tryz.results15, go_sem, r0, r1, r2, r3]) rfl ((HMV.out _).2 (.inl ⟨HTL.out, ?_⟩))
    have hb03 := H1.out.1.trans (H3.out.1.mono H1.out.1.size)
    exact hb03.trans (ho7.below (fun i hi e => by have := H1.out.2.2.2.2.2.2; omega) hb03.size)
  · have hy : wy = 151 := by rw [HWY.out]; unfold whyT; rw [if_neg htl]
    subst hy
    have HTL := Lib.hid htl
    clear htl
    go_upto_region 9 with fail
    obtain ⟨w4, hw4⟩ : ∃ W : World, W = w3.alloc (.cells #[.func (.func 41) #[] #[.pointer (some ⟨b2, 0, none⟩), .pointer (some ⟨b3, 0, none⟩), .pointer (some ⟨b6, 0, none⟩)], .func (.func 43) #[] #[.pointer (some ⟨b2, 0, none⟩), .pointer (some ⟨b3, 0, none⟩)]] 36) := ⟨_, rfl⟩
    obtain ⟨b34, hb34⟩ : ∃ b, b = w3.heap.size := ⟨_, rfl⟩
    have hb3 : Below w3.heap.size w3 w4 := by rw [hw4]; exact (Below.refl _ _).alloc (Nat.le_refl _) _
    have g34 : w4.heap[b34]? = some (.cells #[.func (.func 41) #[] #[.pointer (some ⟨b2, 0, none⟩), .pointer (some ⟨b3, 0, none⟩), .pointer (some ⟨b6, 0, none⟩)], .func (.func 43) #[] #[.pointer (some ⟨b2, 0, none⟩), .pointer (some ⟨b3, 0, none⟩)]] 36 (0, 0)) := by rw [hw4, hb34]; exact alloc_cells _ _ _
    rw [← hw4, ← hb34]
    have hb14 : Below w1.heap.size w1 w4 := H3.out.1.trans (hb3.mono H3.out.1.size)
    have hb04 : Below w.heap.size w w4 := H1.out.1.trans (hb14.mono H1.out.1.size)
    have lo : ∀ k, S k → k < w.heap.size := H.out.1.lowS
    have s1 := H1.out.1.size
    have s3 := H3.out.1.size
    have e2 := (hb14.block b2 (Array.getElem?_eq_some_iff.1 H1.out.2.1).1).trans H1.out.2.1
    have e3 := (hb14.block b3 (Array.getElem?_eq_some_iff.1 H1.out.2.2.1).1).trans H1.out.2.2.1
    have e4 := (hb14.block b4 (Array.getElem?_eq_some_iff.1 H1.out.2.2.2.1).1).trans H1.out.2.2.2.1
    have e6 := (hb3.block b6 (Array.getElem?_eq_some_iff.1 H3.out.2.1).1).trans H3.out.2.1
    have HNS : Hid (¬ S b2 ∧ ¬ S b3 ∧ ¬ S b4 ∧ ¬ S b6 ∧ ¬ S b34) := Lib.hid ⟨fun hk => by have := lo _ hk; have := H1.out.2.2.2.2; omega, fun hk => by have := lo _ hk; have := H1.out.2.2.2.2; omega, fun hk => by have := lo _ hk; have := H1.out.2.2.2.2; omega, fun hk => by have := lo _ hk; have := H3.out.2.2.2; omega, fun hk => by have := lo _ hk; omega⟩
    have H4 := Lib.hid (And.intro hb04 (And.intro e2 (And.intro e3 (And.intro e4 (And.intro e6 g34)))))
    clear hw4 hb34 hb3 g34 hb14 hb04 lo s1 s3 e2 e3 e4 e6 q3
    have kept : Hid (∀ (W : World), Only S w4 W → W.heap[b2]? = w4.heap[b2]? ∧ W.heap[b3]? = w4.heap[b3]? ∧ W.heap[b4]? = w4.heap[b4]? ∧ W.heap[b6]? = w4.heap[b6]? ∧ W.heap[b34]? = w4.heap[b34]?) := Lib.hid (fun W ho =>
      ⟨ho.block _ (Array.getElem?_eq_some_iff.1 H4.out.2.1).1 HNS.out.1, ho.block _ (Array.getElem?_eq_some_iff.1 H4.out.2.2.1).1 HNS.out.2.1, ho.block _ (Array.getElem?_eq_some_iff.1 H4.out.2.2.2.1).1 HNS.out.2.2.1, ho.block _ (Array.getElem?_eq_some_iff.1 H4.out.2.2.2.2.1).1 HNS.out.2.2.2.1, ho.block _ (Array.getElem?_eq_some_iff.1 H4.out.2.2.2.2.2).1 HNS.out.2.2.2.2⟩)
    go_loopw [36] (fun i wr => ∃ (t : Nat) (S1 : Nat → Prop), i = .int .i64 (t : Int) ∧ t ≤ 2 ∧ Hid (Only S w4 wr ∧ (∀ k, S1 k → S k ∨ w4.heap.size ≤ k) ∧ DiskAt wr S1 q (if t = 0 then d else if t = 1 then dc.2 else ds.2))) (fun i _ => 2 - (intOf i).toNat)
    case atStart => exact ⟨0, S, rfl, by omega, Lib.hid ⟨Only.refl _ _, fun k hk => .inl hk, H.out.1.belowS H4.out.1⟩⟩
    case round =>
      obtain ⟨t, S1, rfl, ht, HI⟩ := hrel
      obtain ⟨t2, t3, t4, t6, t34⟩ := kept.out _ HI.out.1
      have m2 : wr.cell? ⟨b2, 0, none⟩ = some (.pointer (some ⟨q, 0, none⟩)) := cell_of (t2.trans H4.out.2.1) rfl
      have m3 : wr.cell? ⟨b3, 0, none⟩ = some (.string nm) := cell_of (t3.trans H4.out.2.2.1) rfl
      have hg34 := t34.trans H4.out.2.2.2.2.2
      have hg6 := t6.trans H4.out.2.2.2.2.1
      have hg4 := t4.trans H4.out.2.2.2.1
      have sub : ∀ (W : World) (S2 : Nat → Prop), Only S1 wr W → (∀ k, S2 k → Wid S1 wr W k) → Only S w4 W ∧ ∀ k, S2 k → S k ∨ w4.heap.size ≤ k := fun W S2 ho hs => by
        refine ⟨HI.out.1.trans ho (fun k hk h1 => ?_), fun k hk => ?_⟩
        · rcases HI.out.2.1 k h1 with h | h
          · exact h
          · omega
        · rcases hs k hk with h | h
          · exact HI.out.2.1 k h
          · have := h.1; have := HI.out.1.size; exact .inr (by omega)
      have SUB := Lib.hid sub
      clear t2 t3 t4 t6 t34 sub
      by_cases h0 : t = 0
      · subst h0
        have hd0 := HI.out.2.2
        rw [if_pos rfl] at hd0
        have k0 : wr.cell? ⟨b34, 0, none⟩ = some (.func (.func 41) #[] #[.pointer (some ⟨b2, 0, none⟩), .pointer (some ⟨b3, 0, none⟩), .pointer (some ⟨b6, 0, none⟩)]) := cell_of hg34 rfl
        have m6 : wr.cell? ⟨b6, 2, none⟩ = some (.int .i64 xz) := cell_of hg6 rfl
        have hcl := mend1_b hd0 H.out.2.1 m2 m3 m6
        rw [← H.out.2.2.1] at hcl
        have HCL := Lib.hid hcl
        clear hcl hd0 hg34 hg6 hg4 m2 m3 m6
        go_wp2_with fail
        refine HCL.out.mono ?_
        rintro e w5 ⟨rfl, hd5, ho5⟩
        rw [H.out.2.2.2.2.1]
        have hs5 := SUB.out w5 _ ho5 (fun k hk => hk)
        have HN5 : Hid (Only S w4 w5 ∧ (∀ k, Wid S1 wr w5 k → S k ∨ w4.heap.size ≤ k) ∧ DiskAt w5 (Wid S1 wr w5) q (if 1 = 0 then d else if 1 = 1 then dc.2 else ds.2)) := Lib.hid ⟨hs5.1, hs5.2, by rw [if_neg (by decide), if_pos rfl]; exact hd5⟩
        clear hd5 ho5 hs5
        go_wp2_with fail
        exact ⟨⟨1, _, rfl, by omega, HN5⟩, by simp [intOf]⟩
      by_cases h1 : t = 1
      · subst h1
        have hd0 := HI.out.2.2
        rw [if_neg (by decide), if_pos rfl] at hd0
        have k0 : wr.cell? ⟨b34, 1, none⟩ = some (.func (.func 43) #[] #[.pointer (some ⟨b2, 0, none⟩), .pointer (some ⟨b3, 0, none⟩)]) := cell_of hg34 rfl
        have hcl := mend2_b hd0 H.out.2.1 m2 m3
        rw [← H.out.2.2.2.1] at hcl
        have HCL := Lib.hid hcl
        clear hcl hd0 hg34 hg6 hg4 m2 m3
        go_wp2_with fail
        refine HCL.out.mono ?_
        rintro e w5 ⟨rfl, hd5, ho5⟩
        rw [H.out.2.2.2.2.2]
        have hs5 := SUB.out w5 _ ho5 (fun k hk => hk)
        have HN5 : Hid (Only S w4 w5 ∧ (∀ k, Wid S1 wr w5 k → S k ∨ w4.heap.size ≤ k) ∧ DiskAt w5 (Wid S1 wr w5) q (if 2 = 0 then d else if 2 = 1 then dc.2 else ds.2)) := Lib.hid ⟨hs5.1, hs5.2, by rw [if_neg (by decide), if_neg (by decide)]; exact hd5⟩
        clear hd5 ho5 hs5
        go_wp2_with fail
        exact ⟨⟨2, _, rfl, by omega, HN5⟩, by simp [intOf]⟩
      · obtain rfl : t = 2 := by omega
        have q0 : wr.cell? ⟨b6, 0, none⟩ = some (.int .i64 x0) := cell_of hg6 rfl
        have q1 : wr.cell? ⟨b6, 1, none⟩ = some (.int .i64 x1) := cell_of hg6 rfl
        have q2 : wr.cell? ⟨b6, 2, none⟩ = some (.int .i64 xz) := cell_of hg6 rfl
        have q3 : wr.cell? ⟨b6, 3, none⟩ = some (.int .i64 151) := cell_of hg6 rfl
        have y0 : wr.cell? ⟨b4, 0, none⟩ = some (.int .i64 0) := cell_of hg4 rfl
        have y1 : wr.cell? ⟨b4, 1, none⟩ = some (.int .i64 0) := cell_of hg4 rfl
        have y2 : wr.cell? ⟨b4, 2, none⟩ = some (.int .i64 0) := cell_of hg4 rfl
        have y3 : wr.cell? ⟨b4, 3, none⟩ = some (.int .i64 0) := cell_of hg4 rfl
        have v0 : wr.frozen? ⟨b4, 0, none⟩ = false := free_of hg4 _
        have v1 : wr.frozen? ⟨b4, 1, none⟩ = false := free_of hg4 _
        have v2 : wr.frozen? ⟨b4, 2, none⟩ = false := free_of hg4 _
        have v3 : wr.frozen? ⟨b4, 3, none⟩ = false := free_of hg4 _
        have HG4 := Lib.hid hg4
        clear hg34 hg6 hg4 m2 m3
        go_wp2_with fail
        obtain ⟨w7, hw7⟩ : ∃ W : World, W = (((wr.setCell ⟨b4, 0, none⟩ (.int .i64 x0)).setCell ⟨b4, 1, none⟩ (.int .i64 x1)).setCell ⟨b4, 2, none⟩ (.int .i64 xz)).setCell ⟨b4, 3, none⟩ (.int .i64 151) := ⟨_, rfl⟩
        rw [← hw7]
        have g7 : w7.heap[b4]? = some (.cells #[.int .i64 x0, .int .i64 x1, .int .i64 xz, .int .i64 151] 47 (0, 0)) := by
          rw [hw7]
          exact heap_setCell_here _ (heap_setCell_here _ (heap_setCell_here _ (heap_setCell_here _ HG4.out)))
        have ho7 : Only (fun k => k = b4) wr w7 := by
          rw [hw7]
          exact (((only_setCell (fun k => k = b4) _ b4 0 _ rfl).trans (only_setCell (fun k => k = b4) _ b4 1 _ rfl) (fun _ _ e => e)).trans (only_setCell (fun k => k = b4) _ b4 2 _ rfl) (fun _ _ e => e)).trans (only_setCell (fun k => k = b4) _ b4 3 _ rfl) (fun _ _ e => e)
        have r0 := cell_of (i := 0) g7 rfl
        have r1 := cell_of (i := 1) g7 rfl
        have r2 := cell_of (i := 2) g7 rfl
        have r3 := cell_of (i := 3) g7 rfl
        refine bodyPost_ret (v := .tuple #[.agg #[.int .i64 x0, .int .i64 x1, .int .i64 xz, .int .i64 151], .int .i64 0]) (by simp [results, Tryz.results15, go_sem, r0, r1, r2, r3]) rfl ((HMV.out _).2 (.inr ⟨HTL.out, S1, fun k hk => ?_, ?_, ?_⟩))
        · have h4s := H4.out.1.size
          rcases HI.out.2.1 k hk with h | h
          · exact .inl h
          · exact .inr (by omega)
        · have hd := HI.out.2.2
          rw [if_neg (by decide), if_neg (by decide)] at hd
          refine hd.onlyS ho7 (fun k hk e => ?_)
          subst e
          rcases HI.out.2.1 _ hk with h | h
          · exact HNS.out.2.2.1 h
          · have := (Array.getElem?_eq_some_iff.1 H4.out.2.2.2.1).1; omega
        · have h04 := H4.out.1
          exact ((Only.of_below h04 (Nat.le_refl _) S).trans HI.out.1 (fun _ _ h => h)).trans (ho7.mono (S := fun k => k = b4) (T := fun k => S k ∨ w.heap.size ≤ k) (fun k _ e => .inr (by have := H1.out.2.2.2.2.2.2; omega))) (fun k hk e => by
            rcases e with e | e
            · exact e
            · omega)
end Go.Proofs.YtmkjejngnahpeaaGreat
/- Disk: Crash. -/
namespace Go.Proofs.YtmkjejngnahpeaaGreat
open Go Go.Maps Go.RowKit
open Go.Proofs (encStr)

set_option maxRecDepth 100000 in
set_option maxHeartbeats 1000000 in
theorem crash_b {w : World} {S : Nat → Prop} {q : Nat} {d : Dk} (h : DiskAt w S q d) (oa : Option Addr) (c : Nat) (ps : List Int) (hp : readAt w 1 (.slice oa ps.length c) ps.length (intCells ps)) (hpl : ps.length ≤ 1000000000) (hpm : ∀ x ∈ ps, x ≤ 9223372036854775807) :
    Calls Tryz.prog 12 #[.pointer (some ⟨q, 0, none⟩), .agg #[.slice oa ps.length c]] w fun e w' => CrashIs w d ps e w' := by
  obtain ⟨mb, fv, L, h⟩ := h
  obtain ⟨np, hnp⟩ : ∃ np, ps.length = np := ⟨_, rfl⟩
  rw [hnp] at hp hpl ⊢
  have hmm := @run_makeMap Tryz.prog
  go_enter Tryz.func12, Tryz.ntmps12
  go_upto_region 1 with fail
  obtain ⟨w1, hw1⟩ : ∃ w1 : World, w1 = w.alloc (.cells #[.slice oa np c] 43) := ⟨_, rfl⟩
  obtain ⟨r, hr⟩ : ∃ r, r = w.heap.size := ⟨_, rfl⟩
  have hr1 : w1.heap[r]? = some (.cells #[.slice oa np c] 43 (0, 0)) := by rw [hw1, hr]; exact alloc_cells _ _ _
  have hb1 : Below w.heap.size w w1 := by rw [hw1]; exact (Below.refl _ _).alloc (Nat.le_refl _) _
  have h1 := h.below hb1
  have hp1 : readAt w1 1 (.slice oa np c) np (intCells ps) := hp.kept (fun k hl _ _ => hb1.block k hl)
  have HSL : Hid (∀ k, S k → k < w.heap.size) := Lib.hid h.low
  have hpz : 0 < np → ∀ k, (Value.slice oa np c).ownBlock = some k → k < w.heap.size := fun h0 k hk => hp.lt h0 k hk
  have hs1 : w1.heap.size = w.heap.size + 1 := by rw [hw1]; simp
  rw [← hr, ← hw1]
  have HR := Lib.hid hr
  have H1 := Lib.hid h1
  have HP1 := Lib.hid hp1
  have HPZ := Lib.hid hpz
  have HB1 := Lib.hid hb1
  have HS1 := Lib.hid hs1
  clear hw1 hr h h1 hp hp1 hpz hb1 hs1
  have r0 : w1.cell? ⟨r, 0, none⟩ = some (.slice oa np c) := cell_of hr1 rfl
  go_wp2_with fail
  refine (none_b H1.out).mono ?_
  rintro e w' ⟨rfl, rfl⟩
  go_wp2_with fail
  refine (containsInt_b hnp HP1.out hpl).mono ?_
  rintro e w1 ⟨b, rfl, hbb, rfl⟩
  cases b with
  | true =>
    have HO : Hid (CrashIs w d ps (.returned (.tuple #[.pointer none, .int .i64 2])) w1) := Lib.hid (.inl ⟨fun h => (by have := hbb.2 h; cases this), rfl, HB1.out⟩)
    clear hbb
    go_wp2_with fail
    go_ret2
    exact HO.out
  | false =>
    have HGE : Hid (AllGe ps) := Lib.hid (hbb.1 rfl)
    clear hbb
    go_upto_region 8 with fail
    obtain ⟨pb, hpb⟩ : ∃ pb, pb = w1.heap.size := ⟨_, rfl⟩
    obtain ⟨wa, hwa⟩ : ∃ wa : World, wa = w1.alloc (.cells #[.slice oa np c] 23) := ⟨_, rfl⟩
    have hsa : wa.heap.size = pb + 1 := by rw [hwa, hpb]; simp
    have hpa : wa.heap[pb]? = some (.cells #[.slice oa np c] 23 (0, 0)) := by rw [hwa, hpb]; exact alloc_cells _ _ _
    have hba : Below w1.heap.size w1 wa := by rw [hwa]; exact (Below.refl _ _).alloc (Nat.le_refl _) _
    have hdn := disk_new wa
    obtain ⟨w2, hw2⟩ : ∃ w2 : World, w2 = (wa.alloc (.map #[] 0)).alloc (.cells #[.map (some wa.heap.size), .slice none 0 0, .int .i64 0] 69) := ⟨_, rfl⟩
    have hb2 : Below wa.heap.size wa w2 := by rw [hw2]; exact ((Below.refl _ _).alloc (Nat.le_refl _) _).alloc (by simp) _
    have hs2 : w2.heap.size = pb + 3 := by rw [hw2]; simp [hsa]
    rw [← hw2] at hdn
    rw [hsa] at hdn hw2
    rw [← hpb, ← hwa, ← hw2]
    have hB2 : Below w.heap.size w w2 := HB1.out.trans ((hba.trans (hb2.mono hba.size)).mono HB1.out.size)
    have h2 : DiskIs w2 S q mb fv L d := (H1.out.below hba).below hb2
    have hpk : PicksAt w2 pb w.heap.size ps := by
      refine ⟨oa, c, ?_, ?_, fun h0 k hk => ?_⟩
      · rw [hnp]; exact (hb2.block pb (by omega)).trans hpa
      · rw [hnp]
        have := HP1.out
        exact (this.kept (fun k hl _ _ => hba.block k hl)).kept (fun k hl _ _ => hb2.block k hl)
      · have h3 := HPZ.out (by omega) k (by rw [hnp] at hk; exact hk)
        have h4 := HS1.out
        exact ⟨by omega, h3⟩
    have HZ : Hid (w.heap.size < pb) := Lib.hid (by have := HS1.out; omega)
    have H2 := Lib.hid h2
    have HPK := Lib.hid hpk
    have HDN := Lib.hid hdn
    have HB2 := Lib.hid hB2
    have HS2 := Lib.hid hs2
    clear hpb hwa hsa hpa hba hdn hw2 hb2 hs2 hB2 h2 hpk r0 hr1 HR H1 HP1 HPZ HB1 HS1
    go_wp2_with fail
    refine (names_b H2.out).mono ?_
    rintro e w3 ⟨v, rfl, hown, hnil, hb3⟩
    obtain ⟨n, hn⟩ : ∃ n, L.length = n := ⟨_, rfl⟩
    rw [hn] at hown
    have hrow := rowAt.of_row (hasRow.of_own hown)
    obtain ⟨oan, cn, rfl, _⟩ := hrow.shape
    have hge : ∀ k, (Value.slice oan n cn).ownBlock = some k → w2.heap.size ≤ k := fun k hk => ((hasRow.of_own hown).lt k hk).1
    have HROW := Lib.hid hrow
    have HGE2 := Lib.hid hge
    have HB3 := Lib.hid hb3
    have HLN := Lib.hid hn
    have hnle : n ≤ 4096 := by
      have h3 := H2.out.few
      rw [← H2.out.files, List.length_map, hn] at h3
      exact h3
    clear hown hnil hb3 hn hrow hge
    have hinv : CrashInv w3 w3 S q mb fv L d pb w.heap.size 0 ps := by
      have hs3 := HB3.out.size
      have hs2 := HS2.out
      refine ⟨⟨H2.out.below HB3.out, Only.refl _ _, ⟨[], ?_⟩, HSL.out, HZ.out, by omega⟩, ?_, ?_⟩
      · have h3 := HDN.out.wider (S' := fun k => (k = pb + 2 ∨ k = pb + 1) ∧ k < w2.heap.size) (fun k hk => by
          have := hk.1
          have := hk.2
          exact ⟨by omega, by omega⟩) (fun k hk => hk.2)
        exact (h3.below HB3.out).wider (fun k hk => ⟨by rcases hk.1 with h | h <;> simp [h], Nat.lt_of_lt_of_le hk.2 hs3⟩) (fun k hk => hk.2)
      · have := HZ.out
        exact HPK.out.kept (fun k hk => HB3.out.block k (by omega))
      · exact fun x hx => ⟨HGE.out x hx, hpm x hx⟩
    have HINV := Lib.hid hinv
    clear hinv hmm
    go_wp2_with fail
    go_loopw [28] (fun i wr => ∃ j : Nat, j ≤ n ∧ i = .int .i64 j ∧ Hid (CrashInv w3 wr S q mb fv L d pb w.heap.size j ps)) (fun i _ => n - (intOf i).toNat)
    case atStart => exact ⟨0, Nat.zero_le _, rfl, HINV⟩
    case round =>
      obtain ⟨j, hj, rfl, HI⟩ := hrel
      clear HINV
      by_cases hlt : j < n
      · have hjL : j < L.length := by rw [HLN.out]; exact hlt
        obtain ⟨x, hx⟩ : ∃ x, L[j] = x := ⟨_, rfl⟩
        have hxm : x ∈ L := by rw [← hx]; exact List.getElem_mem _
        obtain ⟨nm, hnm⟩ : ∃ nm : ByteArray, nm = ⟨x.f.name.toArray⟩ := ⟨_, rfl⟩
        have hnmd : nm.data.toList = x.f.name := by rw [hnm]
        obtain ⟨gn, on, rfl⟩ := HROW.out.addr (by omega)
        have hgn := HGE2.out gn rfl
        have hgl := HROW.out.lt gn rfl
        have hs2 := HS2.out
        have hcn : wr.cell? ⟨gn, on + j, none⟩ = some (.string nm) := by
          have h3 := HROW.out.cells (g := gn) (off := on) rfl j (.string nm) (by
            rw [List.getElem?_map, List.getElem?_eq_getElem hjL, hx, hnm]
            rfl)
          rw [Go.WideShapes.add_plain] at h3
          have h4 := HI.out.pre.only.block gn hgl (by omega)
          rw [← h3]
          exact cell_kept_at h4
        have hnok : nameOk x.f.name = true := HI.out.pre.old.names _ (by rw [← HI.out.pre.old.files]; exact List.mem_map_of_mem hxm)
        have hnsz : nm.size ≤ 32 := by
          have h3 : x.f.name.length ≤ 32 := by simp [nameOk] at hnok; exact hnok.2
          rw [hnm]; simpa [ByteArray.size] using h3
        have hl := HI.out.pre.old.lookup1_some hxm (nm := nm) (by unfold maxLen; omega) hnmd.symm
        have hxf := HI.out.pre.old.each x hxm
        obtain ⟨oab, cb, hbv, hnb⟩ := hxf.row.shape
        obtain ⟨N, hN⟩ : ∃ N, x.f.bytes.length = N := ⟨_, rfl⟩
        obtain ⟨l, hll⟩ : ∃ l, x.f.lasts = l := ⟨_, rfl⟩
        obtain ⟨th, hth⟩ : ∃ b, x.f.there = b := ⟨_, rfl⟩
        obtain ⟨nd, hnd⟩ : ∃ b, x.f.named = b := ⟨_, rfl⟩
        have hxc := hxf.cells
        rw [hbv, hN, hll, hth, hnd] at hxc
        have hlN : l ≤ N ∧ N ≤ 16777216 := by
          have h3 := hxf.lasts
          have h4 := hxf.size
          omega
        have c0 : wr.cell? ⟨q, 0, none⟩ = some (.map (some mb)) := cell_of HI.out.pre.old.head rfl
        have k2 : wr.cell? ⟨x.blk, 2, none⟩ = some (.bool th) := cell_of hxc rfl
        have k3 : wr.cell? ⟨x.blk, 3, none⟩ = some (.bool nd) := cell_of hxc rfl
        obtain ⟨P, hP⟩ : ∃ P, (crashTo (d.files.take j) ps).2 = P := ⟨_, rfl⟩
        have hpk := HI.out.picks
        have hok := HI.out.ok
        rw [hP] at hpk hok
        have HX := Lib.hid (And.intro hx (And.intro hxm (And.intro hnmd hnok)))
        have HF := Lib.hid (And.intro hbv (And.intro hN (And.intro hll (And.intro hth hnd))))
        have HXC := Lib.hid hxc
        have HPK2 := Lib.hid hpk
        have HOK := Lib.hid hok
        have HPP := Lib.hid hP
        have HGN : Hid (w2.heap.size ≤ gn ∧ gn < w3.heap.size) := Lib.hid ⟨hgn, hgl⟩
        clear hx hxm hnm hnmd hgn hgl hnok hxf hbv hnb hN hll hth hnd hxc hpk hok hP hs2
        go_upto_region 12 with fail
        go_cut [54] from 38 to 54 (fun s54 wx => s54 = .bool (!(keepP x.f P).1) ∧ Hid (PicksAt wx pb w.heap.size (keepP x.f P).2 ∧ Only (fun k => k = pb) wr wx))
        case first =>
          cases th
          · have hk : keepP x.f P = (decide ((nextP 2 P).1 ≠ 0), (nextP 2 P).2) := by simp [keepP, HF.out.2.2.2.1]
            have HK := Lib.hid hk
            clear hk
            go_wp2_with fail
            refine (next_b HPK2.out (fun y hy => (HOK.out y hy).1) 2 (by omega) (by omega) (fun y hy => (HOK.out y hy).2)).mono ?_
            rintro e w4 ⟨rfl, hp4, ho4⟩
            have HP4 := Lib.hid (And.intro hp4 ho4)
            clear hp4 ho4
            go_wp2_with fail
            go_meet
            exact ⟨by rw [HK.out, keep_eq], by rw [HK.out]; exact HP4⟩
          · cases nd
            · have hk : keepP x.f P = (decide ((nextP 2 P).1 ≠ 0), (nextP 2 P).2) := by simp [keepP, HF.out.2.2.2.2]
              have HK := Lib.hid hk
              clear hk
              go_wp2_with fail
              refine (next_b HPK2.out (fun y hy => (HOK.out y hy).1) 2 (by omega) (by omega) (fun y hy => (HOK.out y hy).2)).mono ?_
              rintro e w4 ⟨rfl, hp4, ho4⟩
              have HP4 := Lib.hid (And.intro hp4 ho4)
              clear hp4 ho4
              go_wp2_with fail
              go_meet
              exact ⟨by rw [HK.out, keep_eq], by rw [HK.out]; exact HP4⟩
            · have hk : keepP x.f P = (true, P) := by simp [keepP, HF.out.2.2.2.1, HF.out.2.2.2.2]
              have HK := Lib.hid hk
              clear hk
              go_wp2_with fail
              go_meet
              exact ⟨by rw [HK.out]; rfl, by rw [HK.out]; exact Lib.hid ⟨HPK2.out, Only.refl _ _⟩⟩
        case rest =>
          obtain ⟨rfl, HC1⟩ := hcut
          have HPRE : Hid (CrashPre w3 wc S q mb fv L d pb w.heap.size (crashTo (d.files.take j) ps).1) := Lib.hid (HI.out.pre.pick HC1.out.2)
          have HOK1 : Hid (PicksOk (keepP x.f P).2) := Lib.hid (keepP_ok _ HOK.out)
          have HTK : Hid (crashTo (d.files.take (j + 1)) ps = crashStep (crashTo (d.files.take j) ps) x.f) := Lib.hid (by
            rw [take_files HI.out.pre.old.files hjL, HX.out.1, crashTo_snoc])
          obtain ⟨kp, hkp⟩ : ∃ kp, (keepP x.f P).1 = kp := ⟨_, rfl⟩
          obtain ⟨P1, hP1⟩ : ∃ P1, (keepP x.f P).2 = P1 := ⟨_, rfl⟩
          rw [hP1] at HC1
          rw [hkp]
          rw [hP1] at HOK1
          have HKP := Lib.hid (And.intro hkp hP1)
          clear hkp hP1
          cases kp with
          | false =>
            have HN : Hid (CrashInv w3 wc S q mb fv L d pb w.heap.size (j + 1) ps) := Lib.hid (by
              have e : crashStep (crashTo (d.files.take j) ps) x.f = ((crashTo (d.files.take j) ps).1, P1) := by
                unfold crashStep
                rw [HPP.out, HKP.out.1, HKP.out.2]
                rfl
              exact ⟨by rw [HTK.out, e]; exact HPRE.out, by rw [HTK.out, e]; exact HC1.out.1, by rw [HTK.out, e]; exact HOK1.out⟩)
            clear HTK HPRE
            go_wp2_with fail
            exact ⟨⟨j + 1, by omega, by simp, HN⟩, by simp [intOf]; omega⟩
          | true =>
            have hxf2 := HPRE.out.old.each x HX.out.2.1
            have hxc2 := hxf2.cells
            rw [HF.out.1, HF.out.2.1, HF.out.2.2.1, HF.out.2.2.2.1, HF.out.2.2.2.2] at hxc2
            have k0 : wc.cell? ⟨x.blk, 0, none⟩ = some (.slice oab N cb) := cell_of hxc2 rfl
            have k1 : wc.cell? ⟨x.blk, 1, none⟩ = some (.int .i64 l) := cell_of hxc2 rfl
            have k2' : wc.cell? ⟨x.blk, 2, none⟩ = some (.bool th) := cell_of hxc2 rfl
            clear hxf2 hxc2 c0 k2 k3 hl hcn
            obtain ⟨m, hm⟩ : ∃ m, (moreP x.f P1).1 = m := ⟨_, rfl⟩
            obtain ⟨P2, hP2⟩ : ∃ P2, (moreP x.f P1).2 = P2 := ⟨_, rfl⟩
            have HM := Lib.hid (And.intro hm hP2)
            clear hm hP2
            go_upto_region 14 with fail
            go_region
            go_upto_region 15 with fail
            obtain ⟨bm, hbm⟩ : ∃ bm : Bool, (th && decide (l < N)) = bm := ⟨_, rfl⟩
            go_cut [76] from 69 to 76 (fun s76 wx => s76 = .bool bm ∧ wx = wc.drew)
            case first =>
              have HBM := Lib.hid hbm
              clear hbm
              cases th
              · go_wp2_with fail
                go_meet
                exact ⟨by rw [← HBM.out]; rfl, rfl⟩
              · by_cases hlt2 : l < N
                · have hd1 : decide ((0 : Int) < (N : Int) - (l : Int)) = true := by simp; omega
                  have HL2 := Lib.hid hlt2
                  clear hlt2
                  go_wp2_with fail
                  go_meet
                  exact ⟨by rw [← HBM.out]; simp [HL2.out], rfl⟩
                · have hd1 : decide ((0 : Int) < (N : Int) - (l : Int)) = false := by simp; omega
                  have HL2 := Lib.hid hlt2
                  clear hlt2
                  go_wp2_with fail
                  go_meet
                  exact ⟨by rw [← HBM.out]; simp [HL2.out], rfl⟩
            case rest =>
              obtain ⟨rfl, hwx⟩ := hcut
              subst hwx
              have hmo : moreP x.f P1 = if bm then nextP (N - l + 1) P1 else (0, P1) := by
                unfold moreP
                rw [HF.out.2.1, HF.out.2.2.1, HF.out.2.2.2.1, hbm]
              have HMO := Lib.hid hmo
              obtain ⟨wd, hwd⟩ : ∃ wd : World, wd = wc.drew := ⟨_, rfl⟩
              have HPD : Hid (PicksAt wd pb w.heap.size P1) := Lib.hid (by rw [hwd]; exact HC1.out.1)
              have HPRD : Hid (CrashPre w3 wd S q mb fv L d pb w.heap.size (crashTo (d.files.take j) ps).1) := Lib.hid (by rw [hwd]; exact HPRE.out.drew)
              rw [← hwd]
              clear hmo hbm hwd k0 k1 k2' HPRE HC1
              go_upto_if 76 with fail
              go_cut [12] from 77 to 82 (fun s12 wx => s12 = .int .i64 ((l + m : Nat) : Int) ∧ Hid (PicksAt wx pb w.heap.size P2 ∧ Only (fun k => k = pb) wd wx))
              case first =>
                cases bm
                · have h1 := HM.out
                  rw [HMO.out] at h1
                  have HF2 : Hid (Value.int .i64 (l : Int) = Value.int .i64 ((l + m : Nat) : Int) ∧ Hid (PicksAt wd pb w.heap.size P2 ∧ Only (fun k => k = pb) wd wd)) := Lib.hid ⟨by rw [← h1.1]; simp, Lib.hid ⟨by rw [← h1.2]; exact HPD.out, Only.refl _ _⟩⟩
                  clear h1
                  go_wp2_with fail
                  go_meet
                  exact HF2.out
                · go_wp2_with fail
                  refine (next_v (v := (N : Int) - (l : Int) + 1) HPD.out (fun y hy => (HOK1.out y hy).1) (N - l + 1) (by omega) (by omega) (fun y hy => (HOK1.out y hy).2) (by omega)).mono ?_
                  rintro e w4 ⟨rfl, hp4, ho4⟩
                  have HP4 := Lib.hid (And.intro hp4 ho4)
                  clear hp4 ho4
                  have hmb2 : (nextP (N - l + 1) P1).1 < N - l + 1 := nextP_lt _ _ (by omega)
                  go_wp2_with fail
                  go_meet
                  have h1 := HM.out
                  rw [HMO.out] at h1
                  exact ⟨by rw [← h1.1]; simp, Lib.hid ⟨by rw [← h1.2]; exact HP4.out.1, HP4.out.2⟩⟩
              case rest =>
                obtain ⟨rfl, HC2⟩ := hcut
                have HPR2 : Hid (CrashPre w3 wc S q mb fv L d pb w.heap.size (crashTo (d.files.take j) ps).1) := Lib.hid (HPRD.out.pick HC2.out.2)
                have hxf2 := HPR2.out.old.each x HX.out.2.1
                have hxc2 := hxf2.cells
                have hxr2 := hxf2.row
                rw [HF.out.1, HF.out.2.1] at hxr2
                rw [HF.out.1, HF.out.2.1, HF.out.2.2.1, HF.out.2.2.2.1, HF.out.2.2.2.2] at hxc2
                obtain ⟨Lo, hLo⟩ := HPR2.out.new
                obtain ⟨D, hown, hdsz, hdic⟩ := hLo.look
                have hmle : l + m ≤ N := by
                  have h1 := moreP_le x.f P1 hxf2.lasts
                  rw [HM.out.1, HF.out.2.1, HF.out.2.2.1] at h1
                  exact h1
                obtain ⟨E, hE⟩ : ∃ E, E = l + m := ⟨_, rfl⟩
                obtain ⟨hm0, hNc⟩ := hxr2.map0
                have hsl : ∀ W : World, (Instr.slice 58 (.slice oab N cb) none (some (.int .i64 (E : Int))) none).run Tryz.prog W = .ok (.slice oab E cb) W := fun W => run_take oab N cb E (by omega) hm0 W
                have hrow2 : rowAt wc 5 1 (.slice oab E cb) E (byteCells (x.f.bytes.take E)) := by
                  have h1 := hxr2.take E (by omega)
                  rw [Nat.mul_one, byteCells_take] at h1
                  exact h1
                have hEl : (x.f.bytes.take E).length = E := by rw [List.length_take, HF.out.2.1]; omega
                have HCL : Hid (Calls Tryz.prog 37 #[.slice oab E cb] wc.drew fun e w'' => ∃ v, e = .returned v ∧ NewBytes wc w'' v (x.f.bytes.take E)) := Lib.hid (by
                  refine (clone_b (w := wc.drew) hEl hrow2 (by omega)).mono ?_
                  rintro e w'' ⟨v, rfl, h1, h2, h3⟩
                  exact ⟨v, rfl, h1, h2, ⟨h3.os, h3.tape, h3.output, h3.size, h3.block⟩⟩)
                have co : wc.cell? ⟨pb + 1 + 1, 0, none⟩ = some (.map (some (pb + 1))) := cell_of hLo.head rfl
                have k0 : wc.cell? ⟨x.blk, 0, none⟩ = some (.slice oab N cb) := cell_of hxc2 rfl
                have HLO := Lib.hid hLo
                have HOW := Lib.hid (And.intro hown hdic)
                have HEL := Lib.hid hEl
                have HEE := Lib.hid hE
                have HEN : Hid (E ≤ N) := Lib.hid (by omega)
                have HLL : Hid (Lo.length ≤ 4096) := Lib.hid (by
                  have h1 := hLo.few
                  have h2 := hLo.files
                  rw [← h2, List.length_map] at h1
                  exact h1)
                rw [← hE]
                clear hxf2 hxc2 hxr2 hLo hown hdsz hdic hmle hE hm0 hrow2 hEl
                go_upto_region 17 with fail
                have HKEY : Hid (keyOf Tryz.prog 9 (.string nm) = some (.string x.f.name)) := Lib.hid (by rw [← HX.out.2.2.1]; exact WideMaps.keyOf_string_mk (P := Tryz.prog) Tryz.underlying9 (by unfold maxLen; omega))
                go_region_law (first | (go_simp; go_at_call 37; refine HCL.out.mono ?_; rintro e w5 ⟨v, rfl, hnb⟩; obtain ⟨oav, cv, hve, _⟩ := hnb.1.shape; rw [HEL.out] at hve; subst hve; have co5 : w5.cell? ⟨pb + 1 + 1, 0, none⟩ = some (.map (some (pb + 1))) := (by rw [← co]; exact cell_kept_at (hnb.2.2.block _ (HLO.out.low _ (HLO.out.foot _ (by simp [diskBlocks]))))); have co6 : ∀ o : Obj, (w5.alloc o).cell? ⟨pb + 1 + 1, 0, none⟩ = some (.map (some (pb + 1))) := (fun o => by rw [← co5]; exact cell_kept_at (Below.heap_alloc w5 o _ (Nat.lt_of_lt_of_le (HLO.out.low _ (HLO.out.foot _ (by simp [diskBlocks]))) hnb.2.2.size))); have HOW5 : Hid (w5.ownsMap Tryz.prog 9 ptrElem (pb + 1) Lo.length D) := Lib.hid (ownsMap_kept HOW.out.1 (hnb.2.2.block _ (HLO.out.low (pb + 1) (HLO.out.foot (pb + 1) (by simp [diskBlocks]))))); obtain ⟨w6, hmu, hown6, hg6⟩ := World.ownsMap.update (t := 63) (HOW5.out.alloc (.cells #[.slice oav E cv, .int .i64 E, .bool true, .bool true] 81)) (string_keyed Tryz.underlying9) Tryz.underlying63 (by unfold maxLen; have := HLL.out; omega) HKEY.out (ptrElem_mk w5.heap.size); have HNB := Lib.hid hnb; have HOW6 := Lib.hid hown6; have HG6 := Lib.hid hg6; clear hnb hown6 hg6))
                all_goals
                  have HN : Hid (CrashInv w3 w6 S q mb fv L d pb w.heap.size (j + 1) ps) := Lib.hid (by
                    have hg0 : cutF x.f m = ⟨x.f.name, x.f.bytes.take E, E, true, true⟩ := by unfold cutF; rw [HF.out.2.2.1, ← HEE.out]
                    have htf := take_files HI.out.pre.old.files hjL
                    rw [HX.out.1] at htf
                    have hlen : (crashTo (d.files.take j) ps).1.length < 4096 := by
                      have h1 := crashTo_length ps (d.files.take j) ([], ps)
                      rw [List.length_take] at h1
                      have h2 : (crashTo (d.files.take j) ps).1.length ≤ 0 + min j d.files.length := h1
                      omega
                    have hel := HEL.out
                    have ha := HPR2.out.add (g := ⟨x.f.name, x.f.bytes.take E, E, true, true⟩) HLO.out HOW.out.2 HNB.out HG6.out HOW6.out (by show E ≤ (x.f.bytes.take E).length; omega) (by show (x.f.bytes.take E).length ≤ 16777216; have := HEN.out; omega) HX.out.2.2.2 (fun g' hg' => crash_lt (f := x.f) HI.out.pre.old.sorted htf g' hg') hlen
                    have e : crashStep (crashTo (d.files.take j) ps) x.f = ((crashTo (d.files.take j) ps).1 ++ [⟨x.f.name, x.f.bytes.take E, E, true, true⟩], P2) := by
                      unfold crashStep
                      rw [HPP.out, HKP.out.1, HKP.out.2, HM.out.1, HM.out.2, hg0]
                      rfl
                    have hpb : pb + 1 < wc.heap.size := HLO.out.low (pb + 1) (HLO.out.foot (pb + 1) (by simp [diskBlocks]))
                    have hz := HZ.out
                    have hao := add_only HNB.out HG6.out
                    refine ⟨by rw [HTK.out, e]; exact ha, ?_, ?_⟩
                    · rw [HTK.out, e]
                      exact HC2.out.1.kept (fun k hk => hao.block k (by omega) (by omega))
                    · rw [HTK.out, e]
                      have := moreP_ok x.f HOK1.out
                      rw [HM.out.2] at this
                      exact this)
                  clear hmu co5 co6
                  go_wp2_with fail
                  exact ⟨⟨j + 1, by omega, by simp, HN⟩, by simp [intOf]; omega⟩
      · obtain rfl : j = n := by omega
        have HO : Hid (CrashIs w d ps (.returned (.tuple #[.pointer (some ⟨pb + 2, 0, none⟩), .int .i64 0])) wr) := Lib.hid (by
          have hs3 := HB3.out.size
          have hs2 := HS2.out
          have hz := HZ.out
          obtain ⟨Lo, hLo⟩ := HI.out.pre.new
          have hb : Below w.heap.size w wr := HB2.out.trans ((HB3.out.mono HB2.out.size).trans (HI.out.pre.only.below (fun i hi hk => by omega) (by omega)))
          refine .inr ⟨HGE.out, pb + 2, rfl, ⟨pb + 1, .slice none 0 0, Lo, ?_⟩, hb⟩
          have e : (⟨(crashTo (d.files.take j) ps).1, [], 0⟩ : Dk) = d.crash ps := by
            rw [List.take_of_length_le (by rw [← H2.out.files, List.length_map, HLN.out]; exact Nat.le_refl _)]; rfl
          rw [e] at hLo
          exact hLo.wider (fun k hk => ⟨by have := hk.1; omega, hk.2⟩) (fun k hk => hk.2))
        go_wp2_with fail
        go_ret2
        exact HO.out
end Go.Proofs.YtmkjejngnahpeaaGreat
