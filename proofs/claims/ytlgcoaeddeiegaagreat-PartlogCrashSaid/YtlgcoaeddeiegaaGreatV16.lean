/- The texts Xe in one. -/
import Derived.Test.YtlgcoaeddeiegaaGreatV15
import Derived.BigRegion
/- partlog: looked, the walk. -/
namespace Go.Proofs.YtlgcoaeddeiegaaGreat
open Go Go.Maps Go.RowKit
attribute [local go_sem] Oper.semAt_some

theorem behind_get {α : Type} : ∀ (l : List (Nat × List α)) (bn : Nat), Behind bn l → (∀ (h : 0 < l.length), l[0].1 = bn) ∧ ∀ i (h : i + 1 < l.length), l[i + 1].1 = l[i].1 + l[i].2.length
  | [], _, _ => ⟨fun h => absurd h (Nat.not_lt_zero _), fun i h => absurd h (Nat.not_lt_zero _)⟩
  | (b, x) :: r, bn, h => by
    obtain ⟨rfl, h2⟩ := h
    obtain ⟨k1, k2⟩ := behind_get r _ h2
    refine ⟨fun _ => rfl, fun i hi => ?_⟩
    cases i with
    | zero => exact k1 (by simpa using hi)
    | succ i => exact k2 i (by simpa using hi)
def segEnd (s : Nat × List Bat) : Nat := s.1 + cntT s.2
theorem LgOk.nexts {g : Lg} (h : LgOk g) : (∀ (h0 : 0 < g.segs.length), g.segs[0].1 = g.begin) ∧ ∀ i (hi : i + 1 < g.segs.length), g.segs[i + 1].1 = segEnd g.segs[i] := by
  obtain ⟨h1, h2⟩ := behind_get _ _ h.behind
  refine ⟨fun h0 => ?_, fun i hi => ?_⟩
  · have := h1 (by simpa using h0)
    simpa using this
  · have := h2 i (by simpa using hi)
    simp only [List.getElem_map, recsT_len] at this
    exact this
theorem Lg.fin_last (g : Lg) (h : g.segs.length - 1 < g.segs.length) : segEnd g.segs[g.segs.length - 1] = g.fin := by
  have e : g.segs[g.segs.length - 1] = (g.lb, g.lbs) := g.segs_last h (by omega)
  rw [e]
  rfl
def stC (l : List (Nat × List Bat)) (t : Nat) : Array Value :=
  if t = 0 then #[.int .i64 0, .int .i64 0, .int .i64 0, .int .i64 0, .bool false]
  else #[.int .i64 ((l.getD 0 (0, [])).1 : Int), .int .i64 (segEnd (l.getD (t - 1) (0, [])) : Int), .int .i64 (segEnd (l.getD (t - 1) (0, [])) : Int), .int .i64 0, .bool false]
structure LkJ (w w1 wr : World) (b4 b6 b7 : Nat) (l : List (Nat × List Bat)) (tl : List UInt8) (t k : Nat) : Prop where
  c4 : wr.heap[b4]? = some (.cells #[.int .i64 0, .int .i64 0, .int .i64 0, .int .i64 0, .bool false] 60 (0, 0))
  c6 : wr.heap[b6]? = some (.cells (stC l k) 60 (0, 0))
  box : BoxRow 48 255 4 b7 w1.heap.size wr t (fndT l tl t)
  below : Below w.heap.size w wr
  size : w1.heap.size ≤ wr.heap.size
theorem LkJ.later {w w1 wr wx : World} {b4 b6 b7 t k : Nat} {l : List (Nat × List Bat)} {tl : List UInt8} (h : LkJ w w1 wr b4 b6 b7 l tl t k) (hb : Below wr.heap.size wr wx) : LkJ w w1 wx b4 b6 b7 l tl t k :=
  ⟨(hb.block _ (Array.getElem?_eq_some_iff.1 h.c4).1).trans h.c4, (hb.block _ (Array.getElem?_eq_some_iff.1 h.c6).1).trans h.c6, h.box.kept hb, h.below.trans (hb.mono h.below.size), Nat.le_trans h.size hb.size⟩
theorem LkJ.put {w w1 wr wx : World} {b4 b6 b7 t k k' : Nat} {l : List (Nat × List Bat)} {tl : List UInt8} (h : LkJ w w1 wr b4 b6 b7 l tl t k) (ho : Only (fun k => k = b6) wr wx) (hc : wx.heap[b6]? = some (.cells (stC l k') 60 (0, 0))) (h1 : w.heap.size ≤ b6) (h2 : b6 < w1.heap.size) (h4 : b4 ≠ b6) (h7 : b7 ≠ b6) : LkJ w w1 wx b4 b6 b7 l tl t k' := by
  obtain ⟨oa, c, g1, g2, g3⟩ := h.box
  refine ⟨(ho.block _ (Array.getElem?_eq_some_iff.1 h.c4).1 h4).trans h.c4, hc, ⟨oa, c, (ho.block _ (Array.getElem?_eq_some_iff.1 g1).1 h7).trans g1, g2.kept (fun i hi => ho.block i (g2.lt i hi) (fun e => by have := g3 i hi; omega)), g3⟩, h.below.trans (ho.below (fun i hi e => by omega) h.below.size), Nat.le_trans h.size ho.size⟩
theorem stC_next {l : List (Nat × List Bat)} {t : Nat} {x : Int} (hx : x = (segEnd (l.getD t (0, [])) : Int)) : stC l (t + 1) = #[.int .i64 ((l.getD 0 (0, [])).1 : Int), .int .i64 x, .int .i64 x, .int .i64 0, .bool false] := by
  subst hx
  rfl
structure LkB (w w1 wr : World) (b4 b6 b7 : Nat) (l : List (Nat × List Bat)) (tl : List UInt8) (t k : Nat) (ob : Option Addr) (cb : Nat) : Prop where
  look : LkJ w w1 wr b4 b6 b7 l tl t k
  box : wr.heap[b7]? = some (.cells #[.slice ob t cb] 255 (0, 0))
  row : rowAt wr 48 4 (.slice ob t cb) t (fndT l tl t)
  own : ∀ k, (Value.slice ob t cb).ownBlock = some k → w1.heap.size ≤ k
theorem LkB.later {w w1 wr wx : World} {b4 b6 b7 t k : Nat} {l : List (Nat × List Bat)} {tl : List UInt8} {ob : Option Addr} {cb : Nat} (h : LkB w w1 wr b4 b6 b7 l tl t k ob cb) (hb : Below wr.heap.size wr wx) : LkB w w1 wx b4 b6 b7 l tl t k ob cb :=
  ⟨h.look.later hb, (hb.block _ (Array.getElem?_eq_some_iff.1 h.box).1).trans h.box, h.row.kept (fun i hi => hb.block i (h.row.lt i hi)), h.own⟩
theorem LkB.put {w w1 wr wx : World} {b4 b6 b7 t k k' : Nat} {l : List (Nat × List Bat)} {tl : List UInt8} {ob : Option Addr} {cb : Nat} (h : LkB w w1 wr b4 b6 b7 l tl t k ob cb) (ho : Only (fun k => k = b6) wr wx) (hc : wx.heap[b6]? = some (.cells (stC l k') 60 (0, 0))) (h1 : w.heap.size ≤ b6) (h2 : b6 < w1.heap.size) (h4 : b4 ≠ b6) (h7 : b7 ≠ b6) : LkB w w1 wx b4 b6 b7 l tl t k' ob cb :=
  ⟨h.look.put ho hc h1 h2 h4 h7, (ho.block _ (Array.getElem?_eq_some_iff.1 h.box).1 h7).trans h.box, h.row.kept (fun i hi => ho.block i (h.row.lt i hi) (fun e => by have := h.own i hi; omega)), h.own⟩
set_option maxRecDepth 100000 in
set_option maxHeartbeats 8000000 in
theorem looked_b {w : World} {S : Nat → Prop} {q : Nat} {d : Dk} {log : ByteArray} {g : Lg} {tl : List UInt8} (h : DiskAt w S q d) (ho : OldI log g d tl) (hl : log.size ≤ 8) (hlog : loggedB log.data.toList = true) {oa : Option Addr} {M c : Nat} (hM : g.segs.length = M) (hM2 : M ≤ 4096)
    (hv : rowAt w 9 1 (.slice oa M c) M (g.segs.map fun s => encStr (sname log s.1))) :
    Calls Tryz.prog 67 #[.pointer (some ⟨q, 0, none⟩), .slice oa M c] w fun e w' => e = .returned (.tuple #[.agg #[.int .i64 (g.begin : Int), .int .i64 (g.fin : Int), .int .i64 (g.fin : Int), .int .i64 (M : Int), .bool false], .int .i64 0]) ∧ Below w.heap.size w w' := by
  have hmf : ∀ (fn : Fn) (first cap : Array Value) (W : World), (Instr.makeFunc fn first cap).run Tryz.prog W = .ok (.func fn first cap) W := fun _ _ _ _ => rfl
  obtain ⟨w1, hw1⟩ : ∃ W : World, W = ((w.alloc (.cells #[.int .i64 0, .int .i64 0, .int .i64 0, .int .i64 0, .bool false] 60)).alloc (.cells #[.int .i64 0, .int .i64 0, .int .i64 0, .int .i64 0, .bool false] 60)).alloc (.cells #[.slice none 0 0] 255) := ⟨_, rfl⟩
  obtain ⟨b4, hb4⟩ : ∃ b, b = w.heap.size := ⟨_, rfl⟩
  obtain ⟨b6, hb6⟩ : ∃ b, b = w.heap.size + 1 := ⟨_, rfl⟩
  obtain ⟨b7, hb7⟩ : ∃ b, b = w.heap.size + 1 + 1 := ⟨_, rfl⟩
  have hbl : Below w.heap.size w w1 := by rw [hw1]; exact (((Below.refl _ _).alloc (Nat.le_refl _) _).alloc (by simp) _).alloc (by simp; omega) _
  have g4 : w1.heap[b4]? = some (.cells #[.int .i64 0, .int .i64 0, .int .i64 0, .int .i64 0, .bool false] 60 (0, 0)) := by
    rw [hw1, hb4]
    exact (Below.heap_alloc _ _ _ (by simp; omega)).trans ((Below.heap_alloc _ _ _ (by simp)).trans (alloc_cells _ _ _))
  have g6 : w1.heap[b6]? = some (.cells #[.int .i64 0, .int .i64 0, .int .i64 0, .int .i64 0, .bool false] 60 (0, 0)) := by
    rw [hw1, hb6]
    have := alloc_cells (w.alloc (.cells #[.int .i64 0, .int .i64 0, .int .i64 0, .int .i64 0, .bool false] 60)) #[.int .i64 0, .int .i64 0, .int .i64 0, .int .i64 0, .bool false] 60
    rw [World.size_alloc] at this
    exact (Below.heap_alloc _ _ _ (by simp)).trans this
  have g7 : w1.heap[b7]? = some (.cells #[.slice none 0 0] 255 (0, 0)) := by
    rw [hw1, hb7]
    have := alloc_cells ((w.alloc (.cells #[.int .i64 0, .int .i64 0, .int .i64 0, .int .i64 0, .bool false] 60)).alloc (.cells #[.int .i64 0, .int .i64 0, .int .i64 0, .int .i64 0, .bool false] 60)) #[.slice none 0 0] 255
    rwa [World.size_alloc, World.size_alloc] at this
  have hz1 : w1.heap.size = w.heap.size + 3 := by rw [hw1]; simp
  have hM1 : 1 ≤ M := by rw [← hM, g.segs_len]; omega
  obtain ⟨L, hLM, hv, hch, hnx1, hnx2, hfl, hLK⟩ : ∃ L : List (Nat × List Bat), L.length = M ∧ rowAt w 9 1 (.slice oa M c) M (L.map fun s => encStr (sname log s.1)) ∧ (∀ s ∈ L, s.1 ≤ 9007199254740992) ∧ (∀ h0 : 0 < L.length, L[0].1 = g.begin) ∧ (∀ i (hi : i + 1 < L.length), L[i + 1].1 = segEnd L[i]) ∧ (∀ h1 : M - 1 < L.length, segEnd L[M - 1] = g.fin) ∧
      ∀ (t : Nat) (W : World) (_ : Below w.heap.size w W) (ht : t < L.length), Calls Tryz.prog 20 #[.pointer (some ⟨q, 0, none⟩), .string (segName log L[t].1)] W fun e w' => e = .returned (.tuple #[foundV L[t].2.length (segEnd L[t]) (batsT L[t].2).length (whysT L.length tl t), .int .i64 0]) ∧ Below W.heap.size W w' := by
    refine ⟨g.segs, hM, hv, fun s hs => (ho.ok.chain s hs).2, ho.ok.nexts.1, ho.ok.nexts.2, ?_, fun t W hb ht => lookL_b (h.belowS hb) ho hl hlog ht⟩
    subst hM
    exact fun h1 => g.fin_last h1
  have HS := Lib.hid (And.intro hv (And.intro hLM (And.intro hch (And.intro hnx1 (And.intro hnx2 hfl)))))
  have HLK := Lib.hid hLK
  have HWY : Hid (∀ i, whysT L.length tl i = 150 ∨ (whysT L.length tl i = 151 ∧ ¬ i + 1 < M)) := Lib.hid (fun i => by
    unfold whysT
    rw [hLM]
    split
    · exact .inl rfl
    · rename_i hn
      unfold whyT
      split
      · exact .inl rfl
      · exact .inr ⟨rfl, hn⟩)
  have HPR := Lib.hid (And.intro hl hlog)
  have H1 := Lib.hid (And.intro hbl (And.intro g4 (And.intro g6 (And.intro g7 (And.intro hz1 (And.intro hb4 (And.intro hb6 hb7)))))))
  clear hLK hnx1 hnx2 hfl hch hv hLM h ho hl hlog hbl g4 g6 g7 hz1 hM
  go_enter Tryz.func67, Tryz.ntmps67
  go_upto_region 3 with fail
  rw [← hw1, ← hb7, ← hb6, ← hb4]
  clear hw1 hb4 hb6 hb7
  go_wp2_with fail
  go_loopw [22] (fun s22 wr => ∃ t : Nat, s22 = .int .i64 (t : Int) ∧ t ≤ M ∧ Hid (LkJ w w1 wr b4 b6 b7 L tl t 0)) (fun s22 _ => M - (intOf s22).toNat)
  case atStart => exact ⟨0, rfl, Nat.zero_le _, Lib.hid ⟨H1.out.2.1, H1.out.2.2.1, ⟨none, 0, H1.out.2.2.2.1, ⟨rfl, .inl ⟨rfl, rfl⟩⟩, fun k hk => by simp [Value.ownBlock] at hk⟩, H1.out.1, Nat.le_refl _⟩⟩
  case round =>
    obtain ⟨t, rfl, ht, HJ⟩ := hrel
    by_cases hlt : t < M
    · have htL : t < L.length := by rw [HS.out.2.1]; exact hlt
      have hrow := HS.out.1.kept (fun k hk => HJ.out.below.block k (HS.out.1.lt k hk))
      obtain ⟨gn, ofn, rfl⟩ := hrow.read.addr (by omega)
      obtain ⟨nm, hnm⟩ : ∃ nm, nm = segName log L[t].1 := ⟨_, rfl⟩
      have kn : wr.cell? ⟨gn, ofn + t, none⟩ = some (.string nm) := by
        have := hrow.cells rfl t (.string nm) (by
          rw [List.getElem?_map, List.getElem?_eq_getElem htL, hnm]
          rfl)
        simpa [Go.WideShapes.add_plain] using this
      have hlk := HLK.out t wr HJ.out.below htL
      rw [← hnm] at hlk
      obtain ⟨x0, hx0⟩ : ∃ x : Int, x = (L[t].2.length : Int) := ⟨_, rfl⟩
      obtain ⟨x1, hx1⟩ : ∃ x : Int, x = (segEnd L[t] : Int) := ⟨_, rfl⟩
      obtain ⟨x2, hx2⟩ : ∃ x : Int, x = ((batsT L[t].2).length : Int) := ⟨_, rfl⟩
      obtain ⟨x3, hx3⟩ : ∃ x : Int, x = whysT L.length tl t := ⟨_, rfl⟩
      unfold foundV at hlk
      rw [← hx0, ← hx1, ← hx2, ← hx3] at hlk
      have hsu : fndT L tl (t + 1) = fndT L tl t ++ [.int .i64 x0, .int .i64 x1, .int .i64 x2, .int .i64 x3] := by
        rw [fndT_succ, List.getD_eq_getElem?_getD, List.getElem?_eq_getElem htL, hx0, hx1, hx2, hx3]
        rfl
      have HL := Lib.hid hlk
      have HSU := Lib.hid hsu
      clear hlk hsu hx0 hx1 hx2 hx3 hnm hrow htL
      go_wp2_with fail
      refine HL.out.mono ?_
      rintro e w2 ⟨rfl, hb2⟩
      obtain ⟨w3, hw3⟩ : ∃ W : World, W = w2.alloc (.cells #[.int .i64 x0, .int .i64 x1, .int .i64 x2, .int .i64 x3] 48) := ⟨_, rfl⟩
      obtain ⟨b10, hb10⟩ : ∃ b, b = w2.heap.size := ⟨_, rfl⟩
      have g10 : w3.heap[b10]? = some (.cells #[.int .i64 x0, .int .i64 x1, .int .i64 x2, .int .i64 x3] 48 (0, 0)) := by rw [hw3, hb10]; exact alloc_cells _ _ _
      have hb23 : Below w2.heap.size w2 w3 := by rw [hw3]; exact (Below.refl _ _).alloc (Nat.le_refl _) _
      have hJ3 := (HJ.out.later hb2).later hb23
      obtain ⟨ob, cb, hbx, hbr, hbo⟩ := hJ3.box
      have k7 : w3.cell? ⟨b7, 0, none⟩ = some (.slice ob t cb) := cell_of hbx rfl
      have q0 : w3.cell? ⟨b10, 0, none⟩ = some (.int .i64 x0) := cell_of g10 rfl
      have q1 : w3.cell? ⟨b10, 1, none⟩ = some (.int .i64 x1) := cell_of g10 rfl
      have q2 : w3.cell? ⟨b10, 2, none⟩ = some (.int .i64 x2) := cell_of g10 rfl
      have q3 : w3.cell? ⟨b10, 3, none⟩ = some (.int .i64 x3) := cell_of g10 rfl
      have H3 := Lib.hid (And.intro hJ3 (And.intro hbx (And.intro hbr hbo)))
      have hone : ∀ v ∈ ([.int .i64 x0, .int .i64 x1, .int .i64 x2, .int .i64 x3] : List Value), v.oneCell' = true := by
        intro v hv
        simp only [List.mem_cons, List.not_mem_nil, or_false] at hv
        rcases hv with rfl | rfl | rfl | rfl <;> rfl
      have HONE := Lib.hid hone
      have hb7lt : b7 < w1.heap.size := by have := H1.out; omega
      have h13 := hJ3.size
      go_upto_region 7 with fail
      rw [← hw3, ← hb10]
      clear hw3 hb10 g10 hb23 hJ3 hbx hbr hbo hone hb2 HL kn
      go_wp2_with (at_builtin; refine wpList_append_one rfl (.tmp 36) (.tmp 38) 255 48 rfl Tryz.underlying255 info_found rfl (by omega) H3.out.2.2.1 (by omega) [.int .i64 x0, .int .i64 x1, .int .i64 x2, .int .i64 x3] rfl HONE.out (by rfl) (by rfl) ?_; intro oa3 c3 w4 HR4 HG4 HO4; have HST := Lib.hid (BoxRow.store (t := 255) h13 hb7lt H3.out.2.1 H3.out.2.2.2 HR4.out HG4.out HO4.out); have kb : w4.cell? ⟨b7, 0, none⟩ = some (.slice ob t cb) := cell_of HST.out.1 rfl; have fb : w4.frozen? ⟨b7, 0, none⟩ = false := free_of HST.out.1 _)
      have hJ := H3.out.1
      have n47 : b4 ≠ b7 := by have := H1.out; omega
      have n67 : b6 ≠ b7 := by have := H1.out; omega
      have low7 : w.heap.size ≤ b7 := by have := H1.out; omega
      have hgb := HG4.out
      have keepB : ∀ k, k < w3.heap.size → (Value.slice ob t cb).ownBlock ≠ some k → w4.heap[k]? = w3.heap[k]? := fun k hk hne => (hgb.block k (by simp; omega) (fun e => hne e.symm)).trans (Below.heap_alloc _ _ _ hk)
      have own1 : ∀ k, k < w1.heap.size → (Value.slice ob t cb).ownBlock ≠ some k := fun k hk e => by have := H3.out.2.2.2 k e; omega
      refine ⟨⟨t + 1, by simp, by omega, Lib.hid ⟨?_, ?_, by rw [HSU.out]; exact HST.out.2, ?_, ?_⟩⟩, by simp [intOf]; omega⟩
      · exact (Below.heap_setCell _ _ _ _ n47).trans ((keepB b4 (Array.getElem?_eq_some_iff.1 hJ.c4).1 (own1 b4 (by have := H1.out; omega))).trans hJ.c4)
      · exact (Below.heap_setCell _ _ _ _ n67).trans ((keepB b6 (Array.getElem?_eq_some_iff.1 hJ.c6).1 (own1 b6 (by have := H1.out; omega))).trans hJ.c6)
      · have h5 : Below w.heap.size w w4 := (hJ.below.alloc hJ.below.size _).grown hgb (by have := hJ.below.size; simp; omega) (fun j hj => by have := H3.out.2.2.2 j hj; have := H1.out.1.size; omega)
        exact h5.setCell (p := ⟨b7, 0, none⟩) low7 _
      · have := hgb.size
        simp at this ⊢
        omega
    · obtain rfl : M = t := by omega
      obtain ⟨wq, hwq⟩ : ∃ W, W = wr := ⟨_, rfl⟩
      rw [← hwq] at HJ ⊢
      clear hwq
      obtain ⟨ob, cb, hbx, hbr, hbo⟩ := HJ.out.box
      have k7 : wq.cell? ⟨b7, 0, none⟩ = some (.slice ob M cb) := cell_of hbx rfl
      have HWR : Hid (∀ (i : Nat) (z : Int), i < M → whysT L.length tl i ≠ z → Calls Tryz.prog 138 #[.int .i64 (i : Int), .int .i64 z, .pointer (some ⟨b7, 0, none⟩)] wq fun e w' => e = .returned (.bool false) ∧ w' = wq) := Lib.hid (fun i z hi hz => by
        refine (wrong_b (z := z) hbx hbr hi (by omega) (fndT_get L tl i 3 (by omega) M hi)).mono ?_
        rintro e w' ⟨rfl, rfl⟩
        exact ⟨by rw [decide_eq_false hz], rfl⟩)
      have HBX := Lib.hid (And.intro hbx (And.intro hbr hbo))
      clear hbx hbr hbo
      go_wp2_with fail
      go_loopw [44] (fun s44 wr => ∃ i : Nat, s44 = .int .i64 (i : Int) ∧ i ≤ M ∧ Hid (wr = wq)) (fun s44 _ => M - (intOf s44).toNat)
      case atStart => exact ⟨0, rfl, Nat.zero_le _, Lib.hid rfl⟩
      case round =>
        obtain ⟨i, rfl, hi, HW⟩ := hrel
        obtain rfl := HW.out.symm
        clear HW
        by_cases hlt : i < M
        · go_wp2_with fail
          refine (HWR.out i 152 hlt (by rcases HWY.out i with e | ⟨e, -⟩ <;> rw [e] <;> decide)).mono ?_
          rintro e w2 ⟨rfl, hw2⟩
          obtain rfl := hw2
          go_wp2_with fail
          exact ⟨⟨i + 1, by simp, by omega, Lib.hid trivial⟩, by simp [intOf]; omega⟩
        · obtain rfl : M = i := by omega
          go_upto_region 18 with fail
          go_cut [55, 56] from 52 to 56 (fun s55 s56 wx => s55 = .int .i64 ((M - 1 : Nat) : Int) ∧ s56 = .int .i64 0 ∧ Hid (wx = wq))
          case first =>
            go_wp2_with fail
            go_meet
            refine ⟨?_, rfl, Lib.hid rfl⟩
            congr 1
            omega
          case rest =>
            obtain ⟨rfl, rfl, HWC⟩ := hcut
            obtain rfl := HWC.out.symm
            clear HWC
            have hm1 : M - 1 < 9000 := by omega
            obtain ⟨N, hN⟩ : ∃ N, M - 1 = N := ⟨_, rfl⟩
            rw [hN]
            have HNN := Lib.hid hN
            have hN9 : N ≤ 9000 := by omega
            clear hN
            go_wp2_with fail
            go_loopw [56] (fun s56 wr => ∃ i : Nat, s56 = .int .i64 (i : Int) ∧ i ≤ N ∧ Hid (wr = wq)) (fun s56 _ => N - (intOf s56).toNat)
            case atStart => exact ⟨0, rfl, Nat.zero_le _, Lib.hid rfl⟩
            case round =>
              obtain ⟨i, rfl, hi, HW⟩ := hrel
              obtain rfl := HW.out.symm
              clear HW
              by_cases hlt : i < N
              · go_wp2_with fail
                refine (HWR.out i 151 (by have := HNN.out; omega) (by have := HNN.out; rcases HWY.out i with e | ⟨-, e⟩ <;> first | omega | (rw [e]; decide))).mono ?_
                rintro e w2 ⟨rfl, hw2⟩
                obtain rfl := hw2
                go_wp2_with fail
                exact ⟨⟨i + 1, by simp, by omega, Lib.hid trivial⟩, by simp [intOf]; omega⟩
              · obtain rfl : N = i := by omega
                clear HWR HWY HLK hi hlt
                go_wp2_with fail
                as_aux_lemma =>
                  go_loopw [66] (fun s66 wx => ∃ t : Nat, s66 = .int .i64 (t : Int) ∧ t ≤ M ∧ Hid (LkB w w1 wx b4 b6 b7 L tl M t ob cb)) (fun s66 _ => M - (intOf s66).toNat)
                  case atStart => exact ⟨0, rfl, Nat.zero_le _, Lib.hid ⟨HJ.out, HBX.out.1, HBX.out.2.1, HBX.out.2.2⟩⟩
                  case round =>
                    obtain ⟨t, rfl, ht, HTT⟩ := hrel
                    have HT := Lib.hid HTT.out.look
                    have hbx := HTT.out.box
                    have hbr := HTT.out.row
                    have k7 : wr.cell? ⟨b7, 0, none⟩ = some (.slice ob M cb) := cell_of hbx rfl
                    have k6 := HT.out.c6
                    by_cases hlt : t < M
                    · have htL : t < L.length := by rw [HS.out.2.1]; exact hlt
                      have hrow := HS.out.1.kept (fun k hk => HT.out.below.block k (HS.out.1.lt k hk))
                      obtain ⟨gn, ofn, rfl⟩ := hrow.read.addr (by omega)
                      obtain ⟨gf, off, rfl⟩ := hbr.read.addr (by omega)
                      obtain ⟨nm, hnm⟩ : ∃ nm, nm = segName log L[t].1 := ⟨_, rfl⟩
                      have kn : wr.cell? ⟨gn, ofn + t, none⟩ = some (.string nm) := by
                        have := hrow.cells rfl t (.string nm) (by
                          rw [List.getElem?_map, List.getElem?_eq_getElem htL, hnm]
                          rfl)
                        simpa [Go.WideShapes.add_plain] using this
                      obtain ⟨x0, hx0⟩ : ∃ x : Int, x = (L[t].2.length : Int) := ⟨_, rfl⟩
                      obtain ⟨x1, hx1⟩ : ∃ x : Int, x = (segEnd L[t] : Int) := ⟨_, rfl⟩
                      obtain ⟨x2, hx2⟩ : ∃ x : Int, x = ((batsT L[t].2).length : Int) := ⟨_, rfl⟩
                      obtain ⟨x3, hx3⟩ : ∃ x : Int, x = whysT L.length tl t := ⟨_, rfl⟩
                      have hgt : L.getD t (0, []) = L[t] := by rw [List.getD_eq_getElem?_getD, List.getElem?_eq_getElem htL]; rfl
                      have hcl : ∀ (i j : Nat) (v : Value), j < 4 → i < M → (fndCells (L.getD i (0, [])) (whysT L.length tl i))[j]? = some v → wr.cell? ⟨gf, off + i * 4 + j, none⟩ = some v := fun i j v hj hi hv => by
                        have := hbr.cells rfl (i * 4 + j) v (by rw [fndT_get L tl i j hj M hi]; exact hv)
                        simpa [Go.WideShapes.add_plain, Nat.add_assoc] using this
                      have f0 : wr.cell? ⟨gf, off + t * 4, none⟩ = some (.int .i64 x0) := hcl t 0 _ (by omega) hlt (by rw [hgt, hx0]; rfl)
                      have f1 : wr.cell? ⟨gf, off + t * 4 + 1, none⟩ = some (.int .i64 x1) := hcl t 1 _ (by omega) hlt (by rw [hgt, hx1]; rfl)
                      have f2 : wr.cell? ⟨gf, off + t * 4 + 2, none⟩ = some (.int .i64 x2) := hcl t 2 _ (by omega) hlt (by rw [hgt, hx2]; rfl)
                      have f3 : wr.cell? ⟨gf, off + t * 4 + 3, none⟩ = some (.int .i64 x3) := hcl t 3 _ (by omega) hlt (by rw [hgt, hx3]; rfl)
                      have hbl := HS.out.2.2.1 L[t] (List.getElem_mem htL)
                      obtain ⟨bs, hbs⟩ : ∃ b, b = L[t].1 := ⟨_, rfl⟩
                      obtain ⟨hk1, hk2⟩ := sname_ok HPR.out.2 hbl
                      have hsz : nm.size ≤ 32 := by rw [hnm]; exact segName_size HPR.out.1
                      obtain ⟨ex, hex⟩ : ∃ ex, nm.extract 0 (nm.size - 15) = ex := ⟨_, rfl⟩
                      have HPA : Hid (∀ W, Calls Tryz.prog 19 #[.string nm] W fun e w' => e = .returned (.tuple #[.string ex, .int .i64 (bs : Int), .bool true]) ∧ Below W.heap.size W w') := Lib.hid (fun W => parse_true nm ex (bs : Int) W (by unfold maxLen; omega) (by rw [hnm]; exact hk1) hex (by rw [hnm, hbs]; exact congrArg _ hk2))
                      have HNX : Hid (∀ t', t = t' + 1 → (bs : Int) = (segEnd (L.getD t' (0, [])) : Int)) := Lib.hid (fun t' e => by
                        subst e
                        have h1 := HS.out.2.2.2.2.1 t' htL
                        rw [hbs, h1, List.getD_eq_getElem?_getD, List.getElem?_eq_getElem (by omega)]
                        rfl)
                      have HEQ : Hid (x1 = (segEnd (L.getD t (0, [])) : Int) ∧ bs = (L.getD t (0, [])).1) := Lib.hid (by rw [hgt]; exact ⟨hx1, hbs⟩)
                      obtain ⟨w3, hw3⟩ : ∃ W : World, W = wr.alloc (.cells #[.int .i64 x0, .int .i64 x1, .int .i64 x2, .int .i64 x3] 48) := ⟨_, rfl⟩
                      obtain ⟨b16, hb16⟩ : ∃ b, b = wr.heap.size := ⟨_, rfl⟩
                      have g16 : w3.heap[b16]? = some (.cells #[.int .i64 x0, .int .i64 x1, .int .i64 x2, .int .i64 x3] 48 (0, 0)) := by rw [hw3, hb16]; exact alloc_cells _ _ _
                      have hb3 : Below wr.heap.size wr w3 := by rw [hw3]; exact (Below.refl _ _).alloc (Nat.le_refl _) _
                      have kn3 : w3.cell? ⟨gn, ofn + t, none⟩ = some (.string nm) := (hb3.cell (p := ⟨gn, ofn + t, none⟩) (World.block_lt_of_cell? wr _ kn)).trans kn
                      have HCL := Lib.hid hcl
                      have H3 := Lib.hid (And.intro g16 (And.intro hb3 (HTT.out.later hb3)))
                      clear hcl hgt hx0 hx1 hx2 hx3 hbl hk1 hk2 hsz hex hnm hbs g16 hb3 hrow htL hbr hbx k6
                      go_upto_region 27 with fail
                      rw [← hw3, ← hb16]
                      clear hw3 hb16 f0 f1 f2 f3 kn
                      go_wp2_with fail
                      refine (HPA.out w3).mono ?_
                      rintro e w4 ⟨rfl, hb4⟩
                      have hJ4 := H3.out.2.2.later hb4
                      have k7 : w4.cell? ⟨b7, 0, none⟩ = some (.slice (some ⟨gf, off, none⟩) M cb) := (hb4.cell (p := ⟨b7, 0, none⟩) (World.block_lt_of_cell? w3 _ ((H3.out.2.1.cell (p := ⟨b7, 0, none⟩) (World.block_lt_of_cell? wr _ k7)).trans k7))).trans ((H3.out.2.1.cell (p := ⟨b7, 0, none⟩) (World.block_lt_of_cell? wr _ k7)).trans k7)
                      have g16 := (hb4.block b16 (Array.getElem?_eq_some_iff.1 H3.out.1).1).trans H3.out.1
                      have n16 : b16 ≠ b6 := by
                        have h1 := (Array.getElem?_eq_some_iff.1 HT.out.c6).1
                        have h2 := (Array.getElem?_eq_some_iff.1 H3.out.1).1
                        intro e
                        have h3 := H3.out.2.2.look.c6
                        rw [← e, H3.out.1] at h3
                        simp only [Option.some.injEq, Obj.cells.injEq] at h3
                        exact absurd h3.2.1 (by decide)
                      have n61 := n16.symm
                      have HB6 : Hid (w.heap.size ≤ b6 ∧ b6 < w1.heap.size ∧ b4 ≠ b6 ∧ b7 ≠ b6) := Lib.hid (by have := H1.out; omega)
                      have H4 := Lib.hid (And.intro hJ4 g16)
                      have hc6 := hJ4.look.c6
                      cases t with
                      | zero =>
                        have hc6 : w4.heap[b6]? = some (.cells #[.int .i64 0, .int .i64 0, .int .i64 0, .int .i64 0, .bool false] 60 (0, 0)) := hc6
                        have c60 : w4.cell? ⟨b6, 0, none⟩ = some (.int .i64 0) := cell_of hc6 rfl
                        have z60 : w4.frozen? ⟨b6, 0, none⟩ = false := free_of hc6 _
                        obtain ⟨w5, hw5⟩ : ∃ W : World, W = w4.setCell ⟨b6, 0, none⟩ (.int .i64 (bs : Int)) := ⟨_, rfl⟩
                        have g5 : w5.heap[b6]? = some (.cells #[.int .i64 (bs : Int), .int .i64 0, .int .i64 0, .int .i64 0, .bool false] 60 (0, 0)) := by rw [hw5]; exact heap_setCell_here _ hc6
                        have ho5 : Only (fun k => k = b6) w4 w5 := by rw [hw5]; exact only_setCell (fun k => k = b6) _ b6 0 _ rfl
                        have g165 := (ho5.block b16 (Array.getElem?_eq_some_iff.1 g16).1 n16).trans g16
                        have r1 : w5.cell? ⟨b16, 1, none⟩ = some (.int .i64 x1) := cell_of g165 rfl
                        have c61 : w5.cell? ⟨b6, 1, none⟩ = some (.int .i64 0) := cell_of g5 rfl
                        have c62 : w5.cell? ⟨b6, 2, none⟩ = some (.int .i64 0) := cell_of g5 rfl
                        have z61 : w5.frozen? ⟨b6, 1, none⟩ = false := free_of g5 _
                        have z62 : w5.frozen? ⟨b6, 2, none⟩ = false := free_of g5 _
                        have H5 := Lib.hid (And.intro g5 ho5)
                        clear hJ4 g16 hc6 hb4 kn3 g5 ho5 g165
                        go_upto_region 32 with fail
                        rw [← hw5]
                        clear hw5 c60 z60
                        go_region
                        all_goals
                          go_wp2_with fail
                          refine ⟨⟨0 + 1, by simp, by omega, Lib.hid (H4.out.1.put (only_drew ((H5.out.2.trans (only_setCell (fun k => k = b6) _ b6 _ _ rfl) (fun _ _ e => e)).trans (only_setCell (fun k => k = b6) _ b6 _ _ rfl) (fun _ _ e => e))) ?_ HB6.out.1 HB6.out.2.1 HB6.out.2.2.1 HB6.out.2.2.2)⟩, by simp [intOf]; omega⟩
                          rw [stC_next HEQ.out.1, ← HEQ.out.2]
                          exact heap_setCell_here _ (heap_setCell_here _ H5.out.1)
                      | succ t' =>
                        have hbe := HNX.out t' rfl
                        have hc6 : w4.heap[b6]? = some (.cells #[.int .i64 ((L.getD 0 (0, [])).1 : Int), .int .i64 (segEnd (L.getD t' (0, [])) : Int), .int .i64 (segEnd (L.getD t' (0, [])) : Int), .int .i64 0, .bool false] 60 (0, 0)) := hc6
                        have hl1 : w4.cell? ⟨gf, off + t' * 4 + 1, none⟩ = some (.int .i64 (bs : Int)) := by
                          have h1 := HCL.out t' 1 (.int .i64 (segEnd (L.getD t' (0, [])) : Int)) (by omega) (by omega) rfl
                          rw [← hbe] at h1
                          have hb := H3.out.2.1.trans (hb4.mono H3.out.2.1.size)
                          exact (hb.cell (p := ⟨gf, off + t' * 4 + 1, none⟩) (World.block_lt_of_cell? wr _ h1)).trans h1
                        obtain ⟨y0, hy0⟩ : ∃ y : Int, y = ((L.getD 0 (0, [])).1 : Int) := ⟨_, rfl⟩
                        rw [← hbe, ← hy0] at hc6
                        have r1 : w4.cell? ⟨b16, 1, none⟩ = some (.int .i64 x1) := cell_of g16 rfl
                        have c61 : w4.cell? ⟨b6, 1, none⟩ = some (.int .i64 (bs : Int)) := cell_of hc6 rfl
                        have c62 : w4.cell? ⟨b6, 2, none⟩ = some (.int .i64 (bs : Int)) := cell_of hc6 rfl
                        have z61 : w4.frozen? ⟨b6, 1, none⟩ = false := free_of hc6 _
                        have z62 : w4.frozen? ⟨b6, 2, none⟩ = false := free_of hc6 _
                        have H5 := Lib.hid (And.intro hc6 hy0)
                        clear hJ4 g16 hc6 hb4 kn3 hbe hy0
                        go_upto_region 32 with fail
                        go_region
                        all_goals
                          go_wp2_with fail
                          refine ⟨⟨t' + 1 + 1, by simp, by omega, Lib.hid (H4.out.1.put (only_drew ((only_setCell (fun k => k = b6) _ b6 _ _ rfl).trans (only_setCell (fun k => k = b6) _ b6 _ _ rfl) (fun _ _ e => e))) ?_ HB6.out.1 HB6.out.2.1 HB6.out.2.2.1 HB6.out.2.2.2)⟩, by simp [intOf]; omega⟩
                          rw [stC_next HEQ.out.1, ← H5.out.2]
                          exact heap_setCell_here _ (heap_setCell_here _ H5.out.1)
                    · obtain rfl : M = t := by omega
                      have hcf : wr.heap[b6]? = some (.cells #[.int .i64 (g.begin : Int), .int .i64 (g.fin : Int), .int .i64 (g.fin : Int), .int .i64 0, .bool false] 60 (0, 0)) := by
                        rw [k6]
                        have h0 : 0 < L.length := by rw [HS.out.2.1]; omega
                        have h1 : M - 1 < L.length := by rw [HS.out.2.1]; omega
                        unfold stC
                        rw [if_neg (by omega), List.getD_eq_getElem?_getD, List.getElem?_eq_getElem h0, List.getD_eq_getElem?_getD, List.getElem?_eq_getElem h1]
                        simp only [Option.getD_some, HS.out.2.2.2.1 h0, HS.out.2.2.2.2.2 h1]
                      have hc4 := HT.out.c4
                      obtain ⟨x0, hx0⟩ : ∃ x : Int, x = (g.begin : Int) := ⟨_, rfl⟩
                      obtain ⟨x1, hx1⟩ : ∃ x : Int, x = (g.fin : Int) := ⟨_, rfl⟩
                      rw [← hx0, ← hx1] at hcf
                      have HXX := Lib.hid (And.intro hx0 hx1)
                      have n46 : b4 ≠ b6 := by have := H1.out; omega
                      have n64 := n46.symm
                      obtain ⟨w5, hw5⟩ : ∃ W : World, W = wr.setCell ⟨b6, 3, none⟩ (.int .i64 (M : Int)) := ⟨_, rfl⟩
                      have g6 : w5.heap[b6]? = some (.cells #[.int .i64 x0, .int .i64 x1, .int .i64 x1, .int .i64 (M : Int), .bool false] 60 (0, 0)) := by rw [hw5]; exact heap_setCell_here _ hcf
                      have g4 : w5.heap[b4]? = some (.cells #[.int .i64 0, .int .i64 0, .int .i64 0, .int .i64 0, .bool false] 60 (0, 0)) := by rw [hw5]; exact (Below.heap_setCell _ _ _ _ n46).trans hc4
                      have c63 : wr.cell? ⟨b6, 3, none⟩ = some (.int .i64 0) := cell_of hcf rfl
                      have z63 : wr.frozen? ⟨b6, 3, none⟩ = false := free_of hcf _
                      have low : w.heap.size ≤ b4 ∧ w.heap.size ≤ b6 := by have := H1.out; omega
                      have hb5 : Below w.heap.size w w5 := by rw [hw5]; exact HT.out.below.setCell (p := ⟨b6, 3, none⟩) low.2 _
                      have H5 := Lib.hid (And.intro g6 (And.intro g4 (And.intro hb5 low)))
                      go_upto_region 35 with fail
                      rw [← hw5]
                      clear hw5 hcf hc4 k6 hx0 hx1 c63 z63 hb5 low k7 hbx hbr
                      have q0 : w5.cell? ⟨b6, 0, none⟩ = some (.int .i64 x0) := cell_of g6 rfl
                      have q1 : w5.cell? ⟨b6, 1, none⟩ = some (.int .i64 x1) := cell_of g6 rfl
                      have q2 : w5.cell? ⟨b6, 2, none⟩ = some (.int .i64 x1) := cell_of g6 rfl
                      have q3 : w5.cell? ⟨b6, 3, none⟩ = some (.int .i64 (M : Int)) := cell_of g6 rfl
                      have q4 : w5.cell? ⟨b6, 4, none⟩ = some (.bool false) := cell_of g6 rfl
                      have y0 : w5.cell? ⟨b4, 0, none⟩ = some (.int .i64 0) := cell_of g4 rfl
                      have y1 : w5.cell? ⟨b4, 1, none⟩ = some (.int .i64 0) := cell_of g4 rfl
                      have y2 : w5.cell? ⟨b4, 2, none⟩ = some (.int .i64 0) := cell_of g4 rfl
                      have y3 : w5.cell? ⟨b4, 3, none⟩ = some (.int .i64 0) := cell_of g4 rfl
                      have y4 : w5.cell? ⟨b4, 4, none⟩ = some (.bool false) := cell_of g4 rfl
                      have v0 : w5.frozen? ⟨b4, 0, none⟩ = false := free_of g4 _
                      have v1 : w5.frozen? ⟨b4, 1, none⟩ = false := free_of g4 _
                      have v2 : w5.frozen? ⟨b4, 2, none⟩ = false := free_of g4 _
                      have v3 : w5.frozen? ⟨b4, 3, none⟩ = false := free_of g4 _
                      have v4 : w5.frozen? ⟨b4, 4, none⟩ = false := free_of g4 _
                      clear g6 g4
                      go_wp2_with fail
                      obtain ⟨w7, hw7⟩ : ∃ W : World, W = ((((w5.setCell ⟨b4, 0, none⟩ (.int .i64 x0)).setCell ⟨b4, 1, none⟩ (.int .i64 x1)).setCell ⟨b4, 2, none⟩ (.int .i64 x1)).setCell ⟨b4, 3, none⟩ (.int .i64 (M : Int))).setCell ⟨b4, 4, none⟩ (.bool false) := ⟨_, rfl⟩
                      rw [← hw7]
                      have g7 : w7.heap[b4]? = some (.cells #[.int .i64 x0, .int .i64 x1, .int .i64 x1, .int .i64 (M : Int), .bool false] 60 (0, 0)) := by
                        rw [hw7]
                        exact heap_setCell_here _ (heap_setCell_here _ (heap_setCell_here _ (heap_setCell_here _ (heap_setCell_here _ H5.out.2.1))))
                      have hb7' : Below w.heap.size w w7 := by
                        rw [hw7]
                        have l4 := H5.out.2.2.2.1
                        exact ((((H5.out.2.2.1.setCell (p := ⟨b4, 0, none⟩) l4 _).setCell (p := ⟨b4, 1, none⟩) l4 _).setCell (p := ⟨b4, 2, none⟩) l4 _).setCell (p := ⟨b4, 3, none⟩) l4 _).setCell (p := ⟨b4, 4, none⟩) l4 _
                      have r0 := cell_of (i := 0) g7 rfl
                      have r1 := cell_of (i := 1) g7 rfl
                      have r2 := cell_of (i := 2) g7 rfl
                      have r3 := cell_of (i := 3) g7 rfl
                      have r4 := cell_of (i := 4) g7 rfl
                      refine bodyPost_ret (v := .tuple #[.agg #[.int .i64 x0, .int .i64 x1, .int .i64 x1, .int .i64 (M : Int), .bool false], .int .i64 0]) (by simp [results, Tryz.results67, go_sem, r0, r1, r2, r3, r4]) rfl ⟨by rw [HXX.out.1, HXX.out.2], hb7'⟩
end Go.Proofs.YtlgcoaeddeiegaaGreat
