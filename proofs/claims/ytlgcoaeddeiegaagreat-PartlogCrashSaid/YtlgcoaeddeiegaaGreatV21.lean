/- The texts Xg in one. -/
import Derived.Test.YtlgcoaeddeiegaaGreatV16
import Derived.Test.YtlgcoaeddeiegaaGreatV17
import Derived.Test.YtlgcoaeddeiegaaGreatV18
import Derived.Test.YtlgcoaeddeiegaaGreatV19
import Derived.Test.YtlgcoaeddeiegaaGreatV20
/- partlog: Open of a log whose files lie there. -/
namespace Go.Proofs.YtlgcoaeddeiegaaGreat
open Go Go.Maps Go.RowKit
attribute [local go_sem] Oper.semAt_some

theorem cell_block {V V' : World} {p : Addr} (h : V'.heap[p.block]? = V.heap[p.block]?) : V'.cell? p = V.cell? p := by
  unfold World.cell?
  rw [h]
def openD (log : ByteArray) (g : Lg) (tl : List UInt8) (d : Dk) : Dk := ((mendD (sname log g.lb) (batsT g.lbs).length tl d).sync (sname log g.lb)).2
theorem OldI.opened {log : ByteArray} {g : Lg} {d : Dk} {tl : List UInt8} (h : OldI log g d tl) (hlog : loggedB log.data.toList = true) : OldI log g (openD log g tl d) [] := ((h.mend hlog).2.2.sync hlog).2
theorem mendL_b {w : World} {S : Nat → Prop} {q : Nat} {d : Dk} {log : ByteArray} {g : Lg} {tl : List UInt8} (h : DiskAt w S q d) (ho : OldI log g d tl) (hl : log.size ≤ 8) (hlog : loggedB log.data.toList = true) :
    Calls Tryz.prog 68 #[.pointer (some ⟨q, 0, none⟩), .string (segName log g.lb)] w fun e w' => (∃ v, e = .returned (.tuple #[v, .int .i64 0])) ∧ ∃ S', (∀ k, S' k → S k ∨ w.heap.size ≤ k) ∧ DiskAt w' S' q (mendD (sname log g.lb) (batsT g.lbs).length tl d) ∧ Only S w w' := by
  obtain ⟨hch, hbl⟩ := ho.ok.chainL
  obtain ⟨hk, hn⟩ := sname_ok hlog hbl
  obtain ⟨f, hf, hfb⟩ := ho.last
  obtain ⟨c1, c2, -⟩ := ho.mend hlog
  refine (mendS_b h (segName_size hl) hk hn hf hfb ⟨hch.good, ho.torn⟩ hch hbl c1 c2).mono ?_
  rintro e w' ⟨he, ⟨ht, hb⟩ | ⟨ht, S', h1, h2, h3⟩⟩
  · refine ⟨⟨_, he⟩, S, fun k hk => .inl hk, ?_, Only.of_below hb (Nat.le_refl _) _⟩
    unfold mendD
    rw [if_pos ht]
    exact h.belowS hb
  · refine ⟨⟨_, he⟩, S', h1, ?_, h3⟩
    unfold mendD
    rw [if_neg ht]
    exact h2
theorem openL_b {w : World} {S : Nat → Prop} {q step : Nat} {d : Dk} {log : ByteArray} {g : Lg} (h : DiskAt w S q d) (ho : OldI log g d []) (hl : log.size ≤ 8) (hlog : loggedB log.data.toList = true) (hst : 1 ≤ step ∧ step ≤ 16777216) {t : Nat} (ht : t < g.segs.length) :
    Calls Tryz.prog 70 #[.pointer (some ⟨q, 0, none⟩), .string (segName log g.segs[t].1), .int .i64 (step : Int)] w fun e w' => ∃ b : Sg, e = .returned (.tuple #[b.ptr, .int .i64 0]) ∧ b.seg = g.segs[t] ∧ SgIs w' q log step b ∧ (b.blocks).Nodup ∧ (∀ k ∈ b.blocks, w.heap.size ≤ k ∧ k < w'.heap.size) ∧ Below w.heap.size w w' := by
  have hm : g.segs[t] ∈ g.segs := List.getElem_mem ht
  obtain ⟨hch, hbl⟩ := ho.ok.chain _ hm
  obtain ⟨hk, hn⟩ := sname_ok hlog hbl
  obtain ⟨f, hf, hfb⟩ := ho.fit _ hm
  have hS : DiskAt w (fun k => k < w.heap.size) q d := h.wider (fun k hk => h.lowS k hk) (fun k hk => hk)
  refine (openS_b hS (segName_size hl) hk hn hf hfb hch hbl hst.1 hst.2).mono ?_
  rintro e w' ⟨s, x, sv, sp, he, hi, hb⟩
  have e1 := hi.sS
  have e2 := hi.xS
  have l1 := (Array.getElem?_eq_some_iff.1 hi.head).1
  have l2 := (Array.getElem?_eq_some_iff.1 hi.idx.head).1
  have hbk : ∀ k ∈ Sg.blocks ⟨g.segs[t].1, g.segs[t].2, s, x, sv, sp⟩, k = s ∨ k = x ∨ sv.ownBlock = some k := fun k hk => by
    simpa [Sg.blocks] using hk
  refine ⟨⟨g.segs[t].1, g.segs[t].2, s, x, sv, sp⟩, he, rfl, hi.toSegM, ?_, fun k hk => ?_, hb⟩
  · show (s :: x :: sv.ownBlock.toList).Nodup
    have h1 := hi.sx
    cases hv : sv.ownBlock with
    | none => simp [h1]
    | some k =>
      have h2 := hi.sv k hv
      simp only [Option.toList_some, List.nodup_cons, List.mem_cons, List.not_mem_nil, or_false, not_false_eq_true, List.nodup_nil, and_true, not_or]
      exact ⟨⟨h1, fun e => h2.1 e.symm⟩, fun e => h2.2 e.symm⟩
  · rcases hbk k hk with e | e | e
    · omega
    · omega
    · have h1 := hi.vS k e
      exact ⟨by omega, hi.idx.row.lt k e⟩
structure OpJ (w9 wr : World) (lp q : Nat) (log : ByteArray) (roll step : Nat) (g : Lg) (t : Nat) (L : List Sg) (pv : Value) : Prop where
  len : L.length = t
  segs : L.map Sg.seg = g.segs.take t
  head : wr.heap[lp]? = some (.cells #[.int .i64 0, .int .i64 0, .int .i64 0, .int .i64 0, .bool false, .pointer (some ⟨q, 0, none⟩), .string log, .int .i64 (roll : Int), .int .i64 (step : Int), pv] 82 (0, 0))
  row : rowAt wr 156 1 pv t (L.map Sg.ptr)
  each : ∀ b ∈ L, SgIs wr q log step b
  apart : (pv.ownBlock.toList ++ L.flatMap Sg.blocks).Nodup
  new : ∀ k ∈ pv.ownBlock.toList ++ L.flatMap Sg.blocks, w9.heap.size ≤ k ∧ k < wr.heap.size
  only : Only (fun k => k = lp) w9 wr
theorem OpJ.next {w9 wr w10 w11 : World} {lp q t cp c3 : Nat} {op oa3 : Option Addr} {log : ByteArray} {roll step : Nat} {g : Lg} {L : List Sg} {b : Sg} (h : OpJ w9 wr lp q log roll step g t L (.slice op t cp)) (hlp : lp < w9.heap.size) (ht : t < g.segs.length) (hb10 : Below wr.heap.size wr w10) (hseg : b.seg = g.segs[t]) (hsg : SgIs w10 q log step b) (hnd : b.blocks.Nodup) (hnew : ∀ k ∈ b.blocks, wr.heap.size ≤ k ∧ k < w10.heap.size)
    (hr : rowAt w11 156 1 (.slice oa3 (t + 1) c3) (t + 1) (L.map Sg.ptr ++ [b.ptr])) (hg : (w10.alloc (.cells [b.ptr].toArray 156)).grownBy w11 (Value.slice op t cp).ownBlock) (hown : (Value.slice oa3 (t + 1) c3).ownBlock = (Value.slice op t cp).ownBlock ∨ (Value.slice oa3 (t + 1) c3).ownBlock = some (w10.heap.size + 1)) :
    OpJ w9 (w11.setCell ⟨lp, 9, none⟩ (.slice oa3 (t + 1) c3)) lp q log roll step g (t + 1) (L ++ [b]) (.slice oa3 (t + 1) c3) := by
  have z1 := h.only.size
  have z2 := hb10.size
  have z3 := hg.size
  simp only [World.size_alloc] at z3
  have hpo : ∀ k, (Value.slice op t cp).ownBlock = some k → w9.heap.size ≤ k ∧ k < wr.heap.size := fun k hk => h.new k (List.mem_append_left _ (by rw [hk]; simp))
  have hsb : ∀ x ∈ L, ∀ k ∈ x.blocks, w9.heap.size ≤ k ∧ k < wr.heap.size := fun x hx k hk => h.new k (List.mem_append_right _ (List.mem_flatMap.2 ⟨x, hx, hk⟩))
  have keep : ∀ k, k < w10.heap.size → (Value.slice op t cp).ownBlock ≠ some k → k ≠ lp → (w11.setCell ⟨lp, 9, none⟩ (.slice oa3 (t + 1) c3)).heap[k]? = w10.heap[k]? := fun k hk h1 h2 =>
    (Below.heap_setCell _ _ _ _ h2).trans ((hg.block k (by simp; omega) (fun e => h1 e.symm)).trans (Below.heap_alloc _ _ _ hk))
  have hlpo : (Value.slice op t cp).ownBlock ≠ some lp := fun e => by have := hpo lp e; omega
  have hlp11 : w11.heap[lp]? = wr.heap[lp]? := (hg.block lp (by simp; omega) (fun e => hlpo e.symm)).trans ((Below.heap_alloc _ _ _ (by omega)).trans (hb10.block lp (by omega)))
  have hno : ∀ k, (Value.slice oa3 (t + 1) c3).ownBlock = some k → w9.heap.size ≤ k := fun k hk => by
    rcases hown with e | e
    · exact (hpo k (by rw [← e]; exact hk)).1
    · rw [hk] at e
      simp only [Option.some.injEq] at e
      omega
  have hap := List.nodup_append.1 h.apart
  have hpx : ∀ x ∈ L, ∀ k ∈ x.blocks, (Value.slice op t cp).ownBlock ≠ some k := fun x hx k hk e => hap.2.2 k (by rw [e]; simp) k (List.mem_flatMap.2 ⟨x, hx, hk⟩) rfl
  have hblk : ∀ (x : Sg) (k : Nat), (k = x.s ∨ k = x.x ∨ x.sv.ownBlock = some k) → k ∈ x.blocks := fun x k hk => by
    simp only [Sg.blocks, List.mem_cons, Option.mem_toList]
    exact hk
  refine ⟨by rw [List.length_append, h.len]; rfl, ?_, heap_setCell_here _ (hlp11.trans h.head), ?_, fun x hx => ?_, ?_, fun k hk => ?_, ?_⟩
  · rw [List.map_append, h.segs, List.take_succ_eq_append_getElem ht, ← hseg]
    rfl
  · rw [List.map_append]
    exact hr.kept (fun k hk => Below.heap_setCell _ _ _ _ (fun e => by have := hno k hk; dsimp only at e; omega))
  · rcases List.mem_append.1 hx with hx | hx
    · refine (h.each x hx).kept (fun k hk => ?_)
      have h1 := hsb x hx k (hblk x k hk)
      exact (keep k (by omega) (hpx x hx k (hblk x k hk)) (by omega)).trans (hb10.block k h1.2)
    · rw [List.mem_singleton] at hx
      subst hx
      refine hsg.kept (fun k hk => ?_)
      have h1 := hnew k (hblk x k hk)
      exact keep k h1.2 (fun e => by have := hpo k e; omega) (by omega)
  · rw [List.flatMap_append, List.flatMap_cons, List.flatMap_nil, List.append_nil, List.nodup_append]
    have hLb : (L.flatMap Sg.blocks ++ b.blocks).Nodup := by
      rw [List.nodup_append]
      refine ⟨hap.2.1, hnd, fun k hk j hj e => ?_⟩
      obtain ⟨x, hx, hk'⟩ := List.mem_flatMap.1 hk
      have := hsb x hx k hk'
      have := hnew j hj
      omega
    refine ⟨?_, hLb, fun k hk j hj e => ?_⟩
    · cases (Value.slice oa3 (t + 1) c3).ownBlock <;> simp
    · subst e
      have hk : (Value.slice oa3 (t + 1) c3).ownBlock = some k := by simpa using hk
      rcases hown with e | e
      · rw [hk] at e
        rcases List.mem_append.1 hj with hj | hj
        · obtain ⟨x, hx, hk'⟩ := List.mem_flatMap.1 hj
          exact hpx x hx k hk' e.symm
        · have := hpo k e.symm
          have := hnew k hj
          omega
      · rw [hk] at e
        simp only [Option.some.injEq] at e
        rcases List.mem_append.1 hj with hj | hj
        · obtain ⟨x, hx, hk'⟩ := List.mem_flatMap.1 hj
          have := hsb x hx k hk'
          omega
        · have := hnew k hj
          omega
  · have hz : (w11.setCell ⟨lp, 9, none⟩ (.slice oa3 (t + 1) c3)).heap.size = w11.heap.size := by simp
    rw [hz]
    rcases List.mem_append.1 hk with hk | hk
    · have hk : (Value.slice oa3 (t + 1) c3).ownBlock = some k := by simpa using hk
      exact ⟨hno k hk, hr.lt k hk⟩
    · obtain ⟨x, hx, hk'⟩ := List.mem_flatMap.1 hk
      rcases List.mem_append.1 hx with hx | hx
      · have := hsb x hx k hk'
        exact ⟨this.1, by omega⟩
      · rw [List.mem_singleton] at hx
        subst hx
        have := hnew k hk'
        exact ⟨by omega, by omega⟩
  · have o1 : Only (fun k => (Value.slice op t cp).ownBlock = some k) wr w11 := (Only.of_below hb10 (Nat.le_refl _) _).trans ((only_alloc (fun k => (Value.slice op t cp).ownBlock = some k) _ _).trans (Only.of_grown hg (fun k hk => hk)) (fun _ _ e => e)) (fun _ _ e => e)
    exact (h.only.trans o1 (fun k hk e => by have := hpo k e; omega)).trans (only_setCell (fun k => k = lp) _ lp 9 _ rfl) (fun _ _ e => e)
def OpenO (w : World) (S : Nat → Prop) (q : Nat) (d : Dk) (log : ByteArray) (roll step : Nat) (g : Lg) (tl : List UInt8) (e : Ending) (w' : World) : Prop :=
  ∃ lp S' T', e = .returned (.tuple #[.pointer (some ⟨lp, 0, none⟩), .int .i64 0]) ∧ LogD w' S' T' lp q log roll step g (openD log g tl d) ∧ (∀ k, S' k → Wid S w w' k) ∧ (∀ k, T' k → w.heap.size ≤ k) ∧ Only S w w'
set_option maxRecDepth 100000 in
set_option maxHeartbeats 8000000 in
theorem openOld_b {w : World} {S : Nat → Prop} {q : Nat} {d : Dk} (h : DiskAt w S q d) {log : ByteArray} {g : Lg} {tl : List UInt8} (ho : OldI log g d tl) (hl : log.size ≤ 8) (hlog : loggedB log.data.toList = true) {rollN stepN : Nat} (hrb : 1 ≤ rollN ∧ rollN ≤ 16711680) (hsb : 1 ≤ stepN ∧ stepN ≤ 16777216) (hfew : g.segs.length ≤ 4096) :
    Calls Tryz.prog 15 #[.pointer (some ⟨q, 0, none⟩), .string log, .agg #[.int .i64 (rollN : Int), .int .i64 (stepN : Int)]] w fun e w' => OpenO w S q d log rollN stepN g tl e w' := by
  have hmf : ∀ (fn : Fn) (first cap : Array Value) (W : World), (Instr.makeFunc fn first cap).run Tryz.prog W = .ok (.func fn first cap) W := fun _ _ _ _ => rfl
  obtain ⟨w1, hw1⟩ : ∃ W : World, W = ((w.alloc (.cells #[.int .i64 (rollN : Int), .int .i64 (stepN : Int)] 23)).alloc (.cells #[.pointer none] 31)).alloc (.cells #[.int .i64 0] 28) := ⟨_, rfl⟩
  obtain ⟨b5, hb5⟩ : ∃ b, b = w.heap.size := ⟨_, rfl⟩
  obtain ⟨b6, hb6⟩ : ∃ b, b = w.heap.size + 1 := ⟨_, rfl⟩
  obtain ⟨b7, hb7⟩ : ∃ b, b = w.heap.size + 1 + 1 := ⟨_, rfl⟩
  have hbl : Below w.heap.size w w1 := by rw [hw1]; exact (((Below.refl _ _).alloc (Nat.le_refl _) _).alloc (by simp) _).alloc (by simp; omega) _
  have g5 : w1.heap[b5]? = some (.cells #[.int .i64 (rollN : Int), .int .i64 (stepN : Int)] 23 (0, 0)) := by
    rw [hw1, hb5]
    exact (Below.heap_alloc _ _ _ (by simp; omega)).trans ((Below.heap_alloc _ _ _ (by simp)).trans (alloc_cells _ _ _))
  have g6 : w1.heap[b6]? = some (.cells #[.pointer none] 31 (0, 0)) := by
    rw [hw1, hb6]
    have := alloc_cells (w.alloc (.cells #[.int .i64 (rollN : Int), .int .i64 (stepN : Int)] 23)) #[.pointer none] 31
    rw [World.size_alloc] at this
    exact (Below.heap_alloc _ _ _ (by simp)).trans this
  have g7 : w1.heap[b7]? = some (.cells #[.int .i64 0] 28 (0, 0)) := by
    rw [hw1, hb7]
    have := alloc_cells ((w.alloc (.cells #[.int .i64 (rollN : Int), .int .i64 (stepN : Int)] 23)).alloc (.cells #[.pointer none] 31)) #[.int .i64 0] 28
    rwa [World.size_alloc, World.size_alloc] at this
  have k50 : w1.cell? ⟨b5, 0, none⟩ = some (.int .i64 (rollN : Int)) := cell_of g5 rfl
  have k51 : w1.cell? ⟨b5, 1, none⟩ = some (.int .i64 (stepN : Int)) := cell_of g5 rfl
  have HR := Lib.hid (logRight_b hl hlog (rollN : Int) (stepN : Int) w1)
  have H1 := Lib.hid (And.intro hbl (And.intro g5 (And.intro g6 (And.intro g7 (h.belowS hbl)))))
  have HB := Lib.hid (And.intro hb5 (And.intro hb6 hb7))
  have H := Lib.hid h
  have n67 : b6 ≠ b7 := by omega
  have n76 := n67.symm
  have HO := Lib.hid (And.intro ho (And.intro hl (And.intro hlog (And.intro hrb (And.intro hsb hfew)))))
  clear hbl g5 g6 g7 h ho hl hlog hrb hsb hfew
  go_enter_defers Tryz.func15, Tryz.ntmps15
  go_upto_region 1 with fail
  rw [← hw1, ← hb7, ← hb6, ← hb5]
  clear hw1 hb5 hb6 hb7
  go_wp2_with fail
  refine HR.out.mono ?_
  rintro e w2 ⟨rfl, hb2⟩
  have hb02 : Below w.heap.size w w2 := H1.out.1.trans (hb2.mono H1.out.1.size)
  have g5 := (hb2.block b5 (Array.getElem?_eq_some_iff.1 H1.out.2.1).1).trans H1.out.2.1
  have g6 := (hb2.block b6 (Array.getElem?_eq_some_iff.1 H1.out.2.2.1).1).trans H1.out.2.2.1
  have g7 := (hb2.block b7 (Array.getElem?_eq_some_iff.1 H1.out.2.2.2.1).1).trans H1.out.2.2.2.1
  have H2 := Lib.hid (And.intro hb02 (And.intro g5 (And.intro g6 (And.intro g7 (H1.out.2.2.2.2.belowS hb2)))))
  clear hb2 hb02 k50 k51 HR
  have hrt : rightT (rollN : Int) (stepN : Int) = true := by
    unfold rightT
    simp only [Bool.and_eq_true, decide_eq_true_eq]
    have := HO.out.2.2.2
    omega
  rw [hrt]
  have k50 : w2.cell? ⟨b5, 0, none⟩ = some (.int .i64 (rollN : Int)) := cell_of g5 rfl
  have k51 : w2.cell? ⟨b5, 1, none⟩ = some (.int .i64 (stepN : Int)) := cell_of g5 rfl
  clear hrt g5 g6 g7
  go_upto_region 8 with fail
  obtain ⟨lp, hlp⟩ : ∃ b, b = w2.heap.size := ⟨_, rfl⟩
  obtain ⟨w3, hw3⟩ : ∃ W : World, W = w2.alloc (.cells #[.int .i64 0, .int .i64 0, .int .i64 0, .int .i64 0, .bool false, .pointer (some ⟨q, 0, none⟩), .string log, .int .i64 (rollN : Int), .int .i64 (stepN : Int), .slice none 0 0] 82) := ⟨_, rfl⟩
  have gl3 : w3.heap[lp]? = some (.cells #[.int .i64 0, .int .i64 0, .int .i64 0, .int .i64 0, .bool false, .pointer (some ⟨q, 0, none⟩), .string log, .int .i64 (rollN : Int), .int .i64 (stepN : Int), .slice none 0 0] 82 (0, 0)) := by rw [hw3, hlp]; exact alloc_cells _ _ _
  have hb23 : Below w2.heap.size w2 w3 := by rw [hw3]; exact (Below.refl _ _).alloc (Nat.le_refl _) _
  rw [← hw3, ← hlp]
  have HNM := Lib.hid (logNames_b (H2.out.2.2.2.2.belowS hb23) log)
  have H3 := Lib.hid (And.intro gl3 (And.intro hb23 hlp))
  clear gl3 hb23 hlp hw3 k50 k51
  go_wp2_with fail
  refine HNM.out.mono ?_
  rintro e w4 ⟨v, rfl, hrow, hown, hb4⟩
  rw [HO.out.1.names, List.length_map, List.map_map] at hrow
  obtain ⟨m, hm⟩ : ∃ m, g.segs.length = m + 1 := ⟨g.ini.length, g.segs_len⟩
  rw [hm] at hrow
  obtain ⟨oa, c, rfl, -⟩ := hrow.shape
  obtain ⟨gb, off, rfl⟩ := hrow.read.addr (by omega)
  have hm9 : m ≤ 9000 := by have := HO.out.2.2.2.2.2; omega
  obtain ⟨nm, hnm⟩ : ∃ nm, nm = segName log g.lb := ⟨_, rfl⟩
  have kl4 : w4.cell? ⟨gb, off + m, none⟩ = some (.string nm) := by
    have h1 : m < g.segs.length := by omega
    have := hrow.cells rfl m (.string nm) (by
      rw [List.getElem?_map, List.getElem?_eq_getElem h1, g.segs_last h1 (by omega), hnm]
      rfl)
    simpa [Go.WideShapes.add_plain] using this
  have hb24 : Below w2.heap.size w2 w4 := H3.out.2.1.trans (hb4.mono H3.out.2.1.size)
  have hb04 : Below w.heap.size w w4 := H2.out.1.trans (hb24.mono H2.out.1.size)
  have gl4 := (hb4.block lp (Array.getElem?_eq_some_iff.1 H3.out.1).1).trans H3.out.1
  have g54 := (hb24.block b5 (Array.getElem?_eq_some_iff.1 H2.out.2.1).1).trans H2.out.2.1
  have g64 := (hb24.block b6 (Array.getElem?_eq_some_iff.1 H2.out.2.2.1).1).trans H2.out.2.2.1
  have g74 := (hb24.block b7 (Array.getElem?_eq_some_iff.1 H2.out.2.2.2.1).1).trans H2.out.2.2.2.1
  have hd4 := H2.out.2.2.2.2.belowS hb24
  have HLD := Lib.hid (looked_b hd4 HO.out.1 HO.out.2.1 HO.out.2.2.1 hm (by have := HO.out.2.2.2.2.2; omega) hrow)
  have hgb : w2.heap.size ≤ gb ∧ gb < w4.heap.size := ⟨Nat.le_trans H3.out.2.1.size (hown gb rfl), hrow.lt gb rfl⟩
  have H4 := Lib.hid (And.intro hb04 (And.intro gl4 (And.intro g54 (And.intro g64 (And.intro g74 (And.intro hd4 (And.intro hrow (And.intro hgb (And.intro kl4 hnm)))))))))
  have HM := Lib.hid hm
  have dM : decide (((m + 1 : Nat) : Int) = 0) = false := decide_eq_false (by omega)
  clear hrow hown hb4 hb24 hb04 gl4 g54 g64 g74 hd4 HNM hm hnm kl4 hgb
  obtain ⟨vb, hvb⟩ : ∃ x : Int, x = (g.begin : Int) := ⟨_, rfl⟩
  obtain ⟨vf, hvf⟩ : ∃ x : Int, x = (g.fin : Int) := ⟨_, rfl⟩
  rw [← hvb, ← hvf] at HLD
  have HVB := Lib.hid (And.intro hvb hvf)
  clear hvb hvf
  go_wp2_with fail
  refine HLD.out.mono ?_
  rintro e w5 ⟨rfl, hb5⟩
  obtain ⟨w6a, hw6a⟩ : ∃ W : World, W = w5.alloc (.cells #[.int .i64 vb, .int .i64 vf, .int .i64 vf, .int .i64 ((m : Int) + 1), .bool false] 60) := ⟨_, rfl⟩
  obtain ⟨b12, hb12⟩ : ∃ b, b = w5.heap.size := ⟨_, rfl⟩
  have g12a : w6a.heap[b12]? = some (.cells #[.int .i64 vb, .int .i64 vf, .int .i64 vf, .int .i64 ((m : Int) + 1), .bool false] 60 (0, 0)) := by rw [hw6a, hb12]; exact alloc_cells _ _ _
  have hb56 : Below w5.heap.size w5 w6a := by rw [hw6a]; exact (Below.refl _ _).alloc (Nat.le_refl _) _
  have hb46 : Below w4.heap.size w4 w6a := hb5.trans (hb56.mono hb5.size)
  have g76a := (hb46.block b7 (Array.getElem?_eq_some_iff.1 H4.out.2.2.2.2.1).1).trans H4.out.2.2.2.2.1
  have k7 : w6a.cell? ⟨b7, 0, none⟩ = some (.int .i64 0) := cell_of g76a rfl
  have z7 : w6a.frozen? ⟨b7, 0, none⟩ = false := free_of g76a _
  obtain ⟨w6, hw6⟩ : ∃ W : World, W = w6a.setCell ⟨b7, 0, none⟩ (.int .i64 0) := ⟨_, rfl⟩
  have g76 : w6.heap[b7]? = some (.cells #[.int .i64 0] 28 (0, 0)) := by rw [hw6]; exact heap_setCell_here (cs := #[.int .i64 0]) _ g76a
  have n712 : b12 ≠ b7 := by have := (Array.getElem?_eq_some_iff.1 H4.out.2.2.2.2.1).1; have := hb5.size; omega
  have g12 : w6.heap[b12]? = some (.cells #[.int .i64 vb, .int .i64 vf, .int .i64 vf, .int .i64 ((m : Int) + 1), .bool false] 60 (0, 0)) := by rw [hw6]; exact (Below.heap_setCell _ _ _ _ n712).trans g12a
  have ho46 : Only (fun k => k = b7) w4 w6 := by rw [hw6]; exact (Only.of_below hb46 (Nat.le_refl _) _).trans (only_setCell (fun k => k = b7) _ b7 0 _ rfl) (fun _ _ e => e)
  have hzz : w4.heap.size ≤ b12 := by have := hb5.size; omega
  have hnS : ∀ k, w.heap.size ≤ k → ¬ S k := fun k hk hS => by have := H.out.lowS k hS; omega
  have hlow : w.heap.size ≤ b5 ∧ w.heap.size ≤ b6 ∧ w.heap.size ≤ b7 ∧ w.heap.size ≤ lp ∧ b5 ≠ b7 ∧ b6 ≠ b7 ∧ lp ≠ b7 ∧ b6 ≠ lp ∧ gb ≠ b7 ∧ gb ≠ lp ∧ w.heap.size ≤ gb ∧ b5 ≠ lp := by
    have h1 := HB.out
    have h2 := H3.out.2.2
    have h3 := H2.out.1.size
    have h4 := (Array.getElem?_eq_some_iff.1 H2.out.2.1).1
    have h6 := (Array.getElem?_eq_some_iff.1 H2.out.2.2.1).1
    have h7 := (Array.getElem?_eq_some_iff.1 H2.out.2.2.2.1).1
    have h8 := H4.out.2.2.2.2.2.2.2.1.1
    have h9 : gb ≠ lp := fun e => by
      have h10 := H4.out.2.2.2.2.2.2.1
      rcases h10.2 with ⟨hn, -⟩ | ⟨g', off', cap, cur, fr, hv, hg, -⟩
      · cases hn
      · simp only [Value.slice.injEq, Option.some.injEq, Addr.mk.injEq] at hv
        obtain ⟨⟨rfl, -, -⟩, -, -⟩ := hv
        rw [e, H4.out.2.1] at hg
        simp only [Option.some.injEq, Obj.cells.injEq] at hg
        exact absurd hg.2.1 (by decide)
    refine ⟨by omega, by omega, by omega, by omega, by omega, by omega, by omega, by omega, by omega, h9, by omega, by omega⟩
  have hd6 : DiskAt w6 S q d := H4.out.2.2.2.2.2.1.onlyS ho46 (fun k hk e => hnS b7 hlow.2.2.1 (e ▸ hk))
  have hb9 : b12 < w6.heap.size := (Array.getElem?_eq_some_iff.1 g12).1
  have HME := Lib.hid (mendL_b hd6 HO.out.1 HO.out.2.1 HO.out.2.2.1)
  have kl6 : w6.cell? ⟨gb, off + m, none⟩ = some (.string nm) := by
    have h1 := H4.out.2.2.2.2.2.2.2.2.1
    have h2 := World.block_lt_of_cell? w4 _ h1
    have h3 := ho46.block gb h2 hlow.2.2.2.2.2.2.2.2.1
    exact (cell_block (p := ⟨gb, off + m, none⟩) h3).trans h1
  rw [← H4.out.2.2.2.2.2.2.2.2.2] at HME
  have k76 : w6.cell? ⟨b7, 0, none⟩ = some (.int .i64 0) := cell_of g76 rfl
  have H6 := Lib.hid (And.intro ho46 (And.intro g76 (And.intro g12 (And.intro hzz hb9))))
  have HL := Lib.hid (And.intro hnS hlow)
  clear hb5 hb56 hb46 g12a g76a hzz hnS hlow hd6 g76 g12 ho46 hb9 HLD
  rw [hw6a] at k7 z7
  go_upto_region 17 with fail
  rw [← hw6a, ← hb12, ← hw6]
  clear hw6a hb12 hw6 k7 z7
  go_wp2_with fail
  refine (must_ok w6).mono ?_
  rintro e w7 ⟨rfl, hw7⟩
  obtain rfl := hw7.symm
  clear hw7
  go_wp2_with fail
  refine HME.out.mono ?_
  rintro e w7 ⟨⟨vv, rfl⟩, S7, hS7, hd7, ho7⟩
  have l7 := HL.out.2
  have b7l := (Array.getElem?_eq_some_iff.1 H6.out.2.1).1
  have g77 := (ho7.block b7 b7l (HL.out.1 b7 l7.2.2.1)).trans H6.out.2.1
  have k77 : w7.cell? ⟨b7, 0, none⟩ = some (.int .i64 0) := cell_of g77 rfl
  have z77 : w7.frozen? ⟨b7, 0, none⟩ = false := free_of g77 _
  obtain ⟨w8, hw8⟩ : ∃ W : World, W = w7.setCell ⟨b7, 0, none⟩ (.int .i64 0) := ⟨_, rfl⟩
  have g78 : w8.heap[b7]? = some (.cells #[.int .i64 0] 28 (0, 0)) := by rw [hw8]; exact heap_setCell_here (cs := #[.int .i64 0]) _ g77
  have ho8 : Only (fun k => k = b7) w7 w8 := by rw [hw8]; exact only_setCell (fun k => k = b7) _ b7 0 _ rfl
  have hb7S : ¬ S7 b7 := fun e => by
    rcases hS7 b7 e with h1 | h1
    · exact HL.out.1 b7 l7.2.2.1 h1
    · omega
  have hd8 := hd7.onlyS ho8 (fun k hk e => hb7S (e ▸ hk))
  have hsy := sync_b hd8 nm (by
    have := segName_size (b := g.lb) HO.out.2.1
    rw [← H4.out.2.2.2.2.2.2.2.2.2] at this
    unfold maxLen
    omega)
  have hsn : nm.data.toList = sname log g.lb := by rw [H4.out.2.2.2.2.2.2.2.2.2, segName_data]
  rw [hsn] at hsy
  have HSY := Lib.hid hsy
  have k78 : w8.cell? ⟨b7, 0, none⟩ = some (.int .i64 0) := cell_of g78 rfl
  have H8 := Lib.hid (And.intro hS7 (And.intro ho7 (And.intro ho8 (And.intro g78 hb7S))))
  clear hS7 hd7 ho7 l7 b7l g77 g78 ho8 hb7S hd8 hsy hsn HME k76
  go_upto_region 20 with fail
  rw [← hw8]
  clear hw8 k77 z77
  go_wp2_with fail
  refine (must_ok w8).mono ?_
  rintro e w9 ⟨rfl, hw9⟩
  obtain rfl := hw9.symm
  clear hw9
  go_wp2_with fail
  refine HSY.out.mono ?_
  rintro e w9 ⟨he, hd9, ho9⟩
  have hs0 := ((HO.out.1.mend HO.out.2.2.1).2.2.sync HO.out.2.2.1)
  rw [hs0.1] at he
  obtain rfl := he
  have hd9 : DiskAt w9 (Wid S7 w8 w9) q (openD log g tl d) := hd9
  have hold9 : OldI log g (openD log g tl d) [] := hs0.2
  obtain ⟨l1, l2, l3, l4, l5, l6, l7, l8, l9, l10, l11, l12⟩ := HL.out.2
  have hS7' : ∀ k, S7 k → k < w6.heap.size → S k := fun k hk h => by
    rcases H8.out.1 k hk with e | e
    · exact e
    · omega
  have z67 := H8.out.2.1.size
  have z78 := H8.out.2.2.1.size
  have ho69 : Only (fun k => S k ∨ k = b7) w6 w9 := ((H8.out.2.1.mono (fun _ _ e => .inl e)).trans H8.out.2.2.1 (fun _ _ e => .inr e)).trans ho9 (fun k hk e => .inl (hS7' k e hk))
  have ho49 : Only (fun k => S k ∨ k = b7) w4 w9 := (H6.out.1.mono (fun _ _ e => .inr e)).trans ho69 (fun _ _ e => e)
  have up : ∀ k, k < w4.heap.size → w.heap.size ≤ k → k ≠ b7 → w9.heap[k]? = w4.heap[k]? := fun k h1 h2 h3 => ho49.block k h1 (fun e => by
    rcases e with e | e
    · exact HL.out.1 k h2 e
    · exact h3 e)
  have gl9 := (up lp (Array.getElem?_eq_some_iff.1 H4.out.2.1).1 l4 l7).trans H4.out.2.1
  have g59 := (up b5 (Array.getElem?_eq_some_iff.1 H4.out.2.2.1).1 l1 l5).trans H4.out.2.2.1
  have g69 := (up b6 (Array.getElem?_eq_some_iff.1 H4.out.2.2.2.1).1 l2 l6).trans H4.out.2.2.2.1
  have hrow9 := H4.out.2.2.2.2.2.2.1.kept (w' := w9) (fun k hk => by
    simp only [Value.ownBlock, Option.some.injEq] at hk
    subst hk
    exact up gb H4.out.2.2.2.2.2.2.2.1.2 l11 l9)
  have hb7l := (Array.getElem?_eq_some_iff.1 H8.out.2.2.2.1).1
  have g79 := (ho9.block b7 hb7l H8.out.2.2.2.2).trans H8.out.2.2.2.1
  have g129 : w9.heap[b12]? = w6.heap[b12]? := ho69.block b12 H6.out.2.2.2.2 (fun e => by
    rcases e with e | e
    · have := H.out.lowS b12 e; have := H4.out.1.size; have := H6.out.2.2.2.1; omega
    · have := (Array.getElem?_eq_some_iff.1 H4.out.2.2.2.2.1).1; have := H6.out.2.2.2.1; omega)
  have g129 := g129.trans H6.out.2.2.1
  have hS9 : ∀ k, Wid S7 w8 w9 k → S k ∨ (w6.heap.size ≤ k ∧ k < w9.heap.size) := fun k hk => by
    rcases hk with hk | hk
    · rcases H8.out.1 k hk with e | e
      · exact .inl e
      · exact .inr ⟨e, hd9.lowS k (.inl hk)⟩
    · exact .inr ⟨by have := hk.1; omega, hk.2⟩
  have z46 : w4.heap.size ≤ w6.heap.size := H6.out.1.size
  have hX9 : ∀ k, w.heap.size ≤ k → k < w4.heap.size → ¬ Wid S7 w8 w9 k := fun k h1 h2 hk => by
    rcases hS9 k hk with e | e
    · exact HL.out.1 k h1 e
    · omega
  have hlp4 := (Array.getElem?_eq_some_iff.1 H4.out.2.1).1
  have hlp9 := (Array.getElem?_eq_some_iff.1 gl9).1
  have HOP : Hid (∀ (W : World) (t : Nat) (ht : t < g.segs.length), Only (fun k => k = lp) w9 W → Calls Tryz.prog 70 #[.pointer (some ⟨q, 0, none⟩), .string (segName log g.segs[t].1), .int .i64 (stepN : Int)] W fun e w' => ∃ b : Sg, e = .returned (.tuple #[b.ptr, .int .i64 0]) ∧ b.seg = g.segs[t] ∧ SgIs w' q log stepN b ∧ (b.blocks).Nodup ∧ (∀ k ∈ b.blocks, W.heap.size ≤ k ∧ k < w'.heap.size) ∧ Below W.heap.size W w') := Lib.hid (fun W t ht ho => openL_b (hd9.onlyS ho (fun k hk e => hX9 lp l4 hlp4 (e ▸ hk))) hold9 HO.out.2.1 HO.out.2.2.1 HO.out.2.2.2.2.1 ht)
  have H9 := Lib.hid (And.intro hd9 (And.intro hold9 (And.intro ho49 (And.intro gl9 (And.intro g59 (And.intro g69 (And.intro g79 (And.intro g129 (And.intro hrow9 (And.intro hS9 (And.intro hX9 hlp9)))))))))))
  clear hd9 hold9 ho49 gl9 g59 g69 g79 g129 hrow9 hS9 hX9 hlp9 hlp4 up ho69 hS7' hs0 z67 z78 l1 l2 l3 l4 l5 l6 l7 l8 l9 l10 l11 l12 hb7l z46 ho9 HSY k78 kl6
  go_wp2_with fail
  refine (must_ok w9).mono ?_
  rintro e w10 ⟨rfl, hw10⟩
  obtain rfl := hw10.symm
  clear hw10
  go_wp2_with fail
  go_loopw [94] (fun s94 wr => ∃ t : Nat, s94 = .int .i64 (t : Int) ∧ t ≤ m + 1 ∧ Hid (∃ L pv, OpJ w9 wr lp q log rollN stepN g t L pv)) (fun s94 _ => m + 1 - (intOf s94).toNat)
  case atStart => exact ⟨0, rfl, Nat.zero_le _, Lib.hid ⟨[], .slice none 0 0, rfl, by simp, H9.out.2.2.2.1, ⟨rfl, .inl ⟨rfl, rfl⟩⟩, fun b hb => (by cases hb), by simp [Value.ownBlock], fun k hk => by simp [Value.ownBlock] at hk, Only.refl _ _⟩⟩
  case round =>
    obtain ⟨t, rfl, ht, HJ⟩ := hrel
    obtain ⟨L, pv, hj⟩ := HJ.out
    obtain ⟨op, cp, rfl, -⟩ := hj.row.shape
    obtain ⟨l1, l2, l3, l4, l5, l6, l7, l8, l9, l10, l11, l12⟩ := HL.out.2
    have g5r := (hj.only.block b5 (Array.getElem?_eq_some_iff.1 H9.out.2.2.2.2.1).1 l12).trans H9.out.2.2.2.2.1
    have hlpr := hj.head
    by_cases hlt : t < m + 1
    · have htL : t < g.segs.length := by rw [HM.out]; exact hlt
      have hrow := H9.out.2.2.2.2.2.2.2.2.1.kept (w' := wr) (fun k hk => by
        have h1 := H9.out.2.2.2.2.2.2.2.2.1.lt k hk
        simp only [Value.ownBlock, Option.some.injEq] at hk
        subst hk
        exact hj.only.block gb h1 l10)
      obtain ⟨nt, hnt⟩ : ∃ nt, nt = segName log g.segs[t].1 := ⟨_, rfl⟩
      have kn : wr.cell? ⟨gb, off + t, none⟩ = some (.string nt) := by
        have := hrow.cells rfl t (.string nt) (by
          rw [List.getElem?_map, List.getElem?_eq_getElem htL, hnt]
          rfl)
        simpa [Go.WideShapes.add_plain] using this
      have k51 : wr.cell? ⟨b5, 1, none⟩ = some (.int .i64 (stepN : Int)) := cell_of g5r rfl
      have hop := HOP.out wr t htL hj.only
      rw [← hnt] at hop
      have HO1 := Lib.hid hop
      have HJ1 := Lib.hid (And.intro hj htL)
      clear hop hrow hnt g5r hlpr hj l1 l2 l3 l4 l5 l6 l7 l8 l9 l10 l11 l12
      go_wp2_with fail
      refine HO1.out.mono ?_
      rintro e w10 ⟨b, rfl, hseg, hsg, hnd, hnew, hb10⟩
      have hbp : b.ptr = .pointer (some ⟨b.s, 0, none⟩) := rfl
      rw [hbp]
      have HB := Lib.hid (And.intro hseg (And.intro hsg (And.intro hnd (And.intro hnew hb10))))
      have hlp10 := (hb10.block lp (Array.getElem?_eq_some_iff.1 HJ1.out.1.head).1).trans HJ1.out.1.head
      have k9 : w10.cell? ⟨lp, 9, none⟩ = some (.slice op t cp) := cell_of hlp10 rfl
      have hrow10 := HJ1.out.1.row.kept (fun k hk => hb10.block k (HJ1.out.1.row.lt k hk))
      have hpo : (Value.slice op t cp).ownBlock ≠ some lp := fun e => by
        have h1 := HJ1.out.1.new lp (List.mem_append_left _ (by rw [e]; simp))
        have := H9.out.2.2.2.2.2.2.2.2.2.2.2
        omega
      have HR10 := Lib.hid (And.intro hrow10 (And.intro hlp10 hpo))
      have hone : ∀ v ∈ ([.pointer (some ⟨b.s, 0, none⟩)] : List Value), v.oneCell' = true := by
        intro v hv
        simp only [List.mem_cons, List.not_mem_nil, or_false] at hv
        rcases hv with rfl
        rfl
      have HONE := Lib.hid hone
      clear hseg hsg hnd hnew hb10 hlp10 hrow10 hbp hpo hone HO1 k51 kn
      go_wp2_with fail
      refine (must_ok w10).mono ?_
      rintro e w11 ⟨rfl, hw11⟩
      obtain rfl := hw11.symm
      clear hw11
      go_wp2_with (at_builtin; refine wpList_append_one rfl (.tmp 112) (.tmp 114) 80 156 rfl Tryz.underlying80 info_seg rfl (by omega) HR10.out.1 (by omega) [.pointer (some ⟨b.s, 0, none⟩)] rfl HONE.out (by rfl) (by rfl) ?_; intro oa3 c3 w12 HR12 HG12 HO12; have hb12 := (HG12.out.block lp (by have := (Array.getElem?_eq_some_iff.1 HR10.out.2.1).1; simp; omega) (fun e => HR10.out.2.2 e.symm)).trans ((Below.heap_alloc _ _ _ (Array.getElem?_eq_some_iff.1 HR10.out.2.1).1).trans HR10.out.2.1); have kb : w12.cell? ⟨lp, 9, none⟩ = some (.slice op t cp) := cell_of hb12 rfl; have fb : w12.frozen? ⟨lp, 9, none⟩ = false := free_of hb12 _)
      exact ⟨⟨t + 1, by simp, by omega, Lib.hid ⟨L ++ [b], .slice oa3 (t + 1) c3, HJ1.out.1.next H9.out.2.2.2.2.2.2.2.2.2.2.2 HJ1.out.2 HB.out.2.2.2.2 HB.out.1 HB.out.2.1 HB.out.2.2.1 HB.out.2.2.2.1 HR12.out HG12.out HO12.out⟩⟩, by simp [intOf]; omega⟩
    · obtain rfl : t = m + 1 := by omega
      have g6r := (hj.only.block b6 (Array.getElem?_eq_some_iff.1 H9.out.2.2.2.2.2.1).1 l8).trans H9.out.2.2.2.2.2.1
      have n7l : b7 ≠ lp := l7.symm
      have g7r := (hj.only.block b7 (Array.getElem?_eq_some_iff.1 H9.out.2.2.2.2.2.2.1).1 n7l).trans H9.out.2.2.2.2.2.2.1
      have n12l : b12 ≠ lp := fun e => by have h1 := H6.out.2.2.2.1; have h2 := (Array.getElem?_eq_some_iff.1 H4.out.2.1).1; omega
      have g12r := (hj.only.block b12 (Array.getElem?_eq_some_iff.1 H9.out.2.2.2.2.2.2.2.1).1 n12l).trans H9.out.2.2.2.2.2.2.2.1
      have n6l := l8
      have nl6 := n6l.symm
      have nl7 := n7l.symm
      have c0 : wr.cell? ⟨lp, 0, none⟩ = some (.int .i64 0) := cell_of hlpr rfl
      have c1 : wr.cell? ⟨lp, 1, none⟩ = some (.int .i64 0) := cell_of hlpr rfl
      have c2 : wr.cell? ⟨lp, 2, none⟩ = some (.int .i64 0) := cell_of hlpr rfl
      have c3 : wr.cell? ⟨lp, 3, none⟩ = some (.int .i64 0) := cell_of hlpr rfl
      have c4 : wr.cell? ⟨lp, 4, none⟩ = some (.bool false) := cell_of hlpr rfl
      have y0 : wr.frozen? ⟨lp, 0, none⟩ = false := free_of hlpr _
      have y1 : wr.frozen? ⟨lp, 1, none⟩ = false := free_of hlpr _
      have y2 : wr.frozen? ⟨lp, 2, none⟩ = false := free_of hlpr _
      have y3 : wr.frozen? ⟨lp, 3, none⟩ = false := free_of hlpr _
      have y4 : wr.frozen? ⟨lp, 4, none⟩ = false := free_of hlpr _
      have q0 : wr.cell? ⟨b12, 0, none⟩ = some (.int .i64 vb) := cell_of g12r rfl
      have q1 : wr.cell? ⟨b12, 1, none⟩ = some (.int .i64 vf) := cell_of g12r rfl
      have q2 : wr.cell? ⟨b12, 2, none⟩ = some (.int .i64 vf) := cell_of g12r rfl
      have q3 : wr.cell? ⟨b12, 3, none⟩ = some (.int .i64 ((m : Int) + 1)) := cell_of g12r rfl
      have q4 : wr.cell? ⟨b12, 4, none⟩ = some (.bool false) := cell_of g12r rfl
      have c6 : wr.cell? ⟨b6, 0, none⟩ = some (.pointer none) := cell_of g6r rfl
      have y6 : wr.frozen? ⟨b6, 0, none⟩ = false := free_of g6r _
      have c7 : wr.cell? ⟨b7, 0, none⟩ = some (.int .i64 0) := cell_of g7r rfl
      have y7 : wr.frozen? ⟨b7, 0, none⟩ = false := free_of g7r _
      have HJ1 := Lib.hid (And.intro hj (And.intro hlpr (And.intro g6r (And.intro g7r (And.intro l1 (And.intro l2 (And.intro l3 (And.intro l4 l10))))))))
      clear hj hlpr g6r g7r g12r g5r l1 l2 l3 l4 l5 l6 l7 l8 l9 l10 l11 l12 HOP
      go_wp2_with fail
      obtain ⟨we, hwe⟩ : ∃ W : World, W = ((((((wr.setCell ⟨lp, 0, none⟩ (.int .i64 vb)).setCell ⟨lp, 1, none⟩ (.int .i64 vf)).setCell ⟨lp, 2, none⟩ (.int .i64 vf)).setCell ⟨lp, 3, none⟩ (.int .i64 ((m : Int) + 1))).setCell ⟨lp, 4, none⟩ (.bool false)).setCell ⟨b6, 0, none⟩ (.pointer (some ⟨lp, 0, none⟩))).setCell ⟨b7, 0, none⟩ (.int .i64 0) := ⟨_, rfl⟩
      rw [← hwe]
      obtain ⟨j1, j2, j3, j4, m1, m2, m3, m4, m5⟩ := HJ1.out
      have gle : we.heap[lp]? = some (.cells #[.int .i64 vb, .int .i64 vf, .int .i64 vf, .int .i64 ((m : Int) + 1), .bool false, .pointer (some ⟨q, 0, none⟩), .string log, .int .i64 (rollN : Int), .int .i64 (stepN : Int), .slice op (m + 1) cp] 82 (0, 0)) := by
        rw [hwe]
        exact (Below.heap_setCell _ _ _ _ nl7).trans ((Below.heap_setCell _ _ _ _ nl6).trans (heap_setCell_here _ (heap_setCell_here _ (heap_setCell_here _ (heap_setCell_here _ (heap_setCell_here _ j2))))))
      have g6e : we.heap[b6]? = some (.cells #[.pointer (some ⟨lp, 0, none⟩)] 31 (0, 0)) := by
        rw [hwe]
        refine (Below.heap_setCell _ _ _ _ n67).trans (heap_setCell_here (cs := #[.pointer none]) _ ?_)
        exact (Below.heap_setCell _ _ _ _ n6l).trans ((Below.heap_setCell _ _ _ _ n6l).trans ((Below.heap_setCell _ _ _ _ n6l).trans ((Below.heap_setCell _ _ _ _ n6l).trans ((Below.heap_setCell _ _ _ _ n6l).trans j3))))
      have g7e : we.heap[b7]? = some (.cells #[.int .i64 0] 28 (0, 0)) := by
        rw [hwe]
        refine heap_setCell_here (cs := #[.int .i64 0]) _ ((Below.heap_setCell _ ⟨b6, 0, none⟩ _ b7 n76).trans ?_)
        exact (Below.heap_setCell _ _ _ _ n7l).trans ((Below.heap_setCell _ _ _ _ n7l).trans ((Below.heap_setCell _ _ _ _ n7l).trans ((Below.heap_setCell _ _ _ _ n7l).trans ((Below.heap_setCell _ _ _ _ n7l).trans j4))))
      have hoe : Only (fun k => k = lp ∨ k = b6 ∨ k = b7) wr we := by
        rw [hwe]
        have s1 : ∀ (o : Nat) (V : World) (v : Value), Only (fun k => k = lp ∨ k = b6 ∨ k = b7) V (V.setCell ⟨lp, o, none⟩ v) := fun o V v => only_setCell _ _ lp o v (.inl rfl)
        exact ((((((s1 0 _ _).trans (s1 1 _ _) (fun _ _ e => e)).trans (s1 2 _ _) (fun _ _ e => e)).trans (s1 3 _ _) (fun _ _ e => e)).trans (s1 4 _ _) (fun _ _ e => e)).trans (only_setCell _ _ b6 0 _ (.inr (.inl rfl))) (fun _ _ e => e)).trans (only_setCell _ _ b7 0 _ (.inr (.inr rfl))) (fun _ _ e => e)
      clear hwe
      refine leaves_cons (f := 62) (args := #[.pointer (some ⟨b7, 0, none⟩)]) (by simp) (by simp [go_sem]) ?_
      refine caughtIdle_b.mono ?_
      rintro e u' w13 ⟨rfl, rfl, hw13⟩
      obtain rfl := hw13.symm
      clear hw13
      refine leaves_cons (f := 61) (args := #[.pointer (some ⟨b7, 0, none⟩), .pointer (some ⟨b6, 0, none⟩)]) (by simp [settle]) (by simp [go_sem]) ?_
      refine (open1Ok_b g7e).mono ?_
      rintro e u' w13 ⟨rfl, rfl, hw13⟩
      obtain rfl := hw13.symm
      clear hw13
      have c7 := cell_of (i := 0) g7e rfl
      have c6 := cell_of (i := 0) g6e rfl
      refine ⟨.tuple #[.pointer (some ⟨lp, 0, none⟩), .int .i64 0], by simp [results, Tryz.results15, go_sem, c6, c7], lp, Wid S7 w8 w9, fun k => k = lp ∨ (w9.heap.size ≤ k ∧ k < we.heap.size), rfl, ?_⟩
      obtain ⟨d1, d2, d3, d4, d5, d6, d7, d8, d9, d10, d11, d12⟩ := H9.out
      have ho9e : Only (fun k => k = lp ∨ k = b6 ∨ k = b7) w9 we := (j1.only.mono (fun _ _ e => .inl e)).trans hoe (fun _ _ e => e)
      have zr := j1.only.size
      have ze := hoe.size
      have z49 := d3.size
      have z04 := H4.out.1.size
      have i6 := (Array.getElem?_eq_some_iff.1 H4.out.2.2.2.1).1
      have i7 := (Array.getElem?_eq_some_iff.1 H4.out.2.2.2.2.1).1
      have il := (Array.getElem?_eq_some_iff.1 H4.out.2.1).1
      have hX : ∀ k, (k = lp ∨ k = b6 ∨ k = b7) → w.heap.size ≤ k ∧ k < w4.heap.size := fun k e => by
        rcases e with e | e | e <;> omega
      have hnew : ∀ k ∈ (Value.slice op (m + 1) cp).ownBlock.toList ++ L.flatMap Sg.blocks, we.heap[k]? = wr.heap[k]? := fun k hk => by
        have h1 := j1.new k hk
        exact hoe.block k h1.2 (fun e => by have := hX k e; omega)
      have hLne : L ≠ [] := fun e => by
        have := j1.len
        rw [e] at this
        cases this
      obtain ⟨G, a, rfl⟩ : ∃ G a, L = G ++ [a] := ⟨L.dropLast, L.getLast hLne, (List.dropLast_concat_getLast hLne).symm⟩
      have hsg := j1.segs
      rw [← HM.out, List.take_length, List.map_append] at hsg
      have hsg2 : G.map Sg.seg ++ [a.seg] = g.ini ++ [(g.lb, g.lbs)] := hsg
      obtain ⟨s1, s2⟩ := List.append_inj' hsg2 rfl
      have s2 : a.seg = (g.lb, g.lbs) := by simpa using s2
      have hGl : G.length = m := by have := j1.len; rw [List.length_append] at this; simpa using this
      have hlpr : ∀ k ∈ (Value.slice op (m + 1) cp).ownBlock.toList ++ (G ++ [a]).flatMap Sg.blocks, k ≠ lp := fun k hk e => by
        have := j1.new k hk
        omega
      have hblk : ∀ x ∈ G ++ [a], ∀ k, (k = x.s ∨ k = x.x ∨ x.sv.ownBlock = some k) → k ∈ (Value.slice op (m + 1) cp).ownBlock.toList ++ (G ++ [a]).flatMap Sg.blocks := fun x hx k hk => List.mem_append_right _ (LogR.seg_mem hx hk)
      refine ⟨⟨d1.onlyS ho9e (fun k hk e => d11 k (hX k e).1 (hX k e).2 hk), ⟨G, a, .slice op (m + 1) cp, ⟨?_, ⟨?_, fun x hx => (j1.each x hx).kept (fun k hk => hnew k (hblk x hx k hk)), ?_, fun k hk => ?_, fun k hk => ?_, ?_⟩, s1.symm, (congrArg Prod.fst s2).symm, (congrArg Prod.snd s2).symm, HO.out.2.1, HO.out.2.2.1, HO.out.1.ok, HO.out.2.2.2.1, HO.out.2.2.2.2.1⟩⟩, fun k hk hT => ?_⟩, fun k hk => ?_, fun k hk => ?_, ?_⟩
      · unfold logHead
        rw [HO.out.1.stands, HO.out.1.alive, hGl, ← HVB.out.1, ← HVB.out.2]
        exact gle
      · rw [j1.len]
        exact j1.row.kept (fun k hk => hnew k (List.mem_append_left _ (by rw [hk]; simp)))
      · unfold logBlocks
        rw [List.nodup_cons]
        exact ⟨fun hk => hlpr lp hk rfl, j1.apart⟩
      · unfold logBlocks at hk
        rcases List.mem_cons.1 hk with hk | hk
        · exact .inl hk
        · have := j1.new k hk
          exact .inr ⟨this.1, by omega⟩
      · rcases hk with hk | hk
        · omega
        · exact hk.2
      · rw [j1.len]
        omega
      · rcases hT with hT | hT
        · subst hT
          exact d11 k m4 il hk
        · have := d1.lowS k hk
          omega
      · rcases d10 k hk with e | e
        · exact .inl e
        · have := H6.out.1.size
          exact .inr ⟨by omega, by omega⟩
      · rcases hk with hk | hk
        · omega
        · omega
      · refine ((Only.of_below H4.out.1 (Nat.le_refl _) S).trans d3 (fun k hk e => ?_)).trans ho9e (fun k hk e => ?_)
        · rcases e with e | e
          · exact e
          · omega
        · have := hX k e
          omega
end Go.Proofs.YtlgcoaeddeiegaaGreat
