/- The texts Pzm in one. -/
import Derived.Test.YtlgcoaeddeiegaaGreatV29
import Derived.Test.YtlgcoaeddeiegaaGreatV11
import Derived.Test.YtlgcoaeddeiegaaGreatV8
import Derived.Lib.SlBytesConst
/- law11's own example. -/
namespace Go.Proofs.YtlgcoaeddeiegaaGreat
open Go Go.Maps Go.RowKit
attribute [local go_sem] Oper.semAt_some

structure Home (w : World) (X : Nat → Prop) (w' : World) (lp q : Nat) (log : ByteArray) (roll step : Nat) (g : Lg) (d : Dk) : Prop where
  log' : ∃ S T, LogD w' S T lp q log roll step g d ∧ ∀ k, S k ∨ T k → w.heap.size ≤ k ∧ ¬ X k
  below : Below w.heap.size w w'
  xlow : ∀ k, X k → k < w'.heap.size
def KeptOf (X : Nat → Prop) (w w' : World) : Prop := ∀ k, X k → w'.heap[k]? = w.heap[k]?
section
variable {w w1 w2 : World} {X : Nat → Prop} {lp q : Nat} {log : ByteArray} {roll step : Nat} {g g' : Lg} {d d' : Dk}
theorem LogD.lows {S T : Nat → Prop} (h : LogD w S T lp q log roll step g d) : ∀ k, S k ∨ T k → k < w.heap.size := fun k hk => by
  rcases hk with hk | hk
  · obtain ⟨mb, fv, L, hd⟩ := h.disk
    exact hd.low k hk
  · exact h.lowT k hk
theorem Home.later (h : Home w X w1 lp q log roll step g d) (hb : Below w1.heap.size w1 w2) : Home w X w2 lp q log roll step g d := by
  obtain ⟨S, T, h1, h2⟩ := h.log'
  exact ⟨⟨S, T, h1.later hb, h2⟩, h.below.trans (hb.mono h.below.size), fun k hk => Nat.lt_of_lt_of_le (h.xlow k hk) hb.size⟩
theorem Home.more (h : Home w X w1 lp q log roll step g d) (hb : Below w1.heap.size w1 w2) : Home w (fun k => X k ∨ (w1.heap.size ≤ k ∧ k < w2.heap.size)) w2 lp q log roll step g d := by
  obtain ⟨S, T, h1, h2⟩ := h.log'
  refine ⟨⟨S, T, h1.later hb, fun k hk => ⟨(h2 k hk).1, fun e => ?_⟩⟩, h.below.trans (hb.mono h.below.size), fun k hk => ?_⟩
  · rcases e with e | e
    · exact (h2 k hk).2 e
    · have := h1.lows k hk
      omega
  · rcases hk with e | e
    · exact Nat.lt_of_lt_of_le (h.xlow k e) hb.size
    · exact e.2
theorem Home.turn (h : Home w X w1 lp q log roll step g d) {S T : Nat → Prop} (h2 : ∀ k, S k ∨ T k → w.heap.size ≤ k ∧ ¬ X k) (ht : LogTurn w1 S T lp q log roll step g' d' w2) : Home w X w2 lp q log roll step g' d' ∧ KeptOf X w1 w2 := by
  obtain ⟨S', T', e1, e2, e3, e4⟩ := ht
  have hz := h.below.size
  refine ⟨⟨⟨S', T', e3, fun k hk => ?_⟩, h.below.trans (e4.below (fun i hi e => by have := (h2 i e).1; omega) hz), fun k hk => Nat.lt_of_lt_of_le (h.xlow k hk) e4.size⟩, fun k hk => e4.block k (h.xlow k hk) (fun e => (h2 k e).2 hk)⟩
  rcases hk with hk | hk
  · rcases e1 k hk with e | e
    · exact h2 k (.inl e)
    · exact ⟨Nat.le_trans hz e.1, fun hx => by have := h.xlow k hx; have := e.1; omega⟩
  · rcases e2 k hk with e | e
    · exact h2 k (.inr e)
    · exact ⟨Nat.le_trans hz e.1, fun hx => by have := h.xlow k hx; have := e.1; omega⟩
theorem homeAppend_b (h : Home w X w1 lp q log roll step g d) (hfit : g.dead = false → LgFit log g d) {oa : Option Addr} {n c : Nat} {l : List Rc} (hrX : ∀ W, Below w.heap.size w W → KeptOf X w1 W → RecsAt W (.slice oa n c) l) (hn : l.length = n) (hnm : n ≤ 1000000000) :
    Calls Tryz.prog 16 #[.pointer (some ⟨lp, 0, none⟩), .slice oa n c] w1 fun e w' => e = .returned (.tuple #[.int .i64 (atT (g.appendT log roll d l).1 g.fin), .int .i64 (g.appendT log roll d l).1]) ∧ Home w X w' lp q log roll step (g.appendT log roll d l).2.1 (g.appendT log roll d l).2.2 ∧ KeptOf X w1 w' := by
  obtain ⟨S, T, h1, h2⟩ := h.log'
  refine (logAppend_b h1 hfit (hrX w1 h.below (fun _ _ => rfl)) (fun W ho => hrX W (h.below.trans (ho.below (fun i hi e => by have := (h2 i e).1; omega) h.below.size)) (fun k hk => ho.block k (h.xlow k hk) (fun e => (h2 k e).2 hk))) hn hnm).mono ?_
  rintro e w' ⟨he, ht⟩
  exact ⟨he, h.turn h2 ht⟩
theorem homeSync_b (h : Home w X w1 lp q log roll step g d) :
    Calls Tryz.prog 27 #[.pointer (some ⟨lp, 0, none⟩)] w1 fun e w' => e = .returned (.int .i64 (g.syncT log d).1) ∧ Home w X w' lp q log roll step (g.syncT log d).2.1 (g.syncT log d).2.2 ∧ KeptOf X w1 w' := by
  obtain ⟨S, T, h1, h2⟩ := h.log'
  refine (logSync_b h1).mono ?_
  rintro e w' ⟨he, ht⟩
  exact ⟨he, h.turn h2 ht⟩
theorem homeState_b (h : Home w X w1 lp q log roll step g d) :
    Calls Tryz.prog 25 #[.pointer (some ⟨lp, 0, none⟩)] w1 fun e w' => e = .returned (stateV g) ∧ Below w1.heap.size w1 w' := by
  obtain ⟨S, T, h1, h2⟩ := h.log'
  obtain ⟨G, a, pv, hm⟩ := h1.log'
  exact logState_b hm
end
theorem lit_heap {W : World} {b : Nat} {l : List UInt8} (h : W.heap[b]? = some (.cells (byteCells l).toArray 5 ((byteCells l).toArray.size, (byteCells l).toArray.size + 1))) (hl : l.length ≤ 1000) : bytesRd W (.slice (some ⟨b, 0, none⟩) l.length l.length) l :=
  rowAt.read (e := 5) ⟨by simp [byteCells], .inr ⟨b, 0, l.length, (byteCells l).toArray, _, rfl, h, Nat.le_refl _, by unfold maxLen; omega, by simp [byteCells], freeRow_mark _, by rw [List.drop_zero]; exact List.take_of_length_le (by simp [byteCells])⟩⟩
theorem recs_heap {W : World} {b : Nat} {xs : List RcV} (h : W.heap[b]? = some (.cells (recsCells xs).toArray 150 (0, 0))) (hl : xs.length ≤ 1000) (hx : ∀ x ∈ xs, bytesRd W x.kv x.r.key ∧ bytesRd W x.vv x.r.val) : RecsAt W (.slice (some ⟨b, 0, none⟩) xs.length xs.length) (xs.map (·.r)) :=
  have hy : (recsCells xs).length = xs.length * 3 := recsCells_len xs
  ⟨xs, rfl, ⟨rowAt.read (e := 150) ⟨hy, .inr ⟨_, 0, xs.length, _, _, rfl, h, Nat.le_refl _, by unfold maxLen; omega, by simp [hy], freeRow_zero _, by rw [List.drop_zero, ← hy]; simp⟩⟩, hx⟩⟩
structure KIn (W : World) (ba bb br : Nat) : Prop where
  key : W.heap[ba]? = some (.cells #[.int .u8 97, .int .u8 98, .int .u8 99] 5 (3, 4))
  val : W.heap[bb]? = some (.cells #[.int .u8 100, .int .u8 101, .int .u8 102, .int .u8 103, .int .u8 104, .int .u8 105] 5 (6, 7))
  box : W.heap[br]? = some (.cells #[.int .i64 1, .slice (some ⟨ba, 0, none⟩) 3 3, .slice (some ⟨bb, 0, none⟩) 6 6] 150 (0, 0))
def kRcV (ba bb : Nat) : RcV := ⟨kRec, .slice (some ⟨ba, 0, none⟩) 3 3, .slice (some ⟨bb, 0, none⟩) 6 6⟩
theorem KIn.each {W : World} {ba bb br : Nat} (h : KIn W ba bb br) : bytesRd W (kRcV ba bb).kv (kRcV ba bb).r.key ∧ bytesRd W (kRcV ba bb).vv (kRcV ba bb).r.val :=
  ⟨lit_heap (l := [97, 98, 99]) h.key (by decide), lit_heap (l := [100, 101, 102, 103, 104, 105]) h.val (by decide)⟩
theorem KIn.two {W : World} {ba bb br bl : Nat} (h : KIn W ba bb br) (hl : W.heap[bl]? = some (.cells #[.int .i64 1, .slice (some ⟨ba, 0, none⟩) 3 3, .slice (some ⟨bb, 0, none⟩) 6 6, .int .i64 1, .slice (some ⟨ba, 0, none⟩) 3 3, .slice (some ⟨bb, 0, none⟩) 6 6] 150 (0, 0))) : RecsAt W (.slice (some ⟨bl, 0, none⟩) 2 2) [kRec, kRec] :=
  recs_heap (xs := [kRcV ba bb, kRcV ba bb]) hl (by simp) (fun x hx => by
    rcases List.mem_cons.1 hx with rfl | hx
    · exact h.each
    · rw [List.mem_singleton] at hx
      subst hx
      exact h.each)
theorem KIn.one {W : World} {ba bb br bl : Nat} (h : KIn W ba bb br) (hl : W.heap[bl]? = some (.cells #[.int .i64 1, .slice (some ⟨ba, 0, none⟩) 3 3, .slice (some ⟨bb, 0, none⟩) 6 6] 150 (0, 0))) : RecsAt W (.slice (some ⟨bl, 0, none⟩) 1 1) [kRec] :=
  recs_heap (xs := [kRcV ba bb]) hl (by simp) (fun x hx => by
    rw [List.mem_singleton] at hx
    subst hx
    exact h.each)
theorem KIn.kept {W V : World} {ba bb br : Nat} (h : KIn W ba bb br) (hk : ∀ k, k = ba ∨ k = bb ∨ k = br → V.heap[k]? = W.heap[k]?) : KIn V ba bb br :=
  ⟨(hk _ (.inl rfl)).trans h.key, (hk _ (.inr (.inl rfl))).trans h.val, (hk _ (.inr (.inr rfl))).trans h.box⟩
set_option maxRecDepth 100000 in
set_option maxHeartbeats 8000000 in
theorem known11_b (w : World) : Calls Tryz.prog 13 #[] w fun e w' => e = .returned (.bool true) ∧ Below w.heap.size w w' := by
  have hc1 : ∀ W : World, (convert 39 39 (.slice (some ⟨W.heap.size, 0, none⟩) 3 3)).run Tryz.prog (W.alloc (.cells #[.int .u8 97, .int .u8 98, .int .u8 99] 5)) = .ok (.slice (some ⟨W.heap.size, 0, none⟩) 3 3) (W.alloc (.cells #[.int .u8 97, .int .u8 98, .int .u8 99] 5 (3, 4))) := fun W => Lib.run_convert_bytes_const (P := Tryz.prog) W 39 5 #[.int .u8 97, .int .u8 98, .int .u8 99] 3 3 Tryz.underlying39 Tryz.underlying5
  have hc2 : ∀ W : World, (convert 39 39 (.slice (some ⟨W.heap.size, 0, none⟩) 6 6)).run Tryz.prog (W.alloc (.cells #[.int .u8 100, .int .u8 101, .int .u8 102, .int .u8 103, .int .u8 104, .int .u8 105] 5)) = .ok (.slice (some ⟨W.heap.size, 0, none⟩) 6 6) (W.alloc (.cells #[.int .u8 100, .int .u8 101, .int .u8 102, .int .u8 103, .int .u8 104, .int .u8 105] 5 (6, 7))) := fun W => Lib.run_convert_bytes_const (P := Tryz.prog) W 39 5 #[.int .u8 100, .int .u8 101, .int .u8 102, .int .u8 103, .int .u8 104, .int .u8 105] 6 6 Tryz.underlying39 Tryz.underlying5
  go_enter Tryz.func13, Tryz.ntmps13
  go_wp2_with fail
  refine (new_b _).mono ?_
  rintro e w1 ⟨q, rfl, h1, hb1⟩
  have H1 := Lib.hid h1
  have HB1 := Lib.hid hb1
  clear h1 hb1
  go_wp2_with fail
  have hp : (⟨#[112]⟩ : ByteArray) = pName := rfl
  rw [hp]
  refine (openNew_b H1.out (log := pName) (by decide) pName_ok rfl 40 64).mono ?_
  rintro e w2 ho
  obtain ⟨i1, i2, c0⟩ := first_calm pName_ok (d := Dk.new) rfl rfl
  rcases ho with ⟨g0, -⟩ | ⟨-, g0, -⟩ | ⟨-, -, g0, -⟩ | ⟨-, -, -, lp, roll', step', S2, T2, er, es, rfl, hd2, hS, hT, ho2⟩
  · exact absurd g0 (by decide)
  · exact absurd i1 g0
  · exact absurd i2 g0
  obtain rfl : roll' = 40 := by omega
  obtain rfl : step' = 64 := by omega
  have H2 : Hid (Home w (fun _ => False) w2 lp q pName 40 64 Lg.zero (Dk.new.first pName)) := Lib.hid ⟨⟨S2, T2, hd2, fun k hk => ⟨by
      have hz := HB1.out.size
      rcases hk with hk | hk
      · rcases hS k hk with e | e
        · exact e.1
        · have := e.1; omega
      · have := hT k hk; omega, id⟩⟩, HB1.out.trans (ho2.below (fun i hi e => by have := e.1; omega) HB1.out.size), fun _ hf => hf.elim⟩
  clear hd2 hS hT ho2 er es i1 i2 c0 H1 HB1 hp
  obtain ⟨d1, d2, d3, p1, p2, p3, p4, p5⟩ := known11_plain
  have HP := Lib.hid (And.intro p1 (And.intro p2 (And.intro p3 (And.intro p4 p5))))
  clear p1 p2 p3 p4 p5
  have hc3 := hc2 (w2.alloc (.cells #[.int .u8 97, .int .u8 98, .int .u8 99] 5 (3, 4)))
  rw [World.size_alloc] at hc3
  obtain ⟨w3, hw3⟩ : ∃ W : World, W = (((w2.alloc (.cells #[.int .u8 97, .int .u8 98, .int .u8 99] 5 (3, 4))).alloc (.cells #[.int .u8 100, .int .u8 101, .int .u8 102, .int .u8 103, .int .u8 104, .int .u8 105] 5 (6, 7))).alloc (.cells #[.int .i64 1, .slice (some ⟨w2.heap.size, 0, none⟩) 3 3, .slice (some ⟨w2.heap.size + 1, 0, none⟩) 6 6] 150)) := ⟨_, rfl⟩
  obtain ⟨ba, hba⟩ : ∃ b, b = w2.heap.size := ⟨_, rfl⟩
  obtain ⟨bb, hbb⟩ : ∃ b, b = w2.heap.size + 1 := ⟨_, rfl⟩
  obtain ⟨br, hbr⟩ : ∃ b, b = w2.heap.size + 1 + 1 := ⟨_, rfl⟩
  have hk3 : KIn w3 ba bb br := by
    rw [hw3, hba, hbb, hbr]
    refine ⟨?_, ?_, ?_⟩
    · exact (Below.heap_alloc _ _ _ (by simp; omega)).trans ((Below.heap_alloc _ _ _ (by simp)).trans (heap_alloc_new _ _))
    · have := heap_alloc_new (w2.alloc (.cells #[.int .u8 97, .int .u8 98, .int .u8 99] 5 (3, 4))) (.cells #[.int .u8 100, .int .u8 101, .int .u8 102, .int .u8 103, .int .u8 104, .int .u8 105] 5 (6, 7))
      rw [World.size_alloc] at this
      exact (Below.heap_alloc _ _ _ (by simp)).trans this
    · have := alloc_cells ((w2.alloc (.cells #[.int .u8 97, .int .u8 98, .int .u8 99] 5 (3, 4))).alloc (.cells #[.int .u8 100, .int .u8 101, .int .u8 102, .int .u8 103, .int .u8 104, .int .u8 105] 5 (6, 7))) #[.int .i64 1, .slice (some ⟨w2.heap.size, 0, none⟩) 3 3, .slice (some ⟨w2.heap.size + 1, 0, none⟩) 6 6] 150
      rwa [World.size_alloc, World.size_alloc] at this
  have hb3 : Below w2.heap.size w2 w3 := by
    rw [hw3]
    exact (((Below.refl _ _).alloc (Nat.le_refl _) _).alloc (by simp) _).alloc (by simp; omega) _
  have hz3 : w3.heap.size = br + 1 := by rw [hw3, hbr]; simp
  have hx : br = ba + 2 := by omega
  have hy : bb = ba + 1 := by omega
  have H3 := Lib.hid (And.intro (H2.out.more hb3) (And.intro hk3 (And.intro hz3 (And.intro hx (And.intro hy hba)))))
  go_upto_region 4 with fail
  rw [← hw3, ← hbr, ← hbb, ← hba]
  clear hw3 hba hbb hbr hk3 hb3 hz3 hx hy hc1 hc2 hc3 H2
  have c0 : w3.cell? ⟨br, 0, none⟩ = some (.int .i64 1) := cell_of H3.out.2.1.box rfl
  have c1 : w3.cell? ⟨br, 1, none⟩ = some (.slice (some ⟨ba, 0, none⟩) 3 3) := cell_of H3.out.2.1.box rfl
  have c2 : w3.cell? ⟨br, 2, none⟩ = some (.slice (some ⟨bb, 0, none⟩) 6 6) := cell_of H3.out.2.1.box rfl
  obtain ⟨w4, hw4⟩ : ∃ W : World, W = w3.alloc (.cells #[.int .i64 1, .slice (some ⟨ba, 0, none⟩) 3 3, .slice (some ⟨bb, 0, none⟩) 6 6, .int .i64 1, .slice (some ⟨ba, 0, none⟩) 3 3, .slice (some ⟨bb, 0, none⟩) 6 6] 150) := ⟨_, rfl⟩
  obtain ⟨bl, hbl⟩ : ∃ b, b = w3.heap.size := ⟨_, rfl⟩
  go_wp2_with fail
  rw [← hw4, ← hbl]
  have g4 : w4.heap[bl]? = some (.cells #[.int .i64 1, .slice (some ⟨ba, 0, none⟩) 3 3, .slice (some ⟨bb, 0, none⟩) 6 6, .int .i64 1, .slice (some ⟨ba, 0, none⟩) 3 3, .slice (some ⟨bb, 0, none⟩) 6 6] 150 (0, 0)) := by rw [hw4, hbl]; exact alloc_cells _ _ _
  have hb4 : Below w3.heap.size w3 w4 := by rw [hw4]; exact (Below.refl _ _).alloc (Nat.le_refl _) _
  have hk4 : KIn w4 ba bb br := H3.out.2.1.kept (fun k hk => hb4.block k (by obtain ⟨-, -, z1, z2, z3, -⟩ := H3.out; omega))
  have hz4 : w4.heap.size = bl + 1 := by rw [hw4, hbl]; simp
  have hh4 := H3.out.1.more hb4
  have hX : ∀ k, w2.heap.size ≤ k → k ≤ bl → (False ∨ w2.heap.size ≤ k ∧ k < w3.heap.size) ∨ w3.heap.size ≤ k ∧ k < w4.heap.size := fun k h1 h2 => by omega
  obtain ⟨-, -, z1, z2, z3, z4⟩ := H3.out
  refine (homeAppend_b hh4 (fun _ => HP.out.2.2.2.1) (fun W _ hk => (hk4.kept (fun k e => hk k (hX k (by omega) (by omega)))).two ((hk bl (hX bl (by omega) (Nat.le_refl _))).trans g4)) rfl (by omega)).mono ?_
  rintro e w5 ⟨he, hh5, hk5⟩
  rw [HP.out.1] at he hh5
  obtain rfl := he
  have H5 := Lib.hid (And.intro hh5 (And.intro (hk4.kept (fun k e => hk5 k (hX k (by omega) (by omega)))) (And.intro z1 (And.intro z2 (And.intro z3 z4)))))
  have hX5 : Hid (∀ k, w2.heap.size ≤ k → k ≤ br → (False ∨ w2.heap.size ≤ k ∧ k < w3.heap.size) ∨ w3.heap.size ≤ k ∧ k < w4.heap.size) := Lib.hid (fun k h1 h2 => hX k h1 (by omega))
  clear g4 hb4 hk4 hz4 hh4 hX z1 z2 z3 z4 hh5 hk5 hw4 hbl H3 c0 c1 c2
  have c0 : w5.cell? ⟨br, 0, none⟩ = some (.int .i64 1) := cell_of H5.out.2.1.box rfl
  have c1 : w5.cell? ⟨br, 1, none⟩ = some (.slice (some ⟨ba, 0, none⟩) 3 3) := cell_of H5.out.2.1.box rfl
  have c2 : w5.cell? ⟨br, 2, none⟩ = some (.slice (some ⟨bb, 0, none⟩) 6 6) := cell_of H5.out.2.1.box rfl
  obtain ⟨w6, hw6⟩ : ∃ W : World, W = w5.alloc (.cells #[.int .i64 1, .slice (some ⟨ba, 0, none⟩) 3 3, .slice (some ⟨bb, 0, none⟩) 6 6] 150) := ⟨_, rfl⟩
  obtain ⟨bl, hbl⟩ : ∃ b, b = w5.heap.size := ⟨_, rfl⟩
  go_wp2_with fail
  rw [← hw6, ← hbl]
  have g6 : w6.heap[bl]? = some (.cells #[.int .i64 1, .slice (some ⟨ba, 0, none⟩) 3 3, .slice (some ⟨bb, 0, none⟩) 6 6] 150 (0, 0)) := by rw [hw6, hbl]; exact alloc_cells _ _ _
  have hb6 : Below w5.heap.size w5 w6 := by rw [hw6]; exact (Below.refl _ _).alloc (Nat.le_refl _) _
  obtain ⟨-, -, z1, z2, z3, z4⟩ := H5.out
  have hk6 : KIn w6 ba bb br := H5.out.2.1.kept (fun k hk => hb6.block k (H5.out.1.xlow k (hX5.out k (by omega) (by omega))))
  have hz6 : w6.heap.size = bl + 1 := by rw [hw6, hbl]; simp
  have hh6 := H5.out.1.more hb6
  refine (homeAppend_b hh6 (fun _ => HP.out.2.2.2.2) (fun W _ hk => (hk6.kept (fun k e => hk k (.inl (hX5.out k (by omega) (by omega))))).one ((hk bl (.inr (by omega))).trans g6)) rfl (by omega)).mono ?_
  rintro e w7 ⟨he, hh7, -⟩
  rw [HP.out.2.1] at he hh7
  obtain rfl := he
  have H7 := Lib.hid hh7
  clear g6 hb6 hk6 hz6 hh6 z1 z2 z3 z4 hh7 hw6 hbl H5 hX5 c0 c1 c2
  have hs1 : stateV known2 = .agg #[.int .i64 0, .int .i64 3, .int .i64 2, .int .i64 2, .bool false] := by rw [known2_is]; rfl
  have hs2 : stateV { known2 with stands := 3 } = .agg #[.int .i64 0, .int .i64 3, .int .i64 3, .int .i64 2, .bool false] := by rw [known2_is]; rfl
  have hf1 : atT 0 known1.fin = 2 := by rw [known1_is]; rfl
  have hf0 : atT 0 Lg.zero.fin = 0 := rfl
  have hq : ∀ W : World, (Op.equalIn 10000 60 (.agg #[.int .i64 0, .int .i64 3, .int .i64 2, .int .i64 2, .bool false]) (.agg #[.int .i64 0, .int .i64 3, .int .i64 2, .int .i64 2, .bool false])).run Tryz.prog W = .ok true W := fun W => by kernel_rfl
  have hfl : ∀ W : World, (Instr.field 60 (.agg #[.int .i64 0, .int .i64 3, .int .i64 3, .int .i64 2, .bool false]) 2).run Tryz.prog W = .ok (.int .i64 3) W := fun W => by kernel_rfl
  rw [hf0]
  rw [hf1]
  go_wp2_with fail
  refine (homeState_b H7.out).mono ?_
  rintro e w8 ⟨rfl, hb8⟩
  have H8 := Lib.hid (H7.out.later hb8)
  clear hb8 H7
  rw [hs1]
  go_wp2_with fail
  refine (homeSync_b H8.out).mono ?_
  rintro e w9 ⟨he, hh9, -⟩
  rw [HP.out.2.2.1] at he hh9
  obtain rfl := he
  have H9 := Lib.hid hh9
  clear hh9 H8
  go_wp2_with fail
  refine (homeState_b H9.out).mono ?_
  rintro e w10 ⟨rfl, hb10⟩
  have H10 := Lib.hid (H9.out.later hb10).below
  clear hb10 H9
  rw [hs2]
  go_wp2_with fail
  go_ret
  exact ⟨rfl, H10.out⟩
end Go.Proofs.YtlgcoaeddeiegaaGreat
