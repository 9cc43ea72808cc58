/- The texts Mr, Mh, Mi in one. -/
import Derived.Test.YtmkjejngnahpeaaV5
import Derived.Deep.RegionWith
import Derived.Deep.RegionLaw
import Derived.Defers
import Derived.Recover
/- index: Find. -/
namespace Go.Proofs.Ytmkjejngnahpeaa
open Go Go.RowKit
attribute [local go_sem] Oper.semAt_some

set_option maxRecDepth 100000 in
set_option maxHeartbeats 400000 in
theorem find1_b {w : World} {b : Nat} {a p off : Int} (h : w.heap[b]? = some (.cells #[.int .i64 off] 2 (0, 0))) :
    Calls Try.prog 153 #[.agg #[.int .i64 a, .int .i64 p], .pointer (some ⟨b, 0, none⟩)] w fun e w' => e = .returned (.bool (decide (off < a))) ∧ Below w.heap.size w w' := by
  obtain ⟨w1, hw1⟩ : ∃ W : World, W = w.alloc (.cells #[.int .i64 a, .int .i64 p] 162) := ⟨_, rfl⟩
  obtain ⟨b2, hb2⟩ : ∃ b, b = w.heap.size := ⟨_, rfl⟩
  have h12 : w1.heap[b2]? = some (.cells #[.int .i64 a, .int .i64 p] 162 (0, 0)) := by rw [hw1, hb2]; exact alloc_cells _ _ _
  have hbl : Below w.heap.size w w1 := by rw [hw1]; exact (Below.refl _ _).alloc (Nat.le_refl _) _
  have k0 : w1.cell? ⟨b2, 0, none⟩ = some (.int .i64 a) := cell_of h12 rfl
  have k1 : w1.cell? ⟨b, 0, none⟩ = some (.int .i64 off) := cell_of ((hbl.block b (Array.getElem?_eq_some_iff.1 h).1).trans h) rfl
  have HB := Lib.hid hbl
  obtain ⟨q, hq⟩ : ∃ q, decide (off < a) = q := ⟨_, rfl⟩
  rw [hq]
  clear h h12 hbl
  go_enter Try.func153, Try.ntmps153
  go_upto_region 1 with fail
  rw [← hw1, ← hb2]
  clear hw1 hb2
  go_wp2_with fail
  go_ret
  exact ⟨rfl, HB.out⟩
/-- what the search's closure reads -/
structure LastI (w : World) (b3 b2 bo x step : Nat) (sv : Value) (l : List Sp) (off : Int) : Prop where
  three : w.heap[b3]? = some (.cells #[.func (.func 153) #[] #[.pointer (some ⟨bo, 0, none⟩)]] 230 (0, 0))
  two : w.heap[b2]? = some (.cells #[.pointer (some ⟨x, 0, none⟩)] 61 (0, 0))
  offs : w.heap[bo]? = some (.cells #[.int .i64 off] 2 (0, 0))
  idx : IdxI w x step sv l
theorem LastI.later {w w' : World} {b3 b2 bo x step : Nat} {sv : Value} {l : List Sp} {off : Int} (h : LastI w b3 b2 bo x step sv l off) (hb : Below w.heap.size w w') : LastI w' b3 b2 bo x step sv l off :=
  ⟨(hb.block _ (Array.getElem?_eq_some_iff.1 h.three).1).trans h.three, (hb.block _ (Array.getElem?_eq_some_iff.1 h.two).1).trans h.two, (hb.block _ (Array.getElem?_eq_some_iff.1 h.offs).1).trans h.offs, h.idx.later hb⟩
set_option maxRecDepth 100000 in
set_option maxHeartbeats 1000000 in
theorem last1_b {w : World} {b3 b2 bo x step i : Nat} {sv : Value} {l : List Sp} {off : Int} (h : LastI w b3 b2 bo x step sv l off) (hi : i < l.length) :
    Calls Try.prog 175 #[.int .i64 (i : Int), .pointer (some ⟨b3, 0, none⟩), .pointer (some ⟨b2, 0, none⟩)] w fun e w' => e = .returned (.bool (decide (off < (l[i].1 : Int)))) ∧ Below w.heap.size w w' := by
  obtain ⟨n, hn⟩ : ∃ n, l.length = n := ⟨_, rfl⟩
  obtain ⟨oa, c, rfl, -⟩ := h.idx.row.shape
  rw [hn] at h
  obtain ⟨g, o, rfl, c0, c1⟩ := h.idx.cells hn hi
  have k3 : w.cell? ⟨b3, 0, none⟩ = some (.func (.func 153) #[] #[.pointer (some ⟨bo, 0, none⟩)]) := cell_of h.three rfl
  have k2 : w.cell? ⟨b2, 0, none⟩ = some (.pointer (some ⟨x, 0, none⟩)) := cell_of h.two rfl
  have k1 : w.cell? ⟨x, 1, none⟩ = some (.slice (some ⟨g, o, none⟩) n c) := cell_of h.idx.head rfl
  obtain ⟨y, hy⟩ : ∃ y, l[i] = y := ⟨_, rfl⟩
  rw [hy] at c0 c1 ⊢
  have hin : i < n := by omega
  have HF := Lib.hid (fun (W : World) (hb : Below w.heap.size w W) => find1_b (a := (y.1 : Int)) (p := (y.2 : Int)) ((hb.block bo (Array.getElem?_eq_some_iff.1 h.offs).1).trans h.offs))
  clear h hn hi hy
  go_enter Try.func175, Try.ntmps175
  go_upto_region 1 with fail
  go_region_with (go_at_call 153; refine (HF.out _ (by first | exact Below.refl _ _ | exact ⟨rfl, rfl, rfl, Nat.le_refl _, fun _ _ => rfl⟩)).mono ?_; rintro e w2 ⟨rfl, hb2⟩; have HB2 := Lib.hid hb2; clear hb2)
  all_goals
    go_wp2_with fail
    go_ret
    exact ⟨rfl, ⟨HB2.out.os, HB2.out.tape, HB2.out.output, HB2.out.size, HB2.out.block⟩⟩
/-- so many spots stand at or ahead of an offset -/
def CutAt (l : List Sp) (off : Int) (r : Nat) : Prop := r ≤ l.length ∧ (∀ i (h : i < l.length), i < r → (l[i].1 : Int) ≤ off) ∧ (∀ i (h : i < l.length), r ≤ i → off < (l[i].1 : Int))
set_option maxRecDepth 100000 in
set_option maxHeartbeats 1000000 in
theorem search_b {w : World} {b3 b2 bo x step n : Nat} {sv : Value} {l : List Sp} {off : Int} (h : LastI w b3 b2 bo x step sv l off) (hn : l.length = n) (hl : n ≤ 1000000) (hm : ∀ i j (hi : i < l.length) (hj : j < l.length), i < j → l[i].1 < l[j].1) :
    Calls Try.prog 174 #[.int .i64 (n : Int), .func (.func 175) #[] #[.pointer (some ⟨b3, 0, none⟩), .pointer (some ⟨b2, 0, none⟩)]] w fun e w' => ∃ r : Nat, e = .returned (.int .i64 (r : Int)) ∧ CutAt l off r ∧ Below w.heap.size w w' := by
  have HL := Lib.hid (And.intro h (And.intro hn hm))
  clear h hn hm
  go_enter Try.func174, Try.ntmps174
  go_wp2_with fail
  go_loopw [5, 6] (fun s t wr => ∃ i j : Nat, s = .int .i64 (i : Int) ∧ t = .int .i64 (j : Int) ∧ i ≤ j ∧ j ≤ n ∧ Hid ((∀ k (h : k < l.length), k < i → (l[k].1 : Int) ≤ off) ∧ (∀ k (h : k < l.length), j ≤ k → off < (l[k].1 : Int)) ∧ Below w.heap.size w wr)) (fun s t _ => (intOf t).toNat - (intOf s).toNat)
  case atStart => exact ⟨0, n, rfl, rfl, Nat.zero_le _, Nat.le_refl _, Lib.hid ⟨fun k _ h => by omega, fun k h1 h2 => by have := HL.out.2.1; omega, Below.refl _ _⟩⟩
  case round =>
    obtain ⟨i, j, rfl, rfl, hij, hjn, HI⟩ := hrel
    by_cases hlt : i < j
    · obtain ⟨h, hh⟩ : ∃ h, (i + j) / 2 = h := ⟨_, rfl⟩
      have hhl : i ≤ h ∧ h < j := by omega
      have hdv : ((i : Int) + (j : Int)) / 2 = (h : Int) := by omega
      have hhL : h < l.length := by have := HL.out.2.1; omega
      have HC := Lib.hid (last1_b (HL.out.1.later HI.out.2.2) hhL)
      obtain ⟨q, hq⟩ : ∃ q, decide (off < (l[h].1 : Int)) = q := ⟨_, rfl⟩
      rw [hq] at HC
      have HQ := Lib.hid hq
      clear hh hq
      go_wp2_with fail
      refine HC.out.mono ?_
      rintro e w2 ⟨rfl, hb2⟩
      have HB2 := Lib.hid (HI.out.2.2.trans (hb2.mono HI.out.2.2.size))
      clear hb2 HC
      cases q with
      | false =>
        go_wp2_with fail
        refine ⟨⟨h + 1, j, by simp, rfl, by omega, hjn, Lib.hid ⟨fun k hk hkh => ?_, HI.out.2.1, HB2.out⟩⟩, by simp [intOf]; omega⟩
        have h1 := of_decide_eq_false HQ.out
        by_cases hkl : k < h
        · have h2 := HL.out.2.2 k h hk hhL hkl
          omega
        · obtain rfl : k = h := by omega
          omega
      | true =>
        go_wp2_with fail
        refine ⟨⟨i, h, rfl, rfl, hhl.1, by omega, Lib.hid ⟨HI.out.1, fun k hk hkh => ?_, HB2.out⟩⟩, by simp [intOf]; omega⟩
        have h1 := of_decide_eq_true HQ.out
        by_cases hkl : h < k
        · have h2 := HL.out.2.2 h k hhL hk hkl
          omega
        · obtain rfl : k = h := by omega
          exact h1
    · obtain rfl : i = j := by omega
      have HI' := HI
      clear HI
      go_wp2_with fail
      go_ret
      exact ⟨i, rfl, ⟨by rw [HL.out.2.1]; exact hjn, HI'.out.1, HI'.out.2.1⟩, HI'.out.2.2⟩
/-- the spot that Find tells -/
def spotAt (l : List Sp) (r : Nat) : Sp := if r = 0 then (0, 0) else l.getD (r - 1) (0, 0)
def SpotIs (w : World) (l : List Sp) (off : Int) (e : Ending) (w' : World) : Prop :=
  ∃ r, CutAt l off r ∧ e = .returned (.tuple #[.agg #[.int .i64 ((spotAt l r).1 : Int), .int .i64 ((spotAt l r).2 : Int)], .bool (decide (0 < r))]) ∧ Below w.heap.size w w'
set_option maxRecDepth 100000 in
set_option maxHeartbeats 2000000 in
theorem last_b {w : World} {bo x step : Nat} {sv : Value} {l : List Sp} {off : Int} (hx : IdxI w x step sv l) (ho : w.heap[bo]? = some (.cells #[.int .i64 off] 2 (0, 0))) (hst : 1 ≤ step) (hl : l.length ≤ 1000000) (hm : ∀ i j (hi : i < l.length) (hj : j < l.length), i < j → l[i].1 < l[j].1) :
    Calls Try.prog 152 #[.pointer (some ⟨x, 0, none⟩), .func (.func 153) #[] #[.pointer (some ⟨bo, 0, none⟩)]] w fun e w' => SpotIs w l off e w' := by
  have hmf : ∀ (fn : Fn) (first cap : Array Value) (W : World), (Instr.makeFunc fn first cap).run Try.prog W = .ok (.func fn first cap) W := fun _ _ _ _ => rfl
  obtain ⟨w1, hw1⟩ : ∃ W : World, W = ((w.alloc (.cells #[.pointer (some ⟨x, 0, none⟩)] 61)).alloc (.cells #[.func (.func 153) #[] #[.pointer (some ⟨bo, 0, none⟩)]] 230)).alloc (.cells #[.int .i64 0, .int .i64 0] 162) := ⟨_, rfl⟩
  obtain ⟨b2, hb2⟩ : ∃ b, b = w.heap.size := ⟨_, rfl⟩
  obtain ⟨b3, hb3⟩ : ∃ b, b = w.heap.size + 1 := ⟨_, rfl⟩
  obtain ⟨b4, hb4⟩ : ∃ b, b = w.heap.size + 1 + 1 := ⟨_, rfl⟩
  have hbl : Below w.heap.size w w1 := by rw [hw1]; exact (((Below.refl _ _).alloc (Nat.le_refl _) _).alloc (by simp) _).alloc (by simp; omega) _
  have h2 : w1.heap[b2]? = some (.cells #[.pointer (some ⟨x, 0, none⟩)] 61 (0, 0)) := by
    rw [hw1, hb2]
    exact (Below.heap_alloc _ _ _ (by simp; omega)).trans ((Below.heap_alloc _ _ _ (by simp)).trans (alloc_cells _ _ _))
  have h3 : w1.heap[b3]? = some (.cells #[.func (.func 153) #[] #[.pointer (some ⟨bo, 0, none⟩)]] 230 (0, 0)) := by
    rw [hw1, hb3]
    have := alloc_cells (w.alloc (.cells #[.pointer (some ⟨x, 0, none⟩)] 61)) #[.func (.func 153) #[] #[.pointer (some ⟨bo, 0, none⟩)]] 230
    rw [World.size_alloc] at this
    exact (Below.heap_alloc _ _ _ (by simp)).trans this
  have h4 : w1.heap[b4]? = some (.cells #[.int .i64 0, .int .i64 0] 162 (0, 0)) := by
    rw [hw1, hb4]
    have := alloc_cells ((w.alloc (.cells #[.pointer (some ⟨x, 0, none⟩)] 61)).alloc (.cells #[.func (.func 153) #[] #[.pointer (some ⟨bo, 0, none⟩)]] 230)) #[.int .i64 0, .int .i64 0] 162
    rwa [World.size_alloc, World.size_alloc] at this
  have hL : LastI w1 b3 b2 bo x step sv l off := ⟨h3, h2, (hbl.block bo (Array.getElem?_eq_some_iff.1 ho).1).trans ho, hx.later hbl⟩
  obtain ⟨n, hn⟩ : ∃ n, l.length = n := ⟨_, rfl⟩
  obtain ⟨oa, c, rfl, -⟩ := hL.idx.row.shape
  rw [hn] at hL hl
  have HN := Lib.hid (idxNone_b hL.idx hst)
  have HS := Lib.hid (search_b hL hn hl hm)
  have k2 : w1.cell? ⟨b2, 0, none⟩ = some (.pointer (some ⟨x, 0, none⟩)) := cell_of h2 rfl
  have k1 : w1.cell? ⟨x, 1, none⟩ = some (.slice oa n c) := cell_of hL.idx.head rfl
  have H1 := Lib.hid (And.intro hL (And.intro hbl (And.intro h4 (And.intro hn (And.intro h2 hb4)))))
  clear hx ho hm hbl h2 h3 h4 hL hn
  go_enter Try.func152, Try.ntmps152
  go_upto_region 1 with fail
  rw [← hw1, ← hb4, ← hb3, ← hb2]
  clear hw1 hb4 hb3 hb2
  go_wp2_with fail
  refine HN.out.mono ?_
  rintro e w1' ⟨rfl, hw⟩
  obtain rfl := hw.symm
  clear hw HN
  go_wp2_with fail
  refine HS.out.mono ?_
  rintro e w2 ⟨r, rfl, hcut, hb12⟩
  have hbw2 := H1.out.2.1.trans (hb12.mono H1.out.2.1.size)
  have h42 := (hb12.block b4 (Array.getElem?_eq_some_iff.1 H1.out.2.2.1).1).trans H1.out.2.2.1
  have hL2 := H1.out.1.later hb12
  have HC := Lib.hid (And.intro hcut hbw2)
  have k21 : w2.cell? ⟨b2, 0, none⟩ = some (.pointer (some ⟨x, 0, none⟩)) := cell_of hL2.two rfl
  have k11 : w2.cell? ⟨x, 1, none⟩ = some (.slice oa n c) := cell_of hL2.idx.head rfl
  have q0 : w2.cell? ⟨b4, 0, none⟩ = some (.int .i64 0) := cell_of h42 rfl
  have q1 : w2.cell? ⟨b4, 1, none⟩ = some (.int .i64 0) := cell_of h42 rfl
  have z0 : w2.frozen? ⟨b4, 0, none⟩ = false := free_of h42 _
  have z1 : w2.frozen? ⟨b4, 1, none⟩ = false := free_of h42 _
  have HE := Lib.hid (fun (u v : Nat) => (show (((w2.setCell ⟨b4, 0, none⟩ (.int .i64 (u : Int))).setCell ⟨b4, 1, none⟩ (.int .i64 (v : Int))).heap[b4]? = some (.cells #[.int .i64 (u : Int), .int .i64 (v : Int)] 162 (0, 0))) ∧ Below w.heap.size w ((w2.setCell ⟨b4, 0, none⟩ (.int .i64 (u : Int))).setCell ⟨b4, 1, none⟩ (.int .i64 (v : Int))) from ⟨heap_setCell_here _ (heap_setCell_here _ h42), (hbw2.setCell (p := ⟨b4, 0, none⟩) (by show w.heap.size ≤ b4; have := H1.out.2.2.2.2.2; omega) _).setCell (p := ⟨b4, 1, none⟩) (by show w.heap.size ≤ b4; have := H1.out.2.2.2.2.2; omega) _⟩))
  by_cases hr0 : r = 0
  · subst hr0
    clear hcut hb12 hbw2 h42 hL2
    go_wp2_with fail
    have he := HE.out 0 0
    obtain ⟨wz, hwz⟩ : ∃ W : World, W = (w2.setCell ⟨b4, 0, none⟩ (.int .i64 (0 : Int))).setCell ⟨b4, 1, none⟩ (.int .i64 (0 : Int)) := ⟨_, rfl⟩
    have he : wz.heap[b4]? = some (.cells #[.int .i64 (0 : Int), .int .i64 (0 : Int)] 162 (0, 0)) ∧ Below w.heap.size w wz := by rw [hwz]; exact he
    rw [← hwz]
    have y0 := cell_of (i := 0) he.1 rfl
    have y1 := cell_of (i := 1) he.1 rfl
    refine ⟨rfl, .tuple #[.agg #[.int .i64 0, .int .i64 0], .bool false], ?_, 0, HC.out.1, rfl, he.2⟩
    simp [results, Try.results152, go_sem, y0, y1]
  · have hr1 : ((r : Int) == 0) = false := by rw [beq_eq_false_iff_ne]; omega
    have hr2 : (r == 0) = false := by rw [beq_eq_false_iff_ne]; omega
    have hrl : r - 1 < l.length := by have := hcut.1; omega
    obtain ⟨g, o, rfl, c0, c1⟩ := hL2.idx.cells H1.out.2.2.2.1 hrl
    have hsp : spotAt l r = l[r - 1] := by unfold spotAt; rw [if_neg hr0, List.getD_eq_getElem?_getD, List.getElem?_eq_getElem hrl]; rfl
    obtain ⟨y, hy⟩ : ∃ y, l[r - 1] = y := ⟨_, rfl⟩
    rw [hy] at c0 c1 hsp
    have HSP := Lib.hid hsp
    have hrn : r ≤ n := by have := hcut.1; have := H1.out.2.2.2.1; omega
    obtain ⟨r1, hr1e⟩ : ∃ r1, r = r1 + 1 := ⟨r - 1, by omega⟩
    have e1 : r - 1 = r1 := by omega
    rw [e1] at c0 c1
    have hcast : (r : Int) - 1 = (r1 : Int) := by omega
    have hr1l : r1 < n := by omega
    have hpos : decide (0 < r) = true := decide_eq_true (by omega)
    have HPOS := Lib.hid hpos
    clear hcut hb12 hbw2 h42 hL2 hrl hsp hy hr1e e1 hpos hr0
    go_wp2_with fail
    have he := HE.out y.1 y.2
    obtain ⟨wz, hwz⟩ : ∃ W : World, W = (w2.setCell ⟨b4, 0, none⟩ (.int .i64 (y.1 : Int))).setCell ⟨b4, 1, none⟩ (.int .i64 (y.2 : Int)) := ⟨_, rfl⟩
    have he : wz.heap[b4]? = some (.cells #[.int .i64 (y.1 : Int), .int .i64 (y.2 : Int)] 162 (0, 0)) ∧ Below w.heap.size w wz := by rw [hwz]; exact he
    rw [← hwz]
    have y0 := cell_of (i := 0) he.1 rfl
    have y1 := cell_of (i := 1) he.1 rfl
    refine ⟨rfl, .tuple #[.agg #[.int .i64 (y.1 : Int), .int .i64 (y.2 : Int)], .bool true], ?_, r, HC.out.1, by rw [HSP.out, HPOS.out], he.2⟩
    simp [results, Try.results152, go_sem, y0, y1]
set_option maxRecDepth 100000 in
set_option maxHeartbeats 1000000 in
/-- the last spot at or ahead of an offset -/
theorem spotFind_b {w : World} {x step : Nat} {sv : Value} {l : List Sp} {off : Int} (hx : IdxI w x step sv l) (hst : 1 ≤ step) (hl : l.length ≤ 1000000) (hm : ∀ i j (hi : i < l.length) (hj : j < l.length), i < j → l[i].1 < l[j].1) :
    Calls Try.prog 97 #[.pointer (some ⟨x, 0, none⟩), .int .i64 off] w fun e w' => SpotIs w l off e w' := by
  have hmf : ∀ (fn : Fn) (first cap : Array Value) (W : World), (Instr.makeFunc fn first cap).run Try.prog W = .ok (.func fn first cap) W := fun _ _ _ _ => rfl
  obtain ⟨w1, hw1⟩ : ∃ W : World, W = (w.alloc (.cells #[.int .i64 off] 2)).alloc (.cells #[.int .i64 0, .int .i64 0] 162) := ⟨_, rfl⟩
  obtain ⟨b3, hb3⟩ : ∃ b, b = w.heap.size := ⟨_, rfl⟩
  obtain ⟨b4, hb4⟩ : ∃ b, b = w.heap.size + 1 := ⟨_, rfl⟩
  have hbl : Below w.heap.size w w1 := by rw [hw1]; exact ((Below.refl _ _).alloc (Nat.le_refl _) _).alloc (by simp) _
  have h3 : w1.heap[b3]? = some (.cells #[.int .i64 off] 2 (0, 0)) := by rw [hw1, hb3]; exact (Below.heap_alloc _ _ _ (by simp)).trans (alloc_cells _ _ _)
  have h4 : w1.heap[b4]? = some (.cells #[.int .i64 0, .int .i64 0] 162 (0, 0)) := by
    rw [hw1, hb4]
    have := alloc_cells (w.alloc (.cells #[.int .i64 off] 2)) #[.int .i64 0, .int .i64 0] 162
    rwa [World.size_alloc] at this
  have HLB := Lib.hid (last_b (hx.later hbl) h3 hst hl hm)
  have H1 := Lib.hid (And.intro hbl (And.intro h4 hb4))
  clear hx hm hbl h3 h4
  go_enter Try.func97, Try.ntmps97
  go_upto_region 1 with fail
  rw [← hw1, ← hb4, ← hb3]
  clear hw1 hb4 hb3
  go_wp2_with fail
  refine HLB.out.mono ?_
  rintro e w2 ⟨r, hcut, rfl, hb2⟩
  obtain ⟨u, hu⟩ : ∃ u, (spotAt l r).1 = u := ⟨_, rfl⟩
  obtain ⟨v, hv⟩ : ∃ v, (spotAt l r).2 = v := ⟨_, rfl⟩
  obtain ⟨q, hq⟩ : ∃ q, decide (0 < r) = q := ⟨_, rfl⟩
  rw [hu, hv, hq]
  have HU := Lib.hid (And.intro hu (And.intro hv (And.intro hq hcut)))
  have h42 := (hb2.block b4 (Array.getElem?_eq_some_iff.1 H1.out.2.1).1).trans H1.out.2.1
  have hbw2 := H1.out.1.trans (hb2.mono H1.out.1.size)
  have q0 : w2.cell? ⟨b4, 0, none⟩ = some (.int .i64 0) := cell_of h42 rfl
  have q1 : w2.cell? ⟨b4, 1, none⟩ = some (.int .i64 0) := cell_of h42 rfl
  have z0 : w2.frozen? ⟨b4, 0, none⟩ = false := free_of h42 _
  have z1 : w2.frozen? ⟨b4, 1, none⟩ = false := free_of h42 _
  have H2 := Lib.hid (And.intro h42 hbw2)
  clear hu hv hq hcut hb2 h42 hbw2 HLB
  go_wp2_with fail
  obtain ⟨wz, hwz⟩ : ∃ W : World, W = (w2.setCell ⟨b4, 0, none⟩ (.int .i64 (u : Int))).setCell ⟨b4, 1, none⟩ (.int .i64 (v : Int)) := ⟨_, rfl⟩
  have he : wz.heap[b4]? = some (.cells #[.int .i64 (u : Int), .int .i64 (v : Int)] 162 (0, 0)) ∧ Below w.heap.size w wz := by
    rw [hwz]
    exact ⟨heap_setCell_here _ (heap_setCell_here _ H2.out.1), (H2.out.2.setCell (p := ⟨b4, 0, none⟩) (by show w.heap.size ≤ b4; have := H1.out.2.2; omega) _).setCell (p := ⟨b4, 1, none⟩) (by show w.heap.size ≤ b4; have := H1.out.2.2; omega) _⟩
  rw [← hwz]
  have y0 := cell_of (i := 0) he.1 rfl
  have y1 := cell_of (i := 1) he.1 rfl
  refine ⟨rfl, .tuple #[.agg #[.int .i64 (u : Int), .int .i64 (v : Int)], .bool q], ?_, r, HU.out.2.2.2, by rw [HU.out.1, HU.out.2.1, HU.out.2.2.1], he.2⟩
  simp [results, Try.results97, go_sem, y0, y1]
end Go.Proofs.Ytmkjejngnahpeaa
/- record: Put. -/
namespace Go.Proofs.Ytmkjejngnahpeaa
open Go Go.RowKit
attribute [local go_sem] Oper.semAt_some

def PutIs (w : World) (base : Int) (l : List Rc) (e : Ending) (w' : World) : Prop :=
  ∃ oa m c, e = .returned (.tuple #[.slice oa m c, .int .i64 (putT base l).2]) ∧ NewB w w' (.slice oa m c) (putT base l).1
theorem put_none {w w' : World} {base : Int} {l : List Rc} {er : Int} (h : putT base l = ([], er)) (hb : Below w.heap.size w w') : PutIs w base l (.returned (.tuple #[.slice none 0 0, .int .i64 er])) w' :=
  ⟨none, 0, 0, by rw [h], by rw [h]; exact NewB.nil hb⟩
theorem flat_take {l : List Rc} {i : Nat} (h : i < l.length) : (l.take (i + 1)).flatMap Rc.bytes = (l.take i).flatMap Rc.bytes ++ l[i].bytes := by
  rw [List.take_succ_eq_append_getElem h, List.flatMap_append]
  simp
theorem PutB.of_new {w0 W : World} {v : Value} {l : List UInt8} (h : NewB w0 W v l) : PutB w0 w0 (.slice none 0 0) W v l :=
  ⟨h, Only.of_below h.below (Nat.le_refl _) _, fun k hk => .inr (h.own k hk)⟩
/-- bytes are appended, within a region that draws its order -/
theorem step_putR {w0 V : World} {ops : Array Oper} {o : Oper} {a : Act} {K : Act → World → Prop} {Q : Exit → Act → World → Prop} {E : Prop}
    (hg : o.guard = none) (s x : Operand) (ho : o.op = .call { callee := .builtin .append, args := #[s, x], argTypes := #[79, 79] })
    {oa : Option Addr} {m c : Nat} {l : List UInt8} (h : NewB w0 V (.slice oa m c) l) {ob : Option Addr} {n d : Nat} {ys : List UInt8} (hn : ys.length = n) (hy : readAt V 1 (.slice ob n d) n (byteCells ys)) (hmn : m + n ≤ 1000000000)
    (hs : a.eval s = .slice oa m c) (hx : a.eval x = .slice ob n d)
    (hK : ∀ oa3 c3 w3, Hid (PutB w0 V (.slice oa m c) w3 (.slice oa3 (m + n) c3) (l ++ ys)) → K (a.put o.dst (.slice oa3 (m + n) c3)) w3) :
    if Region.wanted o (yielded ops a.tmps) = true then Oper.wp Try.prog o a V K Q else E := by
  have hw : Region.wanted o (yielded ops a.tmps) = true := by simp [Region.wanted, hg]
  rw [if_pos hw]
  have hlm := h.len
  subst hlm
  subst hn
  obtain ⟨i, hi, hz, hsz, hby⟩ := info_parts info_u8
  obtain ⟨v', w', hrun, r1, r2, r3, r4⟩ := run_append_at (P := Try.prog) V 79 79 o.type 5 i _ 1 1 Try.underlying79 hi hz hsz hby rfl _ l.length _ h.row _ ys.length _ (Src.of_read Try.underlying79 hy (byteCells_one _)) (by unfold maxLen; omega) (by omega)
  obtain ⟨oa3, c3, rfl, _⟩ := r1.shape
  unfold Oper.wp
  simp [execOp, ho, resolve, invoke, builtin, hs, hx, hrun, Result.andThen]
  exact hK oa3 c3 w' (Lib.hid (PutB.grown h (Below.refl _ _) r1 r2 r3))
set_option maxRecDepth 100000 in
set_option maxHeartbeats 4000000 in
theorem putR_b {w : World} {base : Int} {oa : Option Addr} {n c : Nat} {xs : List RcV} {l : List Rc} (hl : xs.map (·.r) = l) (hn : xs.length = n) (h : RecsIs w (.slice oa n c) xs) (hnm : n ≤ 1000000000) (hb9 : -9223372036854775808 ≤ base ∧ base ≤ 9223372036854775807) :
    Calls Try.prog 93 #[.agg #[.int .i64 base, .slice oa n c]] w fun e w' => PutIs w base l e w' := by
  have hln : l.length = n := by rw [← hl, List.length_map, hn]
  obtain ⟨w1, hw1⟩ : ∃ W : World, W = w.alloc (.cells #[.int .i64 base, .slice oa n c] 46) := ⟨_, rfl⟩
  obtain ⟨b1, hb1⟩ : ∃ b, b = w.heap.size := ⟨_, rfl⟩
  have h1 : w1.heap[b1]? = some (.cells #[.int .i64 base, .slice oa n c] 46 (0, 0)) := by rw [hw1, hb1]; exact alloc_cells _ _ _
  have hbl : Below w.heap.size w w1 := by rw [hw1]; exact (Below.refl _ _).alloc (Nat.le_refl _) _
  have k0 : w1.cell? ⟨b1, 0, none⟩ = some (.int .i64 base) := cell_of h1 rfl
  have k1 : w1.cell? ⟨b1, 1, none⟩ = some (.slice oa n c) := cell_of h1 rfl
  have HF := Lib.hid (fits_b hl hn (h.below hbl) hnm)
  obtain ⟨f1, hf1⟩ : ∃ x, (fitsT l).1 = x := ⟨_, rfl⟩
  obtain ⟨f2, hf2⟩ : ∃ x, (fitsT l).2 = x := ⟨_, rfl⟩
  rw [hf1, hf2] at HF
  have HFT := Lib.hid (And.intro hf1 hf2)
  have HL := Lib.hid (And.intro hl (And.intro hn hln))
  have H1 := Lib.hid (And.intro h1 (And.intro hbl hb1))
  have HR := Lib.hid h
  clear hl hn h hln h1 hbl hf1 hf2
  go_enter Try.func93, Try.ntmps93
  go_upto_region 1 with fail
  rw [← hw1, ← hb1]
  clear hw1 hb1
  go_wp2_with fail
  refine HF.out.mono ?_
  rintro e w2 ⟨rfl, hb2⟩
  have h12 := (hb2.block b1 (Array.getElem?_eq_some_iff.1 H1.out.1).1).trans H1.out.1
  have j0 : w2.cell? ⟨b1, 0, none⟩ = some (.int .i64 base) := cell_of h12 rfl
  have j1 : w2.cell? ⟨b1, 1, none⟩ = some (.slice oa n c) := cell_of h12 rfl
  have H2 := Lib.hid (And.intro h12 (H1.out.2.1.trans (hb2.mono H1.out.2.1.size)))
  clear hb2 h12 k0 k1 HF
  have hf2c : f2 = 2 ∨ f2 = 8 ∨ f2 = 0 := by
    rw [← HFT.out.2]
    unfold fitsT
    split
    · exact .inl rfl
    · split
      · exact .inl rfl
      · split
        · exact .inr (.inl rfl)
        · split
          · exact .inr (.inl rfl)
          · exact .inr (.inr rfl)
  by_cases he2 : f2 = 2
  · subst he2
    have hpt : putT base l = ([], 2) := by
      unfold putT putOk
      rw [HFT.out.2]
      simp
    have HP := Lib.hid hpt
    clear hpt hf2c
    go_wp2_with fail
    go_ret2
    exact put_none HP.out H2.out.2
  · have d2 : (f2 == 2) = false := by rw [beq_eq_false_iff_ne]; exact he2
    have hmin : min (n : Int) 9007199254740992 = (n : Int) := by omega
    by_cases hok : base < 0 ∨ 9007199254740992 < base ∨ 9007199254740992 < base + (n : Int) - 1
    · have hpt : putT base l = ([], 2) := by
        unfold putT putOk
        have hln := HL.out.2.2
        rw [hln, if_pos]
        rcases hok with h | h | h
        · rw [decide_eq_true h]; simp
        · rw [decide_eq_true h]; simp
        · rw [decide_eq_true h]; simp
      have HP := Lib.hid hpt
      clear hpt hf2c
      by_cases c1 : base < 0
      · have e1 : decide (base < 0) = true := decide_eq_true c1
        go_wp2_with fail
        go_ret2
        exact put_none HP.out H2.out.2
      · have e1 : decide (base < 0) = false := decide_eq_false c1
        by_cases c2 : 9007199254740992 < base
        · have e2 : decide (9007199254740992 < base) = true := decide_eq_true c2
          go_wp2_with fail
          go_ret2
          exact put_none HP.out H2.out.2
        · have e2 : decide (9007199254740992 < base) = false := decide_eq_false c2
          have c3 : 9007199254740992 < base + (n : Int) - 1 := by omega
          have e3 : decide (9007199254740992 < base + (n : Int) - 1) = true := decide_eq_true c3
          go_wp2_with fail
          go_ret2
          exact put_none HP.out H2.out.2
    · have e1 : decide (base < 0) = false := decide_eq_false (by omega)
      have e2 : decide (9007199254740992 < base) = false := decide_eq_false (by omega)
      have e3 : decide (9007199254740992 < base + (n : Int) - 1) = false := decide_eq_false (by omega)
      have hpok : putOk base l = true := by
        unfold putOk
        rw [HFT.out.2, HL.out.2.2, decide_eq_false he2, e1, e2, e3]
        rfl
      by_cases he8 : f2 = 0
      case neg =>
        have hf8 : f2 = 8 := by rcases hf2c with h | h | h; exact absurd h he2; exact h; exact absurd h he8
        subst hf8
        have hpt : putT base l = ([], 8) := by
          unfold putT
          rw [hpok, HFT.out.2]
          rfl
        have HP := Lib.hid hpt
        clear hpt hf2c hpok
        go_wp2_with fail
        go_ret2
        exact put_none HP.out H2.out.2
      case pos =>
        subst he8
        have hpt : putT base l = (batchT base l, 0) := by
          unfold putT
          rw [hpok, HFT.out.2]
          rfl
        have hnf : l ≠ [] ∧ (∀ r ∈ l, r.ok = true) ∧ l.length ≤ 256 ∧ rcsSize l ≤ 65536 ∧ f1 = rcsSize l := by
          have h1 := HFT.out
          unfold fitsT at h1
          by_cases g1 : l = []
          · rw [if_pos g1] at h1; cases h1.2
          · rw [if_neg g1] at h1
            by_cases g2 : (l.any fun r => !r.ok) = true
            · rw [if_pos g2] at h1; cases h1.2
            · rw [if_neg g2] at h1
              by_cases g3 : 256 < l.length
              · rw [if_pos g3] at h1; cases h1.2
              · rw [if_neg g3] at h1
                by_cases g4 : 65536 < rcsSize l
                · rw [if_pos g4] at h1; cases h1.2
                · rw [if_neg g4] at h1
                  refine ⟨g1, fun r hr => ?_, by omega, by omega, h1.1.symm⟩
                  have g5 : ∀ x ∈ l, x.ok = true := by simpa using g2
                  exact g5 r hr
        obtain ⟨bn, hbn⟩ : ∃ bn : Nat, base = (bn : Int) := ⟨base.toNat, by omega⟩
        subst hbn
        have HP := Lib.hid (And.intro hpt hnf)
        have hn256 : n ≤ 256 := by have := HL.out.2.2; have := hnf.2.2.1; omega
        have hbn53 : bn ≤ 9007199254740992 := by omega
        have hcv : IntKind.u64.wrap (bn : Int) = (bn : Int) := by rw [u64_wrap]; omega
        have hcn : IntKind.u64.wrap (n : Int) = (n : Int) := by rw [u64_wrap]; omega
        have HP1 := Lib.hid (put0_b (Below.refl w2.heap.size w2) bn 8 (by omega) (by omega))
        clear hpt hnf hf2c hpok hok he2 d2
        go_upto_region 6 with fail
        go_wp2_with fail
        refine HP1.out.mono ?_
        rintro e w3 ⟨oa3, c3, rfl, hp3⟩
        have hx3 := (hp3.box H2.out.1 (by simp [Value.ownBlock])).1
        have g0 : w3.cell? ⟨b1, 0, none⟩ = some (.int .i64 (bn : Int)) := cell_of hx3 rfl
        have g1 : w3.cell? ⟨b1, 1, none⟩ = some (.slice oa n c) := cell_of hx3 rfl
        have HP2 := Lib.hid (put_b hp3.new (by omega) n 4 (by omega) (by omega))
        have H3 := Lib.hid hp3
        clear hp3 hx3 j0 j1 HP1
        go_wp2_with fail
        refine HP2.out.mono ?_
        rintro e w4 ⟨oa4, c4, rfl, hp4⟩
        have hp4' := H3.out.trans hp4
        have hx4 := (hp4'.box H2.out.1 (by simp [Value.ownBlock])).1
        have g0' : w4.cell? ⟨b1, 0, none⟩ = some (.int .i64 (bn : Int)) := cell_of hx4 rfl
        have g1' : w4.cell? ⟨b1, 1, none⟩ = some (.slice oa n c) := cell_of hx4 rfl
        have H4 := Lib.hid hp4'
        clear hp4 hp4' hx4 g0 g1 HP2 H3
        go_wp2_with fail
        go_loopw [6, 57] (fun s i wr => ∃ (k m' : Nat) (oa' : Option Addr) (c' : Nat), s = .slice oa' m' c' ∧ i = .int .i64 (k : Int) ∧ k ≤ n ∧ m' ≤ 12 + 4364 * k ∧ Hid (PutB w2 w2 (.slice none 0 0) wr (.slice oa' m' c') (leT bn 8 ++ leT n 4 ++ (l.take k).flatMap Rc.bytes))) (fun _ i _ => n - (intOf i).toNat)
        case atStart => exact ⟨0, 12, oa4, c4, rfl, rfl, by omega, by omega, Lib.hid (by simpa using H4.out)⟩
        case round =>
          obtain ⟨k, m', oa', c', rfl, rfl, hk, hm', HI⟩ := hrel
          by_cases hlt : k < n
          · have hkx : k < xs.length := by rw [HL.out.2.1]; exact hlt
            have hkl : k < l.length := by rw [HL.out.2.2]; exact hlt
            have hbw : Below w.heap.size w wr := H2.out.2.trans (HI.out.new.below.mono H2.out.2.size)
            have hri := HR.out.below hbw
            have hrd := HR.out.each xs[k] (List.getElem_mem hkx)
            obtain ⟨g, off, ka, kc, va, vc, rfl, hkv, hvv, d0, d1, d2⟩ := hri.cells HL.out.2.1 hkx
            have hrx : xs[k].r = l[k] := by simp [← HL.out.1]
            rw [hkv, hvv, hrx] at hrd
            have hrd1 : readAt w 1 (.slice ka l[k].key.length kc) l[k].key.length (byteCells l[k].key) := hrd.1
            have hrd2 : readAt w 1 (.slice va l[k].val.length vc) l[k].val.length (byteCells l[k].val) := hrd.2
            clear hrd
            rw [hrx] at d0 d1 d2
            have hok := HP.out.2.2.1 l[k] (List.getElem_mem hkl)
            have hft := flat_take hkl
            obtain ⟨r, hr⟩ : ∃ r, l[k] = r := ⟨_, rfl⟩
            rw [hr] at d0 d1 d2 hok hft hrd1 hrd2
            unfold Rc.ok at hok
            simp only [Bool.and_eq_true, decide_eq_true_eq] at hok
            obtain ⟨tn, htn⟩ : ∃ tn : Nat, r.time = (tn : Int) := ⟨r.time.toNat, by omega⟩
            obtain ⟨rk, hrk⟩ : ∃ x, r.key.length = x := ⟨_, rfl⟩
            obtain ⟨rv, hrv⟩ : ∃ x, r.val.length = x := ⟨_, rfl⟩
            have hby : r.bytes = leT tn 8 ++ leT rk 2 ++ leT rv 2 ++ r.key ++ r.val := by unfold Rc.bytes; rw [htn, hrk, hrv]; rfl
            rw [htn] at d0 hok
            rw [hrk] at d1 hok hrd1
            rw [hrv] at d2 hok hrd2
            have htn53 : tn ≤ 9007199254740992 := by omega
            have hct : IntKind.u64.wrap (tn : Int) = (tn : Int) := by rw [u64_wrap]; omega
            have hck : IntKind.u64.wrap (rk : Int) = (rk : Int) := by rw [u64_wrap]; omega
            have hcv2 : IntKind.u64.wrap (rv : Int) = (rv : Int) := by rw [u64_wrap]; omega
            have hrkb : rk ≤ 256 := by omega
            have hrvb : rv ≤ 4096 := by omega
            obtain ⟨w5, hw5⟩ : ∃ W : World, W = wr.alloc (.cells #[.int .i64 (tn : Int), .slice ka rk kc, .slice va rv vc] 154) := ⟨_, rfl⟩
            obtain ⟨b8, hb8⟩ : ∃ b, b = wr.heap.size := ⟨_, rfl⟩
            have h58 : w5.heap[b8]? = some (.cells #[.int .i64 (tn : Int), .slice ka rk kc, .slice va rv vc] 154 (0, 0)) := by rw [hw5, hb8]; exact alloc_cells _ _ _
            have hb5 : Below wr.heap.size wr w5 := by rw [hw5]; exact (Below.refl _ _).alloc (Nat.le_refl _) _
            have hne5 : (Value.slice oa' m' c').ownBlock ≠ some b8 := fun e => by
              have := HI.out.new.row.lt b8 e
              omega
            have q0 : w5.cell? ⟨b8, 0, none⟩ = some (.int .i64 (tn : Int)) := cell_of h58 rfl
            have HPA := Lib.hid (put_b (HI.out.new.kept hb5) (by omega) tn 8 (by omega) (by omega))
            have H5 := Lib.hid (And.intro h58 (And.intro hne5 (And.intro hb5 (hbw.trans (hb5.mono hbw.size)))))
            have HRD := Lib.hid (And.intro hrd1 hrd2)
            have HBY := Lib.hid (And.intro hby (And.intro hft (And.intro hrk hrv)))
            clear hkx hkl hbw hri hrd1 hrd2 hkv hvv hrx hok hft hr htn hrk hrv hby h58 hb5 hne5
            go_upto_region 11 with fail
            rw [← hw5, ← hb8]
            clear hw5 hb8
            go_wp2_with fail
            refine HPA.out.mono ?_
            rintro e w6 ⟨oa6, c6, rfl, hp6⟩
            have hx6 := hp6.box H5.out.1 H5.out.2.1
            have q1 : w6.cell? ⟨b8, 1, none⟩ = some (.slice ka rk kc) := cell_of hx6.1 rfl
            have HPB := Lib.hid (put_b hp6.new (by omega) rk 2 (by omega) (by omega))
            have H6 := Lib.hid (And.intro hp6 hx6)
            clear hp6 hx6 q0 HPA
            go_wp2_with fail
            refine HPB.out.mono ?_
            rintro e w7 ⟨oa7, c7, rfl, hp7⟩
            have hx7 := hp7.box H6.out.2.1 H6.out.2.2
            have q2 : w7.cell? ⟨b8, 2, none⟩ = some (.slice va rv vc) := cell_of hx7.1 rfl
            have HPC := Lib.hid (put_b hp7.new (by omega) rv 2 (by omega) (by omega))
            have H7 := Lib.hid (And.intro (H6.out.1.trans hp7) hx7)
            clear hp7 hx7 q1 HPB H6
            go_wp2_with fail
            refine HPC.out.mono ?_
            rintro e w8 ⟨oa8, c8, rfl, hp8⟩
            have hx8 := hp8.box H7.out.2.1 H7.out.2.2
            have q3 : w8.cell? ⟨b8, 1, none⟩ = some (.slice ka rk kc) := cell_of hx8.1 rfl
            have q4 : w8.cell? ⟨b8, 2, none⟩ = some (.slice va rv vc) := cell_of hx8.1 rfl
            have H8 := Lib.hid (And.intro (H7.out.1.trans hp8) hx8)
            clear hp8 hx8 q2 HPC H7
            have hbw8 : Below w.heap.size w w8 := H2.out.2.trans (H8.out.1.new.below.mono H2.out.2.size)
            have HN8 := Lib.hid (fun (W : World) (hb : Below w8.heap.size w8 W) => H8.out.1.new.kept hb)
            have HK8 := Lib.hid (fun (W : World) (hb : Below w8.heap.size w8 W) => HRD.out.1.kept (fun k hk _ _ => (hbw8.trans (hb.mono hbw8.size)).block k hk))
            have HX8 := Lib.hid (And.intro H8.out.2 (And.intro hbw8 (And.intro HBY.out.2.2.1 HBY.out.2.2.2)))
            clear hbw8
            go_upto_region 14 with fail
            go_region_law (first | (refine step_putR (by rfl) (.tmp 78) (.tmp 80) (by rfl) (HN8.out _ (by first | exact Below.refl _ _ | exact ⟨rfl, rfl, rfl, Nat.le_refl _, fun _ _ => rfl⟩)) HX8.out.2.2.1 (HK8.out _ (by first | exact Below.refl _ _ | exact ⟨rfl, rfl, rfl, Nat.le_refl _, fun _ _ => rfl⟩)) (by omega) (by rfl) (by rfl) ?_; intro oa9 c9 w9 HR9; have hx9 := HR9.out.box HX8.out.1.1 HX8.out.1.2; have q5 : w9.cell? ⟨b8, 2, none⟩ = some (.slice va rv vc) := cell_of hx9.1 rfl; have HV9 := Lib.hid (fun (W : World) (hb : Below w9.heap.size w9 W) => And.intro (HR9.out.new.kept hb) (HRD.out.2.kept (fun k hk _ _ => ((H2.out.2.trans (HR9.out.new.below.mono H2.out.2.size)).trans (hb.mono (Nat.le_trans H2.out.2.size HR9.out.new.below.size))).block k hk))); clear hx9) | (refine step_putR (by rfl) (.tmp 81) (.tmp 83) (by rfl) (HV9.out _ (by first | exact Below.refl _ _ | exact ⟨rfl, rfl, rfl, Nat.le_refl _, fun _ _ => rfl⟩)).1 HX8.out.2.2.2 (HV9.out _ (by first | exact Below.refl _ _ | exact ⟨rfl, rfl, rfl, Nat.le_refl _, fun _ _ => rfl⟩)).2 (by omega) (by rfl) (by rfl) ?_; intro oa10 c10 w10 HR10))
            all_goals
              go_wp2_with fail
              refine ⟨⟨k + 1, m' + 8 + 2 + 2 + rk + rv, oa10, c10, rfl, by simp, by omega, by omega, Lib.hid ?_⟩, by simp [intOf]; omega⟩
              have h := PutB.of_new HR10.out.new
              rw [HBY.out.2.1, HBY.out.1]
              simpa only [List.append_assoc] using h
          · obtain rfl : k = n := by omega
            have htk : l.take k = l := List.take_of_length_le (by rw [HL.out.2.2]; exact Nat.le_refl _)
            have hbd : leT bn 8 ++ leT k 4 ++ l.flatMap Rc.bytes = bodyT (bn : Int) l := by
              unfold bodyT
              rw [HL.out.2.2]
              rfl
            have hi := HI.out
            rw [htk, hbd] at hi
            have hbt : batchT (bn : Int) l = leT (f1 - 4) 4 ++ leT (crcSum (bodyT (bn : Int) l)).toNat 4 ++ bodyT (bn : Int) l := by
              unfold batchT
              rw [HP.out.2.2.2.2.2]
            have hml := hi.new.len
            obtain ⟨B, hB⟩ : ∃ B, bodyT (bn : Int) l = B := ⟨_, rfl⟩
            rw [hB] at hi hbt hml
            have hf1 : 32 ≤ f1 ∧ f1 ≤ 65536 ∧ f1 = m' + 8 := by
              have h1 := bodyT_len (bn : Int) l
              rw [hB, hml] at h1
              have h2 := HP.out.2.2.2.2
              have h3 : 20 ≤ rcsSize l := by unfold rcsSize; omega
              have h4 : 32 ≤ rcsSize l := by
                have h5 := HP.out.2.1
                cases l with
                | nil => exact absurd rfl h5
                | cons r l =>
                  unfold rcsSize Rc.size
                  rw [List.map_cons, List.sum_cons]
                  omega
              omega
            obtain ⟨hf1a, hf1b, hf1c⟩ := hf1
            have hm65 : m' ≤ 65536 := by omega
            clear hf1c
            obtain ⟨s, hs⟩ : ∃ s : Nat, crcSum B = (s : Int) := ⟨(crcSum B).toNat, by have := crcSum_u32 B; omega⟩
            have hsb : s < 4294967296 := by have := crcSum_u32 B; omega
            have hst : (crcSum B).toNat = s := by omega
            rw [hst] at hbt
            have HI2 := Lib.hid (And.intro hi (And.intro hml hs))
            obtain ⟨f4, hf4⟩ : ∃ f4 : Nat, (f1 : Int) - 4 = (f4 : Int) := ⟨f1 - 4, by omega⟩
            have hf4n : f1 - 4 = f4 := by omega
            rw [hf4n] at hbt
            have HBT := Lib.hid hbt
            have hcf : IntKind.u64.wrap (f4 : Int) = (f4 : Int) := by rw [u64_wrap]; omega
            have hcs : IntKind.u64.wrap (s : Int) = (s : Int) := by rw [u64_wrap]; omega
            have HP5 := Lib.hid (put0_b (w0 := w2) hi.new.below f4 4 (by omega) (by omega))
            clear htk hbd hi hbt hml hs hst HI hB g0' g1' hf4n
            go_upto_region 16 with fail
            go_wp2_with fail
            refine HP5.out.mono ?_
            rintro e w5 ⟨oa5, c5, rfl, hp5⟩
            have hbr5 : Below wr.heap.size wr w5 := hp5.only.below (fun i _ e => by simp [Value.ownBlock] at e) (Nat.le_refl _)
            have hv5 : ∀ j, (Value.slice oa5 4 c5).ownBlock = some j → wr.heap.size ≤ j := fun j hj => (hp5.own j hj).resolve_left (by simp [Value.ownBlock])
            obtain ⟨w6, hw6⟩ : ∃ W : World, W = w5.alloc (.cells #[.slice oa' m' c'] 79) := ⟨_, rfl⟩
            obtain ⟨b6, hb6⟩ : ∃ b, b = w5.heap.size := ⟨_, rfl⟩
            have h66 : w6.heap[b6]? = some (.cells #[.slice oa' m' c'] 79 (0, 0)) := by rw [hw6, hb6]; exact alloc_cells _ _ _
            have hb56 : Below w5.heap.size w5 w6 := by rw [hw6]; exact (Below.refl _ _).alloc (Nat.le_refl _) _
            have hbr6 : Below wr.heap.size wr w6 := hbr5.trans (hb56.mono hbr5.size)
            have hrr := HI2.out.1.new.row
            rw [HI2.out.2.1] at hrr
            have hrl := hrr.lt
            have hcr := crcSum_b (cell_of (i := 0) h66 rfl) HI2.out.2.1 (hrr.read.kept (fun j hj _ _ => hbr6.block j hj)) (by omega)
            rw [HI2.out.2.2] at hcr
            have HCR := Lib.hid hcr
            have H6 := Lib.hid (And.intro hp5 (And.intro hbr6 (And.intro hb56 (And.intro hv5 (And.intro hrr.read hrl)))))
            clear hp5 hbr5 hv5 h66 hb56 hbr6 hrr hrl hcr HP5
            go_wp2_with fail
            rw [← hw6, ← hb6]
            clear hw6 hb6
            refine HCR.out.mono ?_
            rintro e w7 ⟨rfl, hb67⟩
            have hb57 : Below w5.heap.size w5 w7 := H6.out.2.2.1.trans (hb67.mono H6.out.2.2.1.size)
            have hbr7 : Below wr.heap.size wr w7 := H6.out.2.1.trans (hb67.mono H6.out.2.1.size)
            have HP7 := Lib.hid (put_b (H6.out.1.new.kept hb57) (by omega) s 4 (by omega) (by omega))
            have H7 := Lib.hid hbr7
            clear hb67 hb57 hbr7 HCR
            go_wp2_with fail
            refine HP7.out.mono ?_
            rintro e w8 ⟨oa8, c8, rfl, hp8⟩
            have hro : readAt w8 1 (.slice oa' m' c') m' (byteCells B) := (H6.out.2.2.2.2.1.kept (fun j hj _ _ => H7.out.block j hj)).kept (fun j hj ho _ => hp8.only.block j hj (fun e => by
              have h1 := H6.out.2.2.2.2.2 j ho
              have h2 := H6.out.2.2.2.1 j e
              omega))
            have H8 := Lib.hid (And.intro hp8 hro)
            clear hp8 hro HP7
            go_wp2_with (at_builtin; refine wpList_putR rfl (.tmp 96) (.tmp 97) rfl H8.out.1.new HI2.out.2.1 H8.out.2 (by omega) rfl rfl ?_; intro oa9 c9 w9 HR9)
            go_ret2
            refine ⟨oa9, 4 + 4 + m', c9, by rw [HP.out.1]; rfl, ?_⟩
            rw [HP.out.1, HBT.out]
            have h9 := HR9.out.new
            exact ⟨h9.row, fun j hj => Nat.le_trans H2.out.2.size (h9.own j hj), H2.out.2.trans (h9.below.mono H2.out.2.size)⟩
end Go.Proofs.Ytmkjejngnahpeaa
/- record: what batch's deferred closure does. -/
namespace Go.Proofs.Ytmkjejngnahpeaa
open Go Go.RowKit
attribute [local go_sem] Oper.semAt_some

set_option maxRecDepth 100000 in
set_option maxHeartbeats 1000000 in
/-- the frame returns: nothing is done -/
theorem batchIdle_b {w : World} {a b c : Value} :
    CallsD Try.prog 184 #[a, b, c] .returning w fun e u' w' => e = .returned (.tuple #[]) ∧ u' = .returning ∧ w' = w := by
  refine callsD_of_wpS Try.func184 rfl fun c₀ cs hu => ?_
  apply wpS_seq
  apply wpS_region
  simp [wpOpsS, go_sem, recoverD, hu, Try.ntmps184, Exit.thenS]
  refine wpS_of_wp ?_
  go_wp2_with fail
  cases c₀
  simp_all [bodyPostS, results, Try.results184]
set_option maxRecDepth 100000 in
set_option maxHeartbeats 1000000 in
/-- the frame panics with an error of batch's: the results are that error's -/
theorem batchCatch_b {w : World} {b2 b3 b4 : Nat} {x0 x1 x3 x4 : Value} {er : Int} {older : List PanicEntry} (h2 : w.heap[b2]? = some (.cells #[x0, x1] 46 (0, 0))) (h3 : w.heap[b3]? = some (.cells #[x3] 3 (0, 0))) (h4 : w.heap[b4]? = some (.cells #[x4] 22 (0, 0))) (n32 : b3 ≠ b2) (n42 : b4 ≠ b2) (n43 : b4 ≠ b3) :
    CallsD Try.prog 184 #[.pointer (some ⟨b2, 0, none⟩), .pointer (some ⟨b3, 0, none⟩), .pointer (some ⟨b4, 0, none⟩)] (.panicking ({ v := .iface 264 (.agg #[.int .i64 er]), recovered := false } :: older)) w fun e u' w' =>
      e = .returned (.tuple #[]) ∧ u' = .panicking ({ v := .iface 264 (.agg #[.int .i64 er]), recovered := true } :: older) ∧ w'.heap[b2]? = some (.cells #[.int .i64 0, .slice none 0 0] 46 (0, 0)) ∧ w'.heap[b3]? = some (.cells #[.int .i64 0] 3 (0, 0)) ∧ w'.heap[b4]? = some (.cells #[.int .i64 er] 22 (0, 0)) ∧ Only (fun k => k = b2 ∨ k = b3 ∨ k = b4) w w' := by
  refine callsD_of_wpS Try.func184 rfl fun c₀ cs hu => ?_
  apply wpS_seq
  apply wpS_region
  simp [wpOpsS, go_sem, recoverD, hu, Try.ntmps184, Exit.thenS]
  refine wpS_of_wp ?_
  simp only [Array.replicate_succ, Array.replicate_zero, List.push_toArray, List.nil_append, List.cons_append]
  have hta : ∀ W : World, (Instr.typeAssert (.iface 264 (.agg #[.int .i64 er])) 20 264 true).run Try.prog W = .ok (.tuple #[.agg #[.int .i64 er], .bool true]) W := fun W => by kernel_rfl
  go_upto_region 7 with fail
  obtain ⟨w1, hw1⟩ : ∃ W : World, W = w.alloc (.cells #[.int .i64 er] 264) := ⟨_, rfl⟩
  obtain ⟨b5, hb5⟩ : ∃ b, b = w.heap.size := ⟨_, rfl⟩
  have h5 : w1.heap[b5]? = some (.cells #[.int .i64 er] 264 (0, 0)) := by rw [hw1, hb5]; exact alloc_cells _ _ _
  have hb1 : Below w.heap.size w w1 := by rw [hw1]; exact (Below.refl _ _).alloc (Nat.le_refl _) _
  have g2 := (hb1.block b2 (Array.getElem?_eq_some_iff.1 h2).1).trans h2
  have g3 := (hb1.block b3 (Array.getElem?_eq_some_iff.1 h3).1).trans h3
  have g4 := (hb1.block b4 (Array.getElem?_eq_some_iff.1 h4).1).trans h4
  have H := Lib.hid (And.intro g2 (And.intro g3 (And.intro g4 hb1)))
  have HU := Lib.hid hu
  have k5 : w1.cell? ⟨b5, 0, none⟩ = some (.int .i64 er) := cell_of h5 rfl
  have k20 : w1.cell? ⟨b2, 0, none⟩ = some x0 := cell_of g2 rfl
  have k21 : w1.cell? ⟨b2, 1, none⟩ = some x1 := cell_of g2 rfl
  have z20 : w1.frozen? ⟨b2, 0, none⟩ = false := free_of g2 _
  have z21 : w1.frozen? ⟨b2, 1, none⟩ = false := free_of g2 _
  have k3 : w1.cell? ⟨b3, 0, none⟩ = some x3 := cell_of g3 rfl
  have z3 : w1.frozen? ⟨b3, 0, none⟩ = false := free_of g3 _
  have k4 : w1.cell? ⟨b4, 0, none⟩ = some x4 := cell_of g4 rfl
  have z4 : w1.frozen? ⟨b4, 0, none⟩ = false := free_of g4 _
  rw [← hw1, ← hb5]
  have n52 : b5 ≠ b2 := by have := (Array.getElem?_eq_some_iff.1 h2).1; omega
  have n53 : b5 ≠ b3 := by have := (Array.getElem?_eq_some_iff.1 h3).1; omega
  have n54 : b5 ≠ b4 := by have := (Array.getElem?_eq_some_iff.1 h4).1; omega
  clear hw1 hb5 h5 hb1 g2 g3 g4 h2 h3 h4 hta hu
  have n23 := n32.symm
  have n24 := n42.symm
  have n34 := n43.symm
  have n25 := n52.symm
  have n35 := n53.symm
  have n45 := n54.symm
  go_region
  refine ⟨rfl, _, rfl, _, results_none rfl _ _ _, rfl, rfl, ?_, ?_, ?_, ?_⟩
  · exact (Below.heap_setCell _ _ _ _ n24).trans ((Below.heap_setCell _ _ _ _ n23).trans (heap_setCell_here _ (heap_setCell_here _ H.out.1)))
  · exact (Below.heap_setCell _ _ _ _ n34).trans (heap_setCell_here _ ((Below.heap_setCell _ _ _ _ n32).trans ((Below.heap_setCell _ _ _ _ n32).trans H.out.2.1)))
  · exact heap_setCell_here _ ((Below.heap_setCell _ _ _ _ n43).trans ((Below.heap_setCell _ _ _ _ n42).trans ((Below.heap_setCell _ _ _ _ n42).trans H.out.2.2.1)))
  · have h1 := Only.of_below H.out.2.2.2 (Nat.le_refl _) (fun k => k = b2 ∨ k = b3 ∨ k = b4)
    have h2 := ((((h1.trans (only_setCell _ _ b2 0 (.int .i64 0) (.inl rfl)) (fun _ _ e => e)).trans (only_setCell _ _ b2 1 (.slice none 0 0) (.inl rfl)) (fun _ _ e => e)).trans (only_setCell _ _ b3 0 (.int .i64 0) (.inr (.inl rfl))) (fun _ _ e => e)).trans (only_setCell _ _ b4 0 (.int .i64 er) (.inr (.inr rfl))) (fun _ _ e => e))
    exact ⟨h2.os, h2.tape, h2.output, h2.size, h2.block⟩
end Go.Proofs.Ytmkjejngnahpeaa
