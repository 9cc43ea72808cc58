/- The texts Jo, Jp in one. -/
import Derived.Test.YtmkjejngnahpeaaB9
import Derived.RangeFuncCalls
import Derived.Laws.EntriesVeiled
/- stops: of no disk nothing is told. -/
namespace Go.Proofs.Ytmkjejngnahpeaa
open Go Go.Maps Go.RowKit Go.Shelf
attribute [local go_sem] Oper.semAt_some

set_option maxRecDepth 100000 in
set_option maxHeartbeats 400000 in
theorem sCount_nil {w : World} {pp : Option Addr} (h : IsNone w pp) : Calls Try.prog 74 #[.pointer pp] w fun e w' => e = .returned (.tuple #[.int .i64 0, .int .i64 1]) ∧ w' = w := by
  go_enter Try.func74, Try.ntmps74
  go_wp2_with fail
  refine (snone_nil h).mono ?_
  rintro e w1 ⟨rfl, rfl⟩
  go_wp2_with fail
  go_ret2
  exact ⟨rfl, rfl⟩
set_option maxRecDepth 100000 in
set_option maxHeartbeats 400000 in
theorem sLeast_nil {w : World} {pp : Option Addr} (h : IsNone w pp) : Calls Try.prog 82 #[.pointer pp] w fun e w' => e = .returned (.tuple #[.pointer none, .int .i64 1]) ∧ w' = w := by
  go_enter Try.func82, Try.ntmps82
  go_wp2_with fail
  refine (snone_nil h).mono ?_
  rintro e w1 ⟨rfl, rfl⟩
  go_wp2_with fail
  go_ret2
  exact ⟨rfl, rfl⟩
set_option maxRecDepth 100000 in
set_option maxHeartbeats 400000 in
theorem sMost_nil {w : World} {pp : Option Addr} (h : IsNone w pp) : Calls Try.prog 83 #[.pointer pp] w fun e w' => e = .returned (.tuple #[.pointer none, .int .i64 1]) ∧ w' = w := by
  go_enter Try.func83, Try.ntmps83
  go_wp2_with fail
  refine (snone_nil h).mono ?_
  rintro e w1 ⟨rfl, rfl⟩
  go_wp2_with fail
  go_ret2
  exact ⟨rfl, rfl⟩
set_option maxRecDepth 100000 in
set_option maxHeartbeats 400000 in
theorem sNumber_nil {w : World} {pp : Option Addr} (h : IsNone w pp) {oa : Option Addr} {n c : Nat} : Calls Try.prog 76 #[.pointer pp, .agg #[.slice oa n c]] w fun e w' => e = .returned (.tuple #[.int .i64 0, .int .i64 1]) ∧ Below w.heap.size w w' := by
  obtain ⟨w1, hw1⟩ : ∃ W : World, W = w.alloc (.cells #[.slice oa n c] 72) := ⟨_, rfl⟩
  have hb1 : Below w.heap.size w w1 := by rw [hw1]; exact (Below.refl _ _).alloc (Nat.le_refl _) _
  have h1 : w1.heap[w.heap.size]? = some (.cells #[.slice oa n c] 72 (0, 0)) := by rw [hw1]; exact alloc_cells _ _ _
  have c1 : w1.cell? ⟨w.heap.size, 0, none⟩ = some (.slice oa n c) := cell_of h1 rfl
  have H := Lib.hid (And.intro (h.below hb1) hb1)
  clear h hb1 h1
  go_enter Try.func76, Try.ntmps76
  go_upto_region 1 with fail
  rw [← hw1]
  clear hw1
  go_wp2_with fail
  refine (sright_nil H.out.1 _ ⟨oa, n, c, rfl⟩).mono ?_
  rintro e w2 ⟨rfl, hb2⟩
  go_wp2_with fail
  go_ret2
  exact ⟨rfl, H.out.2.trans (hb2.mono H.out.2.size)⟩
set_option maxRecDepth 100000 in
set_option maxHeartbeats 400000 in
theorem sPlain_nil {w : World} {pp : Option Addr} (h : IsNone w pp) {oa : Option Addr} {n c : Nat} : Calls Try.prog 75 #[.pointer pp, .agg #[.slice oa n c]] w fun e w' => e = .returned (.tuple #[.agg #[.slice none 0 0], .int .i64 1]) ∧ Below w.heap.size w w' := by
  obtain ⟨w1, hw1⟩ : ∃ W : World, W = (w.alloc (.cells #[.slice oa n c] 72)).alloc (.cells #[.slice none 0 0] 72) := ⟨_, rfl⟩
  obtain ⟨b3, hb3⟩ : ∃ b, b = w.heap.size := ⟨_, rfl⟩
  obtain ⟨b4, hb4⟩ : ∃ b, b = w.heap.size + 1 := ⟨_, rfl⟩
  have hb1 : Below w.heap.size w w1 := by rw [hw1]; exact ((Below.refl _ _).alloc (Nat.le_refl _) _).alloc (by simp) _
  have h3 : w1.heap[b3]? = some (.cells #[.slice oa n c] 72 (0, 0)) := by
    rw [hw1, hb3]
    exact (Below.heap_alloc _ _ _ (by simp)).trans (alloc_cells _ _ _)
  have h4 : w1.heap[b4]? = some (.cells #[.slice none 0 0] 72 (0, 0)) := by
    rw [hw1, hb4]
    have := alloc_cells (w.alloc (.cells #[.slice oa n c] 72)) #[.slice none 0 0] 72
    rwa [World.size_alloc] at this
  have c3 : w1.cell? ⟨b3, 0, none⟩ = some (.slice oa n c) := cell_of h3 rfl
  have H := Lib.hid (And.intro (h.below hb1) (And.intro hb1 (And.intro h4 (show w.heap.size ≤ b4 by omega))))
  clear h hb1 h3 h4
  go_enter Try.func75, Try.ntmps75
  go_upto_region 1 with fail
  rw [← hw1, ← hb4, ← hb3]
  clear hw1 hb3 hb4
  go_wp2_with fail
  refine (sright_nil H.out.1 _ ⟨oa, n, c, rfl⟩).mono ?_
  rintro e w2 ⟨rfl, hb2⟩
  have h42 := (hb2.block b4 (Array.getElem?_eq_some_iff.1 H.out.2.2.1).1).trans H.out.2.2.1
  have c4 : w2.cell? ⟨b4, 0, none⟩ = some (.slice none 0 0) := cell_of h42 rfl
  have z4 : w2.frozen? ⟨b4, 0, none⟩ = false := free_of h42 _
  have HB := Lib.hid (And.intro (H.out.2.1.trans (hb2.mono H.out.2.1.size)) h42)
  clear hb2 h42
  go_wp2_with fail
  have hrr := cell_of (i := 0) (v := .slice none 0 0) (heap_setCell_here (i := 0) (.slice none 0 0) HB.out.2) rfl
  exact bodyPost_ret (v := .tuple #[.agg #[.slice none 0 0], .int .i64 1]) (by simp [results, Try.results75, go_sem, hrr]) rfl ⟨rfl, HB.out.1.setCell (p := ⟨b4, 0, none⟩) H.out.2.2.2 _⟩
set_option maxRecDepth 100000 in
set_option maxHeartbeats 400000 in
theorem sAt_nil {w : World} {pp : Option Addr} (h : IsNone w pp) (x : Int) : Calls Try.prog 77 #[.pointer pp, .int .i64 x] w fun e w' => e = .returned (.tuple #[.agg #[.slice none 0 0], .int .i64 1]) ∧ Below w.heap.size w w' := by
  obtain ⟨w1, hw1⟩ : ∃ W : World, W = (w.alloc (.cells #[.int .i64 x] 2)).alloc (.cells #[.slice none 0 0] 72) := ⟨_, rfl⟩
  obtain ⟨b3, hb3⟩ : ∃ b, b = w.heap.size := ⟨_, rfl⟩
  obtain ⟨b4, hb4⟩ : ∃ b, b = w.heap.size + 1 := ⟨_, rfl⟩
  have hb1 : Below w.heap.size w w1 := by rw [hw1]; exact ((Below.refl _ _).alloc (Nat.le_refl _) _).alloc (by simp) _
  have h4 : w1.heap[b4]? = some (.cells #[.slice none 0 0] 72 (0, 0)) := by
    rw [hw1, hb4]
    have := alloc_cells (w.alloc (.cells #[.int .i64 x] 2)) #[.slice none 0 0] 72
    rwa [World.size_alloc] at this
  have c4 : w1.cell? ⟨b4, 0, none⟩ = some (.slice none 0 0) := cell_of h4 rfl
  have z4 : w1.frozen? ⟨b4, 0, none⟩ = false := free_of h4 _
  have H := Lib.hid (And.intro (h.below hb1) (And.intro hb1 (And.intro h4 (show w.heap.size ≤ b4 by omega))))
  clear h hb1 h4
  refine (callsIn_wide (n := 8)).1 ?_
  have f1 : Fence.wide.fn 133 := trivial
  refine callsIn_of_wp_marks Try.func77 rfl trivial ?_ rfl
  simp only [Try.ntmps77, List.size_toArray, List.length_cons, List.length_nil, Nat.reduceAdd, Nat.reduceSub, Array.replicate_succ, Array.replicate_zero, List.push_toArray, List.append_toArray, List.nil_append, List.cons_append]
  gi_upto_region 1 with fail
  rw [← hw1, ← hb4, ← hb3]
  clear hw1 hb3 hb4
  gi_wp2_with fail
  refine (callsIn_wide.2 (snone_nil H.out.1)).mono ?_
  rintro e w2 ⟨rfl, hw2⟩
  obtain rfl := hw2.symm
  gi_wp2_with fail
  have hrr := cell_of (i := 0) (v := .slice none 0 0) (heap_setCell_here (i := 0) (.slice none 0 0) H.out.2.2.1) rfl
  exact ⟨.tuple #[.agg #[.slice none 0 0], .int .i64 1], by simp [results, Try.results77, go_sem, hrr], rfl, H.out.2.1.setCell (p := ⟨b4, 0, none⟩) H.out.2.2.2 _⟩
end Go.Proofs.Ytmkjejngnahpeaa
/- stops: All and Images of no disk: nothing comes. -/
namespace Go.Proofs.Ytmkjejngnahpeaa
open Go Go.Maps Go.RowKit Go.Shelf
attribute [local go_sem] Oper.semAt_some

theorem below_grew {W W' : World} (h : Below W.heap.size W W') : W.grownBy W' none := ⟨h.os, h.tape, h.output, h.size, fun k hk _ => h.block k hk⟩
/-- an iterator over no ways -/
def NoWays (w : World) (v : Value) (b3 : Nat) : Prop := ∃ b4, v = .func (.func 141) #[] #[.pointer (some ⟨b3, 0, none⟩), .pointer (some ⟨b4, 0, none⟩)] ∧ w.heap[b3]? = some (.cells #[.bool false] 4 (0, 0))
set_option maxRecDepth 100000 in
set_option maxHeartbeats 400000 in
theorem sAll_nil {w : World} {pp : Option Addr} (h : IsNone w pp) : Calls Try.prog 80 #[.pointer pp] w fun e w' => ∃ v b3, e = .returned v ∧ NoWays w' v b3 ∧ w.heap.size ≤ b3 ∧ Below w.heap.size w w' := by
  go_enter Try.func80, Try.ntmps80
  go_wp2_with fail
  refine (snone_nil h).mono ?_
  rintro e w1 ⟨rfl, hw1⟩
  obtain rfl := hw1.symm
  go_upto_region 3 with fail
  obtain ⟨w2, hw2⟩ : ∃ W : World, W = (w.alloc (.cells #[.bool false] 4)).alloc (.cells #[.slice none 0 0] 206) := ⟨_, rfl⟩
  obtain ⟨b3, hb3⟩ : ∃ b, b = w.heap.size := ⟨_, rfl⟩
  obtain ⟨b4, hb4⟩ : ∃ b, b = w.heap.size + 1 := ⟨_, rfl⟩
  have hb2 : Below w.heap.size w w2 := by rw [hw2]; exact ((Below.refl _ _).alloc (Nat.le_refl _) _).alloc (by simp) _
  have h3 : w2.heap[b3]? = some (.cells #[.bool false] 4 (0, 0)) := by
    rw [hw2, hb3]
    exact (Below.heap_alloc _ _ _ (by simp)).trans (alloc_cells _ _ _)
  have c3 : w2.cell? ⟨b3, 0, none⟩ = some (.bool false) := cell_of h3 rfl
  have H := Lib.hid (And.intro h3 (And.intro hb2 (show w.heap.size ≤ b3 by omega)))
  rw [← hw2, ← hb4, ← hb3]
  clear hw2 hb3 hb4 h3 hb2 h
  go_wp2_with fail
  go_ret
  exact ⟨_, b3, rfl, ⟨b4, rfl, H.out.1⟩, H.out.2.2, H.out.2.1⟩
set_option maxRecDepth 100000 in
set_option maxHeartbeats 400000 in
theorem noways_in (F : Fence) (n : Nat) (h7 : F.fn 141) (hro : F.round = none) (l b3 b4 : Nat) (J : List Unit → World → Prop) (W : World) (hc : W.cell? ⟨b3, 0, none⟩ = some (.bool false)) (h0 : J [] W) :
    CallsIn F n Try.prog 141 #[.func (.yield l) #[] #[], .pointer (some ⟨b3, 0, none⟩), .pointer (some ⟨b4, 0, none⟩)] W fun e W' => (∃ v, e = .returned v) ∧ J [] W' := by
  refine callsIn_of_wp Try.func141 rfl h7 ?_ hro
  simp only [Try.ntmps141, List.size_toArray, List.length_cons, List.length_nil, Nat.reduceAdd, Nat.reduceSub, Array.replicate_succ, Array.replicate_zero, List.push_toArray, List.append_toArray, List.nil_append, List.cons_append]
  gi_wp2
  refine bodyPost_ret (results_none rfl _ _ _) rfl ?_
  exact ⟨⟨_, rfl⟩, h0⟩
theorem noways_stops (F : Fence) (n : Nat) (h7 : F.fn 141) (hro : F.round = none) (b3 b4 n₀ : Nat) (w : World) (hb : b3 < w.heap.size) (hc : w.cell? ⟨b3, 0, none⟩ = some (.bool false)) :
    SeqStopsK F n Try.prog 141 #[.pointer (some ⟨b3, 0, none⟩), .pointer (some ⟨b4, 0, none⟩)] (fun _ : Unit => #[.agg #[.slice none 0 0]]) (Below n₀) (fun ys => ys = []) (fun _ => False) 0 w := fun l J _ W hW _ _ _ h0 =>
  (noways_in F n h7 hro l b3 b4 J W ((hW.cell (p := ⟨b3, 0, none⟩) hb).trans hc) h0).mono fun _ _ ⟨he, hj⟩ => ⟨he, .inl ⟨_, rfl, hj⟩⟩
theorem noways_stops0 (F : Fence) (n : Nat) (h7 : F.fn 141) (hro : F.round = none) (b3 b4 n₀ : Nat) (w : World) (hb : b3 < w.heap.size) (hc : w.cell? ⟨b3, 0, none⟩ = some (.bool false)) :
    SeqStopsK F n Try.prog 141 #[.pointer (some ⟨b3, 0, none⟩), .pointer (some ⟨b4, 0, none⟩)] (fun _ : Unit => #[undef]) (Below n₀) (fun ys => ys = []) (fun _ => False) 0 w := fun l J _ W hW _ _ _ h0 =>
  (noways_in F n h7 hro l b3 b4 J W ((hW.cell (p := ⟨b3, 0, none⟩) hb).trans hc) h0).mono fun _ _ ⟨he, hj⟩ => ⟨he, .inl ⟨_, rfl, hj⟩⟩
/-- an iterator over no images -/
def NoImages (w : World) (v : Value) : Prop := ∃ bs bm b3 va, v = .func (.func 142) #[] #[.pointer (some ⟨bs, 0, none⟩), .pointer (some ⟨bm, 0, none⟩)] ∧ w.heap[bs]? = some (.cells #[va] 140 (0, 0)) ∧ NoWays w va b3
theorem NoWays.below {w w' : World} {v : Value} {b3 : Nat} (h : NoWays w v b3) (hb : Below w.heap.size w w') : NoWays w' v b3 := by
  obtain ⟨b4, h1, h2⟩ := h
  exact ⟨b4, h1, (hb.block b3 (Array.getElem?_eq_some_iff.1 h2).1).trans h2⟩
theorem NoImages.below {w w' : World} {v : Value} (h : NoImages w v) (hb : Below w.heap.size w w') : NoImages w' v := by
  obtain ⟨bs, bm, b3, va, h1, h2, h3⟩ := h
  exact ⟨bs, bm, b3, va, h1, (hb.block bs (Array.getElem?_eq_some_iff.1 h2).1).trans h2, h3.below hb⟩
set_option maxRecDepth 100000 in
set_option maxHeartbeats 400000 in
theorem sImages_nil {w : World} {pp : Option Addr} (h : IsNone w pp) : Calls Try.prog 81 #[.pointer pp] w fun e w' => ∃ v, e = .returned v ∧ NoImages w' v ∧ Below w.heap.size w w' := by
  go_enter Try.func81, Try.ntmps81
  go_wp2_with fail
  refine (sAll_nil h).mono ?_
  rintro e w1 ⟨va, b3, rfl, hn, -, hb1⟩
  obtain ⟨b4, rfl, hn3⟩ := hn
  obtain ⟨w2, hw2⟩ : ∃ W : World, W = w1.alloc (.cells #[.func (.func 141) #[] #[.pointer (some ⟨b3, 0, none⟩), .pointer (some ⟨b4, 0, none⟩)]] 140) := ⟨_, rfl⟩
  obtain ⟨bs, hbs⟩ : ∃ b, b = w1.heap.size := ⟨_, rfl⟩
  have hs2 : w2.heap[bs]? = some (.cells #[.func (.func 141) #[] #[.pointer (some ⟨b3, 0, none⟩), .pointer (some ⟨b4, 0, none⟩)]] 140 (0, 0)) := by rw [hw2, hbs]; exact alloc_cells _ _ _
  have hb12 : Below w1.heap.size w1 w2 := by rw [hw2]; exact (Below.refl _ _).alloc (Nat.le_refl _) _
  have H := Lib.hid (And.intro ((h.below hb1).below hb12) (And.intro hs2 (And.intro ((hb12.block b3 (Array.getElem?_eq_some_iff.1 hn3).1).trans hn3) (hb1.trans (hb12.mono hb1.size)))))
  clear hs2 hb12 hn3 hb1 h
  go_upto_region 2 with fail
  rw [← hw2, ← hbs]
  clear hw2 hbs
  go_wp2_with fail
  refine (copy_nil H.out.1).mono ?_
  rintro e w3 ⟨rfl, hw3⟩
  obtain rfl := hw3.symm
  go_wp2_with fail
  go_ret
  have hb23 : Below w2.heap.size w2 (w2.alloc (.cells #[.pointer none] 37)) := (Below.refl _ _).alloc (Nat.le_refl _) _
  exact ⟨_, rfl, ⟨bs, w2.heap.size, b3, _, rfl, (hb23.block bs (Array.getElem?_eq_some_iff.1 H.out.2.1).1).trans H.out.2.1, ⟨b4, rfl, (hb23.block b3 (Array.getElem?_eq_some_iff.1 H.out.2.2.1).1).trans H.out.2.2.1⟩⟩, H.out.2.2.2.trans (hb23.mono H.out.2.2.2.size)⟩
set_option maxRecDepth 100000 in
set_option maxHeartbeats 1000000 in
theorem noimages_in (F : Fence) (n : Nat) (hn : 3 ≤ n) (h7 : F.fn 141) (h8 : F.fn 142) (hro : F.round = none) (l bs bm b3 b4 : Nat) (J : List Unit → World → Prop) (W : World) (hJ : AbidesFrom W.heap.size J) (hs : W.heap[bs]? = some (.cells #[.func (.func 141) #[] #[.pointer (some ⟨b3, 0, none⟩), .pointer (some ⟨b4, 0, none⟩)]] 140 (0, 0))) (hc : W.heap[b3]? = some (.cells #[.bool false] 4 (0, 0))) (h0 : J [] W) :
    CallsIn F n Try.prog 142 #[.func (.yield l) #[] #[], .pointer (some ⟨bs, 0, none⟩), .pointer (some ⟨bm, 0, none⟩)] W fun e W' => (∃ v, e = .returned v) ∧ J [] W' := by
  refine callsIn_of_wp_marks Try.func142 rfl h8 ?_ hro
  simp only [Try.ntmps142, List.size_toArray, List.length_cons, List.length_nil, Nat.reduceAdd, Nat.reduceSub, Array.replicate_succ, Array.replicate_zero, List.push_toArray, List.append_toArray, List.nil_append, List.cons_append]
  obtain ⟨w1, hw1⟩ : ∃ V : World, V = W.alloc (.cells #[.func (.yield l) #[] #[]] 219) := ⟨_, rfl⟩
  have hb1 : Below W.heap.size W w1 := by rw [hw1]; exact (Below.refl _ _).alloc (Nat.le_refl _) _
  have c1 : w1.cell? ⟨bs, 0, none⟩ = some (.func (.func 141) #[] #[.pointer (some ⟨b3, 0, none⟩), .pointer (some ⟨b4, 0, none⟩)]) := cell_of ((hb1.block bs (Array.getElem?_eq_some_iff.1 hs).1).trans hs) rfl
  rw [hw1] at c1
  have hc1 := (hb1.block b3 (Array.getElem?_eq_some_iff.1 hc).1).trans hc
  have HB1 := Lib.hid (And.intro hb1 hc1)
  have HJ := Lib.hid hJ
  have H0 := Lib.hid h0
  clear hb1 hc1 hJ h0 hs hc
  gi_wp2_with fail
  rw [← hw1]
  clear c1
  have hstp := noways_stops F (n - 1) h7 hro b3 b4 w1.heap.size w1 (Array.getElem?_eq_some_iff.1 HB1.out.2).1 (cell_of HB1.out.2 rfl)
  have hq0 : OwnFrom w1.heap.size (fun (_ : List Unit) V => Below w1.heap.size w1 V) := ownFrom_below (Nat.le_refl _) (Nat.le_refl _)
  refine wpIn_rangeFunc_fresh (n := n) (α := Unit) hro (by omega) (gf := 141) (lb := #[.pointer (some ⟨b3, 0, none⟩), .pointer (some ⟨b4, 0, none⟩)]) rfl h7 (enters_of Try.func141 (by kernel_rfl) rfl) hstp (fun h k => h.trans k) (belowK_b (Nat.le_refl _)) (fun V o hV => (Below.refl _ _).alloc hV _) (Below.refl _ _) (fun _ => rfl)
    (fun _ V => Below w1.heap.size w1 V) (fun _ _ _ => False) hq0 (fun _ => fun _ _ _ _ hs _ _ => hs) (Below.refl _ _) (fun _ V h => h.size)
    72 (fun _ => #[.slice none 0 0]) ?A ?assign ?body ?done ?stop
  case assign =>
    intro l' x V K B hB hK
    gi_wp2_with fail
    rw [← hB]
    exact hK
  case body =>
    rintro l' pre x B V hl hlr hp hB hx hlen
    exact absurd hlen (Nat.not_lt_zero _)
  case stop =>
    rintro D c pre V _ h0 _ _
    exact h0.elim
  case done =>
    rintro D ys V hD rfl hBV hK
    gi_wp2_with fail
    refine ⟨by simp, .inl ⟨_, _, rfl, run_takeDeferred hK, ?_⟩⟩
    refine ⟨_, results_none rfl _ _ _, ⟨_, rfl⟩, ?_⟩
    have hg := grownBy_putObj' V D (.deferred none)
    have hbz : Below W.heap.size W (V.putObj D (.deferred none)) := (HB1.out.1.trans (hBV.mono HB1.out.1.size)).grown hg (by have := HB1.out.1.size; have := hBV.size; omega) (fun k e => by
      simp only [Option.some.injEq] at e
      have := HB1.out.1.size
      omega)
    exact HJ.out _ _ _ none H0.out (below_grew hbz) (fun r e => by cases e)
theorem noimages_stops (F : Fence) (n : Nat) (hn : 3 ≤ n) (h7 : F.fn 141) (h8 : F.fn 142) (hro : F.round = none) (bs bm b3 b4 n₀ : Nat) (w : World) (hs : w.heap[bs]? = some (.cells #[.func (.func 141) #[] #[.pointer (some ⟨b3, 0, none⟩), .pointer (some ⟨b4, 0, none⟩)]] 140 (0, 0))) (hc : w.heap[b3]? = some (.cells #[.bool false] 4 (0, 0))) :
    SeqStopsK F n Try.prog 142 #[.pointer (some ⟨bs, 0, none⟩), .pointer (some ⟨bm, 0, none⟩)] (fun _ : Unit => #[undef, undef]) (Below n₀) (fun ys => ys = []) (fun _ => False) 0 w := fun l J _ W hW hJ _ _ h0 =>
  (noimages_in F n hn h7 h8 hro l bs bm b3 b4 J W hJ ((hW.block bs (Array.getElem?_eq_some_iff.1 hs).1).trans hs) ((hW.block b3 (Array.getElem?_eq_some_iff.1 hc).1).trans hc) h0).mono fun _ _ ⟨he, hj⟩ => ⟨he, .inl ⟨_, rfl, hj⟩⟩
end Go.Proofs.Ytmkjejngnahpeaa
