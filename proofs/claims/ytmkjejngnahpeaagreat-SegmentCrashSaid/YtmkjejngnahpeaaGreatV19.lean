/- The texts Zg in one. -/
import Derived.Test.YtmkjejngnahpeaaGreatV17
import Derived.Deep.CutRange
import Derived.IntWalk
import Derived.BigQuiet
import Derived.BigRegion
import Derived.DeepKeys
import Derived.Test.YtmkjejngnahpeaaGreatV18
import Derived.Lib.QuietBelowIn
import Derived.Sort.QuietTacIn
import Derived.Deep.RegionLaw
import Derived.Deep.QuietTactic
/- law10: SegmentCrash, the walk. -/
namespace Go.Proofs.YtmkjejngnahpeaaGreat
open Go Go.RowKit Go.Shelf Go.Sort
attribute [local go_sem] Oper.semAt_some

theorem info_sl : (Tryz.prog.info? 28).map (fun i => (i.zero, i.size, i.bytes)) = some (some (.slice none 0 0), 1, 24) := by kernel_rfl
/-- a slice is appended, within a region that draws its order -/
theorem step_list {V : World} {ops : Array Oper} {o : Oper} {a : Act} {K : Act → World → Prop} {Q : Exit → Act → World → Prop} {E : Prop}
    (hg : o.guard = none) (s x : Operand) (ho : o.op = .call { callee := .builtin .append, args := #[s, x], argTypes := #[22, 22] })
    {oa : Option Addr} {m c : Nat} {vs : List Value} (h : rowAt V 28 1 (.slice oa m c) m vs) {ob oy : Option Addr} {d ny cy : Nat} (hy : readAt V 1 (.slice ob 1 d) 1 [.slice oy ny cy]) (hm : m ≤ 1000000)
    (hs : a.eval s = .slice oa m c) (hx : a.eval x = .slice ob 1 d)
    (hK : ∀ oa3 c3 w3, Hid (rowAt w3 28 1 (.slice oa3 (m + 1) c3) (m + 1) (vs ++ [.slice oy ny cy]) ∧ V.grownBy w3 (Value.slice oa m c).ownBlock ∧ ((Value.slice oa3 (m + 1) c3).ownBlock = (Value.slice oa m c).ownBlock ∨ (Value.slice oa3 (m + 1) c3).ownBlock = some V.heap.size)) → K (a.put o.dst (.slice oa3 (m + 1) c3)) w3) :
    if Region.wanted o (yielded ops a.tmps) = true then Oper.wp Tryz.prog o a V K Q else E := by
  have hw : Region.wanted o (yielded ops a.tmps) = true := by simp [Region.wanted, hg]
  rw [if_pos hw]
  have hone : ∀ v ∈ [(.slice oy ny cy : Value)], v.oneCell' = true := fun v hv => by
    rw [List.mem_singleton] at hv
    subst hv
    rfl
  obtain ⟨i, hi, hz, hsz, hby⟩ := info_parts info_sl
  obtain ⟨v', w', hrun, r1, r2, r3, r4⟩ := run_append_at (P := Tryz.prog) V 22 22 o.type 28 i _ 1 24 Tryz.underlying22 hi hz hsz hby rfl _ m _ h _ 1 _ (Src.of_read Tryz.underlying22 hy hone) (by unfold maxLen; omega) (by omega)
  obtain ⟨oa3, c3, rfl, _⟩ := r1.shape
  unfold Oper.wp
  simp [execOp, ho, resolve, invoke, builtin, hs, hx, hrun, Result.andThen]
  exact hK oa3 c3 w' (Lib.hid ⟨r1, r2, r3⟩)
theorem ballocd (w : World) (o : Obj) : Below w.heap.size w ((w.alloc o).drew) := ((Below.refl _ _).alloc (Nat.le_refl _) o).trans ((bdrew (w.alloc o)).mono (by simp))
theorem list_row0 (w : World) (v : Value) : readAt (w.alloc (.cells #[v] 28)) 1 (.slice (some ⟨w.heap.size, 0, none⟩) 1 1) 1 [v] := (one_rowR w 28 1 [v] rfl).read
theorem list_row1 (w : World) (v : Value) : readAt (w.drew.alloc (.cells #[v] 28)) 1 (.slice (some ⟨w.heap.size, 0, none⟩) 1 1) 1 [v] := list_row0 w.drew v
theorem list_row2 (w : World) (v : Value) : readAt ((w.alloc (.cells #[v] 28)).drew) 1 (.slice (some ⟨w.heap.size, 0, none⟩) 1 1) 1 [v] := (list_row0 w v).kept (fun _ _ _ _ => rfl)
theorem wf_smallR {a : Int} (h0 : 0 ≤ a) (h1 : a ≤ 4611686018427387904) : (Lit.int .i64 a).wf = true := by
  have e1 : IntKind.i64.min = -9223372036854775808 := by decide
  have e2 : IntKind.i64.max = 9223372036854775807 := by decide
  simp only [Lit.wf, Bool.and_eq_true, decide_eq_true_eq]
  omega
theorem k_intR (a : Int) (hs : (Lit.int .i64 a).wf = true) : Tryz.prog.keyLits 9 3 [.int .i64 a] = some [.int .i64 a] := by
  unfold Program.keyLits
  rw [Tryz.underlying3]
  exact if_pos ⟨rfl, hs⟩
theorem k_i64R (a : Int) (hs : (Lit.int .i64 a).wf = true) : Tryz.prog.keyLits 9 2 [.int .i64 a] = some [.int .i64 a] := by
  unfold Program.keyLits
  rw [Tryz.underlying2]
  exact if_pos ⟨rfl, hs⟩
theorem k_whyR (a : Int) (hs : (Lit.int .i64 a).wf = true) : Tryz.prog.keyLits 9 30 [.int .i64 a] = some [.int .i64 a] := by
  unfold Program.keyLits
  rw [Tryz.underlying30]
  exact if_pos ⟨rfl, hs⟩
theorem cl_foundR : Tryz.prog.cellsOf 47 = 4 := by kernel_rfl
theorem cl_intR : Tryz.prog.cellsOf 3 = 1 := by kernel_rfl
theorem cl_i64R : Tryz.prog.cellsOf 2 = 1 := by kernel_rfl
theorem cl_whyR : Tryz.prog.cellsOf 30 = 1 := by kernel_rfl
theorem found_key (a b c y : Int) (ha : (Lit.int .i64 a).wf = true) (hb : (Lit.int .i64 b).wf = true) (hc : (Lit.int .i64 c).wf = true) (hy : (Lit.int .i64 y).wf = true) : Tryz.prog.keyLits 10 47 [.int .i64 a, .int .i64 b, .int .i64 c, .int .i64 y] = some [.int .i64 a, .int .i64 b, .int .i64 c, .int .i64 y] := by
  obtain ⟨K, hK⟩ : ∃ K, Tryz.prog.keyLits 9 = K := ⟨_, rfl⟩
  have e1 := k_intR a ha
  have e2 := k_i64R b hb
  have e3 := k_intR c hc
  have e4 := k_whyR y hy
  rw [hK] at e1 e2 e3 e4
  unfold Program.keyLits
  rw [Tryz.underlying47, hK]
  dsimp only
  rw [if_pos ⟨by rw [cl_foundR]; rfl, by kernel_rfl⟩]
  simp only [List.mapM_cons, List.mapM_nil, cl_intR, cl_i64R, cl_whyR, List.drop_zero, List.drop_succ_cons, List.take_succ_cons, List.take_zero, e1, e2, e3, e4]
  rfl
theorem found_ne (a b c : Nat) (y : Int) (ha : (Lit.int .i64 (a : Int)).wf = true) (hb : (Lit.int .i64 (b : Int)).wf = true) (hc : (Lit.int .i64 (c : Int)).wf = true) (hy : (Lit.int .i64 y).wf = true) (V : World) : (binOp .neq 47 (.agg #[.int .i64 (a : Int), .int .i64 (b : Int), .int .i64 (c : Int), .int .i64 y]) (.agg #[.int .i64 (a : Int), .int .i64 (b : Int), .int .i64 (c : Int), .int .i64 y])).run Tryz.prog V = .ok (.bool false) V := by
  obtain ⟨r, g1, g2⟩ := run_equalIn_deep (P := Tryz.prog) 9995 5 47 (by kernel_rfl) V 10 10 (.agg #[.int .i64 (a : Int), .int .i64 (b : Int), .int .i64 (c : Int), .int .i64 y]) (.agg #[.int .i64 (a : Int), .int .i64 (b : Int), .int .i64 (c : Int), .int .i64 y]) _ _ (by kernel_rfl) (by kernel_rfl) (found_key a b c y ha hb hc hy) (found_key a b c y ha hb hc hy)
  obtain rfl := g2.2 rfl
  have g3 : (Op.equal 47 (.agg #[.int .i64 (a : Int), .int .i64 (b : Int), .int .i64 (c : Int), .int .i64 y]) (.agg #[.int .i64 (a : Int), .int .i64 (b : Int), .int .i64 (c : Int), .int .i64 y])).run Tryz.prog V = .ok true V := g1
  simp [binOp, go_sem, g3]
theorem wpIn_region_below_ndR {F : Fence} {n : Nat} {P : Program} {id : Nat} {Q : Exit → Act → World → Prop} {a : Act} {w : World} {l : List Oper} (hnd : l.all noDefer = true) (hm : P.follows .mixedOrders = true) (hB : Region.lexB .any l.toArray = true)
    (h : wpQuietIn F n P l.toArray (fun w' => ∃ p : Regrown, w' = grow (redrawn w p.d) p.os) (fun a' => ∀ w', (∃ p : Regrown, w' = grow (redrawn w p.d) p.os) → Q .normal a' w') l a) : (Code.region id l.toArray true).wpIn F n P Q a w := by
  simp only [Region.lexB, Bool.and_eq_true] at hB
  refine wpIn_region_any hm (wpAnyIn_of_quiet_nd (C := fun w' => ∃ p : Regrown, w' = grow (redrawn w p.d) p.os) (Q := fun a' => ∀ w', (∃ p : Regrown, w' = grow (redrawn w p.d) p.os) → Q .normal a' w') (fun o ho => List.all_eq_true.1 hnd o (by simpa using ho)) (fun _ w' hw' h => h w' hw') _ _ _ _ ⟨⟨w.drawn + 1, #[]⟩, by rw [grow_empty]; rfl⟩ ?_)
  have := wpAnyQIn_lex (F := F) (n := n) (C := fun w' => ∃ p : Regrown, w' = grow (redrawn w p.d) p.os) (md := .any) hB.1 l.toArray.toList 0 (Array.replicate l.toArray.size false) a (by simp) (by simpa using hB.2) (by simpa using h)
  simpa using this
/-- what stands at a round's head: the counter's box -/
structure KI (w4 W : World) (b : Nat) (T : Nat → Prop) (j : Nat) : Prop where
  below : Below w4.heap.size w4 W
  box : W.heap[b]? = some (.cells #[.int .i64 (j : Int)] 3 (0, 0))
  low : ∀ k, T k → b < k
  at' : b = w4.heap.size
theorem KI.kept {w4 A B : World} {b j : Nat} {T X : Nat → Prop} (h : KI w4 A b T j) (ho : Only X A B) (hX : ∀ k, X k → b < k) : KI w4 B b T j :=
  ⟨h.below.trans (ho.below (fun i hi e => by have := hX i e; have := h.at'; omega) h.below.size), (ho.block _ (Array.getElem?_eq_some_iff.1 h.box).1 (fun e => by have := hX _ e; omega)).trans h.box, h.low, h.at'⟩
theorem KI.later {w4 A B : World} {b j : Nat} {T : Nat → Prop} (h : KI w4 A b T j) (hb : Below A.heap.size A B) : KI w4 B b T j :=
  h.kept (Only.of_below hb (Nat.le_refl _) (fun _ => False)) (fun _ hf => hf.elim)
/-- what an Append left, its error told -/
def AppQ (w2 w : World) (S : Nat → Prop) (s x q : Nat) (nm : ByteArray) (bn : Nat) (sv : Value) (bs : List Bat) (st : Nat) (l : List Rc) (r : Int) (w' : World) : Prop :=
  (r ≠ 0 ∧ ∃ S', SegC w2 w' S' s x q nm bn sv bs st ∧ (∀ k, segX S' s x sv k → segX S s x sv k ∨ w.heap.size ≤ k) ∧ Only (segX S s x sv) w w') ∨
  (r = 0 ∧ ∃ S' sv' bse, SegC w2 w' S' s x q nm bn sv' (bs ++ [(bse, l)]) st ∧ (∀ k, segX S' s x sv' k → segX S s x sv k ∨ w.heap.size ≤ k) ∧ Only (segX S s x sv) w w')
set_option maxRecDepth 100000 in
set_option maxHeartbeats 16000000 in
theorem segCrash_walk {w : World} {base sy : Int} {oL oP : Option Addr} {nL cL nP cP : Nat} {ll : List (List Rc)} {ps : List Int} (hL : ListsAt w (.slice oL nL cL) ll) (hnL : ll.length = nL) (hP : readAt w 1 (.slice oP nP cP) nP (intCells ps)) (hnP : ps.length = nP)
    (hbase : -9223372036854775808 ≤ base ∧ base ≤ 9223372036854775807) (hpb : ∀ p ∈ ps, -9223372036854775808 ≤ p ∧ p ≤ 9223372036854775807) (hnm : nL ≤ 9223372036854775807) (hpm : nP ≤ 9223372036854775807) :
    Calls Tryz.prog 3 #[.agg #[.int .i64 base, .slice oL nL cL, .int .i64 sy, .slice oP nP cP]] w fun e w' => e = .returned (.bool true) ∧ Below w.heap.size w w' := by
  obtain ⟨w1, hw1⟩ : ∃ W : World, W = (w.alloc (.cells #[.int .i64 base, .slice oL nL cL, .int .i64 sy, .slice oP nP cP] 25)).alloc (.cells #[.bool false] 4) := ⟨_, rfl⟩
  obtain ⟨b1, hb1⟩ : ∃ b, b = w.heap.size := ⟨_, rfl⟩
  obtain ⟨b2, hb2⟩ : ∃ b, b = w.heap.size + 1 := ⟨_, rfl⟩
  have g1 : w1.heap[b1]? = some (.cells #[.int .i64 base, .slice oL nL cL, .int .i64 sy, .slice oP nP cP] 25 (0, 0)) := by
    rw [hw1, hb1]
    exact (Below.heap_alloc _ _ _ (by simp)).trans (alloc_cells _ _ _)
  have g2 : w1.heap[b2]? = some (.cells #[.bool false] 4 (0, 0)) := by
    rw [hw1, hb2]
    have := alloc_cells (w.alloc (.cells #[.int .i64 base, .slice oL nL cL, .int .i64 sy, .slice oP nP cP] 25)) #[.bool false] 4
    rwa [World.size_alloc] at this
  have hbl : Below w.heap.size w w1 := by rw [hw1]; exact ((Below.refl _ _).alloc (Nat.le_refl _) _).alloc (by simp) _
  have c0 : w1.cell? ⟨b1, 0, none⟩ = some (.int .i64 base) := cell_of g1 rfl
  have c1 : w1.cell? ⟨b1, 1, none⟩ = some (.slice oL nL cL) := cell_of g1 rfl
  have c2 : w1.cell? ⟨b1, 2, none⟩ = some (.int .i64 sy) := cell_of g1 rfl
  have c3 : w1.cell? ⟨b1, 3, none⟩ = some (.slice oP nP cP) := cell_of g1 rfl
  have HA := Lib.hid (And.intro (hL.below hbl) (And.intro hnL (And.intro (hP.kept (fun k hk _ _ => hbl.block k hk)) (And.intro hnP (And.intro hbase (And.intro hpb (And.intro hpm hnm)))))))
  have H1 := Lib.hid (And.intro g2 hbl)
  have HLO : Hid (w.heap.size ≤ b2) := Lib.hid (by omega)
  clear hL hnL hP hnP hbase hpb hpm hnm g1 g2 hbl
  refine (callsIn_wide (n := 8)).1 ?_
  have f1 : Fence.wide.fn 4 := trivial
  have f2 : Fence.wide.fn 5 := trivial
  have f3 : Fence.wide.fn 6 := trivial
  have f4 : Fence.wide.fn 7 := trivial
  have f5 : Fence.wide.fn 10 := trivial
  have f6 : Fence.wide.fn 9 := trivial
  have f7 : Fence.wide.fn 17 := trivial
  have f8 : Fence.wide.fn 11 := trivial
  have f9 : Fence.wide.fn 14 := trivial
  have f10 : Fence.wide.fn 15 := trivial
  have f11 : Fence.wide.fn 16 := trivial
  have f12 : Fence.wide.fn 18 := trivial
  have f13 : Fence.wide.fn 13 := trivial
  have f14 : Fence.wide.fn 8 := trivial
  have f15 : Fence.wide.fn 12 := trivial
  refine callsIn_of_wp_marks Tryz.func3 rfl trivial ?_ rfl
  simp only [Tryz.ntmps3, List.size_toArray, List.length_cons, List.length_nil, Nat.reduceAdd, Nat.reduceSub, Array.replicate_succ, Array.replicate_zero, List.push_toArray, List.append_toArray, List.nil_append, List.cons_append]
  gi_upto_region 1 with fail
  rw [← hw1, ← hb2, ← hb1]
  clear hw1 hb1 hb2
  gi_cut [3, 4, 5, 6] from 32 (fun s3 s4 s5 s6 wx => s3 = .int .i64 base ∧ s4 = .slice oL nL cL ∧ s5 = .int .i64 sy ∧ s6 = .slice oP nP cP ∧ Hid (Below w1.heap.size w1 wx))
  case first =>
    refine wpIn_wide.2 (wp_onlyR ?_)
    go_quiet (fail)
    all_goals
      go_wp2_with fail
      go_meet
      exact ⟨rfl, rfl, rfl, rfl, Lib.hid ⟨rfl, rfl, rfl, Nat.le_refl _, fun _ _ => rfl⟩⟩
  case rest =>
  obtain ⟨rfl, rfl, rfl, rfl, HB12⟩ := hcut
  clear c0 c1 c2 c3
  obtain ⟨w2, hw2⟩ : ∃ W : World, W = wc := ⟨_, rfl⟩
  rw [← hw2] at HB12 ⊢
  clear hw2
  have g2 := (HB12.out.block b2 (Array.getElem?_eq_some_iff.1 H1.out.1).1).trans H1.out.1
  have HBB := Lib.hid (And.intro g2 (H1.out.2.trans (HB12.out.mono H1.out.2.size)))
  have H2 := Lib.hid (And.intro (HA.out.1.below HB12.out) (And.intro (HA.out.2.2.1.kept (fun k hk _ _ => HB12.out.block k hk)) (Array.getElem?_eq_some_iff.1 g2).1))
  clear g2
  by_cases h20 : 20 < nL
  · have d20 : decide (20 < (nL : Int)) = true := decide_eq_true (by omega)
    gi_wp2_with fail
    refine (callsIn_wide.2 (known_any _)).mono ?_
    rintro e V2 ⟨rfl, hbk⟩
    have hr2 := (hbk.block b2 (Array.getElem?_eq_some_iff.1 HBB.out.1).1).trans HBB.out.1
    have hbw := HBB.out.2.trans (hbk.mono HBB.out.2.size)
    have HE := Lib.hid (And.intro hr2 hbw)
    have z2 : V2.frozen? ⟨b2, 0, none⟩ = false := free_of hr2 _
    have k2 : V2.cell? ⟨b2, 0, none⟩ = some (.bool false) := cell_of hr2 rfl
    clear hr2 hbw hbk
    gi_wp2_with fail
    have hr3 : (V2.setCell ⟨b2, 0, none⟩ (.bool true)).heap[b2]? = some (.cells #[.bool true] 4 (0, 0)) := heap_setCell_here _ HE.out.1
    have hcr := cell_of (i := 0) (v := .bool true) hr3 rfl
    exact ⟨.bool true, by simp [results, Tryz.results3, go_sem, hcr], rfl, HE.out.2.setCell (p := ⟨b2, 0, none⟩) (by show w.heap.size ≤ b2; exact HLO.out) _⟩
  have d20 : decide (20 < (nL : Int)) = false := decide_eq_false (by omega)
  by_cases h60 : 60 < nP
  · have d60 : decide (60 < (nP : Int)) = true := decide_eq_true (by omega)
    gi_wp2_with fail
    refine (callsIn_wide.2 (known_any _)).mono ?_
    rintro e V2 ⟨rfl, hbk⟩
    have hr2 := (hbk.block b2 (Array.getElem?_eq_some_iff.1 HBB.out.1).1).trans HBB.out.1
    have hbw := HBB.out.2.trans (hbk.mono HBB.out.2.size)
    have HE := Lib.hid (And.intro hr2 hbw)
    have z2 : V2.frozen? ⟨b2, 0, none⟩ = false := free_of hr2 _
    have k2 : V2.cell? ⟨b2, 0, none⟩ = some (.bool false) := cell_of hr2 rfl
    clear hr2 hbw hbk
    gi_wp2_with fail
    have hr3 : (V2.setCell ⟨b2, 0, none⟩ (.bool true)).heap[b2]? = some (.cells #[.bool true] 4 (0, 0)) := heap_setCell_here _ HE.out.1
    have hcr := cell_of (i := 0) (v := .bool true) hr3 rfl
    exact ⟨.bool true, by simp [results, Tryz.results3, go_sem, hcr], rfl, HE.out.2.setCell (p := ⟨b2, 0, none⟩) (by show w.heap.size ≤ b2; exact HLO.out) _⟩
  have d60 : decide (60 < (nP : Int)) = false := decide_eq_false (by omega)
  gi_wp2_with fail
  gi_loopw [7] (fun s7 wr => ∃ t : Nat, s7 = .int .i64 (t : Int) ∧ t ≤ nL ∧ Hid (wr = w2 ∧ ∀ j (h : j < ll.length), j < t → ll[j].length ≤ 40)) (fun s7 _ => nL - (intOf s7).toNat)
  case atStart => exact ⟨0, rfl, Nat.zero_le _, Lib.hid ⟨rfl, fun j _ h => absurd h (Nat.not_lt_zero j)⟩⟩
  case round =>
    obtain ⟨t, rfl, ht, HI⟩ := hrel
    obtain rfl := HI.out.1.symm
    by_cases hlt : t < nL
    · have htl : t < ll.length := by rw [HA.out.2.1]; exact hlt
      obtain ⟨g, off, ob, d, rfl, hcl, ⟨xs, hxs, hri⟩, hl47⟩ := H2.out.1.at HA.out.2.1 htl
      have hxl : xs.length = ll[t].length := by rw [← hxs, List.length_map]
      have hlg := large_b (most := 40) hxs hxl hri (by omega) (by unfold maxLen; omega)
      obtain ⟨l, hl⟩ : ∃ l, l = ll[t] := ⟨_, rfl⟩
      rw [← hl] at hcl hlg
      obtain ⟨n, hn⟩ : ∃ n, n = l.length := ⟨_, rfl⟩
      rw [← hn] at hcl hlg
      have HLG := Lib.hid hlg
      have HLN := Lib.hid (And.intro hl hn)
      clear hxs hri hl47 hxl hlg hl hn
      gi_wp2_with fail
      refine (callsIn_wide.2 HLG.out).mono ?_
      rintro e V ⟨rfl, hV⟩
      obtain rfl := hV.symm
      clear hV
      obtain ⟨lg, hlg⟩ : ∃ b, largeT 40 l = b := ⟨_, rfl⟩
      rw [hlg]
      cases lg
      · have HLT := Lib.hid hlg
        clear hlg
        gi_wp2_with fail
        refine ⟨⟨t + 1, by simp, by omega, Lib.hid ⟨by simp, fun j hj hjt => ?_⟩⟩, by simp [intOf]; omega⟩
        by_cases hjt2 : j < t
        · exact HI.out.2 j hj hjt2
        · obtain rfl : j = t := by omega
          have h1 := HLT.out
          unfold largeT at h1
          simp only [Bool.or_eq_false_iff, decide_eq_false_iff_not] at h1
          rw [← HLN.out.1]
          omega
      · clear hlg
        gi_wp2_with fail
        refine (callsIn_wide.2 (known_any _)).mono ?_
        rintro e V2 ⟨rfl, hbk⟩
        have hr2 := (hbk.block b2 (Array.getElem?_eq_some_iff.1 HBB.out.1).1).trans HBB.out.1
        have hbw := HBB.out.2.trans (hbk.mono HBB.out.2.size)
        have HE := Lib.hid (And.intro hr2 hbw)
        have z2 : V2.frozen? ⟨b2, 0, none⟩ = false := free_of hr2 _
        have k2 : V2.cell? ⟨b2, 0, none⟩ = some (.bool false) := cell_of hr2 rfl
        clear hr2 hbw hbk
        gi_wp2_with fail
        have hr3 : (V2.setCell ⟨b2, 0, none⟩ (.bool true)).heap[b2]? = some (.cells #[.bool true] 4 (0, 0)) := heap_setCell_here _ HE.out.1
        have hcr := cell_of (i := 0) (v := .bool true) hr3 rfl
        exact ⟨.bool true, by simp [results, Tryz.results3, go_sem, hcr], rfl, HE.out.2.setCell (p := ⟨b2, 0, none⟩) (by show w.heap.size ≤ b2; exact HLO.out) _⟩
    · obtain rfl : nL = t := by omega
      have HS : Hid (∀ l ∈ ll, l.length ≤ 40) := Lib.hid (fun l hl => by
        obtain ⟨j, hj, rfl⟩ := List.getElem_of_mem hl
        exact HI.out.2 j hj (by have := HA.out.2.1; omega))
      clear HI ht hlt
      gi_wp2_with fail
      refine (callsIn_wide.2 (new_b _)).mono ?_
      rintro e w3 ⟨q, rfl, hd3, hb3⟩
      have HC := Lib.hid (createS_b hd3 logName (by decide) (by decide) base 64)
      have H3 := Lib.hid (And.intro hd3 hb3)
      clear hd3 hb3
      gi_wp2_with fail
      refine (callsIn_wide.2 HC.out).mono ?_
      rintro e w4 hcr
      clear HC
      rcases hcr with ⟨-, rfl, hb4⟩ | ⟨bn, step, rfl, hst, hbn, hs1, hs2, ⟨hne, rfl, -, ho4⟩ | ⟨h0, s, x, S', rfl, hS', hsl, hxl, hseg, ho4⟩⟩
      · have hb24 := H3.out.2.trans (hb4.mono H3.out.2.size)
        have g4 := (hb24.block b2 H2.out.2.2).trans HBB.out.1
        have HBB := Lib.hid (And.intro g4 (HBB.out.2.trans (hb24.mono HBB.out.2.size)))
        clear hb4 hb24 g4
        gi_wp2_with fail
        refine (callsIn_wide.2 (known_any _)).mono ?_
        rintro e V2 ⟨rfl, hbk⟩
        have hr2 := (hbk.block b2 (Array.getElem?_eq_some_iff.1 HBB.out.1).1).trans HBB.out.1
        have hbw := HBB.out.2.trans (hbk.mono HBB.out.2.size)
        have HE := Lib.hid (And.intro hr2 hbw)
        have z2 : V2.frozen? ⟨b2, 0, none⟩ = false := free_of hr2 _
        have k2 : V2.cell? ⟨b2, 0, none⟩ = some (.bool false) := cell_of hr2 rfl
        clear hr2 hbw hbk
        gi_wp2_with fail
        have hr3 : (V2.setCell ⟨b2, 0, none⟩ (.bool true)).heap[b2]? = some (.cells #[.bool true] 4 (0, 0)) := heap_setCell_here _ HE.out.1
        have hcr := cell_of (i := 0) (v := .bool true) hr3 rfl
        exact ⟨.bool true, by simp [results, Tryz.results3, go_sem, hcr], rfl, HE.out.2.setCell (p := ⟨b2, 0, none⟩) (by show w.heap.size ≤ b2; exact HLO.out) _⟩
      · have hb24 := H3.out.2.trans (ho4.below (fun i hi h => by have := h.1; omega) H3.out.2.size)
        have g4 := (hb24.block b2 H2.out.2.2).trans HBB.out.1
        have HBB := Lib.hid (And.intro g4 (HBB.out.2.trans (hb24.mono HBB.out.2.size)))
        obtain ⟨er, her⟩ : ∃ r, r = (Dk.new.create (segName logName bn).data.toList).1 := ⟨_, rfl⟩
        rw [← her] at hne ⊢
        have hne2 : (er != 0) = true := by rw [bne_iff_ne]; exact hne
        clear ho4 hb24 her hne hst
        gi_wp2_with fail
        refine (callsIn_wide.2 (known_any _)).mono ?_
        rintro e V2 ⟨rfl, hbk⟩
        have hr2 := (hbk.block b2 (Array.getElem?_eq_some_iff.1 HBB.out.1).1).trans HBB.out.1
        have hbw := HBB.out.2.trans (hbk.mono HBB.out.2.size)
        have HE := Lib.hid (And.intro hr2 hbw)
        have z2 : V2.frozen? ⟨b2, 0, none⟩ = false := free_of hr2 _
        have k2 : V2.cell? ⟨b2, 0, none⟩ = some (.bool false) := cell_of hr2 rfl
        clear hr2 hbw hbk
        gi_wp2_with fail
        have hr3 : (V2.setCell ⟨b2, 0, none⟩ (.bool true)).heap[b2]? = some (.cells #[.bool true] 4 (0, 0)) := heap_setCell_here _ HE.out.1
        have hcr := cell_of (i := 0) (v := .bool true) hr3 rfl
        exact ⟨.bool true, by simp [results, Tryz.results3, go_sem, hcr], rfl, HE.out.2.setCell (p := ⟨b2, 0, none⟩) (by show w.heap.size ≤ b2; exact HLO.out) _⟩
      · obtain rfl : step = 64 := by omega
        obtain ⟨nm, hnm⟩ : ∃ nm, nm = segName logName bn := ⟨_, rfl⟩
        rw [← hnm] at hseg h0
        have hb24 := H3.out.2.trans (ho4.below (fun i hi h => by have := h.1; omega) H3.out.2.size)
        obtain ⟨d1, hd1⟩ : ∃ d, d = (Dk.new.create nm.data.toList).2 := ⟨_, rfl⟩
        rw [← hd1] at hseg
        have hone := create_one h0
        rw [← hd1] at hone
        obtain ⟨hsd0, hof⟩ := syncdir_one hone.1 hone.2.1 hone.2.2
        have HSD := Lib.hid (syncdir_b hseg.disk)
        have H4 := Lib.hid (And.intro hseg (And.intro hb24 (And.intro hS' (And.intro hsl (And.intro hxl (And.intro hsd0 hof))))))
        have HNN := Lib.hid (And.intro hnm hbn)
        clear hseg hb24 hS' hsl hxl hsd0 hof hone hd1 h0 ho4 hnm hbn hs1 hs2 hst
        gi_wp2_with fail
        refine (callsIn_wide.2 HSD.out).mono ?_
        rintro e w5 ⟨rfl, hd5, ho5⟩
        rw [H4.out.2.2.2.2.2.1]
        have hw : ∀ k, Wid S' w4 w5 k → S' k ∨ w4.heap.size ≤ k := fun k hk => by
          rcases hk with hk | hk
          · exact .inl hk
          · exact .inr hk.1
        have hS2 : ∀ k, S' k → w2.heap.size ≤ k ∧ k < w4.heap.size := fun k hk => ⟨by
          rcases H4.out.2.2.1 k hk with h | h
          · exact h.1
          · have := h.1; have := H3.out.2.size; omega, H4.out.1.disk.lowS k hk⟩
        have hsg5 := H4.out.1.turn hd5 hw ho5 ⟨_, H4.out.2.2.2.2.2.2.find, rfl⟩
        have hs5 := ho5.size
        have h23 := H3.out.2.size
        have hsl := (Array.getElem?_eq_some_iff.1 H4.out.1.head).1
        have hxl := (Array.getElem?_eq_some_iff.1 H4.out.1.idx.head).1
        have hsc : SegC w2 w5 (Wid S' w4 w5) s x q nm bn (.slice none 0 0) [] 0 := ⟨⟨_, _, _, hsg5, H4.out.2.2.2.2.2.2, rfl, Nat.zero_le _, Nat.le_refl _⟩, fun k hk => by
          rcases hk with (hk | hk) | hk | hk | hk
          · have := hS2 k hk; omega
          · have := H4.out.2.1.size; omega
          · have := H4.out.2.2.2.1; omega
          · have := H4.out.2.2.2.2.1; omega
          · simp [Value.ownBlock] at hk, H4.out.2.1.trans (ho5.below (fun i hi h => by have := (hS2 i h).1; omega) H4.out.2.1.size), Nat.le_refl _⟩
        have H5 := Lib.hid hsc
        clear hd5 ho5 hw hS2 hsg5 hs5 h23 hsl hxl hsc HSD
        gi_upto_region 16 with fail
        obtain ⟨w6, hw6⟩ : ∃ W : World, W = w5.alloc (.cells #[.slice none 0 0] 22) := ⟨_, rfl⟩
        obtain ⟨b12, hb12⟩ : ∃ b, b = w5.heap.size := ⟨_, rfl⟩
        have hb56 : Below w5.heap.size w5 w6 := by rw [hw6]; exact (Below.refl _ _).alloc (Nat.le_refl _) _
        have h12 : w6.heap[b12]? = some (.cells #[.slice none 0 0] 22 (0, 0)) := by rw [hw6, hb12]; exact alloc_cells _ _ _
        rw [← hw6, ← hb12]
        have hwi : WroteI w2 w6 b12 [] (segX (Wid S' w4 w5) s x (.slice none 0 0)) := ⟨⟨none, 0, 0, [], rfl, h12, ⟨rfl, .inl ⟨rfl, rfl⟩⟩, fun k hk => by simp [Value.ownBlock] at hk, fun i hi => absurd hi (Nat.not_lt_zero i)⟩, by rw [hb12]; exact H5.out.below.size, fun hx => by have := (H5.out.own _ hx).2; omega⟩
        have H6 := Lib.hid (And.intro (H5.out.later hb56) hwi)
        clear hw6 hb12 hb56 h12 hwi
        gi_wp2_with fail
        gi_loopw [13, 14] (fun s13 s14 wr => ∃ (t st : Nat) (bs : List Bat) (S : Nat → Prop) (sv : Value), s13 = .int .i64 (st : Int) ∧ s14 = .int .i64 (t : Int) ∧ t ≤ nL ∧ st ≤ 20 ∧ Hid (SegC w2 wr S s x q nm bn sv bs st ∧ WroteI w2 wr b12 (bs.map (·.2)) (segX S s x sv) ∧ bs.length ≤ t)) (fun _ s14 _ => nL - (intOf s14).toNat)
        case atStart => exact ⟨0, 0, [], _, _, rfl, rfl, Nat.zero_le _, by omega, Lib.hid ⟨H6.out.1, H6.out.2, Nat.le_refl _⟩⟩
        case round =>
          obtain ⟨t, st, bs, S, sv, rfl, rfl, ht, hst, HJ⟩ := hrel
          by_cases hlt : t < nL
          · have htl : t < ll.length := by rw [HA.out.2.1]; exact hlt
            obtain ⟨g, off, ob, ex, rfl, hcl, hra, hl47⟩ := H2.out.1.at HA.out.2.1 htl
            obtain ⟨l, hl⟩ : ∃ l, l = ll[t] := ⟨_, rfl⟩
            have hl40 : l.length ≤ 40 := by rw [hl]; exact HS.out _ (List.getElem_mem htl)
            rw [← hl] at hcl hra
            obtain ⟨n, hn⟩ : ∃ n, n = l.length := ⟨_, rfl⟩
            rw [← hn] at hcl hra hl40
            obtain ⟨sp, dd, ff, hsg, hof, hfb, hlf, hll⟩ := HJ.out.1.seg
            have hdr := bdrew wr
            have hsg' := hsg.later hdr
            obtain ⟨E, hE⟩ : ∃ E : Int, E = ((bn + cntT bs : Nat) : Int) := ⟨_, rfl⟩
            have hEb : 0 ≤ E ∧ E ≤ 9007199271518208 := by
              have h1 := hsg.off
              have h2 := hsg.long
              have h3 := cnt_long bs
              omega
            have hb2r := HJ.out.1.below
            have hclr : wr.cell? ⟨g, off + t, none⟩ = some (.slice ob n ex) := (hb2r.cell (p := ⟨g, off + t, none⟩) (World.block_lt_of_cell? w2 _ hcl)).trans hcl
            have HEN := Lib.hid (endS_b hsg')
            have HAP := Lib.hid (appendSeg_b hsg' (base := E) (oa := ob) (n := n) (c := ex) (l := l) ((hra.below hb2r).below hdr) hn.symm (by omega) (by omega))
            rw [← hE] at HEN
            have HSJ : Hid (∀ e w', AppS wr.drew S s x q nm bn 64 sv bs dd E l e w' → ∃ r : Int, e = .returned (.int .i64 r) ∧ AppQ w2 wr.drew S s x q nm bn sv bs st l r w') := Lib.hid (fun e w' hA => by
              rcases (HJ.out.1.later hdr).append hsg' hof hfb hlf hll hA with ⟨r, hr, he, S2, h1, h2, h3⟩ | ⟨he, S2, sv2, h1, h2, h3⟩
              · exact ⟨r, he, .inl ⟨hr, S2, h1, h2, h3⟩⟩
              · exact ⟨0, he, .inr ⟨rfl, S2, sv2, _, h1, h2, h3⟩⟩)
            have HW := Lib.hid (HJ.out.2.1.later hdr)
            have HCL := Lib.hid (And.intro hcl (And.intro hra (And.intro hn (And.intro hl hl40))))
            clear hra hl47 hl hl40 hn hsg hsg' hof hfb hlf hll hdr hE hb2r hcl
            gi_upto_region 20 with fail
            refine wpIn_wide.2 (wp_onlyR ?_)
            go_region_law (first | (go_simp; go_at_call 10; refine HEN.out.mono ?_; rintro e wa ⟨rfl, hwa⟩; obtain rfl := hwa.symm; clear hwa) | (go_simp; go_at_call 9; refine HAP.out.mono ?_; rintro e wb hap; obtain ⟨rr, rfl, haq⟩ := HSJ.out _ _ hap; have HQ2 := Lib.hid haq; clear hap haq))
            all_goals
              clear hclr HEN HAP HSJ
              rcases HQ2.out with ⟨hr0, S2, hsc2, hX2, ho2⟩ | ⟨hr0, S2, sv2, bse, hsc2, hX2, ho2⟩
              · have hne2 : (rr != 0) = true := by rw [bne_iff_ne]; exact hr0
                have HN2 : Hid (SegC w2 wb S2 s x q nm bn sv bs st ∧ WroteI w2 wb b12 (bs.map (·.2)) (segX S2 s x sv) ∧ bs.length ≤ t + 1) := Lib.hid ⟨hsc2, HW.out.only ho2 (fun _ h => h) hX2, by have := HJ.out.2.2; omega⟩
                clear hr0 hsc2 hX2 ho2 HQ2
                go_wp2_with fail
                gi_wp2_with fail
                exact ⟨⟨t + 1, st, bs, S2, sv, rfl, by simp, by omega, hst, HN2⟩, by simp [intOf]; omega⟩
              · subst hr0
                have hW2 := HW.out.only ho2 (fun _ h => h) hX2
                have HN2 := Lib.hid (And.intro hsc2 (And.intro hW2 HJ.out.2.2))
                clear hsc2 hX2 ho2 HQ2 hW2
                go_wp2_with fail
                gi_upto_region 22 with fail
                obtain ⟨ow, nw, cw, vs, hw1, hw2, hw3, hw4, hw5⟩ := HN2.out.2.1.row
                have hbt := HN2.out.2.1.hb
                have hb2w := HN2.out.1.below
                have hown := HN2.out.1.own
                have hnwl : nw ≤ 20 := by
                  have h1 := HN2.out.2.2
                  rw [← hw1, List.length_map]
                  omega
                have hclw : wb.cell? ⟨g, off + t, none⟩ = some (.slice ob n ex) := (hb2w.cell (p := ⟨g, off + t, none⟩) (World.block_lt_of_cell? w2 _ HCL.out.1)).trans HCL.out.1
                have kwb : wb.cell? ⟨b12, 0, none⟩ = some (.slice ow nw cw) := cell_of hw2 rfl
                have lt1 : b12 < wb.heap.size := (Array.getElem?_eq_some_iff.1 hw2).1
                have lt2 : g < wb.heap.size := World.block_lt_of_cell? wb _ hclw
                have HRW := Lib.hid (fun (W : World) (hW : Below wb.heap.size wb W) => hw3.kept (fun k hk => hW.block k (hw3.lt k hk)))
                have HPU := Lib.hid (fun (V : World) (oa3 : Option Addr) (c3 : Nat) (w3 : World) (hV : Below wb.heap.size wb V) (h : rowAt w3 28 1 (.slice oa3 (nw + 1) c3) (nw + 1) (vs ++ [.slice ob n ex]) ∧ V.grownBy w3 (Value.slice ow nw cw).ownBlock ∧ ((Value.slice oa3 (nw + 1) c3).ownBlock = (Value.slice ow nw cw).ownBlock ∨ (Value.slice oa3 (nw + 1) c3).ownBlock = some V.heap.size)) => wrote_push (l := l) hw1 hw2 hw3 hw4 hw5 hbt (fun k hk => (hown k hk).2) hb2w.size HCL.out.2.2.1 HCL.out.2.1 hV h.1 h.2.1 h.2.2)
                clear hw1 hw2 hw3 hw4 hw5 hbt hb2w hown
                refine wpIn_wide.2 (wp_onlyR ?_)
                go_region_law (refine step_list (by rfl) (.tmp 98) (.tmp 103) (by rfl) (HRW.out _ (by first | exact bdrewa wb _ | exact ballocd wb _)) (by first | exact list_row1 wb _ | exact list_row2 wb _) (by omega) (by rfl) (by rfl) ?_; intro oa3 c3 w3 HR3; have hpu := HPU.out _ oa3 c3 w3 (by first | exact bdrewa wb _ | exact ballocd wb _) HR3.out; have y12 : w3.cell? ⟨b12, 0, none⟩ = some (.slice ow nw cw) := cell_of hpu.1 rfl; have z12 : w3.frozen? ⟨b12, 0, none⟩ = false := free_of hpu.1 _; have HPP := Lib.hid hpu.2; clear hpu)
                all_goals
                  clear HRW HPU hclw kwb lt1 lt2 y12 z12 HR3 HCL
                  go_wp2_with fail
                  obtain ⟨w7, hw7⟩ : ∃ W : World, W = w3.setCell ⟨b12, 0, none⟩ (.slice oa3 (nw + 1) c3) := ⟨_, rfl⟩
                  rw [← hw7] at HPP ⊢
                  obtain ⟨bt, hbt⟩ : ∃ b : Bat, b = (bse, l) := ⟨_, rfl⟩
                  have hsc7 := HN2.out.1.apart HPP.out.2 (fun k hk => ⟨hk.2, hk.1⟩)
                  have hwr7 : WroteI w2 w7 b12 ((bs ++ [bt]).map (·.2)) (segX S2 s x sv2) := by
                    rw [List.map_append, hbt]
                    exact HPP.out.1
                  rw [← hbt] at hsc7
                  have HN7 := Lib.hid (And.intro hsc7 (And.intro hwr7 HN2.out.2.2))
                  clear hsc7 hwr7 HPP HN2 hw7
                  by_cases hts : (t : Int) < sy
                  · have dts : decide ((t : Int) < sy) = true := decide_eq_true hts
                    gi_wp2_with fail
                    obtain ⟨sp7, d7, f7, hi7, ho7, hb7, hl7, hll7⟩ := HN7.out.1.seg
                    refine (callsIn_wide.2 (syncSeg_b hi7)).mono ?_
                    rintro e w8 hop
                    obtain ⟨rfl, S8, hsc8, hX8, hO8⟩ := HN7.out.1.sync hi7 ho7 hb7 hop
                    have hW8 := HN7.out.2.1.only hO8 (fun _ h => h) hX8
                    obtain ⟨ow8, nw8, cw8, vs8, hw81, hw82, -⟩ := hW8.row
                    have kw8 : w8.cell? ⟨b12, 0, none⟩ = some (.slice ow8 nw8 cw8) := cell_of hw82 rfl
                    have hbl : (bs ++ [bt]).length = bs.length + 1 := by simp
                    have hn8 : nw8 = bs.length + 1 := by rw [← hw81, List.length_map, hbl]
                    rw [hbl] at hsc8
                    have HN8 := Lib.hid (And.intro hsc8 (And.intro hW8 (show (bs ++ [bt]).length ≤ t + 1 by rw [hbl]; have := HN7.out.2.2; omega)))
                    have h20 : bs.length ≤ t := HN7.out.2.2
                    clear hi7 ho7 hb7 hl7 hll7 hop hsc8 hX8 hO8 hW8 hw81 hw82 HN7
                    gi_wp2_with fail
                    exact ⟨⟨t + 1, bs.length + 1, bs ++ [bt], S8, sv2, by simp, by simp, by omega, by omega, HN8⟩, by simp [intOf]; omega⟩
                  · have dts : decide ((t : Int) < sy) = false := decide_eq_false hts
                    have HN8 := Lib.hid (And.intro HN7.out.1 (And.intro HN7.out.2.1 (show (bs ++ [bt]).length ≤ t + 1 by simp; exact HN7.out.2.2)))
                    clear HN7
                    gi_wp2_with fail
                    exact ⟨⟨t + 1, st, bs ++ [bt], S2, sv2, rfl, by simp, by omega, hst, HN8⟩, by simp [intOf]; omega⟩
          · obtain rfl : nL = t := by omega
            have hP := H2.out.2.1.kept (fun k hk _ _ => HJ.out.1.below.block k hk)
            have hpl := HA.out.2.2.2.1
            obtain ⟨sp, d, hi, kk, tl, f, hkk, hstk, hof, hfb, hgo, hch⟩ := HJ.out.1.crash ps
            have hcr := crash_b hi.disk oP cP ps (by rw [hpl]; exact hP) (by rw [hpl]; omega) (fun x hx => (HA.out.2.2.2.2.2.1 x hx).2)
            rw [hpl] at hcr
            have HCR := Lib.hid hcr
            have HB2 := Lib.hid (And.intro H2.out.2.2 HBB.out.1)
            obtain ⟨L, hL⟩ : ∃ L, L = bs.take kk := ⟨_, rfl⟩
            have hLl : L.length = kk := by rw [hL, List.length_take]; omega
            rw [← hL] at hfb hgo hch
            have hbL : bn ≤ 9007199254740992 := hi.off
            have hnmz : nm.size ≤ 32 := hi.nms
            obtain ⟨okn, hnn⟩ := segName_ok hbL
            rw [show segName logName bn = nm from HNN.out.1.symm] at okn hnn
            have HLL := Lib.hid (And.intro hL (And.intro hLl (And.intro hof (And.intro hfb (And.intro hgo (And.intro hch (And.intro hnmz (And.intro okn (And.intro hnn hbL)))))))))
            have HST := Lib.hid (And.intro hstk hkk)
            clear hP hpl hcr hi hL hLl hof hfb hgo hch hbL hnmz okn hnn hstk hkk
            gi_wp2_with fail
            refine (callsIn_wide.2 HCR.out).mono ?_
            rintro e w8 (⟨-, rfl, hb8⟩ | ⟨-, q2, rfl, hd8, hb8⟩)
            · have hbw := HJ.out.1.below.trans (hb8.mono HJ.out.1.below.size)
              have g4 := (hbw.block b2 H2.out.2.2).trans HBB.out.1
              have HBB := Lib.hid (And.intro g4 (HBB.out.2.trans (hbw.mono HBB.out.2.size)))
              clear hbw g4 hb8
              gi_wp2_with fail
              refine (callsIn_wide.2 (known_any _)).mono ?_
              rintro e V2 ⟨rfl, hbk⟩
              have hr2 := (hbk.block b2 (Array.getElem?_eq_some_iff.1 HBB.out.1).1).trans HBB.out.1
              have hbw := HBB.out.2.trans (hbk.mono HBB.out.2.size)
              have HE := Lib.hid (And.intro hr2 hbw)
              have z2 : V2.frozen? ⟨b2, 0, none⟩ = false := free_of hr2 _
              have k2 : V2.cell? ⟨b2, 0, none⟩ = some (.bool false) := cell_of hr2 rfl
              clear hr2 hbw hbk
              gi_wp2_with fail
              have hr3 : (V2.setCell ⟨b2, 0, none⟩ (.bool true)).heap[b2]? = some (.cells #[.bool true] 4 (0, 0)) := heap_setCell_here _ HE.out.1
              have hcr := cell_of (i := 0) (v := .bool true) hr3 rfl
              exact ⟨.bool true, by simp [results, Tryz.results3, go_sem, hcr], rfl, HE.out.2.setCell (p := ⟨b2, 0, none⟩) (by show w.heap.size ≤ b2; exact HLO.out) _⟩
            · have hl8 : LeftC w8 (fun k => wr.heap.size ≤ k ∧ k < w8.heap.size) q2 nm L tl := ⟨_, f, hd8, HLL.out.2.2.1, HLL.out.2.2.2.1⟩
              have H8 := Lib.hid (And.intro hl8 hb8)
              clear hl8 hd8 hb8 HCR
              have HNA := Lib.hid (name_ok logName bn w8 (by decide) (by decide) HLL.out.2.2.2.2.2.2.2.2.2)
              rw [show (⟨(logName.data.toList ++ 45 :: hex 14 bn).toArray⟩ : ByteArray) = nm from HNN.out.1.symm] at HNA
              obtain ⟨why, hwhy⟩ : ∃ y, y = whyT tl := ⟨_, rfl⟩
              obtain ⟨cn, hcn⟩ : ∃ c, c = cntT L := ⟨_, rfl⟩
              obtain ⟨ln, hln⟩ : ∃ c, c = (batsT L).length := ⟨_, rfl⟩
              obtain ⟨ec, hec⟩ : ∃ c, c = bn + cn := ⟨_, rfl⟩
              have HW := Lib.hid (And.intro hwhy (And.intro hcn (And.intro hln hec)))
              clear hwhy hcn hln hec
              gi_wp2_with fail
              refine (callsIn_wide.2 HNA.out).mono ?_
              rintro e w9 ⟨rfl, hb9⟩
              have hlk := (H8.out.1.later hb9).looked HLL.out.2.2.2.2.2.2.1 HLL.out.2.2.2.2.2.2.2.1 HLL.out.2.2.2.2.2.2.2.2.1 HLL.out.2.2.2.2.1 HLL.out.2.2.2.2.2.1 HLL.out.2.2.2.2.2.2.2.2.2
              rw [HLL.out.2.1, ← HW.out.1, ← HW.out.2.1, ← HW.out.2.2.1, ← HW.out.2.2.2] at hlk
              have HLK := Lib.hid hlk
              have H9 := Lib.hid (And.intro (H8.out.2.trans (hb9.mono H8.out.2.size)) hb9.size)
              clear hlk hb9 HNA
              gi_wp2_with fail
              refine (callsIn_wide.2 HLK.out).mono ?_
              rintro e wl ⟨rfl, hll, hbl⟩
              unfold foundV
              have HLX := Lib.hid (And.intro hll (And.intro (H9.out.1.trans (hbl.mono H9.out.1.size)) (Nat.le_trans H9.out.2 hbl.size)))
              clear hll hbl HLK H9 H8
              gi_upto_region 32 with fail
              obtain ⟨W10, hW10⟩ : ∃ W : World, W = wl.alloc (.cells #[.int .i64 (kk : Int), .int .i64 (ec : Int), .int .i64 (ln : Int), .int .i64 why] 47) := ⟨_, rfl⟩
              obtain ⟨b20, hb20⟩ : ∃ b, b = wl.heap.size := ⟨_, rfl⟩
              rw [← hW10, ← hb20]
              have g20 : W10.heap[b20]? = some (.cells #[.int .i64 (kk : Int), .int .i64 (ec : Int), .int .i64 (ln : Int), .int .i64 why] 47 (0, 0)) := by rw [hW10, hb20]; exact alloc_cells _ _ _
              have hb10 : Below wl.heap.size wl W10 := by rw [hW10]; exact (Below.refl _ _).alloc (Nat.le_refl _) _
              have hbr := HLX.out.2.1.trans (hb10.mono HLX.out.2.1.size)
              have hb20z : w8.heap.size ≤ b20 := by rw [hb20]; exact HLX.out.2.2
              obtain ⟨ow, nw, cw, vs, hw1, hw2, hw3, hw4, hw5⟩ := HJ.out.2.1.row
              have hnw : nw = bs.length := by rw [← hw1, List.length_map]
              have k12 : W10.cell? ⟨b12, 0, none⟩ = some (.slice ow nw cw) := cell_of ((hbr.block b12 (Array.getElem?_eq_some_iff.1 hw2).1).trans hw2) rfl
              have k20 : W10.cell? ⟨b20, 0, none⟩ = some (.int .i64 (kk : Int)) := cell_of g20 rfl
              have k23 : W10.cell? ⟨b20, 3, none⟩ = some (.int .i64 why) := cell_of g20 rfl
              have hy : why = 150 ∨ why = 151 := by
                rw [HW.out.1]
                unfold whyT
                split
                · exact .inl rfl
                · exact .inr rfl
              have dst : decide (kk < st) = false := decide_eq_false (by have := HST.out.1; omega)
              have dnw : decide (nw < kk) = false := decide_eq_false (by have := HST.out.2; omega)
              have hmd := (HLX.out.1.later hb10).mended HLL.out.2.2.2.2.2.2.1 HLL.out.2.2.2.2.2.2.2.1 HLL.out.2.2.2.2.2.2.2.2.1 HLL.out.2.2.2.2.1 HLL.out.2.2.2.2.2.1 HLL.out.2.2.2.2.2.2.2.2.2
              rw [HLL.out.2.1, ← HW.out.1, ← HW.out.2.1, ← HW.out.2.2.1, ← HW.out.2.2.2] at hmd
              have HMD := Lib.hid hmd
              have HWR := Lib.hid (And.intro hw1 (And.intro hw2 (And.intro hw3 hw5)))
              have H10 := Lib.hid (And.intro g20 (And.intro hbr (And.intro hb20z hnw)))
              clear hW10 hb20 g20 hb10 hbr hb20z hw1 hw2 hw3 hw4 hw5 hnw hmd
              refine wpIn_wide.2 (wp_onlyR ?_)
              go_cut [158] from 134 to 158 (fun s158 wx => s158 = .bool false ∧ wx = W10)
              case first =>
                rcases hy with rfl | rfl
                all_goals
                  go_wp2_with fail
                  go_meet
                  exact ⟨rfl, rfl⟩
              case rest =>
              obtain ⟨rfl, hwc⟩ := hcut
              obtain rfl := hwc.symm
              clear hwc k12 k20 k23 dst dnw
              gi_wp2_with fail
              refine (callsIn_wide.2 HMD.out).mono ?_
              rintro e wm ⟨rfl, ⟨Sm, hlm, hSm⟩, hom⟩
              unfold foundV
              have hzm := hom.size
              have lt20 := (Array.getElem?_eq_some_iff.1 H10.out.1).1
              have nS : ¬ (wr.heap.size ≤ b20 ∧ b20 < w8.heap.size) := fun h => by have := H10.out.2.2.1; omega
              have g20 := (hom.block b20 lt20 nS).trans H10.out.1
              have hbr := H10.out.2.1.trans (hom.below (fun i hi h => by have := h.1; omega) H10.out.2.1.size)
              have nSm : ¬ Sm b20 := fun h => by
                rcases hSm _ h with e | e
                · exact nS e
                · omega
              have hSl : ∀ k, Sm k → k < wm.heap.size := fun k hk => by
                obtain ⟨d', f', hd', -⟩ := hlm.disk
                exact hd'.lowS k hk
              have hSw : ∀ k, Sm k → wr.heap.size ≤ k := fun k hk => by
                rcases hSm _ hk with e | e
                · exact e.1
                · have := H10.out.2.1.size; omega
              have HM := Lib.hid (And.intro hlm (And.intro g20 (And.intro hbr (And.intro nSm (And.intro hSl (And.intro hSw H10.out.2.2.2))))))
              clear hlm hSm hom hzm lt20 nS g20 hbr nSm hSl hSw H10 HMD HLX
              gi_upto_region 35 with fail
              obtain ⟨W11, hW11⟩ : ∃ W : World, W = wm.alloc (.cells #[.int .i64 (kk : Int), .int .i64 (ec : Int), .int .i64 (ln : Int), .int .i64 why] 47) := ⟨_, rfl⟩
              obtain ⟨b22, hb22⟩ : ∃ b, b = wm.heap.size := ⟨_, rfl⟩
              rw [← hW11, ← hb22]
              have g22 : W11.heap[b22]? = some (.cells #[.int .i64 (kk : Int), .int .i64 (ec : Int), .int .i64 (ln : Int), .int .i64 why] 47 (0, 0)) := by rw [hW11, hb22]; exact alloc_cells _ _ _
              have hb11 : Below wm.heap.size wm W11 := by rw [hW11]; exact (Below.refl _ _).alloc (Nat.le_refl _) _
              have g20 := (hb11.block b20 (Array.getElem?_eq_some_iff.1 HM.out.2.1).1).trans HM.out.2.1
              have hbr := HM.out.2.2.1.trans (hb11.mono HM.out.2.2.1.size)
              have nS22 : ¬ Sm b22 := fun h => by have := HM.out.2.2.2.2.1 _ h; omega
              have hmd := (HM.out.1.later hb11).mended HLL.out.2.2.2.2.2.2.1 HLL.out.2.2.2.2.2.2.2.1 HLL.out.2.2.2.2.2.2.2.2.1 ⟨HLL.out.2.2.2.2.1.good, .inl rfl⟩ HLL.out.2.2.2.2.2.1 HLL.out.2.2.2.2.2.2.2.2.2
              rw [HLL.out.2.1, ← HW.out.2.1, ← HW.out.2.2.1, ← HW.out.2.2.2, show whyT [] = 150 from rfl] at hmd
              have HMD := Lib.hid hmd
              have H11 := Lib.hid (And.intro g20 (And.intro g22 (And.intro hbr (And.intro HM.out.2.2.2.1 (And.intro nS22 HM.out.2.2.2.2.2)))))
              clear hW11 hb22 g22 hb11 g20 hbr nS22 hmd HM
              gi_wp2_with fail
              refine (callsIn_wide.2 HMD.out).mono ?_
              rintro e wn ⟨rfl, ⟨Sn, hln, -⟩, hon⟩
              unfold foundV
              have g20 := (hon.block b20 (Array.getElem?_eq_some_iff.1 H11.out.1).1 H11.out.2.2.2.1).trans H11.out.1
              have g22 := (hon.block b22 (Array.getElem?_eq_some_iff.1 H11.out.2.1).1 H11.out.2.2.2.2.1).trans H11.out.2.1
              have hbr := H11.out.2.2.1.trans (hon.below (fun i hi h => by have := H11.out.2.2.2.2.2.1 _ h; omega) H11.out.2.2.1.size)
              have HN := Lib.hid (And.intro hln (And.intro g20 (And.intro g22 (And.intro hbr H11.out.2.2.2.2.2.2))))
              clear hln hon g20 g22 hbr H11 HMD
              gi_upto_region 36 with fail
              obtain ⟨W12, hW12⟩ : ∃ W : World, W = wn.alloc (.cells #[.int .i64 (kk : Int), .int .i64 (ec : Int), .int .i64 (ln : Int), .int .i64 150] 47) := ⟨_, rfl⟩
              obtain ⟨b24, hb24⟩ : ∃ b, b = wn.heap.size := ⟨_, rfl⟩
              rw [← hW12, ← hb24]
              have g24 : W12.heap[b24]? = some (.cells #[.int .i64 (kk : Int), .int .i64 (ec : Int), .int .i64 (ln : Int), .int .i64 150] 47 (0, 0)) := by rw [hW12, hb24]; exact alloc_cells _ _ _
              have hb12 : Below wn.heap.size wn W12 := by rw [hW12]; exact (Below.refl _ _).alloc (Nat.le_refl _) _
              have g20 := (hb12.block b20 (Array.getElem?_eq_some_iff.1 HN.out.2.1).1).trans HN.out.2.1
              have g22 := (hb12.block b22 (Array.getElem?_eq_some_iff.1 HN.out.2.2.1).1).trans HN.out.2.2.1
              have hbr := HN.out.2.2.2.1.trans (hb12.mono HN.out.2.2.2.1.size)
              have HOP := Lib.hid ((HN.out.1.later hb12).opened HLL.out.2.2.2.2.2.2.1 HLL.out.2.2.2.2.2.2.2.1 HLL.out.2.2.2.2.2.2.2.2.1 HLL.out.2.2.2.2.2.1 HLL.out.2.2.2.2.2.2.2.2.2)
              have H12 := Lib.hid (And.intro g20 (And.intro g22 (And.intro g24 (And.intro hbr HN.out.2.2.2.2))))
              clear hW12 hb24 g20 g22 g24 hb12 hbr HN
              gi_wp2_with fail
              refine (callsIn_wide.2 HOP.out).mono ?_
              rintro e w13 ⟨s4, x4, sv4, sp4, d4, rfl, hi4, hb13⟩
              have up : ∀ b o, W12.heap[b]? = some o → w13.heap[b]? = some o := fun b o h => (hb13.block b (Array.getElem?_eq_some_iff.1 h).1).trans h
              have g20 := up _ _ H12.out.1
              have g22 := up _ _ H12.out.2.1
              have g24 := up _ _ H12.out.2.2.1
              have H13 := Lib.hid (And.intro hi4 (And.intro g20 (And.intro (H12.out.2.2.2.1.trans (hb13.mono H12.out.2.2.2.1.size)) H12.out.2.2.2.2)))
              have a0 : w13.cell? ⟨b20, 0, none⟩ = some (.int .i64 (kk : Int)) := cell_of g20 rfl
              have a1 : w13.cell? ⟨b20, 1, none⟩ = some (.int .i64 (ec : Int)) := cell_of g20 rfl
              have a2 : w13.cell? ⟨b20, 2, none⟩ = some (.int .i64 (ln : Int)) := cell_of g20 rfl
              have a3 : w13.cell? ⟨b20, 3, none⟩ = some (.int .i64 why) := cell_of g20 rfl
              have e0 : w13.cell? ⟨b22, 0, none⟩ = some (.int .i64 (kk : Int)) := cell_of g22 rfl
              have e1 : w13.cell? ⟨b22, 1, none⟩ = some (.int .i64 (ec : Int)) := cell_of g22 rfl
              have e2 : w13.cell? ⟨b22, 2, none⟩ = some (.int .i64 (ln : Int)) := cell_of g22 rfl
              have e3 : w13.cell? ⟨b22, 3, none⟩ = some (.int .i64 why) := cell_of g22 rfl
              have m0 : w13.cell? ⟨b24, 0, none⟩ = some (.int .i64 (kk : Int)) := cell_of g24 rfl
              have m2 : w13.cell? ⟨b24, 2, none⟩ = some (.int .i64 (ln : Int)) := cell_of g24 rfl
              have m3 : w13.cell? ⟨b24, 3, none⟩ = some (.int .i64 150) := cell_of g24 rfl
              have hen := fun n : Nat => endS_b (hi4.later (w' := w13.drewN n) ⟨rfl, rfl, rfl, Nat.le_refl _, fun _ _ => rfl⟩)
              simp only [← HW.out.2.1, ← HW.out.2.2.2] at hen
              have HEN := Lib.hid hen
              have hlz := cnt_long L
              have hlo := hi4.long
              have hwf : (Lit.int .i64 (kk : Int)).wf = true ∧ (Lit.int .i64 (ec : Int)).wf = true ∧ (Lit.int .i64 (ln : Int)).wf = true ∧ (Lit.int .i64 why).wf = true := by
                have h1 := HW.out.2.1
                have h2 := HW.out.2.2.1
                have h3 := HW.out.2.2.2
                have h4 := HLL.out.2.2.2.2.2.2.2.2.2
                have h5 := HST.out.2
                have h6 := HJ.out.2.2
                exact ⟨wf_smallR (by omega) (by omega), wf_smallR (by omega) (by omega), wf_smallR (by omega) (by omega), wf_smallR (by omega) (by omega)⟩
              have hne := fun V => found_ne kk ec ln why hwf.1 hwf.2.1 hwf.2.2.1 hwf.2.2.2 V
              clear hlz hlo hwf
              clear up g20 g22 g24 hi4 hb13 hen H12 HOP hy
              gi_upto_region 37 with fail
              refine wpIn_wide.2 (wp_onlyR ?_)
              go_cut [217] from 177 to 217 (fun s217 wx => s217 = .bool false ∧ Hid (Below w13.heap.size w13 wx))
              case first =>
                go_quiet ((go_at_call 10; exact Calls.quiet_of_same (HEN.out _)))
                all_goals
                  go_wp2_with fail
                  go_meet
                  exact ⟨rfl, Lib.hid ⟨rfl, rfl, rfl, Nat.le_refl _, fun _ _ => rfl⟩⟩
              case rest =>
              obtain ⟨rfl, HBc⟩ := hcut
              obtain ⟨W14, hW14⟩ : ∃ W : World, W = wc := ⟨_, rfl⟩
              rw [← hW14] at HBc ⊢
              clear hW14 a0 a1 a2 a3 e0 e1 e2 e3 m0 m2 m3 HEN hne
              have HBA := Lib.hid (batchesS_b (H13.out.1.later HBc.out))
              gi_wp2_with fail
              refine (callsIn_wide.2 HBA.out).mono ?_
              rintro e w15 ⟨bA, rfl, hall, hb15⟩
              have hnf : ∀ (W : World), (binOp .eql 52 (.func (.func 64) #[] #[.pointer (some ⟨bA, 0, none⟩)]) .nilFunc).run Tryz.prog W = .ok (.bool false) W := fun W => by kernel_rfl
              have hbr := H13.out.2.2.1.trans ((HBc.out.trans (hb15.mono HBc.out.size)).mono H13.out.2.2.1.size)
              have g20' := (hb15.block b20 (Array.getElem?_eq_some_iff.1 ((HBc.out.block b20 (Array.getElem?_eq_some_iff.1 H13.out.2.1).1).trans H13.out.2.1)).1).trans ((HBc.out.block b20 (Array.getElem?_eq_some_iff.1 H13.out.2.1).1).trans H13.out.2.1)
              have hlong := H13.out.1.long
              have hcl := cnt_long L
              have hDl : (batsT L ++ []).length ≤ 1000000000 := by rw [List.append_nil]; omega
              have H15 := Lib.hid (And.intro hall (And.intro hbr (And.intro H13.out.2.2.2 (And.intro g20' hDl))))
              clear hall hb15 hbr HBA g20' hlong hcl hDl
              gi_upto_region 43 with fail
              obtain ⟨W16, hW16⟩ : ∃ W : World, W = w15.alloc (.cells #[.int .i64 0] 3) := ⟨_, rfl⟩
              obtain ⟨b29, hb29⟩ : ∃ b, b = w15.heap.size := ⟨_, rfl⟩
              rw [← hW16, ← hb29]
              have g29 : W16.heap[b29]? = some (.cells #[.int .i64 0] 3 (0, 0)) := by rw [hW16, hb29]; exact alloc_cells _ _ _
              have hb16 : Below w15.heap.size w15 W16 := by rw [hW16]; exact (Below.refl _ _).alloc (Nat.le_refl _) _
              have hn16 : W16.heap.size = b29 + 1 := by rw [hW16, hb29]; simp
              obtain ⟨n7, hn7⟩ : ∃ n, n = W16.heap.size := ⟨_, rfl⟩
              obtain ⟨oA, cA, hA1, hA2⟩ := H15.out.1
              have hltA := (Array.getElem?_eq_some_iff.1 hA1).1
              have hst := all_toldX 7 (by omega) bA w15 L [] ⟨HLL.out.2.2.2.2.1.good, .inl rfl⟩ (oa := oA) (c := cA) (by rw [List.append_nil]; exact ⟨hA1, hA2⟩) H15.out.2.2.2.2
                (fun k => k = b29 ∨ n7 ≤ k) (fun e => by
                  have := hb16.size
                  rcases e with e | e <;> omega) (fun k hk e => by
                  rw [List.append_nil] at hk
                  have h1 := hA2.lt k hk
                  have := hb16.size
                  rcases e with e | e <;> omega)
              have H16 := Lib.hid (And.intro g29 (And.intro hb16 (And.intro (show n7 = b29 + 1 by omega) (And.intro hb29 hn7))))
              clear hW16 g29 hb16 hn16 hb29 hn7 hA1 hA2 hltA hnf
              gi_wp2_with fail
              rename_i K2 hK2
              generalize hAA : Act.mk _ _ = A
              have hAfter : ∀ (T : Nat → Prop) (V : World), KI w15 V b29 T kk → V.heap[n7]? = some (.deferred (some [])) → K2 { A with defers := { target := .collected n7, args := #[] } :: A.defers } V := by
                intro T V hg hdf
                subst hAA
                dsimp only
                have hbV := hg.below
                have hrV := H15.out.2.1.trans (hbV.mono H15.out.2.1.size)
                have h2V := HJ.out.1.below.trans (hrV.mono HJ.out.1.below.size)
                have g2 := (h2V.block b2 H2.out.2.2).trans HBB.out.1
                have g20 := (hbV.block b20 (Array.getElem?_eq_some_iff.1 H15.out.2.2.2.1).1).trans H15.out.2.2.2.1
                have k20 : V.cell? ⟨b20, 0, none⟩ = some (.int .i64 (kk : Int)) := cell_of g20 rfl
                have k29 : V.cell? ⟨b29, 0, none⟩ = some (.int .i64 (kk : Int)) := cell_of hg.box rfl
                have HV := Lib.hid (And.intro g2 (And.intro (HBB.out.2.trans (h2V.mono HBB.out.2.size)) hdf))
                clear hbV hrV h2V g2 g20 hg hdf hst
                gi_wp2_with fail
                refine (callsIn_wide.2 (known_any _)).mono ?_
                rintro e V2 ⟨rfl, hbk⟩
                have hr2 := (hbk.block b2 (Array.getElem?_eq_some_iff.1 HV.out.1).1).trans HV.out.1
                have hm2 := (hbk.block n7 (Array.getElem?_eq_some_iff.1 HV.out.2.2).1).trans HV.out.2.2
                have hbw := HV.out.2.1.trans (hbk.mono HV.out.2.1.size)
                have HE := Lib.hid (And.intro hr2 (And.intro hbw hm2))
                have z2 : V2.frozen? ⟨b2, 0, none⟩ = false := free_of hr2 _
                have k2 : V2.cell? ⟨b2, 0, none⟩ = some (.bool false) := cell_of hr2 rfl
                clear hr2 hbw hm2 hbk
                gi_wp2_with fail
                obtain ⟨V3, hV3⟩ : ∃ W : World, W = V2.setCell ⟨b2, 0, none⟩ (.bool true) := ⟨_, rfl⟩
                have hn2 : n7 ≠ b2 := fun e => by
                  have h1 := H16.out.2.2.1
                  have h2 := H16.out.2.2.2.1
                  have h3 := H15.out.2.1.size
                  have h4 := HJ.out.1.below.size
                  have h5 := H2.out.2.2
                  omega
                have hm3 : V3.heap[n7]? = some (.deferred (some [])) := by rw [hV3]; exact (Below.heap_setCell _ _ _ _ hn2).trans HE.out.2.2
                have hr3 : V3.heap[b2]? = some (.cells #[.bool true] 4 (0, 0)) := by rw [hV3]; exact heap_setCell_here _ HE.out.1
                have hb3 : Below w.heap.size w V3 := by rw [hV3]; exact HE.out.2.1.setCell (p := ⟨b2, 0, none⟩) (by show w.heap.size ≤ b2; exact HLO.out) _
                rw [← hV3]
                refine ⟨by simp, .inl ⟨_, _, rfl, run_takeDeferred hm3, ?_⟩⟩
                have hg := grownBy_putObj' V3 n7 (.deferred none)
                have hr4 : (V3.putObj n7 (.deferred none)).heap[b2]? = some (.cells #[.bool true] 4 (0, 0)) := ((only_put (fun k => k = n7) V3 n7 (.deferred none) rfl).block b2 (Array.getElem?_eq_some_iff.1 hr3).1 (fun e => hn2 e.symm)).trans hr3
                have hcr := cell_of (i := 0) (v := .bool true) hr4 rfl
                refine ⟨.bool true, by simp [results, Tryz.results3, go_sem, hcr], rfl, hb3.grown hg hb3.size (fun k e => ?_)⟩
                simp only [Option.some.injEq] at e
                have h1 := H16.out.2.2.1
                have h2 := H16.out.2.2.2.1
                have h3 := H15.out.2.1.size
                have h4 := HJ.out.1.below.size
                have h5 := HBB.out.2.size
                omega
              refine wpIn_rangeFunc_toldX (n := 8) (α := BatV) rfl (by omega) (gf := 64) (lb := #[.pointer (some ⟨bA, 0, none⟩)]) (by subst hAA; rfl) trivial (enters_of Tryz.func64 (by kernel_rfl) rfl) (fun k hk => .inr (by rw [H16.out.2.2.2.2]; exact hk)) hst H16.out.2.1 (fun _ => rfl)
                (fun T pre V => KI w15 V b29 T pre.length) (fun _ _ _ _ => False) ?I ?Ix ?h0 ?round ?done ?stop
              case I =>
                rintro T pre A0 B0 hi ho
                rw [← H16.out.2.2.2.2] at ho
                exact hi.kept ho (fun k hk => by
                  have := H16.out.2.2.1
                  rcases hk with e | e | e
                  · exact hi.low _ e
                  · omega
                  · omega)
              case Ix =>
                rintro c T pre A0 B0 hf ho
                exact hf
              case h0 =>
                intro T W1 hb hsz hT
                rw [← H16.out.2.2.2.2] at hT
                exact ⟨H16.out.2.1.trans (hb.mono H16.out.2.1.size), (hb.block b29 (Array.getElem?_eq_some_iff.1 H16.out.1).1).trans H16.out.1, fun k hk => by
                  have h1 := (hT k hk).1
                  have := H16.out.2.2.1
                  omega, H16.out.2.2.2.1⟩
              case done =>
                rintro T xs V hS hi hD
                have hS' : xs.length = L.length := hS
                have hi' : KI w15 V b29 T xs.length := hi
                rw [hS', HLL.out.2.1] at hi'
                rw [← H16.out.2.2.2.2] at hD ⊢
                exact hAfter T V hi' hD
              case stop =>
                rintro T c0 pre V hS hf hD
                exact hf.elim
              case round =>
                rintro T pre ⟨at0, bse, oe, ce, xs⟩ Wp V hT hrec hdef hip hop hszp ⟨hgv, hnT⟩ hlt K0 hK0
                rw [← H16.out.2.2.2.2] at hT hrec hdef hK0 hszp
                obtain ⟨hml, -, hbase, hxs, hrn⟩ := hgv
                dsimp only at hbase hxs hrn
                obtain ⟨j, hj⟩ : ∃ j, j = pre.length := ⟨_, rfl⟩
                have hjk : j < kk := by rw [hj, ← HLL.out.2.1]; exact hml
                have hnw := H15.out.2.2.1
                have hkb := HST.out.2
                have hbj : j < (bs.map (·.2)).length := by rw [List.length_map]; omega
                obtain ⟨ol, el, hvj, hrl⟩ := HWR.out.2.2.2 j hbj
                have hLj : (bs.map (·.2))[j] = (L[pre.length]'hml).2 := by
                  rw [List.getElem_map]
                  have h1 := HLL.out.1
                  subst h1
                  rw [List.getElem_take]
                  simp only [hj]
                rw [hLj] at hvj hrl
                obtain ⟨l, hl⟩ : ∃ l, l = (L[pre.length]'hml).2 := ⟨_, rfl⟩
                rw [← hl] at hvj hrl hxs
                obtain ⟨N, hN⟩ : ∃ N, N = xs.length := ⟨_, rfl⟩
                have hlN : l.length = N := by rw [hN, ← hxs, List.length_map]
                have hN256 : N ≤ 1000000000 := by
                  have h1 := (HLL.out.2.2.2.2.1.good _ (List.getElem_mem hml)).len
                  rw [← hl] at h1
                  omega
                rw [← hN] at hrn
                rw [hlN] at hvj hrl
                obtain ⟨V', hV'⟩ : ∃ V', V' = V.alloc (.cells #[.int .i64 bse, .slice oe N ce] 40) := ⟨_, rfl⟩
                obtain ⟨B, hB⟩ : ∃ b, b = V.heap.size := ⟨_, rfl⟩
                have hbV : Below V.heap.size V V' := by rw [hV']; exact (Below.refl _ _).alloc (Nat.le_refl _) _
                have hBx : V'.heap[B]? = some (.cells #[.int .i64 bse, .slice oe N ce] 40 (0, 0)) := by rw [hV', hB]; exact alloc_cells _ _ _
                have hVl : n7 + 1 < V.heap.size := by
                  obtain ⟨r, hr⟩ := hrec
                  exact (Array.getElem?_eq_some_iff.1 hr).1
                have hipj : KI w15 Wp b29 T j := by rw [hj]; exact hip
                have HK := Lib.hid hK0
                have HX := Lib.hid (And.intro hxs (And.intro hrn (And.intro hN (And.intro hlN (And.intro hvj (And.intro hrl (And.intro hN256 hj)))))))
                have HI := Lib.hid (And.intro hipj (And.intro hop (And.intro (fun k hk => (hT k hk).2) (And.intro hVl hszp))))
                have HVB := Lib.hid (And.intro hbV (And.intro hBx hB))
                clear hxs hrn hlN hvj hrl hN256 hipj hip hop hT hVl hbV hBx hrec hdef hszp hK0 hlt hst hml hbase hAfter hnw hkb hbj hLj hl hN hj hnT
                unfold encB
                subst hAA
                gi_wp2_with fail
                rw [← HX.out.2.2.1, ← hV', ← hB]
                clear hV' hB
                refine HK.out _ _ (KeptX.of HVB.out.1) ?_
                intro W2 ho hr2
                have hopV : Only T Wp V' := HI.out.2.1.trans (Only.of_below HVB.out.1 (Nat.le_refl _) (fun _ => False)) (fun _ _ hf => hf.elim)
                have hop2 : Only (fun k => T k ∨ k = n7 + 1) Wp W2 := (hopV.mono (fun _ _ h => .inl h)).trans (ho.mono (fun k _ h => .inr h)) (fun _ _ h => h)
                have hn7 := H16.out.2.2.1
                have hVl := HI.out.2.2.2.1
                have hWz := HI.out.2.2.2.2
                have hBV := HVB.out.2.2
                have hi2 : KI w15 W2 b29 T j := HI.out.1.kept hop2 (fun k hk => by
                  rcases hk with e | e
                  · exact HI.out.1.low _ e
                  · omega)
                have hkb : W2.heap[B]? = some (.cells #[.int .i64 bse, .slice oe N ce] 40 (0, 0)) := (ho.block B (Array.getElem?_eq_some_iff.1 HVB.out.2.1).1 (fun e => by omega)).trans HVB.out.2.1
                have hrn2 := (HX.out.2.1.later HVB.out.1).only ho (fun k hk => by omega)
                have hr16 := H15.out.2.1.trans (hi2.below.mono H15.out.2.1.size)
                have h2W := HJ.out.1.below.trans (hr16.mono HJ.out.1.below.size)
                have hrl := HX.out.2.2.2.2.2.1.below h2W
                obtain ⟨ys, hys, hri⟩ := hrl
                have hrow : readAt W2 1 (.slice ow nw cw) nw vs := (HWR.out.2.2.1.kept (fun k hk => hr16.block k (HWR.out.2.2.1.lt k hk))).read
                obtain ⟨gw, fw, rfl⟩ := hrow.addr (by have h1 := H15.out.2.2.1; have h2 := HST.out.2; omega)
                have hg12 := (hr16.block b12 (Array.getElem?_eq_some_iff.1 HWR.out.2.1).1).trans HWR.out.2.1
                have hg20 := (hi2.below.block b20 (Array.getElem?_eq_some_iff.1 H15.out.2.2.2.1).1).trans H15.out.2.2.2.1
                have q29 := cell_regrown (cell_of hi2.box rfl : W2.cell? ⟨b29, 0, none⟩ = some (.int .i64 (j : Int)))
                have q20 := cell_regrown (cell_of hg20 rfl : W2.cell? ⟨b20, 0, none⟩ = some (.int .i64 (kk : Int)))
                have q12 := cell_regrown (cell_of hg12 rfl : W2.cell? ⟨b12, 0, none⟩ = some (.slice (some ⟨gw, fw, none⟩) nw cw))
                have qB := cell_regrown (cell_of hkb rfl : W2.cell? ⟨B, 1, none⟩ = some (.slice oe N ce))
                have qw := cell_regrown (rdCell hrow HX.out.2.2.2.2.1)
                have hsa : ∀ d os, Calls Tryz.prog 18 #[.slice oe N ce, .slice ol N el] (grow (redrawn W2 d) os) fun e w'' => e = .returned (.bool true) ∧ Below (grow (redrawn W2 d) os).heap.size (grow (redrawn W2 d) os) w'' := fun d os => by
                  have hb := below_regrown W2 d os
                  have h1 : RecsIs (grow (redrawn W2 d) os) (.slice oe N ce) xs := by
                    exact (hrn2.later hb).is
                  have h2 := sameAll_b HX.out.1 hys HX.out.2.2.1.symm (by rw [← HX.out.2.2.2.1, ← hys, List.length_map]) h1 (hri.below hb) HX.out.2.2.2.2.2.2.1
                  rwa [decide_eq_true rfl] at h2
                have cT : ∀ d os l m, CallsIn (Fence.wide.inRound l) m Tryz.prog 18 #[.slice oe N ce, .slice ol N el] (grow (redrawn W2 d) os) fun e w'' => e = .returned (.bool true) ∧ ∃ p : Regrown, w'' = grow (redrawn W2 p.d) p.os := fun d os l m => CallsIn.regrown_of (CallsIn.inRound _ (callsIn_wide.2 (hsa d os)))
                have hjw : j < nw := by have h1 := H15.out.2.2.1; have h2 := HST.out.2; omega
                have hd0 : decide ((kk : Int) ≤ (j : Int)) = false := decide_eq_false (by omega)
                have hd1 : decide (kk ≤ j) = false := decide_eq_false (by omega)
                have hjn : (j : Int) < (nw : Int) := by omega
                have hj0 : ¬ ((j : Int) < 0) := by omega
                have hj0' : (0 : Int) ≤ (j : Int) := by omega
                have HI2 := Lib.hid hi2
                generalize hQ : toldPost _ _ _ _ _ = Q
                have HQ := Lib.hid hQ
                clear hopV hop2 hn7 hVl hWz hBV hi2 hkb hrn2 hr16 h2W hys hri hrow hg12 hg20 hsa ho hr2 hQ
                gi_wp2_with fail
                refine wpIn_region_below_ndR (by kernel_rfl) (by kernel_rfl) (by kernel_rfl) ?_
                repeat (quiet_step_in (first | exact ⟨fun _ => by omega, cT _ _ _ _⟩ | exact cT _ _ _ _))
                refine wpQuietIn_nil ?_
                intro _ hw'
                obtain ⟨⟨dq, osq⟩, hw''⟩ := hw'
                obtain ⟨w6, hw6⟩ : ∃ V, V = grow (redrawn W2 dq) osq := ⟨_, rfl⟩
                have hb26 : Below W2.heap.size W2 w6 := by rw [hw6]; exact below_regrown W2 dq osq
                have hi6 := HI2.out.later hb26
                subst hw''
                rw [← hw6]
                have k6 : w6.cell? ⟨b29, 0, none⟩ = some (.int .i64 (j : Int)) := cell_of hi6.box rfl
                have z6 : w6.frozen? ⟨b29, 0, none⟩ = false := free_of hi6.box _
                have HI6 := Lib.hid (And.intro hi6 hb26)
                have hjm : j ≤ 20 := by have h1 := HST.out.2; have h2 := HJ.out.2.2; omega
                clear q29 q20 q12 qB qw cT hd0 hd1 hw6 hb26 hi6 HI2
                gi_wp2_with fail
                rw [← HQ.out]
                have hl6 := HI6.out.1.low
                have hn7 := H16.out.2.2.1
                have hset : (b29 = b29 ∨ n7 ≤ b29) ∧ ¬ (T b29 ∨ b29 = n7 ∨ b29 = n7 + 1) := ⟨.inl rfl, fun e => by rcases e with e | e | e; (have := hl6 _ e; omega); omega; omega⟩
                have hjj : ((j : Int) + 1) = ((j + 1 : Nat) : Int) := by omega
                rw [hjj]
                refine ⟨(KeptX.of HI6.out.2).join (only_setCell _ _ b29 _ _ hset), ?_⟩
                show KI w15 _ b29 T (pre ++ [(⟨at0, bse, oe, ce, xs⟩ : BatV)]).length
                rw [List.length_append, List.length_singleton, ← HX.out.2.2.2.2.2.2.2]
                exact ⟨HI6.out.1.below.setCell (p := ⟨b29, 0, none⟩) (by show w15.heap.size ≤ b29; have := HI6.out.1.at'; omega) _, heap_setCell_here _ HI6.out.1.box, hl6, HI6.out.1.at'⟩
end Go.Proofs.YtmkjejngnahpeaaGreat
