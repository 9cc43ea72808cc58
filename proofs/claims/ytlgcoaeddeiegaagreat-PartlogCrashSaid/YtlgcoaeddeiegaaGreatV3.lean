/- The texts Mq, Mh, Mi, Mj, Dx, Dz, Mk in one. -/
import Derived.Test.YtlgcoaeddeiegaaGreatV2
import Derived.BigQuiet
import Derived.Deep.RegionLaw
import Derived.Defers
import Derived.Recover
/- index: New, none, may, Add. -/
namespace Go.Proofs.YtlgcoaeddeiegaaGreat
open Go Go.RowKit
attribute [local go_sem] Oper.semAt_some

abbrev Sp := Nat × Nat
def spCells (x : Sp) : List Value := [.int .i64 (x.1 : Int), .int .i64 (x.2 : Int)]
def spsCells (l : List Sp) : List Value := l.flatMap spCells
structure IdxI (w : World) (x step : Nat) (sv : Value) (l : List Sp) : Prop where
  head : w.heap[x]? = some (.cells #[.int .i64 (step : Int), sv] 311 (0, 0))
  row : rowAt w 262 2 sv l.length (spsCells l)
theorem spsCells_get {l : List Sp} {i j : Nat} (h : i < l.length) (hj : j < 2) : (spsCells l)[i * 2 + j]? = (spCells l[i])[j]? := flat_get (f := spCells) (m := 2) (fun _ => rfl) l i h j hj
theorem IdxI.later {w w' : World} {x step : Nat} {sv : Value} {l : List Sp} (h : IdxI w x step sv l) (hb : Below w.heap.size w w') : IdxI w' x step sv l :=
  ⟨(hb.block _ (Array.getElem?_eq_some_iff.1 h.head).1).trans h.head, h.row.kept (fun k hk => hb.block k (h.row.lt k hk))⟩
theorem IdxI.cells {w : World} {x step n c i : Nat} {oa : Option Addr} {l : List Sp} (h : IdxI w x step (.slice oa n c) l) (hn : l.length = n) (hi : i < l.length) : ∃ g off, oa = some ⟨g, off, none⟩ ∧ w.cell? ⟨g, off + i * 2, none⟩ = some (.int .i64 (l[i].1 : Int)) ∧ w.cell? ⟨g, off + i * 2 + 1, none⟩ = some (.int .i64 (l[i].2 : Int)) := by
  have hr := h.row
  rw [hn] at hr
  obtain ⟨g, off, rfl⟩ := hr.addr (by omega)
  refine ⟨g, off, rfl, ?_, ?_⟩
  · exact rdCell hr.read (i := i * 2) (by have := spsCells_get hi (show 0 < 2 by omega); rw [Nat.add_zero] at this; rw [this]; rfl)
  · have := rdCell hr.read (i := i * 2 + 1) (u := .int .i64 (l[i].2 : Int)) (by rw [spsCells_get hi (by omega)]; rfl)
    rw [← Nat.add_assoc] at this
    exact this
def NewIdx (w : World) (st : Int) (e : Ending) (w' : World) : Prop :=
  ((st < 1 ∨ 16777216 < st) ∧ e = .returned (.tuple #[.pointer none, .int .i64 2]) ∧ w' = w) ∨
      (1 ≤ st ∧ st ≤ 16777216 ∧ e = .returned (.tuple #[.pointer (some ⟨w.heap.size, 0, none⟩), .int .i64 0]) ∧ w' = w.alloc (.cells #[.int .i64 st, .slice none 0 0] 311))
set_option maxRecDepth 100000 in
set_option maxHeartbeats 400000 in
theorem idxNew_b {w : World} {st : Int} :
    Calls Tryz.prog 133 #[.int .i64 st] w fun e w' => NewIdx w st e w' := by
  by_cases h1 : st < 1
  · have d1 : decide (st < 1) = true := decide_eq_true h1
    go_enter Tryz.func133, Tryz.ntmps133
    go_wp2_with fail
    go_ret2
    exact .inl ⟨.inl h1, rfl, rfl⟩
  · have d1 : decide (st < 1) = false := decide_eq_false h1
    by_cases h2 : 16777216 < st
    · have d2 : decide (16777216 < st) = true := decide_eq_true h2
      go_enter Tryz.func133, Tryz.ntmps133
      go_wp2_with fail
      go_ret2
      exact .inl ⟨.inr h2, rfl, rfl⟩
    · have d2 : decide (16777216 < st) = false := decide_eq_false h2
      go_enter Tryz.func133, Tryz.ntmps133
      go_wp2_with fail
      go_ret2
      exact .inr ⟨by omega, by omega, rfl, rfl⟩
set_option maxRecDepth 100000 in
set_option maxHeartbeats 400000 in
theorem idxNone_b {w : World} {x step : Nat} {sv : Value} {l : List Sp} (h : IdxI w x step sv l) (hs : 1 ≤ step) :
    Calls Tryz.prog 185 #[.pointer (some ⟨x, 0, none⟩)] w fun e w' => e = .returned (.bool false) ∧ w' = w := by
  have k0 : w.cell? ⟨x, 0, none⟩ = some (.int .i64 (step : Int)) := cell_of h.head rfl
  have hz : ((step : Int) == 0) = false := by rw [beq_eq_false_iff_ne]; omega
  have hz2 : (step == 0) = false := by rw [beq_eq_false_iff_ne]; omega
  clear h
  go_enter Tryz.func185, Tryz.ntmps185
  go_wp2_with fail
  go_ret
  exact ⟨rfl, rfl⟩
def spMay (l : List Sp) (s : Sp) : Prop := s.1 ≤ 9007199254740992 ∧ s.2 ≤ 16777216 ∧ ∀ y, l.getLast? = some y → y.1 < s.1 ∧ y.2 < s.2
set_option maxRecDepth 100000 in
set_option maxHeartbeats 1000000 in
theorem idxMay_b {w : World} {x step : Nat} {sv : Value} {l : List Sp} {s : Sp} (h : IdxI w x step sv l) (hm : spMay l s) (hl : l.length ≤ 1000000) :
    Calls Tryz.prog 186 #[.pointer (some ⟨x, 0, none⟩), .agg #[.int .i64 (s.1 : Int), .int .i64 (s.2 : Int)]] w fun e w' => e = .returned (.bool true) ∧ Below w.heap.size w w' := by
  obtain ⟨n, hn⟩ : ∃ n, l.length = n := ⟨_, rfl⟩
  obtain ⟨oa, c, rfl, -⟩ := h.row.shape
  rw [hn] at h hl
  obtain ⟨so, sp⟩ := s
  obtain ⟨m1, m2, m3⟩ := hm
  dsimp only at m1 m2 m3 ⊢
  obtain ⟨w1, hw1⟩ : ∃ W : World, W = w.alloc (.cells #[.int .i64 (so : Int), .int .i64 (sp : Int)] 262) := ⟨_, rfl⟩
  obtain ⟨b3, hb3⟩ : ∃ b, b = w.heap.size := ⟨_, rfl⟩
  have h13 : w1.heap[b3]? = some (.cells #[.int .i64 (so : Int), .int .i64 (sp : Int)] 262 (0, 0)) := by rw [hw1, hb3]; exact alloc_cells _ _ _
  have hbl : Below w.heap.size w w1 := by rw [hw1]; exact (Below.refl _ _).alloc (Nat.le_refl _) _
  have hi := h.later hbl
  have q0 : w1.cell? ⟨b3, 0, none⟩ = some (.int .i64 (so : Int)) := cell_of h13 rfl
  have q1 : w1.cell? ⟨b3, 1, none⟩ = some (.int .i64 (sp : Int)) := cell_of h13 rfl
  have k1 : w1.cell? ⟨x, 1, none⟩ = some (.slice oa n c) := cell_of hi.head rfl
  have d1 : decide ((so : Int) < 0) = false := decide_eq_false (by omega)
  have d2 : decide ((9007199254740992 : Int) < (so : Int)) = false := decide_eq_false (by omega)
  have d2' : decide ((9007199254740992 : Nat) < so) = false := decide_eq_false (by omega)
  have d3 : decide ((sp : Int) < 0) = false := decide_eq_false (by omega)
  have d4 : decide ((16777216 : Int) < (sp : Int)) = false := decide_eq_false (by omega)
  have d4' : decide ((16777216 : Nat) < sp) = false := decide_eq_false (by omega)
  have HB := Lib.hid hbl
  by_cases h0 : n = 0
  · subst h0
    clear h hi h13 hbl m3
    go_enter Tryz.func186, Tryz.ntmps186
    go_upto_region 1 with fail
    rw [← hw1, ← hb3]
    clear hw1 hb3
    go_wp2_with fail
    go_quiet (fail)
    go_wp2_with fail
    go_ret
    exact ⟨rfl, ⟨HB.out.os, HB.out.tape, HB.out.output, HB.out.size, HB.out.block⟩⟩
  · have hz : ((n : Int) == 0) = false := by rw [beq_eq_false_iff_ne]; omega
    have hz2 : (n == 0) = false := by rw [beq_eq_false_iff_ne]; omega
    obtain ⟨g, off, rfl, c0, c1⟩ := hi.cells (i := n - 1) hn (by omega)
    have hgl : l.getLast? = some l[n - 1] := by
      rw [List.getLast?_eq_getElem?, show l.length - 1 = n - 1 by omega]
      exact List.getElem?_eq_getElem _
    obtain ⟨m31, m32⟩ := m3 _ hgl
    obtain ⟨y, hy⟩ : ∃ y, l[n - 1] = y := ⟨_, rfl⟩
    rw [hy] at c0 c1 m31 m32
    have d5 : decide (y.1 < so) = true := decide_eq_true m31
    have d6 : decide (y.2 < sp) = true := decide_eq_true m32
    obtain ⟨n1, hn1⟩ : ∃ n1, n = n1 + 1 := ⟨n - 1, by omega⟩
    have e1 : n - 1 = n1 := by omega
    rw [e1] at c0 c1
    have hcast : (n : Int) - 1 = (n1 : Int) := by omega
    have hn1l : n1 < n := by omega
    clear h hi h13 hbl m3 hgl hy hn e1 hn1 m31 m32
    go_enter Tryz.func186, Tryz.ntmps186
    go_upto_region 1 with fail
    rw [← hw1, ← hb3]
    clear hw1 hb3
    go_wp2_with fail
    go_quiet (fail)
    go_wp2_with fail
    go_ret
    exact ⟨rfl, ⟨HB.out.os, HB.out.tape, HB.out.output, HB.out.size, HB.out.block⟩⟩
def spNear (step : Nat) (l : List Sp) (s : Sp) : Bool := match l.getLast? with
  | none => false
  | some y => decide (s.2 - y.2 < step)
theorem info_sp : (Tryz.prog.info? 262).map (fun i => (i.zero, i.size, i.bytes)) = some (some (.agg #[.int .i64 0, .int .i64 0]), 2, 16) := by kernel_rfl
theorem step_spot {V : World} {ops : Array Oper} {o : Oper} {a : Act} {K : Act → World → Prop} {Q : Exit → Act → World → Prop} {E : Prop}
    (hg : o.guard = none) (s x : Operand) (ho : o.op = .call { callee := .builtin .append, args := #[s, x], argTypes := #[309, 309] })
    {oa : Option Addr} {m c : Nat} {l : List Sp} (hl : l.length = m) (h : rowAt V 262 2 (.slice oa m c) m (spsCells l)) {ob : Option Addr} {d : Nat} {y : Sp} (hy : readAt V 2 (.slice ob 1 d) 1 (spCells y)) (hm : m ≤ 1000000)
    (hs : a.eval s = .slice oa m c) (hx : a.eval x = .slice ob 1 d)
    (hK : ∀ oa3 c3 w3, Hid (rowAt w3 262 2 (.slice oa3 (m + 1) c3) (m + 1) (spsCells (l ++ [y])) ∧ V.grownBy w3 (Value.slice oa m c).ownBlock ∧ ((Value.slice oa3 (m + 1) c3).ownBlock = (Value.slice oa m c).ownBlock ∨ (Value.slice oa3 (m + 1) c3).ownBlock = some V.heap.size)) → K (a.put o.dst (.slice oa3 (m + 1) c3)) w3) :
    if Region.wanted o (yielded ops a.tmps) = true then Oper.wp Tryz.prog o a V K Q else E := by
  have hw : Region.wanted o (yielded ops a.tmps) = true := by simp [Region.wanted, hg]
  rw [if_pos hw]
  subst hl
  have hone : ∀ v ∈ spCells y, v.oneCell' = true := fun v hv => by
    simp only [spCells, List.mem_cons, List.not_mem_nil, or_false] at hv
    rcases hv with rfl | rfl <;> rfl
  obtain ⟨i, hi, hz, hsz, hby⟩ := info_parts info_sp
  obtain ⟨v', w', hrun, r1, r2, r3, r4⟩ := run_append_at (P := Tryz.prog) V 309 309 o.type 262 i _ 2 16 Tryz.underlying309 hi hz hsz hby rfl _ l.length _ h _ 1 _ (Src.of_read Tryz.underlying309 hy hone) (by unfold maxLen; omega) (by omega)
  obtain ⟨oa3, c3, rfl, _⟩ := r1.shape
  unfold Oper.wp
  simp [execOp, ho, resolve, invoke, builtin, hs, hx, hrun, Result.andThen]
  refine hK oa3 c3 w' (Lib.hid ⟨?_, r2, r3⟩)
  have e : spsCells (l ++ [y]) = spsCells l ++ spCells y := by unfold spsCells; simp
  rw [e]
  exact r1
theorem spot_row (W : World) (a b : Nat) : readAt (W.alloc (.cells #[.int .i64 (a : Int), .int .i64 (b : Int)] 262)) 2 (.slice (some ⟨W.heap.size, 0, none⟩) 1 1) 1 (spCells (a, b)) := by
  have h : rowAt (W.alloc (.cells #[.int .i64 (a : Int), .int .i64 (b : Int)] 262)) 262 2 (.slice (some ⟨W.heap.size, 0, none⟩) 1 1) 1 (spCells (a, b)) :=
    ⟨rfl, .inr ⟨_, 0, 1, _, _, rfl, alloc_cells _ _ _, Nat.le_refl _, by unfold maxLen; omega, by simp, freeRow_zero _, rfl⟩⟩
  exact h.read
theorem rowAt.notX {W : World} {T T' : TypeId} {s n b : Nat} {v : Value} {xs : List Value} {cs : Array Value} {fr : Nat × Nat} (h : rowAt W T s v n xs) (hb : W.heap[b]? = some (.cells cs T' fr)) (hT : T ≠ T') : v.ownBlock ≠ some b := fun hk => by
  rcases h.2 with ⟨rfl, _⟩ | ⟨g, off, cap, cur, fr2, rfl, hg, _⟩
  · simp [Value.ownBlock] at hk
  · simp only [Value.ownBlock, Option.some.injEq] at hk
    subst hk
    rw [hg] at hb
    simp only [Option.some.injEq, Obj.cells.injEq] at hb
    exact hT hb.2.1
def AddIs (w : World) (x step : Nat) (sv : Value) (l : List Sp) (s : Sp) (e : Ending) (w' : World) : Prop :=
  ∃ sv', e = .returned (.tuple #[.bool (!spNear step l s), .int .i64 0]) ∧ IdxI w' x step sv' (if spNear step l s = true then l else l ++ [s]) ∧ Only (fun k => k = x ∨ sv.ownBlock = some k) w w' ∧ (∀ k, sv'.ownBlock = some k → sv.ownBlock = some k ∨ w.heap.size ≤ k)
theorem add_end {w W V w3 : World} {x step m c c3 : Nat} {oa oa3 : Option Addr} {l : List Sp} {s : Sp} (hr : rowAt w3 262 2 (.slice oa3 (m + 1) c3) (m + 1) (spsCells (l ++ [s])) ∧ V.grownBy w3 (Value.slice oa m c).ownBlock ∧ ((Value.slice oa3 (m + 1) c3).ownBlock = (Value.slice oa m c).ownBlock ∨ (Value.slice oa3 (m + 1) c3).ownBlock = some V.heap.size))
    (h : IdxI w x step (.slice oa m c) l) (hW : Below w.heap.size w W) (hV : Below W.heap.size W V) (hn : l.length = m) (hns : spNear step l s = false) :
    (w3.heap[x]? = some (.cells #[.int .i64 (step : Int), .slice oa m c] 311 (0, 0))) ∧ AddIs w x step (.slice oa m c) l s (.returned (.tuple #[.bool true, .int .i64 0])) (w3.setCell ⟨x, 1, none⟩ (.slice oa3 (m + 1) c3)) := by
  subst hn
  obtain ⟨r1, r2, r3⟩ := hr
  have hwV := hW.trans (hV.mono hW.size)
  have hxl := (Array.getElem?_eq_some_iff.1 h.head).1
  have hnx := h.row.notX h.head (by decide)
  have hx3 : w3.heap[x]? = some (.cells #[.int .i64 (step : Int), .slice oa l.length c] 311 (0, 0)) := (r2.block x (Nat.lt_of_lt_of_le hxl hwV.size) (fun e => hnx e.symm)).trans ((hwV.block x hxl).trans h.head)
  have ho3 : Only (fun k => k = x ∨ (Value.slice oa l.length c).ownBlock = some k) w w3 := (Only.of_below hwV (Nat.le_refl _) _).trans (Only.of_grown (S := fun k => (Value.slice oa l.length c).ownBlock = some k) r2 (fun k e => e)) (fun _ _ e => .inr e)
  have hnx3 := r1.notX hx3 (by decide)
  have hoS : Only (fun k => k = x) w3 (w3.setCell ⟨x, 1, none⟩ (.slice oa3 (l.length + 1) c3)) := only_setCell (fun k => k = x) _ x 1 _ rfl
  refine ⟨hx3, .slice oa3 (l.length + 1) c3, by rw [hns]; rfl, ⟨heap_setCell_here _ hx3, ?_⟩, ho3.trans hoS (fun _ _ e => .inl e), fun k hk => ?_⟩
  · rw [if_neg (by rw [hns]; simp), List.length_append]
    exact r1.kept (fun k hk => hoS.block k (r1.lt k hk) (fun e => hnx3 (by rw [← e]; exact hk)))
  · rcases r3 with r3 | r3
    · exact .inl (by rw [← r3]; exact hk)
    · rw [r3] at hk
      simp only [Option.some.injEq] at hk
      have := hwV.size
      exact .inr (by omega)
set_option maxRecDepth 100000 in
set_option maxHeartbeats 2000000 in
theorem idxAdd_b {w : World} {x step : Nat} {sv : Value} {l : List Sp} {s : Sp} (h : IdxI w x step sv l) (hm : spMay l s) (hl : l.length ≤ 1000000) (hst : 1 ≤ step) :
    Calls Tryz.prog 143 #[.pointer (some ⟨x, 0, none⟩), .agg #[.int .i64 (s.1 : Int), .int .i64 (s.2 : Int)]] w fun e w' => AddIs w x step sv l s e w' := by
  obtain ⟨w1, hw1⟩ : ∃ W : World, W = w.alloc (.cells #[.int .i64 (s.1 : Int), .int .i64 (s.2 : Int)] 262) := ⟨_, rfl⟩
  obtain ⟨b3, hb3⟩ : ∃ b, b = w.heap.size := ⟨_, rfl⟩
  have h13 : w1.heap[b3]? = some (.cells #[.int .i64 (s.1 : Int), .int .i64 (s.2 : Int)] 262 (0, 0)) := by rw [hw1, hb3]; exact alloc_cells _ _ _
  have hbl : Below w.heap.size w w1 := by rw [hw1]; exact (Below.refl _ _).alloc (Nat.le_refl _) _
  have hi := h.later hbl
  have HN := Lib.hid (idxNone_b hi hst)
  have HM := Lib.hid (idxMay_b hi hm hl)
  have q0 : w1.cell? ⟨b3, 0, none⟩ = some (.int .i64 (s.1 : Int)) := cell_of h13 rfl
  have q1 : w1.cell? ⟨b3, 1, none⟩ = some (.int .i64 (s.2 : Int)) := cell_of h13 rfl
  have H1 := Lib.hid (And.intro h (And.intro h13 (And.intro hbl hb3)))
  have HS := Lib.hid hm
  clear h h13 hbl hi hm
  go_enter Tryz.func143, Tryz.ntmps143
  go_upto_region 1 with fail
  rw [← hw1, ← hb3]
  clear hw1 hb3
  go_wp2_with fail
  refine HN.out.mono ?_
  rintro e w1' ⟨rfl, hw⟩
  obtain rfl := hw.symm
  clear hw HN
  go_wp2_with fail
  refine HM.out.mono ?_
  rintro e w2 ⟨rfl, hb2⟩
  have h23 := (hb2.block b3 (Array.getElem?_eq_some_iff.1 H1.out.2.1).1).trans H1.out.2.1
  have hbw2 : Below w.heap.size w w2 := H1.out.2.2.1.trans (hb2.mono H1.out.2.2.1.size)
  have hi2 := H1.out.1.later hbw2
  obtain ⟨n, hn⟩ : ∃ n, l.length = n := ⟨_, rfl⟩
  have hi2' := hi2
  obtain ⟨oa, c, rfl, -⟩ := hi2.row.shape
  rw [hn] at hi2'
  rw [hn] at hl
  have j0 : w2.cell? ⟨b3, 0, none⟩ = some (.int .i64 (s.1 : Int)) := cell_of h23 rfl
  have j1 : w2.cell? ⟨b3, 1, none⟩ = some (.int .i64 (s.2 : Int)) := cell_of h23 rfl
  have k1 : w2.cell? ⟨x, 1, none⟩ = some (.slice oa n c) := cell_of hi2'.head rfl
  have k0 : w2.cell? ⟨x, 0, none⟩ = some (.int .i64 (step : Int)) := cell_of hi2'.head rfl
  have hi1 := H1.out.1
  rw [hn] at hi1
  have H2 := Lib.hid (And.intro hi2' (And.intro hbw2 (And.intro hn hi1)))
  clear hi1
  have HRR : Hid (∀ W : World, Below w2.heap.size w2 W → rowAt W 262 2 (.slice oa n c) n (spsCells l)) := Lib.hid (fun W hb => by
    have h1 := hi2'.row
    rw [hn] at h1
    exact h1.kept (fun k hk => hb.block k (h1.lt k hk)))
  have HXX : Hid (∀ W : World, Below w2.heap.size w2 W → W.heap[x]? = some (.cells #[.int .i64 (step : Int), .slice oa n c] 311 (0, 0))) := Lib.hid (fun W hb => (hb.block x (Array.getElem?_eq_some_iff.1 hi2'.head).1).trans hi2'.head)
  clear h23 hi2 hi2' hbw2 hb2 hn HM q0 q1
  by_cases h0 : n = 0
  · subst h0
    have hns : spNear step l s = false := by
      have := List.eq_nil_of_length_eq_zero H2.out.2.2.1
      subst this
      rfl
    have HNS := Lib.hid hns
    clear hns
    go_upto_region 6 with fail
    go_quiet (fail)
    generalize hW0 : w2.drewN _ = W0
    have hb0 : Below w2.heap.size w2 W0 := by rw [← hW0]; exact ⟨rfl, rfl, rfl, Nat.le_refl _, fun _ _ => rfl⟩
    have hc : ∀ a : Addr, W0.cell? a = w2.cell? a := fun a => by rw [← hW0]; rfl
    have i0 := (hc _).trans j0
    have i1 := (hc _).trans j1
    have l1 := (hc _).trans k1
    clear hc hW0 j0 j1 k0 k1
    go_upto_region 8 with fail
    have hv0 := hb0.alloc hb0.size (.cells #[.int .i64 (s.1 : Int), .int .i64 (s.2 : Int)] 262)
    have hxl : x < W0.heap.size := World.block_lt_of_cell? _ _ l1
    have l1a := (((Below.refl W0.heap.size W0).alloc (Nat.le_refl _) (.cells #[.int .i64 (s.1 : Int), .int .i64 (s.2 : Int)] 262)).cell (p := ⟨x, 1, none⟩) hxl).trans l1
    clear hxl
    go_region_law (refine step_spot (y := s) (by rfl) (.tmp 45) (.tmp 47) (by rfl) H2.out.2.2.1 (HRR.out _ ⟨hv0.os, hv0.tape, hv0.output, hv0.size, hv0.block⟩) (spot_row W0 s.1 s.2) (by omega) (by rfl) (by rfl) ?_; intro oa3 c3 w3 HR3; have hae := add_end (W := w2) HR3.out H2.out.2.2.2 H2.out.2.1 ⟨hv0.os, hv0.tape, hv0.output, hv0.size, hv0.block⟩ H2.out.2.2.1 HNS.out; have x3 := cell_of (i := 1) hae.1 rfl; have z3 : w3.frozen? ⟨x, 1, none⟩ = false := free_of hae.1 _; have HAE := Lib.hid hae.2; clear hae)
    all_goals
      go_wp2_with fail
      go_ret2
      rw [H2.out.2.2.1]
      exact HAE.out
  · have hz0 : decide (0 < n) = true := decide_eq_true (by omega)
    have hnl : n - 1 < l.length := by have := H2.out.2.2.1; omega
    obtain ⟨g, off, rfl, c0, c1⟩ := H2.out.1.cells (i := n - 1) H2.out.2.2.1 hnl
    have hgl : l.getLast? = some l[n - 1] := by
      rw [List.getLast?_eq_getElem?, show l.length - 1 = n - 1 by have := H2.out.2.2.1; omega]
      exact List.getElem?_eq_getElem _
    have hlt := HS.out.2.2 _ hgl
    obtain ⟨y, hy⟩ : ∃ y, l[n - 1] = y := ⟨_, rfl⟩
    rw [hy] at c0 c1 hgl hlt
    obtain ⟨n1, hn1⟩ : ∃ n1, n = n1 + 1 := ⟨n - 1, by omega⟩
    have e1 : n - 1 = n1 := by omega
    rw [e1] at c0 c1
    have hcast : (n : Int) - 1 = (n1 : Int) := by omega
    have hn1l : n1 < n := by omega
    have hlt2 := hlt.2
    have hs24 := HS.out.2.1
    have hnr : spNear step l s = decide (s.2 - y.2 < step) := by unfold spNear; rw [hgl]
    by_cases hnear : s.2 - y.2 < step
    · have hns : spNear step l s = true := by rw [hnr]; exact decide_eq_true hnear
      have HNS := Lib.hid hns
      have hd : decide ((s.2 : Int) - (y.2 : Int) < (step : Int)) = true := decide_eq_true (by omega)
      clear hns hnr hgl hlt hy hn1 e1 hnl
      go_upto_region 6 with fail
      go_quiet (fail)
      go_wp2_with fail
      go_ret2
      have hb0 : Below w.heap.size w (w2.drewN nq) := ⟨H2.out.2.1.os, H2.out.2.1.tape, H2.out.2.1.output, H2.out.2.1.size, H2.out.2.1.block⟩
      rw [H2.out.2.2.1]
      refine ⟨_, by rw [HNS.out]; rfl, by rw [if_pos HNS.out]; exact H2.out.2.2.2.later hb0, Only.of_below hb0 (Nat.le_refl _) _, fun k hk => .inl hk⟩
    · have hns : spNear step l s = false := by rw [hnr]; exact decide_eq_false hnear
      have HNS := Lib.hid hns
      have hd : decide ((s.2 : Int) - (y.2 : Int) < (step : Int)) = false := decide_eq_false (by omega)
      clear hns hnr hgl hlt hy hn1 e1 hnl
      go_upto_region 6 with fail
      go_quiet (fail)
      generalize hW0 : w2.drewN _ = W0
      have hb0 : Below w2.heap.size w2 W0 := by rw [← hW0]; exact ⟨rfl, rfl, rfl, Nat.le_refl _, fun _ _ => rfl⟩
      have hc : ∀ a : Addr, W0.cell? a = w2.cell? a := fun a => by rw [← hW0]; rfl
      have i0 := (hc _).trans j0
      have i1 := (hc _).trans j1
      have l1 := (hc _).trans k1
      clear hc hW0 j0 j1 k0 k1
      go_upto_region 8 with fail
      have hv0 := hb0.alloc hb0.size (.cells #[.int .i64 (s.1 : Int), .int .i64 (s.2 : Int)] 262)
      have hxl : x < W0.heap.size := World.block_lt_of_cell? _ _ l1
      have l1a := (((Below.refl W0.heap.size W0).alloc (Nat.le_refl _) (.cells #[.int .i64 (s.1 : Int), .int .i64 (s.2 : Int)] 262)).cell (p := ⟨x, 1, none⟩) hxl).trans l1
      clear hxl
      go_region_law (refine step_spot (y := s) (by rfl) (.tmp 45) (.tmp 47) (by rfl) H2.out.2.2.1 (HRR.out _ ⟨hv0.os, hv0.tape, hv0.output, hv0.size, hv0.block⟩) (spot_row W0 s.1 s.2) (by omega) (by rfl) (by rfl) ?_; intro oa3 c3 w3 HR3; have hae := add_end (W := w2) HR3.out H2.out.2.2.2 H2.out.2.1 ⟨hv0.os, hv0.tape, hv0.output, hv0.size, hv0.block⟩ H2.out.2.2.1 HNS.out; have x3 := cell_of (i := 1) hae.1 rfl; have z3 : w3.frozen? ⟨x, 1, none⟩ = false := free_of hae.1 _; have HAE := Lib.hid hae.2; clear hae)
      all_goals
        go_wp2_with fail
        go_ret2
        rw [H2.out.2.2.1]
        exact HAE.out
def CutAt (l : List Sp) (off : Int) (r : Nat) : Prop := r ≤ l.length ∧ (∀ i (h : i < l.length), i < r → (l[i].1 : Int) ≤ off) ∧ (∀ i (h : i < l.length), r ≤ i → off < (l[i].1 : Int))
def spotAt (l : List Sp) (r : Nat) : Sp := if r = 0 then (0, 0) else l.getD (r - 1) (0, 0)
end Go.Proofs.YtlgcoaeddeiegaaGreat
/- record: Put. -/
namespace Go.Proofs.YtlgcoaeddeiegaaGreat
open Go Go.RowKit
attribute [local go_sem] Oper.semAt_some

def PutIs (w : World) (base : Int) (l : List Rc) (e : Ending) (w' : World) : Prop :=
  ∃ oa m c, e = .returned (.tuple #[.slice oa m c, .int .i64 (putT base l).2]) ∧ NewB w w' (.slice oa m c) (putT base l).1
theorem put_none {w w' : World} {base : Int} {l : List Rc} {er : Int} (h : putT base l = ([], er)) (hb : Below w.heap.size w w') : PutIs w base l (.returned (.tuple #[.slice none 0 0, .int .i64 er])) w' :=
  ⟨none, 0, 0, by rw [h], by rw [h]; exact NewB.nil hb⟩
theorem flat_take {l : List Rc} {i : Nat} (h : i < l.length) : (l.take (i + 1)).flatMap Rc.bytes = (l.take i).flatMap Rc.bytes ++ l[i].bytes := by
  rw [List.take_succ_eq_append_getElem h, List.flatMap_append]
  simp
theorem PutB.of_new {w0 W : World} {v : Value} {l : List UInt8} (h : NewB w0 W v l) : PutB w0 w0 (.slice none 0 0) W v l :=
  ⟨h, Only.of_below h.below (Nat.le_refl _) _, fun k hk => .inr (h.own k hk)⟩
theorem step_putR {w0 V : World} {ops : Array Oper} {o : Oper} {a : Act} {K : Act → World → Prop} {Q : Exit → Act → World → Prop} {E : Prop}
    (hg : o.guard = none) (s x : Operand) (ho : o.op = .call { callee := .builtin .append, args := #[s, x], argTypes := #[39, 39] })
    {oa : Option Addr} {m c : Nat} {l : List UInt8} (h : NewB w0 V (.slice oa m c) l) {ob : Option Addr} {n d : Nat} {ys : List UInt8} (hn : ys.length = n) (hy : readAt V 1 (.slice ob n d) n (byteCells ys)) (hmn : m + n ≤ 1000000000)
    (hs : a.eval s = .slice oa m c) (hx : a.eval x = .slice ob n d)
    (hK : ∀ oa3 c3 w3, Hid (PutB w0 V (.slice oa m c) w3 (.slice oa3 (m + n) c3) (l ++ ys)) → K (a.put o.dst (.slice oa3 (m + n) c3)) w3) :
    if Region.wanted o (yielded ops a.tmps) = true then Oper.wp Tryz.prog o a V K Q else E := by
  have hw : Region.wanted o (yielded ops a.tmps) = true := by simp [Region.wanted, hg]
  rw [if_pos hw]
  have hlm := h.len
  subst hlm
  subst hn
  obtain ⟨i, hi, hz, hsz, hby⟩ := info_parts info_u8
  obtain ⟨v', w', hrun, r1, r2, r3, r4⟩ := run_append_at (P := Tryz.prog) V 39 39 o.type 5 i _ 1 1 Tryz.underlying39 hi hz hsz hby rfl _ l.length _ h.row _ ys.length _ (Src.of_read Tryz.underlying39 hy (byteCells_one _)) (by unfold maxLen; omega) (by omega)
  obtain ⟨oa3, c3, rfl, _⟩ := r1.shape
  unfold Oper.wp
  simp [execOp, ho, resolve, invoke, builtin, hs, hx, hrun, Result.andThen]
  exact hK oa3 c3 w' (Lib.hid (PutB.grown h (Below.refl _ _) r1 r2 r3))
set_option maxRecDepth 100000 in
set_option maxHeartbeats 4000000 in
theorem putR_b {w : World} {base : Int} {oa : Option Addr} {n c : Nat} {xs : List RcV} {l : List Rc} (hl : xs.map (·.r) = l) (hn : xs.length = n) (h : RecsIs w (.slice oa n c) xs) (hnm : n ≤ 1000000000) (hb9 : -9223372036854775808 ≤ base ∧ base ≤ 9223372036854775807) :
    Calls Tryz.prog 148 #[.agg #[.int .i64 base, .slice oa n c]] w fun e w' => PutIs w base l e w' := by
  have hln : l.length = n := by rw [← hl, List.length_map, hn]
  obtain ⟨w1, hw1⟩ : ∃ W : World, W = w.alloc (.cells #[.int .i64 base, .slice oa n c] 168) := ⟨_, rfl⟩
  obtain ⟨b1, hb1⟩ : ∃ b, b = w.heap.size := ⟨_, rfl⟩
  have h1 : w1.heap[b1]? = some (.cells #[.int .i64 base, .slice oa n c] 168 (0, 0)) := by rw [hw1, hb1]; exact alloc_cells _ _ _
  have hbl : Below w.heap.size w w1 := by rw [hw1]; exact (Below.refl _ _).alloc (Nat.le_refl _) _
  have k0 : w1.cell? ⟨b1, 0, none⟩ = some (.int .i64 base) := cell_of h1 rfl
  have k1 : w1.cell? ⟨b1, 1, none⟩ = some (.slice oa n c) := cell_of h1 rfl
  have HF := Lib.hid (fits_b hl hn (h.below hbl) hnm)
  obtain ⟨f1, hf1⟩ : ∃ x, (fitsT l).1 = x := ⟨_, rfl⟩
  obtain ⟨f2, hf2⟩ : ∃ x, (fitsT l).2 = x := ⟨_, rfl⟩
  rw [hf1, hf2] at HF
  have HFT := Lib.hid (And.intro hf1 hf2)
  have HL := Lib.hid (And.intro hl (And.intro hn hln))
  have H1 := Lib.hid (And.intro h1 (And.intro hbl hb1))
  have HR := Lib.hid h
  clear hl hn h hln h1 hbl hf1 hf2
  go_enter Tryz.func148, Tryz.ntmps148
  go_upto_region 1 with fail
  rw [← hw1, ← hb1]
  clear hw1 hb1
  go_wp2_with fail
  refine HF.out.mono ?_
  rintro e w2 ⟨rfl, hb2⟩
  have h12 := (hb2.block b1 (Array.getElem?_eq_some_iff.1 H1.out.1).1).trans H1.out.1
  have j0 : w2.cell? ⟨b1, 0, none⟩ = some (.int .i64 base) := cell_of h12 rfl
  have j1 : w2.cell? ⟨b1, 1, none⟩ = some (.slice oa n c) := cell_of h12 rfl
  have H2 := Lib.hid (And.intro h12 (H1.out.2.1.trans (hb2.mono H1.out.2.1.size)))
  clear hb2 h12 k0 k1 HF
  have hf2c : f2 = 2 ∨ f2 = 8 ∨ f2 = 0 := by
    rw [← HFT.out.2]
    unfold fitsT
    split
    · exact .inl rfl
    · split
      · exact .inl rfl
      · split
        · exact .inr (.inl rfl)
        · split
          · exact .inr (.inl rfl)
          · exact .inr (.inr rfl)
  by_cases he2 : f2 = 2
  · subst he2
    have hpt : putT base l = ([], 2) := by
      unfold putT putOk
      rw [HFT.out.2]
      simp
    have HP := Lib.hid hpt
    clear hpt hf2c
    go_wp2_with fail
    go_ret2
    exact put_none HP.out H2.out.2
  · have d2 : (f2 == 2) = false := by rw [beq_eq_false_iff_ne]; exact he2
    have hmin : min (n : Int) 9007199254740992 = (n : Int) := by omega
    by_cases hok : base < 0 ∨ 9007199254740992 < base ∨ 9007199254740992 < base + (n : Int) - 1
    · have hpt : putT base l = ([], 2) := by
        unfold putT putOk
        have hln := HL.out.2.2
        rw [hln, if_pos]
        rcases hok with h | h | h
        · rw [decide_eq_true h]; simp
        · rw [decide_eq_true h]; simp
        · rw [decide_eq_true h]; simp
      have HP := Lib.hid hpt
      clear hpt hf2c
      by_cases c1 : base < 0
      · have e1 : decide (base < 0) = true := decide_eq_true c1
        go_wp2_with fail
        go_ret2
        exact put_none HP.out H2.out.2
      · have e1 : decide (base < 0) = false := decide_eq_false c1
        by_cases c2 : 9007199254740992 < base
        · have e2 : decide (9007199254740992 < base) = true := decide_eq_true c2
          go_wp2_with fail
          go_ret2
          exact put_none HP.out H2.out.2
        · have e2 : decide (9007199254740992 < base) = false := decide_eq_false c2
          have c3 : 9007199254740992 < base + (n : Int) - 1 := by omega
          have e3 : decide (9007199254740992 < base + (n : Int) - 1) = true := decide_eq_true c3
          go_wp2_with fail
          go_ret2
          exact put_none HP.out H2.out.2
    · have e1 : decide (base < 0) = false := decide_eq_false (by omega)
      have e2 : decide (9007199254740992 < base) = false := decide_eq_false (by omega)
      have e3 : decide (9007199254740992 < base + (n : Int) - 1) = false := decide_eq_false (by omega)
      have hpok : putOk base l = true := by
        unfold putOk
        rw [HFT.out.2, HL.out.2.2, decide_eq_false he2, e1, e2, e3]
        rfl
      by_cases he8 : f2 = 0
      case neg =>
        have hf8 : f2 = 8 := by rcases hf2c with h | h | h; exact absurd h he2; exact h; exact absurd h he8
        subst hf8
        have hpt : putT base l = ([], 8) := by
          unfold putT
          rw [hpok, HFT.out.2]
          rfl
        have HP := Lib.hid hpt
        clear hpt hf2c hpok
        go_wp2_with fail
        go_ret2
        exact put_none HP.out H2.out.2
      case pos =>
        subst he8
        have hpt : putT base l = (batchT base l, 0) := by
          unfold putT
          rw [hpok, HFT.out.2]
          rfl
        have hnf : l ≠ [] ∧ (∀ r ∈ l, r.ok = true) ∧ l.length ≤ 256 ∧ rcsSize l ≤ 65536 ∧ f1 = rcsSize l := by
          have h1 := HFT.out
          unfold fitsT at h1
          by_cases g1 : l = []
          · rw [if_pos g1] at h1; cases h1.2
          · rw [if_neg g1] at h1
            by_cases g2 : (l.any fun r => !r.ok) = true
            · rw [if_pos g2] at h1; cases h1.2
            · rw [if_neg g2] at h1
              by_cases g3 : 256 < l.length
              · rw [if_pos g3] at h1; cases h1.2
              · rw [if_neg g3] at h1
                by_cases g4 : 65536 < rcsSize l
                · rw [if_pos g4] at h1; cases h1.2
                · rw [if_neg g4] at h1
                  refine ⟨g1, fun r hr => ?_, by omega, by omega, h1.1.symm⟩
                  have g5 : ∀ x ∈ l, x.ok = true := by simpa using g2
                  exact g5 r hr
        obtain ⟨bn, hbn⟩ : ∃ bn : Nat, base = (bn : Int) := ⟨base.toNat, by omega⟩
        subst hbn
        have HP := Lib.hid (And.intro hpt hnf)
        have hn256 : n ≤ 256 := by have := HL.out.2.2; have := hnf.2.2.1; omega
        have hbn53 : bn ≤ 9007199254740992 := by omega
        have hcv : IntKind.u64.wrap (bn : Int) = (bn : Int) := by rw [u64_wrap]; omega
        have hcn : IntKind.u64.wrap (n : Int) = (n : Int) := by rw [u64_wrap]; omega
        have HP1 := Lib.hid (put0_b (Below.refl w2.heap.size w2) bn 8 (by omega) (by omega))
        clear hpt hnf hf2c hpok hok he2 d2
        go_upto_region 6 with fail
        go_wp2_with fail
        refine HP1.out.mono ?_
        rintro e w3 ⟨oa3, c3, rfl, hp3⟩
        have hx3 := (hp3.box H2.out.1 (by simp [Value.ownBlock])).1
        have g0 : w3.cell? ⟨b1, 0, none⟩ = some (.int .i64 (bn : Int)) := cell_of hx3 rfl
        have g1 : w3.cell? ⟨b1, 1, none⟩ = some (.slice oa n c) := cell_of hx3 rfl
        have HP2 := Lib.hid (put_b hp3.new (by omega) n 4 (by omega) (by omega))
        have H3 := Lib.hid hp3
        clear hp3 hx3 j0 j1 HP1
        go_wp2_with fail
        refine HP2.out.mono ?_
        rintro e w4 ⟨oa4, c4, rfl, hp4⟩
        have hp4' := H3.out.trans hp4
        have hx4 := (hp4'.box H2.out.1 (by simp [Value.ownBlock])).1
        have g0' : w4.cell? ⟨b1, 0, none⟩ = some (.int .i64 (bn : Int)) := cell_of hx4 rfl
        have g1' : w4.cell? ⟨b1, 1, none⟩ = some (.slice oa n c) := cell_of hx4 rfl
        have H4 := Lib.hid hp4'
        clear hp4 hp4' hx4 g0 g1 HP2 H3
        go_wp2_with fail
        go_loopw [6, 57] (fun s i wr => ∃ (k m' : Nat) (oa' : Option Addr) (c' : Nat), s = .slice oa' m' c' ∧ i = .int .i64 (k : Int) ∧ k ≤ n ∧ m' ≤ 12 + 4364 * k ∧ Hid (PutB w2 w2 (.slice none 0 0) wr (.slice oa' m' c') (leT bn 8 ++ leT n 4 ++ (l.take k).flatMap Rc.bytes))) (fun _ i _ => n - (intOf i).toNat)
        case atStart => exact ⟨0, 12, oa4, c4, rfl, rfl, by omega, by omega, Lib.hid (by simpa using H4.out)⟩
        case round =>
          obtain ⟨k, m', oa', c', rfl, rfl, hk, hm', HI⟩ := hrel
          by_cases hlt : k < n
          · have hkx : k < xs.length := by rw [HL.out.2.1]; exact hlt
            have hkl : k < l.length := by rw [HL.out.2.2]; exact hlt
            have hbw : Below w.heap.size w wr := H2.out.2.trans (HI.out.new.below.mono H2.out.2.size)
            have hri := HR.out.below hbw
            have hrd := HR.out.each xs[k] (List.getElem_mem hkx)
            obtain ⟨g, off, ka, kc, va, vc, rfl, hkv, hvv, d0, d1, d2⟩ := hri.cells HL.out.2.1 hkx
            have hrx : xs[k].r = l[k] := by simp [← HL.out.1]
            rw [hkv, hvv, hrx] at hrd
            have hrd1 : readAt w 1 (.slice ka l[k].key.length kc) l[k].key.length (byteCells l[k].key) := hrd.1
            have hrd2 : readAt w 1 (.slice va l[k].val.length vc) l[k].val.length (byteCells l[k].val) := hrd.2
            clear hrd
            rw [hrx] at d0 d1 d2
            have hok := HP.out.2.2.1 l[k] (List.getElem_mem hkl)
            have hft := flat_take hkl
            obtain ⟨r, hr⟩ : ∃ r, l[k] = r := ⟨_, rfl⟩
            rw [hr] at d0 d1 d2 hok hft hrd1 hrd2
            unfold Rc.ok at hok
            simp only [Bool.and_eq_true, decide_eq_true_eq] at hok
            obtain ⟨tn, htn⟩ : ∃ tn : Nat, r.time = (tn : Int) := ⟨r.time.toNat, by omega⟩
            obtain ⟨rk, hrk⟩ : ∃ x, r.key.length = x := ⟨_, rfl⟩
            obtain ⟨rv, hrv⟩ : ∃ x, r.val.length = x := ⟨_, rfl⟩
            have hby : r.bytes = leT tn 8 ++ leT rk 2 ++ leT rv 2 ++ r.key ++ r.val := by unfold Rc.bytes; rw [htn, hrk, hrv]; rfl
            rw [htn] at d0 hok
            rw [hrk] at d1 hok hrd1
            rw [hrv] at d2 hok hrd2
            have htn53 : tn ≤ 9007199254740992 := by omega
            have hct : IntKind.u64.wrap (tn : Int) = (tn : Int) := by rw [u64_wrap]; omega
            have hck : IntKind.u64.wrap (rk : Int) = (rk : Int) := by rw [u64_wrap]; omega
            have hcv2 : IntKind.u64.wrap (rv : Int) = (rv : Int) := by rw [u64_wrap]; omega
            have hrkb : rk ≤ 256 := by omega
            have hrvb : rv ≤ 4096 := by omega
            obtain ⟨w5, hw5⟩ : ∃ W : World, W = wr.alloc (.cells #[.int .i64 (tn : Int), .slice ka rk kc, .slice va rv vc] 150) := ⟨_, rfl⟩
            obtain ⟨b8, hb8⟩ : ∃ b, b = wr.heap.size := ⟨_, rfl⟩
            have h58 : w5.heap[b8]? = some (.cells #[.int .i64 (tn : Int), .slice ka rk kc, .slice va rv vc] 150 (0, 0)) := by rw [hw5, hb8]; exact alloc_cells _ _ _
            have hb5 : Below wr.heap.size wr w5 := by rw [hw5]; exact (Below.refl _ _).alloc (Nat.le_refl _) _
            have hne5 : (Value.slice oa' m' c').ownBlock ≠ some b8 := fun e => by
              have := HI.out.new.row.lt b8 e
              omega
            have q0 : w5.cell? ⟨b8, 0, none⟩ = some (.int .i64 (tn : Int)) := cell_of h58 rfl
            have HPA := Lib.hid (put_b (HI.out.new.kept hb5) (by omega) tn 8 (by omega) (by omega))
            have H5 := Lib.hid (And.intro h58 (And.intro hne5 (And.intro hb5 (hbw.trans (hb5.mono hbw.size)))))
            have HRD := Lib.hid (And.intro hrd1 hrd2)
            have HBY := Lib.hid (And.intro hby (And.intro hft (And.intro hrk hrv)))
            clear hkx hkl hbw hri hrd1 hrd2 hkv hvv hrx hok hft hr htn hrk hrv hby h58 hb5 hne5
            go_upto_region 11 with fail
            rw [← hw5, ← hb8]
            clear hw5 hb8
            go_wp2_with fail
            refine HPA.out.mono ?_
            rintro e w6 ⟨oa6, c6, rfl, hp6⟩
            have hx6 := hp6.box H5.out.1 H5.out.2.1
            have q1 : w6.cell? ⟨b8, 1, none⟩ = some (.slice ka rk kc) := cell_of hx6.1 rfl
            have HPB := Lib.hid (put_b hp6.new (by omega) rk 2 (by omega) (by omega))
            have H6 := Lib.hid (And.intro hp6 hx6)
            clear hp6 hx6 q0 HPA
            go_wp2_with fail
            refine HPB.out.mono ?_
            rintro e w7 ⟨oa7, c7, rfl, hp7⟩
            have hx7 := hp7.box H6.out.2.1 H6.out.2.2
            have q2 : w7.cell? ⟨b8, 2, none⟩ = some (.slice va rv vc) := cell_of hx7.1 rfl
            have HPC := Lib.hid (put_b hp7.new (by omega) rv 2 (by omega) (by omega))
            have H7 := Lib.hid (And.intro (H6.out.1.trans hp7) hx7)
            clear hp7 hx7 q1 HPB H6
            go_wp2_with fail
            refine HPC.out.mono ?_
            rintro e w8 ⟨oa8, c8, rfl, hp8⟩
            have hx8 := hp8.box H7.out.2.1 H7.out.2.2
            have q3 : w8.cell? ⟨b8, 1, none⟩ = some (.slice ka rk kc) := cell_of hx8.1 rfl
            have q4 : w8.cell? ⟨b8, 2, none⟩ = some (.slice va rv vc) := cell_of hx8.1 rfl
            have H8 := Lib.hid (And.intro (H7.out.1.trans hp8) hx8)
            clear hp8 hx8 q2 HPC H7
            have hbw8 : Below w.heap.size w w8 := H2.out.2.trans (H8.out.1.new.below.mono H2.out.2.size)
            have HN8 := Lib.hid (fun (W : World) (hb : Below w8.heap.size w8 W) => H8.out.1.new.kept hb)
            have HK8 := Lib.hid (fun (W : World) (hb : Below w8.heap.size w8 W) => HRD.out.1.kept (fun k hk _ _ => (hbw8.trans (hb.mono hbw8.size)).block k hk))
            have HX8 := Lib.hid (And.intro H8.out.2 (And.intro hbw8 (And.intro HBY.out.2.2.1 HBY.out.2.2.2)))
            clear hbw8
            go_upto_region 14 with fail
            go_region_law (first | (refine step_putR (by rfl) (.tmp 78) (.tmp 80) (by rfl) (HN8.out _ (by first | exact Below.refl _ _ | exact ⟨rfl, rfl, rfl, Nat.le_refl _, fun _ _ => rfl⟩)) HX8.out.2.2.1 (HK8.out _ (by first | exact Below.refl _ _ | exact ⟨rfl, rfl, rfl, Nat.le_refl _, fun _ _ => rfl⟩)) (by omega) (by rfl) (by rfl) ?_; intro oa9 c9 w9 HR9; have hx9 := HR9.out.box HX8.out.1.1 HX8.out.1.2; have q5 : w9.cell? ⟨b8, 2, none⟩ = some (.slice va rv vc) := cell_of hx9.1 rfl; have HV9 := Lib.hid (fun (W : World) (hb : Below w9.heap.size w9 W) => And.intro (HR9.out.new.kept hb) (HRD.out.2.kept (fun k hk _ _ => ((H2.out.2.trans (HR9.out.new.below.mono H2.out.2.size)).trans (hb.mono (Nat.le_trans H2.out.2.size HR9.out.new.below.size))).block k hk))); clear hx9) | (refine step_putR (by rfl) (.tmp 81) (.tmp 83) (by rfl) (HV9.out _ (by first | exact Below.refl _ _ | exact ⟨rfl, rfl, rfl, Nat.le_refl _, fun _ _ => rfl⟩)).1 HX8.out.2.2.2 (HV9.out _ (by first | exact Below.refl _ _ | exact ⟨rfl, rfl, rfl, Nat.le_refl _, fun _ _ => rfl⟩)).2 (by omega) (by rfl) (by rfl) ?_; intro oa10 c10 w10 HR10))
            all_goals
              go_wp2_with fail
              refine ⟨⟨k + 1, m' + 8 + 2 + 2 + rk + rv, oa10, c10, rfl, by simp, by omega, by omega, Lib.hid ?_⟩, by simp [intOf]; omega⟩
              have h := PutB.of_new HR10.out.new
              rw [HBY.out.2.1, HBY.out.1]
              simpa only [List.append_assoc] using h
          · obtain rfl : k = n := by omega
            have htk : l.take k = l := List.take_of_length_le (by rw [HL.out.2.2]; exact Nat.le_refl _)
            have hbd : leT bn 8 ++ leT k 4 ++ l.flatMap Rc.bytes = bodyT (bn : Int) l := by
              unfold bodyT
              rw [HL.out.2.2]
              rfl
            have hi := HI.out
            rw [htk, hbd] at hi
            have hbt : batchT (bn : Int) l = leT (f1 - 4) 4 ++ leT (crcSum (bodyT (bn : Int) l)).toNat 4 ++ bodyT (bn : Int) l := by
              unfold batchT
              rw [HP.out.2.2.2.2.2]
            have hml := hi.new.len
            obtain ⟨B, hB⟩ : ∃ B, bodyT (bn : Int) l = B := ⟨_, rfl⟩
            rw [hB] at hi hbt hml
            have hf1 : 32 ≤ f1 ∧ f1 ≤ 65536 ∧ f1 = m' + 8 := by
              have h1 := bodyT_len (bn : Int) l
              rw [hB, hml] at h1
              have h2 := HP.out.2.2.2.2
              have h3 : 20 ≤ rcsSize l := by unfold rcsSize; omega
              have h4 : 32 ≤ rcsSize l := by
                have h5 := HP.out.2.1
                cases l with
                | nil => exact absurd rfl h5
                | cons r l =>
                  unfold rcsSize Rc.size
                  rw [List.map_cons, List.sum_cons]
                  omega
              omega
            obtain ⟨hf1a, hf1b, hf1c⟩ := hf1
            have hm65 : m' ≤ 65536 := by omega
            clear hf1c
            obtain ⟨s, hs⟩ : ∃ s : Nat, crcSum B = (s : Int) := ⟨(crcSum B).toNat, by have := crcSum_u32 B; omega⟩
            have hsb : s < 4294967296 := by have := crcSum_u32 B; omega
            have hst : (crcSum B).toNat = s := by omega
            rw [hst] at hbt
            have HI2 := Lib.hid (And.intro hi (And.intro hml hs))
            obtain ⟨f4, hf4⟩ : ∃ f4 : Nat, (f1 : Int) - 4 = (f4 : Int) := ⟨f1 - 4, by omega⟩
            have hf4n : f1 - 4 = f4 := by omega
            rw [hf4n] at hbt
            have HBT := Lib.hid hbt
            have hcf : IntKind.u64.wrap (f4 : Int) = (f4 : Int) := by rw [u64_wrap]; omega
            have hcs : IntKind.u64.wrap (s : Int) = (s : Int) := by rw [u64_wrap]; omega
            have HP5 := Lib.hid (put0_b (w0 := w2) hi.new.below f4 4 (by omega) (by omega))
            clear htk hbd hi hbt hml hs hst HI hB g0' g1' hf4n
            go_upto_region 16 with fail
            go_wp2_with fail
            refine HP5.out.mono ?_
            rintro e w5 ⟨oa5, c5, rfl, hp5⟩
            have hbr5 : Below wr.heap.size wr w5 := hp5.only.below (fun i _ e => by simp [Value.ownBlock] at e) (Nat.le_refl _)
            have hv5 : ∀ j, (Value.slice oa5 4 c5).ownBlock = some j → wr.heap.size ≤ j := fun j hj => (hp5.own j hj).resolve_left (by simp [Value.ownBlock])
            obtain ⟨w6, hw6⟩ : ∃ W : World, W = w5.alloc (.cells #[.slice oa' m' c'] 39) := ⟨_, rfl⟩
            obtain ⟨b6, hb6⟩ : ∃ b, b = w5.heap.size := ⟨_, rfl⟩
            have h66 : w6.heap[b6]? = some (.cells #[.slice oa' m' c'] 39 (0, 0)) := by rw [hw6, hb6]; exact alloc_cells _ _ _
            have hb56 : Below w5.heap.size w5 w6 := by rw [hw6]; exact (Below.refl _ _).alloc (Nat.le_refl _) _
            have hbr6 : Below wr.heap.size wr w6 := hbr5.trans (hb56.mono hbr5.size)
            have hrr := HI2.out.1.new.row
            rw [HI2.out.2.1] at hrr
            have hrl := hrr.lt
            have hcr := crcSum_b (cell_of (i := 0) h66 rfl) HI2.out.2.1 (hrr.read.kept (fun j hj _ _ => hbr6.block j hj)) (by omega)
            rw [HI2.out.2.2] at hcr
            have HCR := Lib.hid hcr
            have H6 := Lib.hid (And.intro hp5 (And.intro hbr6 (And.intro hb56 (And.intro hv5 (And.intro hrr.read hrl)))))
            clear hp5 hbr5 hv5 h66 hb56 hbr6 hrr hrl hcr HP5
            go_wp2_with fail
            rw [← hw6, ← hb6]
            clear hw6 hb6
            refine HCR.out.mono ?_
            rintro e w7 ⟨rfl, hb67⟩
            have hb57 : Below w5.heap.size w5 w7 := H6.out.2.2.1.trans (hb67.mono H6.out.2.2.1.size)
            have hbr7 : Below wr.heap.size wr w7 := H6.out.2.1.trans (hb67.mono H6.out.2.1.size)
            have HP7 := Lib.hid (put_b (H6.out.1.new.kept hb57) (by omega) s 4 (by omega) (by omega))
            have H7 := Lib.hid hbr7
            clear hb67 hb57 hbr7 HCR
            go_wp2_with fail
            refine HP7.out.mono ?_
            rintro e w8 ⟨oa8, c8, rfl, hp8⟩
            have hro : readAt w8 1 (.slice oa' m' c') m' (byteCells B) := (H6.out.2.2.2.2.1.kept (fun j hj _ _ => H7.out.block j hj)).kept (fun j hj ho _ => hp8.only.block j hj (fun e => by
              have h1 := H6.out.2.2.2.2.2 j ho
              have h2 := H6.out.2.2.2.1 j e
              omega))
            have H8 := Lib.hid (And.intro hp8 hro)
            clear hp8 hro HP7
            go_wp2_with (at_builtin; refine wpList_putR rfl (.tmp 96) (.tmp 97) rfl H8.out.1.new HI2.out.2.1 H8.out.2 (by omega) rfl rfl ?_; intro oa9 c9 w9 HR9)
            go_ret2
            refine ⟨oa9, 4 + 4 + m', c9, by rw [HP.out.1]; rfl, ?_⟩
            rw [HP.out.1, HBT.out]
            have h9 := HR9.out.new
            exact ⟨h9.row, fun j hj => Nat.le_trans H2.out.2.size (h9.own j hj), H2.out.2.trans (h9.below.mono H2.out.2.size)⟩
end Go.Proofs.YtlgcoaeddeiegaaGreat
/- record: what batch's deferred closure does. -/
namespace Go.Proofs.YtlgcoaeddeiegaaGreat
open Go Go.RowKit
attribute [local go_sem] Oper.semAt_some

set_option maxRecDepth 100000 in
set_option maxHeartbeats 1000000 in
theorem batchIdle_b {w : World} {a b c : Value} :
    CallsD Tryz.prog 190 #[a, b, c] .returning w fun e u' w' => e = .returned (.tuple #[]) ∧ u' = .returning ∧ w' = w := by
  refine callsD_of_wpS Tryz.func190 rfl fun c₀ cs hu => ?_
  apply wpS_seq
  apply wpS_region
  simp [wpOpsS, go_sem, recoverD, hu, Tryz.ntmps190, Exit.thenS]
  refine wpS_of_wp ?_
  go_wp2_with fail
  cases c₀
  simp_all [bodyPostS, results, Tryz.results190]
set_option maxRecDepth 100000 in
set_option maxHeartbeats 1000000 in
theorem batchCatch_b {w : World} {b2 b3 b4 : Nat} {x0 x1 x3 x4 : Value} {er : Int} {older : List PanicEntry} (h2 : w.heap[b2]? = some (.cells #[x0, x1] 168 (0, 0))) (h3 : w.heap[b3]? = some (.cells #[x3] 3 (0, 0))) (h4 : w.heap[b4]? = some (.cells #[x4] 28 (0, 0))) (n32 : b3 ≠ b2) (n42 : b4 ≠ b2) (n43 : b4 ≠ b3) :
    CallsD Tryz.prog 190 #[.pointer (some ⟨b2, 0, none⟩), .pointer (some ⟨b3, 0, none⟩), .pointer (some ⟨b4, 0, none⟩)] (.panicking ({ v := .iface 318 (.agg #[.int .i64 er]), recovered := false } :: older)) w fun e u' w' =>
      e = .returned (.tuple #[]) ∧ u' = .panicking ({ v := .iface 318 (.agg #[.int .i64 er]), recovered := true } :: older) ∧ w'.heap[b2]? = some (.cells #[.int .i64 0, .slice none 0 0] 168 (0, 0)) ∧ w'.heap[b3]? = some (.cells #[.int .i64 0] 3 (0, 0)) ∧ w'.heap[b4]? = some (.cells #[.int .i64 er] 28 (0, 0)) ∧ Only (fun k => k = b2 ∨ k = b3 ∨ k = b4) w w' := by
  refine callsD_of_wpS Tryz.func190 rfl fun c₀ cs hu => ?_
  apply wpS_seq
  apply wpS_region
  simp [wpOpsS, go_sem, recoverD, hu, Tryz.ntmps190, Exit.thenS]
  refine wpS_of_wp ?_
  simp only [Array.replicate_succ, Array.replicate_zero, List.push_toArray, List.nil_append, List.cons_append]
  have hta : ∀ W : World, (Instr.typeAssert (.iface 318 (.agg #[.int .i64 er])) 20 318 true).run Tryz.prog W = .ok (.tuple #[.agg #[.int .i64 er], .bool true]) W := fun W => by kernel_rfl
  go_upto_region 7 with fail
  obtain ⟨w1, hw1⟩ : ∃ W : World, W = w.alloc (.cells #[.int .i64 er] 318) := ⟨_, rfl⟩
  obtain ⟨b5, hb5⟩ : ∃ b, b = w.heap.size := ⟨_, rfl⟩
  have h5 : w1.heap[b5]? = some (.cells #[.int .i64 er] 318 (0, 0)) := by rw [hw1, hb5]; exact alloc_cells _ _ _
  have hb1 : Below w.heap.size w w1 := by rw [hw1]; exact (Below.refl _ _).alloc (Nat.le_refl _) _
  have g2 := (hb1.block b2 (Array.getElem?_eq_some_iff.1 h2).1).trans h2
  have g3 := (hb1.block b3 (Array.getElem?_eq_some_iff.1 h3).1).trans h3
  have g4 := (hb1.block b4 (Array.getElem?_eq_some_iff.1 h4).1).trans h4
  have H := Lib.hid (And.intro g2 (And.intro g3 (And.intro g4 hb1)))
  have HU := Lib.hid hu
  have k5 : w1.cell? ⟨b5, 0, none⟩ = some (.int .i64 er) := cell_of h5 rfl
  have k20 : w1.cell? ⟨b2, 0, none⟩ = some x0 := cell_of g2 rfl
  have k21 : w1.cell? ⟨b2, 1, none⟩ = some x1 := cell_of g2 rfl
  have z20 : w1.frozen? ⟨b2, 0, none⟩ = false := free_of g2 _
  have z21 : w1.frozen? ⟨b2, 1, none⟩ = false := free_of g2 _
  have k3 : w1.cell? ⟨b3, 0, none⟩ = some x3 := cell_of g3 rfl
  have z3 : w1.frozen? ⟨b3, 0, none⟩ = false := free_of g3 _
  have k4 : w1.cell? ⟨b4, 0, none⟩ = some x4 := cell_of g4 rfl
  have z4 : w1.frozen? ⟨b4, 0, none⟩ = false := free_of g4 _
  rw [← hw1, ← hb5]
  have n52 : b5 ≠ b2 := by have := (Array.getElem?_eq_some_iff.1 h2).1; omega
  have n53 : b5 ≠ b3 := by have := (Array.getElem?_eq_some_iff.1 h3).1; omega
  have n54 : b5 ≠ b4 := by have := (Array.getElem?_eq_some_iff.1 h4).1; omega
  clear hw1 hb5 h5 hb1 g2 g3 g4 h2 h3 h4 hta hu
  have n23 := n32.symm
  have n24 := n42.symm
  have n34 := n43.symm
  have n25 := n52.symm
  have n35 := n53.symm
  have n45 := n54.symm
  go_region
  refine ⟨rfl, _, rfl, _, results_none rfl _ _ _, rfl, rfl, ?_, ?_, ?_, ?_⟩
  · exact (Below.heap_setCell _ _ _ _ n24).trans ((Below.heap_setCell _ _ _ _ n23).trans (heap_setCell_here _ (heap_setCell_here _ H.out.1)))
  · exact (Below.heap_setCell _ _ _ _ n34).trans (heap_setCell_here _ ((Below.heap_setCell _ _ _ _ n32).trans ((Below.heap_setCell _ _ _ _ n32).trans H.out.2.1)))
  · exact heap_setCell_here _ ((Below.heap_setCell _ _ _ _ n43).trans ((Below.heap_setCell _ _ _ _ n42).trans ((Below.heap_setCell _ _ _ _ n42).trans H.out.2.2.1)))
  · have h1 := Only.of_below H.out.2.2.2 (Nat.le_refl _) (fun k => k = b2 ∨ k = b3 ∨ k = b4)
    have h2 := ((((h1.trans (only_setCell _ _ b2 0 (.int .i64 0) (.inl rfl)) (fun _ _ e => e)).trans (only_setCell _ _ b2 1 (.slice none 0 0) (.inl rfl)) (fun _ _ e => e)).trans (only_setCell _ _ b3 0 (.int .i64 0) (.inr (.inl rfl))) (fun _ _ e => e)).trans (only_setCell _ _ b4 0 (.int .i64 er) (.inr (.inr rfl))) (fun _ _ e => e))
    exact ⟨h2.os, h2.tape, h2.output, h2.size, h2.block⟩
end Go.Proofs.YtlgcoaeddeiegaaGreat
/- record: batch, where nothing or a torn batch stands. -/
namespace Go.Proofs.YtlgcoaeddeiegaaGreat
open Go Go.RowKit
attribute [local go_sem] Oper.semAt_some

structure BtI (w W : World) (b2 b3 b4 : Nat) (x0 x1 x3 x4 : Value) : Prop where
  two : W.heap[b2]? = some (.cells #[x0, x1] 168 (0, 0))
  three : W.heap[b3]? = some (.cells #[x3] 3 (0, 0))
  four : W.heap[b4]? = some (.cells #[x4] 28 (0, 0))
  low : w.heap.size ≤ b2
  b23 : b3 = b2 + 1
  b24 : b4 = b2 + 2
  below : Below w.heap.size w W
theorem BtI.later {w W W' : World} {b2 b3 b4 : Nat} {x0 x1 x3 x4 : Value} (h : BtI w W b2 b3 b4 x0 x1 x3 x4) (hb : Below W.heap.size W W') : BtI w W' b2 b3 b4 x0 x1 x3 x4 :=
  ⟨(hb.block _ (Array.getElem?_eq_some_iff.1 h.two).1).trans h.two, (hb.block _ (Array.getElem?_eq_some_iff.1 h.three).1).trans h.three, (hb.block _ (Array.getElem?_eq_some_iff.1 h.four).1).trans h.four, h.low, h.b23, h.b24, h.below.trans (hb.mono h.below.size)⟩
theorem BtI.catch {w W : World} {b2 b3 b4 : Nat} {x0 x1 x3 x4 : Value} {er : Int} {older : List PanicEntry} (h : BtI w W b2 b3 b4 x0 x1 x3 x4) :
    CallsD Tryz.prog 190 #[.pointer (some ⟨b2, 0, none⟩), .pointer (some ⟨b3, 0, none⟩), .pointer (some ⟨b4, 0, none⟩)] (.panicking ({ v := .iface 318 (.agg #[.int .i64 er]), recovered := false } :: older)) W fun e u' w' =>
      e = .returned (.tuple #[]) ∧ u' = .panicking ({ v := .iface 318 (.agg #[.int .i64 er]), recovered := true } :: older) ∧ BtI w w' b2 b3 b4 (.int .i64 0) (.slice none 0 0) (.int .i64 0) (.int .i64 er) := by
  have e1 := h.b23
  have e2 := h.b24
  have e0 := h.low
  refine (batchCatch_b h.two h.three h.four (by omega) (by omega) (by omega)).mono ?_
  rintro e u' w' ⟨he, hu, h2, h3, h4, ho⟩
  exact ⟨he, hu, h2, h3, h4, h.low, h.b23, h.b24, h.below.trans (ho.below (fun i hi e => by rcases e with e | e | e <;> omega) h.below.size)⟩
theorem BtI.put3 {w W : World} {b2 b3 b4 : Nat} {x0 x1 x3 x4 : Value} (h : BtI w W b2 b3 b4 x0 x1 x3 x4) (v : Value) : BtI w (W.setCell ⟨b3, 0, none⟩ v) b2 b3 b4 x0 x1 v x4 := by
  have e1 := h.b23
  have e2 := h.b24
  have e0 := h.low
  exact ⟨(Below.heap_setCell _ _ _ _ (by show b2 ≠ b3; omega)).trans h.two, heap_setCell_here _ h.three, (Below.heap_setCell _ _ _ _ (by show b4 ≠ b3; omega)).trans h.four, h.low, h.b23, h.b24, h.below.setCell (p := ⟨b3, 0, none⟩) (by show w.heap.size ≤ b3; omega) _⟩
theorem BtI.put20 {w W : World} {b2 b3 b4 : Nat} {x0 x1 x3 x4 : Value} (h : BtI w W b2 b3 b4 x0 x1 x3 x4) (v : Value) : BtI w (W.setCell ⟨b2, 0, none⟩ v) b2 b3 b4 v x1 x3 x4 := by
  have e1 := h.b23
  have e2 := h.b24
  exact ⟨heap_setCell_here _ h.two, (Below.heap_setCell _ _ _ _ (by show b3 ≠ b2; omega)).trans h.three, (Below.heap_setCell _ _ _ _ (by show b4 ≠ b2; omega)).trans h.four, h.low, h.b23, h.b24, h.below.setCell (p := ⟨b2, 0, none⟩) h.low _⟩
theorem BtI.put21 {w W : World} {b2 b3 b4 : Nat} {x0 x1 x3 x4 : Value} (h : BtI w W b2 b3 b4 x0 x1 x3 x4) (v : Value) : BtI w (W.setCell ⟨b2, 1, none⟩ v) b2 b3 b4 x0 v x3 x4 := by
  have e1 := h.b23
  have e2 := h.b24
  exact ⟨heap_setCell_here _ h.two, (Below.heap_setCell _ _ _ _ (by show b3 ≠ b2; omega)).trans h.three, (Below.heap_setCell _ _ _ _ (by show b4 ≠ b2; omega)).trans h.four, h.low, h.b23, h.b24, h.below.setCell (p := ⟨b2, 1, none⟩) h.low _⟩
theorem BtI.put4 {w W : World} {b2 b3 b4 : Nat} {x0 x1 x3 x4 : Value} (h : BtI w W b2 b3 b4 x0 x1 x3 x4) (v : Value) : BtI w (W.setCell ⟨b4, 0, none⟩ v) b2 b3 b4 x0 x1 x3 v := by
  have e1 := h.b23
  have e2 := h.b24
  have e0 := h.low
  exact ⟨(Below.heap_setCell _ _ _ _ (by show b2 ≠ b4; omega)).trans h.two, (Below.heap_setCell _ _ _ _ (by show b3 ≠ b4; omega)).trans h.three, heap_setCell_here _ h.four, h.low, h.b23, h.b24, h.below.setCell (p := ⟨b4, 0, none⟩) (by show w.heap.size ≤ b4; omega) _⟩
theorem BtI.other {w W : World} {b2 b3 b4 b : Nat} {x0 x1 x3 x4 : Value} (h : BtI w W b2 b3 b4 x0 x1 x3 x4) (hb : b4 < b) (i : Nat) (v : Value) : BtI w (W.setCell ⟨b, i, none⟩ v) b2 b3 b4 x0 x1 x3 x4 := by
  have e1 := h.b23
  have e2 := h.b24
  have e0 := h.low
  exact ⟨(Below.heap_setCell _ _ _ _ (by show b2 ≠ b; omega)).trans h.two, (Below.heap_setCell _ _ _ _ (by show b3 ≠ b; omega)).trans h.three, (Below.heap_setCell _ _ _ _ (by show b4 ≠ b; omega)).trans h.four, h.low, h.b23, h.b24, h.below.setCell (p := ⟨b, i, none⟩) (by show w.heap.size ≤ b; omega) _⟩
theorem BtI.start (w : World) : BtI w (((w.alloc (.cells #[.int .i64 0, .slice none 0 0] 168)).alloc (.cells #[.int .i64 0] 3)).alloc (.cells #[.int .i64 0] 28)) w.heap.size (w.heap.size + 1) (w.heap.size + 1 + 1) (.int .i64 0) (.slice none 0 0) (.int .i64 0) (.int .i64 0) := by
  refine ⟨?_, ?_, ?_, Nat.le_refl _, rfl, rfl, (((Below.refl _ _).alloc (Nat.le_refl _) _).alloc (by simp) _).alloc (by simp; omega) _⟩
  · exact (Below.heap_alloc _ _ _ (by simp; omega)).trans ((Below.heap_alloc _ _ _ (by simp)).trans (alloc_cells _ _ _))
  · have := alloc_cells (w.alloc (.cells #[.int .i64 0, .slice none 0 0] 168)) #[.int .i64 0] 3
    rw [World.size_alloc] at this
    exact (Below.heap_alloc _ _ _ (by simp)).trans this
  · have := alloc_cells ((w.alloc (.cells #[.int .i64 0, .slice none 0 0] 168)).alloc (.cells #[.int .i64 0] 3)) #[.int .i64 0] 28
    rwa [World.size_alloc, World.size_alloc] at this
def batchNo (er : Int) : Value := .tuple #[.agg #[.int .i64 0, .slice none 0 0], .int .i64 0, .int .i64 er]
set_option maxRecDepth 100000 in
set_option maxHeartbeats 2000000 in
theorem batchEnd_b {w : World} {oa : Option Addr} {c : Nat} :
    Calls Tryz.prog 154 #[.slice oa 0 c] w fun e w' => e = .returned (batchNo 150) ∧ Below w.heap.size w w' := by
  have hmf : ∀ (fn : Fn) (first cap : Array Value) (W : World), (Instr.makeFunc fn first cap).run Tryz.prog W = .ok (.func fn first cap) W := fun _ _ _ _ => rfl
  have HS := Lib.hid (BtI.start w)
  go_enter_defers Tryz.func154, Tryz.ntmps154
  go_wp2_with fail
  refine leaves_cons (f := 190) (args := #[.pointer (some ⟨w.heap.size, 0, none⟩), .pointer (some ⟨w.heap.size + 1, 0, none⟩), .pointer (some ⟨w.heap.size + 1 + 1, 0, none⟩)]) (by simp) (by simp [go_sem]) ?_
  refine (HS.out.catch).mono ?_
  rintro e u' w2 ⟨rfl, rfl, hb⟩
  have c20 := cell_of (i := 0) hb.two rfl
  have c21 := cell_of (i := 1) hb.two rfl
  have c3 := cell_of (i := 0) hb.three rfl
  have c4 := cell_of (i := 0) hb.four rfl
  have HB := Lib.hid hb.below
  clear hb
  refine ⟨batchNo 150, ?_, rfl, HB.out⟩
  simp [results, Tryz.results154, go_sem, c20, c21, c3, c4, batchNo]
set_option maxRecDepth 100000 in
set_option maxHeartbeats 2000000 in
theorem batchTorn_b {w : World} {oa : Option Addr} {n c : Nat} {l : List UInt8} (hn : l.length = n) (h : readAt w 1 (.slice oa n c) n (byteCells l)) (h0 : 0 < n) (ht : n < 4 ∨ (4 ≤ n ∧ 28 ≤ getT (l.take 4) ∧ getT (l.take 4) ≤ 65532 ∧ n < getT (l.take 4) + 4)) :
    Calls Tryz.prog 154 #[.slice oa n c] w fun e w' => e = .returned (batchNo 151) ∧ Below w.heap.size w w' := by
  have hmf : ∀ (fn : Fn) (first cap : Array Value) (W : World), (Instr.makeFunc fn first cap).run Tryz.prog W = .ok (.func fn first cap) W := fun _ _ _ _ => rfl
  have HS := BtI.start w
  obtain ⟨w1, hw1⟩ : ∃ W : World, W = ((w.alloc (.cells #[.int .i64 0, .slice none 0 0] 168)).alloc (.cells #[.int .i64 0] 3)).alloc (.cells #[.int .i64 0] 28) := ⟨_, rfl⟩
  obtain ⟨b2, hb2⟩ : ∃ b, b = w.heap.size := ⟨_, rfl⟩
  obtain ⟨b3, hb3⟩ : ∃ b, b = w.heap.size + 1 := ⟨_, rfl⟩
  obtain ⟨b4, hb4⟩ : ∃ b, b = w.heap.size + 1 + 1 := ⟨_, rfl⟩
  rw [← hw1, ← hb4, ← hb3, ← hb2] at HS
  have HS := Lib.hid HS
  have hn0 : ((n : Int) == 0) = false := by rw [beq_eq_false_iff_ne]; omega
  have HR := Lib.hid (And.intro hn (h.kept (fun k hk _ _ => HS.out.below.block k hk)))
  clear hn h
  go_enter_defers Tryz.func154, Tryz.ntmps154
  go_upto_region 1 with fail
  rw [← hw1, ← hb4, ← hb3, ← hb2]
  clear hw1 hb4 hb3 hb2
  by_cases h4 : n < 4
  · have d4 : decide ((n : Int) < 4) = true := decide_eq_true (by omega)
    go_wp2_with fail
    refine leaves_cons (f := 190) (args := #[.pointer (some ⟨b2, 0, none⟩), .pointer (some ⟨b3, 0, none⟩), .pointer (some ⟨b4, 0, none⟩)]) (by simp) (by simp [go_sem]) ?_
    refine (HS.out.catch).mono ?_
    rintro e u' w2 ⟨rfl, rfl, hb⟩
    have c20 := cell_of (i := 0) hb.two rfl
    have c21 := cell_of (i := 1) hb.two rfl
    have c3 := cell_of (i := 0) hb.three rfl
    have c4 := cell_of (i := 0) hb.four rfl
    have HB := Lib.hid hb.below
    clear hb
    refine ⟨batchNo 151, ?_, rfl, HB.out⟩
    simp [results, Tryz.results154, go_sem, c20, c21, c3, c4, batchNo]
  · have d4 : decide ((n : Int) < 4) = false := decide_eq_false (by omega)
    have ht := ht.resolve_left h4
    have hg := get_b HR.out.1 HR.out.2 (k := 4) (by omega) (by omega)
    obtain ⟨lg, hlg⟩ : ∃ x, getT (l.take 4) = x := ⟨_, rfl⟩
    rw [hlg] at hg ht
    have HG := Lib.hid hg
    clear hg hlg
    have e1 : decide ((lg : Int) < 28) = false := decide_eq_false (by omega)
    have e2 : decide ((65532 : Int) < (lg : Int)) = false := decide_eq_false (by omega)
    have e3 : decide ((n : Int) < (lg : Int) + 4) = true := decide_eq_true (by omega)
    have hlb : lg ≤ 65532 := by omega
    have k3 : w1.cell? ⟨b3, 0, none⟩ = some (.int .i64 0) := cell_of HS.out.three rfl
    have z3 : w1.frozen? ⟨b3, 0, none⟩ = false := free_of HS.out.three _
    go_wp2_with fail
    refine HG.out.mono ?_
    rintro e w2 ⟨rfl, hw2⟩
    obtain rfl := hw2.symm
    clear hw2
    go_wp2_with fail
    refine leaves_cons (f := 190) (args := #[.pointer (some ⟨b2, 0, none⟩), .pointer (some ⟨b3, 0, none⟩), .pointer (some ⟨b4, 0, none⟩)]) (by simp) (by simp [go_sem]) ?_
    refine ((HS.out.put3 _).catch).mono ?_
    rintro e u' w2 ⟨rfl, rfl, hb⟩
    have c20 := cell_of (i := 0) hb.two rfl
    have c21 := cell_of (i := 1) hb.two rfl
    have c3 := cell_of (i := 0) hb.three rfl
    have c4 := cell_of (i := 0) hb.four rfl
    have HB := Lib.hid hb.below
    clear hb
    refine ⟨batchNo 151, ?_, rfl, HB.out⟩
    simp [results, Tryz.results154, go_sem, c20, c21, c3, c4, batchNo]
end Go.Proofs.YtlgcoaeddeiegaaGreat
/- Disk: Create. -/
namespace Go.Proofs.YtlgcoaeddeiegaaGreat
open Go Go.Maps Go.RowKit

theorem OpIs.next {w w2 : World} {S : Nat → Prop} {q mb : Nat} {fv' : Value} {L : List Fl} {d1 : Dk} (ho : Only (fun k => k = q) w w2) (h2 : DiskIs w2 S q mb fv' L d1) (n : Int) : OpIs w S q (n, d1) (.returned (.int .i64 n)) w2 :=
  ⟨rfl, ⟨mb, fv', L, h2.wider (fun k hk => .inl hk) (fun k hk => by
    rcases hk with hk | hk
    · exact h2.low k hk
    · exact hk.2)⟩, ho.mono (fun i _ hi => by rw [hi]; exact h2.q_mem)⟩
def newF (s : List UInt8) : F0 := ⟨s, [], 0, true, false⟩
set_option maxRecDepth 100000 in
theorem set_new {w w2 w3 w4 : World} {S : Nat → Prop} {q mb n' : Nat} {fv' : Value} {L : List Fl} {d d1 : Dk} {D : DataW Unit} {s : List UInt8} (ho : Only (fun k => k = q) w w2) (h2 : DiskIs w2 S q mb fv' L d1) (hd : Dic D (L.map fun x => (x.f.name, x.blk)))
    (hw3 : w3 = w2.alloc (.cells #[.slice none 0 0, .int .i64 0, .bool true, .bool false] 179)) (hg : w3.grownBy w4 (some mb))
    (hm : w4.ownsMap Tryz.prog 9 ptrElem mb n' (D.put (.string s) (.lit (.int .i64 w2.heap.size)))) (hne : ∀ x ∈ L, x.f.name ≠ s) (hnm : nameOk s = true) (hfew : d1.files.length < 4096) (hf : d.files = d1.files) :
    OpIs w S q (0, { d1 with files := insF (newF s) d.files }) (.returned (.int .i64 0)) w4 := by
  obtain ⟨A, B, rfl, hi⟩ := insF_split (newF s) L
  have hi' : insF (newF s) d.files = A.map (·.f) ++ newF s :: B.map (·.f) := by rw [hf, ← h2.files]; exact hi
  have hmb : mb < w2.heap.size := h2.low _ (h2.foot _ (by simp [diskBlocks]))
  have hb3 : w3.heap[w2.heap.size]? = some (.cells #[.slice none 0 0, .int .i64 0, .bool true, .bool false] 179 (0, 0)) := by rw [hw3]; exact alloc_cells _ _ _
  have hs3 : w2.heap.size < w3.heap.size := by rw [hw3]; simp
  have ho4 : Only (fun k => k = mb) w2 w4 := by
    have h5 : Only (fun k => k = mb) w2 w3 := by rw [hw3]; exact only_alloc _ _ _
    exact h5.trans (Only.of_grown (S := fun k => k = mb) hg (fun k hk => by simp at hk; exact hk.symm)) (fun _ _ h => h)
  have hb4 : w4.heap[w2.heap.size]? = w3.heap[w2.heap.size]? := hg.block _ hs3 (by simp; omega)
  have h6 := h2.file_add (x' := ⟨newF s, w2.heap.size, .slice none 0 0⟩) (fs := insF (newF s) d.files) ho4
    ⟨hb4.trans hb3, ⟨by simp [byteCells, newF], .inl ⟨rfl, by simp [newF]⟩⟩, by simp [newF], by simp [newF]⟩ hm
    (hd.put s w2.heap.size (fun f => by
      simp only [List.map_append, List.map_cons, List.mem_append, List.mem_cons, newF]
      constructor
      · rintro (h | h | h) <;> simp [h]
      · rintro (h | h | h) <;> simp [h]) (fun f hf' => by
      obtain ⟨x, hx, rfl⟩ := List.mem_map.1 hf'
      exact hne x hx))
    (fun k hk => by
      simp only [Fl.blocks, Value.ownBlock, Option.toList_none, List.mem_singleton] at hk
      have := hg.size
      rw [hk]
      exact ⟨Nat.le_refl _, by omega⟩) (by simp [Fl.blocks, Value.ownBlock]) hi' (insF_sorted _ _ (by rw [hf]; exact h2.sorted) (fun g hg' => by
      have : g ∈ (A ++ B).map (·.f) := by rw [h2.files, ← hf]; exact hg'
      obtain ⟨x, hx, rfl⟩ := List.mem_map.1 this
      exact hne x hx)) hnm hfew
  refine ⟨rfl, ⟨mb, fv', _, h6.wider (fun k hk => ?_) (fun k hk => ?_)⟩, ?_⟩
  · rcases hk with hk | hk
    · exact .inl hk
    · exact .inr ⟨Nat.le_trans ho.size hk.1, hk.2⟩
  · rcases hk with hk | hk
    · exact Nat.lt_of_lt_of_le (h2.low k hk) ho4.size
    · exact hk.2
  · exact (ho.mono (fun i _ hi => by rw [hi]; exact h2.q_mem)).trans ho4 (fun i _ hi => by rw [hi]; exact h2.foot _ (by simp [diskBlocks]))
set_option maxRecDepth 100000 in
set_option maxHeartbeats 1000000 in
theorem create_b {w : World} {S : Nat → Prop} {q : Nat} {d : Dk} (h : DiskAt w S q d) (nm : ByteArray) (hs : nm.size ≤ maxLen) :
    Calls Tryz.prog 134 #[.pointer (some ⟨q, 0, none⟩), .string nm] w fun e w' => OpIs w S q (d.create nm.data.toList) e w' := by
  obtain ⟨mb, fv, L, h⟩ := h
  have c0 : w.cell? ⟨q, 0, none⟩ = some (.map (some mb)) := cell_of h.head rfl
  go_enter Tryz.func134, Tryz.ntmps134
  go_wp2_with fail
  refine (asked_b h nm hs).mono ?_
  rintro e w' ⟨rfl, rfl⟩
  cases hn : nameOk nm.data.toList with
  | false =>
    have HO : Hid (OpIs w' S q (d.create nm.data.toList) (.returned (.int .i64 2)) w') := Lib.hid (by
      rw [show d.create nm.data.toList = (2, d) by simp [Dk.create, hn]]
      exact OpIs.same h 2)
    rw [show askE nm.data.toList = 2 by simp [askE, hn]]
    clear h hn
    go_wp2_with fail
    go_ret
    exact HO.out
  | true =>
    rw [show askE nm.data.toList = 0 by simp [askE, hn]]
    cases ha : d.at nm.data.toList with
    | some f =>
      obtain ⟨A, x, B, hL, rfl, hxn⟩ := h.at_some ha
      have hl := h.lookup_some (x := x) (by rw [hL]; simp) hs hxn
      have HO : Hid (OpIs w' S q (d.create nm.data.toList) (.returned (.int .i64 170)) w') := Lib.hid (by
        rw [show d.create nm.data.toList = (170, d) by simp [Dk.create, hn, ha]]
        exact OpIs.same h 170)
      clear h hn ha hL hxn
      go_wp2_with fail
      go_ret
      exact HO.out
    | none =>
      have hne := h.at_none ha
      have hl := h.lookup_none hs hne
      obtain ⟨D, hown, hsz, hd⟩ := h.look
      have hlen : (Builtin.len_ #[118] 3 #[.map (some mb)]).run Tryz.prog w' = .ok (.int .i64 (L.length : Int)) w' := by
        have := hown.len (t := 118) Tryz.underlying118 3
        rw [hsz] at this
        exact this
      have hfl : d.files.length = L.length := by rw [← h.files, List.length_map]
      obtain ⟨n, hln⟩ : ∃ n, L.length = n := ⟨_, rfl⟩
      rw [hln] at hlen hfl
      have HC : Hid (nameOk nm.data.toList = true ∧ d.at nm.data.toList = none ∧ d.files.length = n) := Lib.hid ⟨hn, ha, hfl⟩
      have HNE := Lib.hid hne
      have H := Lib.hid h
      have HD := Lib.hid hd
      clear h hn ha hne hfl hd hsz hown
      by_cases hf : 4096 ≤ n
      · have hb : decide ((4096 : Int) ≤ (n : Int)) = true := by simp; omega
        have HO : Hid (OpIs w' S q (d.create nm.data.toList) (.returned (.int .i64 6)) w') := Lib.hid (by
          rw [show d.create nm.data.toList = (6, d) by simp [Dk.create, HC.out.1, HC.out.2.1, HC.out.2.2, hf]]
          exact OpIs.same H.out 6)
        go_wp2_with fail
        go_ret
        exact HO.out
      · have hb : decide ((4096 : Int) ≤ (n : Int)) = false := by simp; omega
        go_wp2_with fail
        refine (step_b H.out).mono ?_
        rintro e w1 ⟨kd, kp, fv', rfl, hkp, h1, ho1⟩
        obtain ⟨er, her⟩ : ∃ er, d.fate.1 = er := ⟨_, rfl⟩
        rw [her]
        have H1 := Lib.hid h1
        have HO1 := Lib.hid ho1
        have HE := Lib.hid her
        clear h1 ho1 hkp her hl hlen hb H HD c0
        go_upto_region 10 with fail
        obtain ⟨w2, hw2⟩ : ∃ w2 : World, w2 = w1.alloc (.cells #[.int .i64 kd, .int .i64 kp] 98) := ⟨_, rfl⟩
        obtain ⟨r, hr⟩ : ∃ r, r = w1.heap.size := ⟨_, rfl⟩
        have h2 : DiskIs w2 S q mb fv' L d.next := by rw [hw2]; exact H1.out.below ((Below.refl _ _).alloc (Nat.le_refl _) _)
        have ho2 : Only (fun k => k = q) w' w2 := by rw [hw2]; exact HO1.out.trans (only_alloc (fun k => k = q) _ _) (fun _ _ h => h)
        rw [← hw2, ← hr]
        clear hw2 hr H1 HO1
        have c0 : w2.cell? ⟨q, 0, none⟩ = some (.map (some mb)) := cell_of h2.head rfl
        have H2 := Lib.hid h2
        have HO2 := Lib.hid ho2
        clear h2 ho2
        by_cases h0 : er = 0
        · subst h0
          obtain ⟨D2, hown, hsz, hd⟩ := H2.out.look
          obtain ⟨w3, hw3⟩ : ∃ w3 : World, w3 = w2.alloc (.cells #[.slice none 0 0, .int .i64 0, .bool true, .bool false] 179) := ⟨_, rfl⟩
          have HOWN : Hid (w3.ownsMap Tryz.prog 9 ptrElem mb n D2) := Lib.hid (by rw [hw3, ← hln]; exact hown.alloc _)
          have HW3 := Lib.hid hw3
          have HD2 := Lib.hid hd
          clear hown hsz hd
          have hkey : keyOf Tryz.prog 9 (.string nm) = some (.string nm.data.toList) := WideMaps.keyOf_string_mk (P := Tryz.prog) Tryz.underlying9 hs
          have HKEY := Lib.hid hkey
          clear hkey
          go_wp2_with (at_mapUpdate; rw [← hw3]; refine wpList_mapUpdate_own _ rfl _ _ _ 118 rfl 9 175 (string_keyed Tryz.underlying9) Tryz.underlying118 ptrElem mb n D2 rfl HOWN.out (by unfold maxLen; omega) _ _ _ rfl rfl HKEY.out _ [] (ptrElem_mk _) ?_; intro w4 hown4 hg4; have HOWN4 := Lib.hid hown4; have HG4 := Lib.hid hg4; clear hown4 hg4)
          go_ret
          have := set_new HO2.out H2.out HD2.out HW3.out HG4.out HOWN4.out HNE.out HC.out.1 (by show d.files.length < 4096; rw [HC.out.2.2]; omega) (d := d) rfl
          simpa [Dk.create, HC.out.1, HC.out.2.1, HC.out.2.2, hf, HE.out, newF] using this
        · have hb0 : (er != 0) = true := by simpa using h0
          have HO : Hid (OpIs w' S q (d.create nm.data.toList) (.returned (.int .i64 er)) w2) := Lib.hid (by
            rw [show d.create nm.data.toList = (er, d.next) by simp [Dk.create, HC.out.1, HC.out.2.1, HC.out.2.2, hf, HE.out, h0]]
            exact OpIs.next HO2.out H2.out er)
          clear h0
          go_wp2_with fail
          go_ret
          exact HO.out
end Go.Proofs.YtlgcoaeddeiegaaGreat
/- Disk: a copy of bytes; Read. -/
namespace Go.Proofs.YtlgcoaeddeiegaaGreat
open Go Go.Maps Go.RowKit

theorem emptyRowU (w : World) (T : TypeId) (size : Nat) : hasRow (w.alloc (.cells #[] T)) w.heap.size T size (.slice (some ⟨w.heap.size, 0, none⟩) 0 0) 0 [] :=
  ⟨by simp, .inr ⟨_, 0, #[], (0, 0), rfl, Nat.le_refl _, heap_alloc_new _ _, Nat.le_refl _, Nat.zero_le _, by simp, fun j hj => by simp at hj, by simp⟩⟩
def NewBytes (w w' : World) (v : Value) (l : List UInt8) : Prop := bytesAt w' v l ∧ (∀ k, v.ownBlock = some k → w.heap.size ≤ k) ∧ Below w.heap.size w w'
set_option maxRecDepth 100000 in
set_option maxHeartbeats 400000 in
theorem clone_b {w : World} {oa : Option Addr} {n c : Nat} {l : List UInt8} (hn : l.length = n) (h : rowAt w 5 1 (.slice oa n c) n (byteCells l)) (hm : n ≤ 1000000000) :
    Calls Tryz.prog 83 #[.slice oa n c] w fun e w' => ∃ v, e = .returned v ∧ NewBytes w w' v l := by
  cases oa with
  | none =>
    rcases h.2 with ⟨hv, h0⟩ | ⟨g, off, c, cur, fr, hv, _⟩
    · simp only [Value.slice.injEq] at hv
      obtain ⟨-, -, rfl⟩ := hv
      subst h0
      have hl : l = [] := List.eq_nil_of_length_eq_zero hn
      subst hl
      have hnil : ∀ W : World, (binOp .eql 39 (.slice none 0 0) (.slice none 0 0)).run Tryz.prog W = .ok (.bool true) W := fun W => by kernel_rfl
      have H := Lib.hid h
      clear h
      go_enter Tryz.func83, Tryz.ntmps83
      go_wp2_with fail
      go_ret
      exact ⟨_, rfl, H.out, fun k hk => by simp [Value.ownBlock] at hk, Below.refl _ _⟩
    · simp at hv
  | some ad =>
    have hnil : ∀ W : World, (binOp .eql 39 (.slice (some ad) n c) (.slice none 0 0)).run Tryz.prog W = .ok (.bool false) W := fun W => by kernel_rfl
    have HS : Hid (Src Tryz.prog (w.alloc (.cells #[] 5)) 1 39 (.slice (some ad) n c) n (byteCells l)) := Lib.hid (Src.of_row Tryz.underlying39 (h.kept (fun k hk => Below.heap_alloc _ _ k (h.lt k hk))) (byteCells_one _))
    clear h
    go_enter Tryz.func83, Tryz.ntmps83
    go_wp2_with (at_builtin; refine wpList_append_at _ rfl (.tmp 5) (.tmp 6) 39 39 rfl 5 (.int .u8 0) 1 1 Tryz.underlying39 info_u8 rfl _ 0 _ rfl (rowAt.of_row (emptyRowU w _ _)) _ n _ rfl HS.out (by unfold maxLen; omega) (by omega) ?_; intro v' w3 hr hg hown _; have HR := Lib.hid hr; have HG : Hid ((w.alloc (.cells #[] 5)).grownBy w3 (some w.heap.size)) := Lib.hid hg; have HOWN : Hid (v'.ownBlock = some w.heap.size ∨ v'.ownBlock = some (w.alloc (.cells #[] 5)).heap.size) := Lib.hid hown; clear hr hg hown)
    go_ret
    refine ⟨v', rfl, ?_, fun k hk => ?_, ?_⟩
    · have := HR.out
      rw [Nat.zero_add, List.nil_append, ← hn] at this
      exact this
    · have h1 := HOWN.out
      rw [hk] at h1
      simp at h1
      omega
    · exact ((Below.refl _ _).alloc (Nat.le_refl _) _).grown HG.out (by simp) (fun k hk => by simp at hk; omega)
theorem run_part (oa : Option Addr) (N c α E : Nat) (h1 : α ≤ E) (h2 : E ≤ c) (W : World) : (Instr.slice 39 (.slice oa N c) (some (.int .i64 (α : Int))) (some (.int .i64 (E : Int))) none).run Tryz.prog W = .ok (.slice (if c = α then oa else oa.map (·.add (α * 1))) (E - α) (c - α)) W := by
  have hs : (sizeOf 5).run Tryz.prog W = .ok 1 W := by kernel_rfl
  have he : Tryz.prog.elem 39 = 5 := by kernel_rfl
  rw [run_slice_lh (P := Tryz.prog) (w := W) 39 oa N c (by rw [he]; exact Tryz.underlying39) .i64 .i64 α E (by omega) (by omega) (by omega), he, hs]
  simp [Result.andThen, sliced]
theorem wrap_nat (x : Int) (n : Nat) (h : x = (n : Int)) (hn : n ≤ 1000000000) : IntKind.i64.wrap x = (n : Int) := by
  subst h
  simp [IntKind.wrap, IntKind.signed, IntKind.bits]
  omega
def Dk.read (d : Dk) (s : List UInt8) (a n : Int) : List UInt8 × Int :=
  if nameOk s = false then ([], 2)
  else match d.find s with
    | none => ([], 171)
    | some f => if a < 0 ∨ (f.bytes.length : Int) < a ∨ n < 0 then ([], 4) else ((f.bytes.drop a.toNat).take (min n.toNat (f.bytes.length - a.toNat)), 0)
def ReadIs (w : World) (r : List UInt8 × Int) (e : Ending) (w' : World) : Prop := ∃ v, e = .returned (.tuple #[v, .int .i64 r.2]) ∧ NewBytes w w' v r.1
theorem ReadIs.none (w : World) (n : Int) : ReadIs w ([], n) (.returned (.tuple #[.slice none 0 0, .int .i64 n])) w :=
  ⟨_, rfl, ⟨by simp [byteCells], .inl ⟨rfl, rfl⟩⟩, fun k hk => by simp [Value.ownBlock] at hk, Below.refl _ _⟩
set_option maxRecDepth 100000 in
set_option maxHeartbeats 1000000 in
theorem read_b {w : World} {S : Nat → Prop} {q : Nat} {d : Dk} (h : DiskAt w S q d) (nm : ByteArray) (hs : nm.size ≤ maxLen) (a n : Int) (ha : a ≤ 9223372036854775807) (hn63 : n ≤ 9223372036854775807) :
    Calls Tryz.prog 21 #[.pointer (some ⟨q, 0, none⟩), .string nm, .int .i64 a, .int .i64 n] w fun e w' => ReadIs w (d.read nm.data.toList a n) e w' := by
  obtain ⟨mb, fv, L, h⟩ := h
  go_enter Tryz.func21, Tryz.ntmps21
  go_wp2_with fail
  refine (find_b h nm hs).mono ?_
  rintro e w' ⟨hF, rfl⟩
  rcases hF with ⟨hn, rfl⟩ | ⟨hn, hf, rfl⟩ | ⟨hn, A, x, B, rfl, hxn, hxt, hf, rfl⟩
  · have HO : Hid (ReadIs w' (d.read nm.data.toList a n) (.returned (.tuple #[.slice none 0 0, .int .i64 2])) w') := Lib.hid (by
      rw [show d.read nm.data.toList a n = ([], 2) by simp [Dk.read, hn]]
      exact ReadIs.none w' 2)
    clear h hn
    go_wp2_with fail
    go_ret2
    exact HO.out
  · have HO : Hid (ReadIs w' (d.read nm.data.toList a n) (.returned (.tuple #[.slice none 0 0, .int .i64 171])) w') := Lib.hid (by
      rw [show d.read nm.data.toList a n = ([], 171) by simp [Dk.read, hn, hf]]
      exact ReadIs.none w' 171)
    clear h hn hf
    go_wp2_with fail
    go_ret2
    exact HO.out
  · have hx := h.each x (by simp)
    obtain ⟨oa, c, hbv, hnc⟩ := hx.row.shape
    obtain ⟨N, hnn⟩ : ∃ N, x.f.bytes.length = N := ⟨_, rfl⟩
    have hsz : N ≤ 16777216 := by rw [← hnn]; exact hx.size
    have hxc := hx.cells
    have hxr := hx.row
    rw [hbv, hnn] at hxc hxr
    rw [hnn] at hnc
    have k0 : w'.cell? ⟨x.blk, 0, none⟩ = some (.slice oa N c) := cell_of hxc rfl
    by_cases hbad : a < 0 ∨ (N : Int) < a ∨ n < 0
    · have HO : Hid (ReadIs w' (d.read nm.data.toList a n) (.returned (.tuple #[.slice none 0 0, .int .i64 4])) w') := Lib.hid (by
        rw [show d.read nm.data.toList a n = ([], 4) by simp [Dk.read, hn, hf, hnn, hbad]]
        exact ReadIs.none w' 4)
      clear h hn hf hx hxc hxr hbv
      by_cases e1 : a < 0
      · go_wp2_with fail
        go_ret2
        exact HO.out
      · by_cases e2 : (N : Int) < a
        · go_wp2_with fail
          go_ret2
          exact HO.out
        · have e3 : n < 0 := by omega
          go_wp2_with fail
          go_ret2
          exact HO.out
    · obtain ⟨α, rfl⟩ : ∃ α : Nat, a = (α : Int) := ⟨a.toNat, by omega⟩
      obtain ⟨ν, rfl⟩ : ∃ ν : Nat, n = (ν : Int) := ⟨n.toNat, by omega⟩
      have hαN : α ≤ N := by omega
      have HRD : Hid (d.read nm.data.toList α ν = ((x.f.bytes.drop α).take (min ν (N - α)), 0)) := Lib.hid (by simp [Dk.read, hn, hf, hnn]; omega)
      have d1 : decide ((α : Int) < 0) = false := by simp
      have d2 : decide ((N : Int) < (α : Int)) = false := by simp; omega
      have d3 : decide ((ν : Int) < 0) = false := by simp
      have HXR := Lib.hid hxr
      have HNN := Lib.hid hnn
      clear h hn hf hx hxc hxr hbv hnn hbad
      go_upto_region 6 with fail
      obtain ⟨M, hM⟩ : ∃ M, M = N - α := ⟨_, rfl⟩
      have hw1 : IntKind.i64.wrap ((N : Int) - (α : Int)) = (M : Int) := wrap_nat _ _ (by omega) (by omega)
      obtain ⟨K, hK⟩ : ∃ K, K = min ν M := ⟨_, rfl⟩
      obtain ⟨E, hE⟩ : ∃ E, E = α + K := ⟨_, rfl⟩
      have hw2 : IntKind.i64.wrap ((α : Int) + (K : Int)) = (E : Int) := wrap_nat _ _ (by omega) (by omega)
      obtain ⟨oa1, hoa1⟩ : ∃ o : Option Addr, o = if c = α then oa else oa.map (·.add (α * 1)) := ⟨_, rfl⟩
      obtain ⟨c1, hc1⟩ : ∃ c1, c1 = c - α := ⟨_, rfl⟩
      have hsl : ∀ W : World, (Instr.slice 39 (.slice oa N c) (some (.int .i64 (α : Int))) (some (.int .i64 (E : Int))) none).run Tryz.prog W = .ok (.slice oa1 K c1) W := fun W => by
        rw [run_part oa N c α E (by omega) (by omega) W, hoa1, hc1, show E - α = K by omega]
      have hrow : rowAt w' 5 1 (.slice oa1 K c1) K (byteCells ((x.f.bytes.drop α).take K)) := by
        have h1 := HXR.out.sub α E c (by omega) (by omega) (by omega) (Nat.le_refl _)
        rw [show E - α = K by omega, ← hoa1, ← hc1] at h1
        have e : ((byteCells x.f.bytes).drop (α * 1)).take (K * 1) = byteCells ((x.f.bytes.drop α).take K) := by simp [byteCells, List.map_drop, List.map_take]
        rw [e] at h1
        exact h1
      have hKl : ((x.f.bytes.drop α).take K).length = K := by rw [List.length_take, List.length_drop, HNN.out]; omega
      have HROW := Lib.hid hrow
      have HKL := Lib.hid hKl
      have HRK : Hid (d.read nm.data.toList α ν = ((x.f.bytes.drop α).take K, 0)) := Lib.hid (by rw [HRD.out, ← hM, hK])
      have hKb : K ≤ 1000000000 := by omega
      have hcl : Calls Tryz.prog 83 #[.slice oa1 K c1] w'.drew fun e w'' => ∃ v, e = .returned v ∧ NewBytes w' w'' v ((x.f.bytes.drop α).take K) := by
        refine (clone_b (w := w'.drew) hKl hrow hKb).mono ?_
        rintro e w'' ⟨v, rfl, h1, h2, h3⟩
        exact ⟨v, rfl, h1, h2, ⟨h3.os, h3.tape, h3.output, h3.size, h3.block⟩⟩
      have HCL := Lib.hid hcl
      clear hoa1 hc1 hrow hKl hE hcl
      by_cases hk : M < ν
      · have hk1 : (K : Int) = (M : Int) := by omega
        rw [hk1] at hw2
        clear hM hK hk1
        go_region_law (go_simp; go_at_call 83; refine HCL.out.mono ?_; rintro e w2 ⟨v, rfl, hnb⟩; have HNB := Lib.hid hnb; clear hnb)
        all_goals go_wp2_with fail
        all_goals go_ret2
        all_goals exact ⟨v, by rw [HRK.out]; rfl, by rw [HRK.out]; exact HNB.out⟩
      · have hk1 : (K : Int) = (ν : Int) := by omega
        rw [hk1] at hw2
        clear hM hK hk1
        go_region_law (go_simp; go_at_call 83; refine HCL.out.mono ?_; rintro e w2 ⟨v, rfl, hnb⟩; have HNB := Lib.hid hnb; clear hnb)
        all_goals go_wp2_with fail
        all_goals go_ret2
        all_goals exact ⟨v, by rw [HRK.out]; rfl, by rw [HRK.out]; exact HNB.out⟩
end Go.Proofs.YtlgcoaeddeiegaaGreat
/- record: parts of what is left; clones; records that are made. -/
namespace Go.Proofs.YtlgcoaeddeiegaaGreat
open Go Go.RowKit
attribute [local go_sem] Oper.semAt_some

set_option maxRecDepth 100000 in
set_option maxHeartbeats 400000 in
theorem cloneR_b {w : World} {oa : Option Addr} {n c : Nat} {l : List UInt8} (hn : l.length = n) (h : readAt w 1 (.slice oa n c) n (byteCells l)) (hm : n ≤ 1000000000) :
    Calls Tryz.prog 83 #[.slice oa n c] w fun e w' => ∃ v, e = .returned v ∧ NewB w w' v l := by
  cases oa with
  | none =>
    rcases h.2 with ⟨h0, oa, cap, hv, hc⟩ | ⟨g, off, c, hv, _⟩
    · simp only [Value.slice.injEq] at hv
      obtain ⟨rfl, -, rfl⟩ := hv
      subst h0
      have hc0 := hc rfl
      subst hc0
      have hl : l = [] := List.eq_nil_of_length_eq_zero hn
      subst hl
      have hnil : ∀ W : World, (binOp .eql 39 (.slice none 0 0) (.slice none 0 0)).run Tryz.prog W = .ok (.bool true) W := fun W => by kernel_rfl
      clear h hc
      go_enter Tryz.func83, Tryz.ntmps83
      go_wp2_with fail
      go_ret
      exact ⟨_, rfl, NewB.nil (Below.refl _ _)⟩
    · simp at hv
  | some ad =>
    have hnil : ∀ W : World, (binOp .eql 39 (.slice (some ad) n c) (.slice none 0 0)).run Tryz.prog W = .ok (.bool false) W := fun W => by kernel_rfl
    have hb1 : Below w.heap.size w (w.alloc (.cells #[] 5)) := (Below.refl _ _).alloc (Nat.le_refl _) _
    have HS := Lib.hid (h.kept (fun k hk _ _ => hb1.block k hk))
    have HN : Hid (NewB w (w.alloc (.cells #[] 5)) (.slice (some ⟨w.heap.size, 0, none⟩) 0 0) []) := Lib.hid ⟨rowAt.of_row (emptyRowU w _ _), fun k hk => by simp only [Value.ownBlock, Option.some.injEq] at hk; omega, hb1⟩
    have HL := Lib.hid hn
    clear h hb1 hn
    go_enter Tryz.func83, Tryz.ntmps83
    go_wp2_with (at_builtin; refine wpList_putR rfl (.tmp 5) (.tmp 6) rfl HN.out HL.out HS.out (by omega) rfl rfl ?_; intro oa3 c3 w3 HR)
    go_ret
    exact ⟨_, rfl, by simpa using HR.out.new⟩
structure RestI (w W : World) (b m : Nat) (l : List UInt8) : Prop where
  box : ∃ o c, W.heap[b]? = some (.cells #[.slice o m c] 39 (0, 0)) ∧ readAt w 1 (.slice o m c) m (byteCells l)
  len : l.length = m
theorem RestI.later {w W W' : World} {b m : Nat} {l : List UInt8} (h : RestI w W b m l) (hb : Below W.heap.size W W') : RestI w W' b m l := by
  obtain ⟨o, c, h1, h2⟩ := h.box
  exact ⟨⟨o, c, (hb.block b (Array.getElem?_eq_some_iff.1 h1).1).trans h1, h2⟩, h.len⟩
theorem RestI.only {w W W' : World} {b m : Nat} {l : List UInt8} {X : Nat → Prop} (h : RestI w W b m l) (ho : Only X W W') (hX : ¬ X b) : RestI w W' b m l := by
  obtain ⟨o, c, h1, h2⟩ := h.box
  exact ⟨⟨o, c, (ho.block b (Array.getElem?_eq_some_iff.1 h1).1 hX).trans h1, h2⟩, h.len⟩
def PartE (w W : World) (b n m : Nat) (a t : List UInt8) (e : Ending) (w' : World) : Prop :=
  ∃ o1 c1 o2 c2, e = .returned (.slice o1 n c1) ∧ readAt w 1 (.slice o1 n c1) n (byteCells a) ∧ w' = W.setCell ⟨b, 0, none⟩ (.slice o2 m c2) ∧ RestI w w' b m t
theorem RestI.part {w W : World} {b n m : Nat} {a t : List UInt8} (h : RestI w W b (n + m) (a ++ t)) (ha : a.length = n) (hb : Below w.heap.size w W) :
    Calls Tryz.prog 192 #[.pointer (some ⟨b, 0, none⟩), .int .i64 (n : Int)] W fun e w' => PartE w W b n m a t e w' := by
  obtain ⟨o, c, h1, h2⟩ := h.box
  refine (part_b h1 h.len (h2.kept (fun k hk _ _ => hb.block k hk)) (Nat.le_add_right n m)).mono ?_
  rintro e w' ⟨o1, c1, o2, c2, he, hp, hw⟩
  have h3 := hp w h2
  have e1 : (a ++ t).take n = a := by rw [← ha]; simp
  have e2 : (a ++ t).drop n = t := by rw [← ha]; simp
  have e3 : n + m - n = m := by omega
  rw [e1, e2, e3] at h3
  rw [e3] at hw
  refine ⟨o1, c1, o2, c2, he, h3.1, hw, ⟨o2, c2, by rw [hw]; exact heap_setCell_here _ h1, h3.2⟩, ?_⟩
  have := h.len
  rw [List.length_append, ha] at this
  omega
theorem getLe_b {W : World} {o : Option Addr} {n c x : Nat} (h : readAt W 1 (.slice o n c) n (byteCells (leT x n))) (hx : x < 256 ^ n) (hn : n ≤ 8) :
    Calls Tryz.prog 191 #[.slice o n c, .int .i64 (n : Int)] W fun e w' => e = .returned (.int .u64 (x : Int)) ∧ w' = W := by
  have hl := leT_len n x
  have := get_b hl h (Nat.le_refl n) hn
  rw [List.take_of_length_le (by rw [hl]; exact Nat.le_refl _), getT_leT n x hx] at this
  exact this
structure NewR (w0 W : World) (v : Value) (xs : List RcV) : Prop where
  row : rowAt W 150 3 v xs.length (recsCells xs)
  own : ∀ k, v.ownBlock = some k → w0.heap.size ≤ k
  each : ∀ x ∈ xs, rowAt W 5 1 x.kv x.r.key.length (byteCells x.r.key) ∧ rowAt W 5 1 x.vv x.r.val.length (byteCells x.r.val) ∧ (∀ k, x.kv.ownBlock = some k → w0.heap.size ≤ k) ∧ (∀ k, x.vv.ownBlock = some k → w0.heap.size ≤ k)
  below : Below w0.heap.size w0 W
theorem NewR.nil {w0 W : World} (h : Below w0.heap.size w0 W) : NewR w0 W (.slice none 0 0) [] := ⟨⟨rfl, .inl ⟨rfl, rfl⟩⟩, fun k hk => by simp [Value.ownBlock] at hk, fun x hx => (by cases hx), h⟩
theorem NewR.is {w0 W : World} {v : Value} {xs : List RcV} (h : NewR w0 W v xs) : RecsIs W v xs := ⟨h.row.read, fun x hx => ⟨(h.each x hx).1.read, (h.each x hx).2.1.read⟩⟩
theorem NewR.kept {w0 W W' : World} {v : Value} {xs : List RcV} (h : NewR w0 W v xs) (hb : Below W.heap.size W W') : NewR w0 W' v xs :=
  ⟨h.row.kept (fun k hk => hb.block k (h.row.lt k hk)), h.own, fun x hx => by
    obtain ⟨h1, h2, h3, h4⟩ := h.each x hx
    exact ⟨h1.kept (fun k hk => hb.block k (h1.lt k hk)), h2.kept (fun k hk => hb.block k (h2.lt k hk)), h3, h4⟩, h.below.trans (hb.mono h.below.size)⟩
theorem rowAt.types {W : World} {T T' : TypeId} {s s' n n' : Nat} {v v' : Value} {xs xs' : List Value} (h : rowAt W T s v n xs) (h' : rowAt W T' s' v' n' xs') (hT : T ≠ T') {k : Nat} (hk : v.ownBlock = some k) : v'.ownBlock ≠ some k := fun hk' => by
  rcases h.2 with ⟨rfl, _⟩ | ⟨g, off, cap, cur, fr, rfl, hg, _⟩
  · simp [Value.ownBlock] at hk
  · rcases h'.2 with ⟨rfl, _⟩ | ⟨g', off', cap', cur', fr', rfl, hg', _⟩
    · simp [Value.ownBlock] at hk'
    · simp only [Value.ownBlock, Option.some.injEq] at hk hk'
      subst hk
      subst hk'
      rw [hg] at hg'
      simp only [Option.some.injEq, Obj.cells.injEq] at hg'
      exact hT hg'.2.1
theorem rowAt.notB {W : World} {T T' : TypeId} {s n b : Nat} {v : Value} {xs : List Value} {cs : Array Value} {fr : Nat × Nat} (h : rowAt W T s v n xs) (hb : W.heap[b]? = some (.cells cs T' fr)) (hT : T ≠ T') : v.ownBlock ≠ some b := fun hk => by
  rcases h.2 with ⟨rfl, _⟩ | ⟨g, off, cap, cur, fr2, rfl, hg, _⟩
  · simp [Value.ownBlock] at hk
  · simp only [Value.ownBlock, Option.some.injEq] at hk
    subst hk
    rw [hg] at hb
    simp only [Option.some.injEq, Obj.cells.injEq] at hb
    exact hT hb.2.1
theorem NewR.only {w0 W W' : World} {v : Value} {xs : List RcV} {X : Nat → Prop} (h : NewR w0 W v xs) (ho : Only X W W') (hb : Below w0.heap.size w0 W') (hX : ∀ k, X k → v.ownBlock ≠ some k ∧ ∀ x ∈ xs, x.kv.ownBlock ≠ some k ∧ x.vv.ownBlock ≠ some k) : NewR w0 W' v xs :=
  ⟨h.row.kept (fun k hk => ho.block k (h.row.lt k hk) (fun hx => (hX k hx).1 hk)), h.own, fun x hx => by
    obtain ⟨h1, h2, h3, h4⟩ := h.each x hx
    exact ⟨h1.kept (fun k hk => ho.block k (h1.lt k hk) (fun hx' => ((hX k hx').2 x hx).1 hk)), h2.kept (fun k hk => ho.block k (h2.lt k hk) (fun hx' => ((hX k hx').2 x hx).2 hk)), h3, h4⟩, hb⟩
theorem NewR.apart {w0 W : World} {v : Value} {xs : List RcV} {b : Nat} {T : TypeId} {cs : Array Value} {fr : Nat × Nat} (h : NewR w0 W v xs) (hb : W.heap[b]? = some (.cells cs T fr)) (h1 : 150 ≠ T) (h2 : 5 ≠ T) : v.ownBlock ≠ some b ∧ ∀ x ∈ xs, x.kv.ownBlock ≠ some b ∧ x.vv.ownBlock ≠ some b :=
  ⟨h.row.notB hb h1, fun x hx => ⟨(h.each x hx).1.notB hb h2, (h.each x hx).2.1.notB hb h2⟩⟩
theorem BtI.only {w W W' : World} {b2 b3 b4 : Nat} {x0 x1 x3 x4 : Value} {X : Nat → Prop} (h : BtI w W b2 b3 b4 x0 x1 x3 x4) (ho : Only X W W') (hX : ¬ X b2 ∧ ¬ X b3 ∧ ¬ X b4) (hb : Below w.heap.size w W') : BtI w W' b2 b3 b4 x0 x1 x3 x4 :=
  ⟨(ho.block _ (Array.getElem?_eq_some_iff.1 h.two).1 hX.1).trans h.two, (ho.block _ (Array.getElem?_eq_some_iff.1 h.three).1 hX.2.1).trans h.three, (ho.block _ (Array.getElem?_eq_some_iff.1 h.four).1 hX.2.2).trans h.four, h.low, h.b23, h.b24, hb⟩
theorem flat_drop {l : List Rc} {i : Nat} (h : i < l.length) : (l.drop i).flatMap Rc.bytes = l[i].bytes ++ (l.drop (i + 1)).flatMap Rc.bytes := by
  rw [List.drop_eq_getElem_cons h, List.flatMap_cons]
theorem NewR.snoc {w0 W W1 W' : World} {v v' : Value} {xs : List RcV} {x : RcV} (h : NewR w0 W v xs) (hx : rowAt W 5 1 x.kv x.r.key.length (byteCells x.r.key) ∧ rowAt W 5 1 x.vv x.r.val.length (byteCells x.r.val) ∧ (∀ k, x.kv.ownBlock = some k → w0.heap.size ≤ k) ∧ (∀ k, x.vv.ownBlock = some k → w0.heap.size ≤ k))
    (hb : Below W.heap.size W W1) (hr : rowAt W' 150 3 v' (xs.length + 1) (recsCells xs ++ recCells x)) (hg : W1.grownBy W' v.ownBlock) (ho : v'.ownBlock = v.ownBlock ∨ v'.ownBlock = some W1.heap.size) : NewR w0 W' v' (xs ++ [x]) := by
  have h1 := h.below.trans (hb.mono h.below.size)
  have keep : ∀ {u : Value} {n : Nat} {cs : List Value}, rowAt W 5 1 u n cs → rowAt W' 5 1 u n cs := fun {u n cs} hu => hu.kept (fun k hk => by
    have hlt := hu.lt k hk
    have hne := hu.types h.row (by decide) hk
    exact (hg.block k (Nat.lt_of_lt_of_le hlt hb.size) (fun e => hne e.symm)).trans (hb.block k hlt))
  refine ⟨?_, fun k hk => ?_, fun y hy => ?_, h1.grown hg h1.size h.own⟩
  · have e : recsCells (xs ++ [x]) = recsCells xs ++ recCells x := by unfold recsCells; simp
    rw [e, List.length_append]
    exact hr
  · rcases ho with ho | ho
    · exact h.own k (by rw [← ho]; exact hk)
    · rw [ho] at hk
      simp only [Option.some.injEq] at hk
      have := h1.size
      omega
  · rcases List.mem_append.1 hy with hy | hy
    · obtain ⟨g1, g2, g3, g4⟩ := h.each y hy
      exact ⟨keep g1, keep g2, g3, g4⟩
    · rw [List.mem_singleton] at hy
      subst hy
      exact ⟨keep hx.1, keep hx.2.1, hx.2.2.1, hx.2.2.2⟩
end Go.Proofs.YtlgcoaeddeiegaaGreat
