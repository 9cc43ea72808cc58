/- The texts Mk in one. -/
import Derived.Test.YtmkjejngnahpeaaGreatV5
/- record: parts of what is left; clones; records that are made. -/
namespace Go.Proofs.YtmkjejngnahpeaaGreat
open Go Go.RowKit
attribute [local go_sem] Oper.semAt_some

set_option maxRecDepth 100000 in
set_option maxHeartbeats 400000 in
theorem cloneR_b {w : World} {oa : Option Addr} {n c : Nat} {l : List UInt8} (hn : l.length = n) (h : readAt w 1 (.slice oa n c) n (byteCells l)) (hm : n ≤ 1000000000) :
    Calls Tryz.prog 37 #[.slice oa n c] w fun e w' => ∃ v, e = .returned v ∧ NewB w w' v l := by
  cases oa with
  | none =>
    rcases h.2 with ⟨h0, oa, cap, hv, hc⟩ | ⟨g, off, c, hv, _⟩
    · simp only [Value.slice.injEq] at hv
      obtain ⟨rfl, -, rfl⟩ := hv
      subst h0
      have hc0 := hc rfl
      subst hc0
      have hl : l = [] := List.eq_nil_of_length_eq_zero hn
      subst hl
      have hnil : ∀ W : World, (binOp .eql 58 (.slice none 0 0) (.slice none 0 0)).run Tryz.prog W = .ok (.bool true) W := fun W => by kernel_rfl
      clear h hc
      go_enter Tryz.func37, Tryz.ntmps37
      go_wp2_with fail
      go_ret
      exact ⟨_, rfl, NewB.nil (Below.refl _ _)⟩
    · simp at hv
  | some ad =>
    have hnil : ∀ W : World, (binOp .eql 58 (.slice (some ad) n c) (.slice none 0 0)).run Tryz.prog W = .ok (.bool false) W := fun W => by kernel_rfl
    have hb1 : Below w.heap.size w (w.alloc (.cells #[] 5)) := (Below.refl _ _).alloc (Nat.le_refl _) _
    have HS := Lib.hid (h.kept (fun k hk _ _ => hb1.block k hk))
    have HN : Hid (NewB w (w.alloc (.cells #[] 5)) (.slice (some ⟨w.heap.size, 0, none⟩) 0 0) []) := Lib.hid ⟨rowAt.of_row (emptyRowU w _ _), fun k hk => by simp only [Value.ownBlock, Option.some.injEq] at hk; omega, hb1⟩
    have HL := Lib.hid hn
    clear h hb1 hn
    go_enter Tryz.func37, Tryz.ntmps37
    go_wp2_with (at_builtin; refine wpList_putR rfl (.tmp 5) (.tmp 6) rfl HN.out HL.out HS.out (by omega) rfl rfl ?_; intro oa3 c3 w3 HR)
    go_ret
    exact ⟨_, rfl, by simpa using HR.out.new⟩
/-- what is left of a batch's bytes lies in a box -/
structure RestI (w W : World) (b m : Nat) (l : List UInt8) : Prop where
  box : ∃ o c, W.heap[b]? = some (.cells #[.slice o m c] 58 (0, 0)) ∧ readAt w 1 (.slice o m c) m (byteCells l)
  len : l.length = m
theorem RestI.later {w W W' : World} {b m : Nat} {l : List UInt8} (h : RestI w W b m l) (hb : Below W.heap.size W W') : RestI w W' b m l := by
  obtain ⟨o, c, h1, h2⟩ := h.box
  exact ⟨⟨o, c, (hb.block b (Array.getElem?_eq_some_iff.1 h1).1).trans h1, h2⟩, h.len⟩
theorem RestI.only {w W W' : World} {b m : Nat} {l : List UInt8} {X : Nat → Prop} (h : RestI w W b m l) (ho : Only X W W') (hX : ¬ X b) : RestI w W' b m l := by
  obtain ⟨o, c, h1, h2⟩ := h.box
  exact ⟨⟨o, c, (ho.block b (Array.getElem?_eq_some_iff.1 h1).1 hX).trans h1, h2⟩, h.len⟩
def PartE (w W : World) (b n m : Nat) (a t : List UInt8) (e : Ending) (w' : World) : Prop :=
  ∃ o1 c1 o2 c2, e = .returned (.slice o1 n c1) ∧ readAt w 1 (.slice o1 n c1) n (byteCells a) ∧ w' = W.setCell ⟨b, 0, none⟩ (.slice o2 m c2) ∧ RestI w w' b m t
/-- the first part is taken off -/
theorem RestI.part {w W : World} {b n m : Nat} {a t : List UInt8} (h : RestI w W b (n + m) (a ++ t)) (ha : a.length = n) (hb : Below w.heap.size w W) :
    Calls Tryz.prog 83 #[.pointer (some ⟨b, 0, none⟩), .int .i64 (n : Int)] W fun e w' => PartE w W b n m a t e w' := by
  obtain ⟨o, c, h1, h2⟩ := h.box
  refine (part_b h1 h.len (h2.kept (fun k hk _ _ => hb.block k hk)) (Nat.le_add_right n m)).mono ?_
  rintro e w' ⟨o1, c1, o2, c2, he, hp, hw⟩
  have h3 := hp w h2
  have e1 : (a ++ t).take n = a := by rw [← ha]; simp
  have e2 : (a ++ t).drop n = t := by rw [← ha]; simp
  have e3 : n + m - n = m := by omega
  rw [e1, e2, e3] at h3
  rw [e3] at hw
  refine ⟨o1, c1, o2, c2, he, h3.1, hw, ⟨o2, c2, by rw [hw]; exact heap_setCell_here _ h1, h3.2⟩, ?_⟩
  have := h.len
  rw [List.length_append, ha] at this
  omega
theorem getLe_b {W : World} {o : Option Addr} {n c x : Nat} (h : readAt W 1 (.slice o n c) n (byteCells (leT x n))) (hx : x < 256 ^ n) (hn : n ≤ 8) :
    Calls Tryz.prog 82 #[.slice o n c, .int .i64 (n : Int)] W fun e w' => e = .returned (.int .u64 (x : Int)) ∧ w' = W := by
  have hl := leT_len n x
  have := get_b hl h (Nat.le_refl n) hn
  rw [List.take_of_length_le (by rw [hl]; exact Nat.le_refl _), getT_leT n x hx] at this
  exact this
/-- records in memory that is new since w0 -/
structure NewR (w0 W : World) (v : Value) (xs : List RcV) : Prop where
  row : rowAt W 60 3 v xs.length (recsCells xs)
  own : ∀ k, v.ownBlock = some k → w0.heap.size ≤ k
  each : ∀ x ∈ xs, rowAt W 5 1 x.kv x.r.key.length (byteCells x.r.key) ∧ rowAt W 5 1 x.vv x.r.val.length (byteCells x.r.val) ∧ (∀ k, x.kv.ownBlock = some k → w0.heap.size ≤ k) ∧ (∀ k, x.vv.ownBlock = some k → w0.heap.size ≤ k)
  below : Below w0.heap.size w0 W
theorem NewR.nil {w0 W : World} (h : Below w0.heap.size w0 W) : NewR w0 W (.slice none 0 0) [] := ⟨⟨rfl, .inl ⟨rfl, rfl⟩⟩, fun k hk => by simp [Value.ownBlock] at hk, fun x hx => (by cases hx), h⟩
theorem NewR.is {w0 W : World} {v : Value} {xs : List RcV} (h : NewR w0 W v xs) : RecsIs W v xs := ⟨h.row.read, fun x hx => ⟨(h.each x hx).1.read, (h.each x hx).2.1.read⟩⟩
theorem NewR.kept {w0 W W' : World} {v : Value} {xs : List RcV} (h : NewR w0 W v xs) (hb : Below W.heap.size W W') : NewR w0 W' v xs :=
  ⟨h.row.kept (fun k hk => hb.block k (h.row.lt k hk)), h.own, fun x hx => by
    obtain ⟨h1, h2, h3, h4⟩ := h.each x hx
    exact ⟨h1.kept (fun k hk => hb.block k (h1.lt k hk)), h2.kept (fun k hk => hb.block k (h2.lt k hk)), h3, h4⟩, h.below.trans (hb.mono h.below.size)⟩
/-- blocks of another type are apart -/
theorem rowAt.types {W : World} {T T' : TypeId} {s s' n n' : Nat} {v v' : Value} {xs xs' : List Value} (h : rowAt W T s v n xs) (h' : rowAt W T' s' v' n' xs') (hT : T ≠ T') {k : Nat} (hk : v.ownBlock = some k) : v'.ownBlock ≠ some k := fun hk' => by
  rcases h.2 with ⟨rfl, _⟩ | ⟨g, off, cap, cur, fr, rfl, hg, _⟩
  · simp [Value.ownBlock] at hk
  · rcases h'.2 with ⟨rfl, _⟩ | ⟨g', off', cap', cur', fr', rfl, hg', _⟩
    · simp [Value.ownBlock] at hk'
    · simp only [Value.ownBlock, Option.some.injEq] at hk hk'
      subst hk
      subst hk'
      rw [hg] at hg'
      simp only [Option.some.injEq, Obj.cells.injEq] at hg'
      exact hT hg'.2.1
/-- a block of another type is apart -/
theorem rowAt.notB {W : World} {T T' : TypeId} {s n b : Nat} {v : Value} {xs : List Value} {cs : Array Value} {fr : Nat × Nat} (h : rowAt W T s v n xs) (hb : W.heap[b]? = some (.cells cs T' fr)) (hT : T ≠ T') : v.ownBlock ≠ some b := fun hk => by
  rcases h.2 with ⟨rfl, _⟩ | ⟨g, off, cap, cur, fr2, rfl, hg, _⟩
  · simp [Value.ownBlock] at hk
  · simp only [Value.ownBlock, Option.some.injEq] at hk
    subst hk
    rw [hg] at hb
    simp only [Option.some.injEq, Obj.cells.injEq] at hb
    exact hT hb.2.1
theorem NewR.only {w0 W W' : World} {v : Value} {xs : List RcV} {X : Nat → Prop} (h : NewR w0 W v xs) (ho : Only X W W') (hb : Below w0.heap.size w0 W') (hX : ∀ k, X k → v.ownBlock ≠ some k ∧ ∀ x ∈ xs, x.kv.ownBlock ≠ some k ∧ x.vv.ownBlock ≠ some k) : NewR w0 W' v xs :=
  ⟨h.row.kept (fun k hk => ho.block k (h.row.lt k hk) (fun hx => (hX k hx).1 hk)), h.own, fun x hx => by
    obtain ⟨h1, h2, h3, h4⟩ := h.each x hx
    exact ⟨h1.kept (fun k hk => ho.block k (h1.lt k hk) (fun hx' => ((hX k hx').2 x hx).1 hk)), h2.kept (fun k hk => ho.block k (h2.lt k hk) (fun hx' => ((hX k hx').2 x hx).2 hk)), h3, h4⟩, hb⟩
/-- a block that holds neither records nor bytes -/
theorem NewR.apart {w0 W : World} {v : Value} {xs : List RcV} {b : Nat} {T : TypeId} {cs : Array Value} {fr : Nat × Nat} (h : NewR w0 W v xs) (hb : W.heap[b]? = some (.cells cs T fr)) (h1 : 60 ≠ T) (h2 : 5 ≠ T) : v.ownBlock ≠ some b ∧ ∀ x ∈ xs, x.kv.ownBlock ≠ some b ∧ x.vv.ownBlock ≠ some b :=
  ⟨h.row.notB hb h1, fun x hx => ⟨(h.each x hx).1.notB hb h2, (h.each x hx).2.1.notB hb h2⟩⟩
theorem BtI.only {w W W' : World} {b2 b3 b4 : Nat} {x0 x1 x3 x4 : Value} {X : Nat → Prop} (h : BtI w W b2 b3 b4 x0 x1 x3 x4) (ho : Only X W W') (hX : ¬ X b2 ∧ ¬ X b3 ∧ ¬ X b4) (hb : Below w.heap.size w W') : BtI w W' b2 b3 b4 x0 x1 x3 x4 :=
  ⟨(ho.block _ (Array.getElem?_eq_some_iff.1 h.two).1 hX.1).trans h.two, (ho.block _ (Array.getElem?_eq_some_iff.1 h.three).1 hX.2.1).trans h.three, (ho.block _ (Array.getElem?_eq_some_iff.1 h.four).1 hX.2.2).trans h.four, h.low, h.b23, h.b24, hb⟩
theorem flat_drop {l : List Rc} {i : Nat} (h : i < l.length) : (l.drop i).flatMap Rc.bytes = l[i].bytes ++ (l.drop (i + 1)).flatMap Rc.bytes := by
  rw [List.drop_eq_getElem_cons h, List.flatMap_cons]
/-- a record more -/
theorem NewR.snoc {w0 W W1 W' : World} {v v' : Value} {xs : List RcV} {x : RcV} (h : NewR w0 W v xs) (hx : rowAt W 5 1 x.kv x.r.key.length (byteCells x.r.key) ∧ rowAt W 5 1 x.vv x.r.val.length (byteCells x.r.val) ∧ (∀ k, x.kv.ownBlock = some k → w0.heap.size ≤ k) ∧ (∀ k, x.vv.ownBlock = some k → w0.heap.size ≤ k))
    (hb : Below W.heap.size W W1) (hr : rowAt W' 60 3 v' (xs.length + 1) (recsCells xs ++ recCells x)) (hg : W1.grownBy W' v.ownBlock) (ho : v'.ownBlock = v.ownBlock ∨ v'.ownBlock = some W1.heap.size) : NewR w0 W' v' (xs ++ [x]) := by
  have h1 := h.below.trans (hb.mono h.below.size)
  have keep : ∀ {u : Value} {n : Nat} {cs : List Value}, rowAt W 5 1 u n cs → rowAt W' 5 1 u n cs := fun {u n cs} hu => hu.kept (fun k hk => by
    have hlt := hu.lt k hk
    have hne := hu.types h.row (by decide) hk
    exact (hg.block k (Nat.lt_of_lt_of_le hlt hb.size) (fun e => hne e.symm)).trans (hb.block k hlt))
  refine ⟨?_, fun k hk => ?_, fun y hy => ?_, h1.grown hg h1.size h.own⟩
  · have e : recsCells (xs ++ [x]) = recsCells xs ++ recCells x := by unfold recsCells; simp
    rw [e, List.length_append]
    exact hr
  · rcases ho with ho | ho
    · exact h.own k (by rw [← ho]; exact hk)
    · rw [ho] at hk
      simp only [Option.some.injEq] at hk
      have := h1.size
      omega
  · rcases List.mem_append.1 hy with hy | hy
    · obtain ⟨g1, g2, g3, g4⟩ := h.each y hy
      exact ⟨keep g1, keep g2, g3, g4⟩
    · rw [List.mem_singleton] at hy
      subst hy
      exact ⟨keep hx.1, keep hx.2.1, hx.2.2.1, hx.2.2.2⟩
end Go.Proofs.YtmkjejngnahpeaaGreat
