/- The texts My, Kitf, Yf, Pz, Pza, Jc0, Pzb, Pzc in one. -/
import Derived.Test.YtlgcoaeddeiegaaGreatV7
import Derived.ControlIn
import Derived.Scope
import Derived.WalkMore
import Derived.Shelf.Abstract
import Derived.Test.YtlgcoaeddeiegaaGreatV2
import Derived.OwnWalkIn
import Derived.TacticsInMore
import Derived.Deep.RegionHeld3
/- records in blocks of which P holds; a box that holds such a slice; append to it. -/
namespace Go.Proofs.YtlgcoaeddeiegaaGreat
open Go Go.RowKit
attribute [local go_sem] Oper.semAt_some

structure RowP (P : Nat → Prop) (W : World) (v : Value) (xs : List RcV) : Prop where
  row : rowAt W 150 3 v xs.length (recsCells xs)
  own : ∀ k, v.ownBlock = some k → P k
  each : ∀ x ∈ xs, rowAt W 5 1 x.kv x.r.key.length (byteCells x.r.key) ∧ rowAt W 5 1 x.vv x.r.val.length (byteCells x.r.val) ∧ (∀ k, x.kv.ownBlock = some k → P k) ∧ (∀ k, x.vv.ownBlock = some k → P k)
theorem RowP.nil (P : Nat → Prop) (W : World) : RowP P W (.slice none 0 0) [] := ⟨⟨rfl, .inl ⟨rfl, rfl⟩⟩, fun k hk => by simp [Value.ownBlock] at hk, fun x hx => (by cases hx)⟩
theorem RNew.rowP {n₀ : Nat} {W : World} {v : Value} {xs : List RcV} (h : RNew n₀ W v xs) : RowP (fun k => n₀ ≤ k) W v xs := ⟨h.row, h.own, h.each⟩
theorem NewR.rowP {w0 W : World} {v : Value} {xs : List RcV} (h : NewR w0 W v xs) : RowP (fun k => w0.heap.size ≤ k) W v xs := ⟨h.row, h.own, h.each⟩
section
variable {P Q : Nat → Prop} {W W' : World} {v : Value} {xs : List RcV}
theorem RowP.is (h : RowP P W v xs) : RecsIs W v xs := ⟨h.row.read, fun x hx => ⟨(h.each x hx).1.read, (h.each x hx).2.1.read⟩⟩
theorem RowP.mono (h : RowP P W v xs) (hP : ∀ k, k < W.heap.size → P k → Q k) : RowP Q W v xs :=
  ⟨h.row, fun k hk => hP k (h.row.lt k hk) (h.own k hk), fun x hx => by
    obtain ⟨h1, h2, h3, h4⟩ := h.each x hx
    exact ⟨h1, h2, fun k hk => hP k (h1.lt k hk) (h3 k hk), fun k hk => hP k (h2.lt k hk) (h4 k hk)⟩⟩
theorem RowP.kept (h : RowP P W v xs) (hk : ∀ k, k < W.heap.size → P k → W'.heap[k]? = W.heap[k]?) : RowP P W' v xs :=
  ⟨h.row.kept (fun k ho => hk k (h.row.lt k ho) (h.own k ho)), h.own, fun x hx => by
    obtain ⟨h1, h2, h3, h4⟩ := h.each x hx
    exact ⟨h1.kept (fun k ho => hk k (h1.lt k ho) (h3 k ho)), h2.kept (fun k ho => hk k (h2.lt k ho) (h4 k ho)), h3, h4⟩⟩
theorem RowP.only {X : Nat → Prop} (h : RowP P W v xs) (ho : Only X W W') (hX : ∀ k, X k → ¬ P k) : RowP P W' v xs :=
  h.kept (fun k hk hp => ho.block k hk (fun hx => hX k hx hp))
theorem RowP.later (h : RowP P W v xs) (hb : Below W.heap.size W W') : RowP P W' v xs := h.kept (fun k hk _ => hb.block k hk)
end
theorem recsCells_append (xs ys : List RcV) : recsCells (xs ++ ys) = recsCells xs ++ recsCells ys := by unfold recsCells; rw [List.flatMap_append]
def OutI (V : World) (b : Nat) (P : Nat → Prop) (l : List Rc) : Prop :=
  ¬ P b ∧ ∃ oa n c xs, xs.map (·.r) = l ∧ xs.length = n ∧ V.heap[b]? = some (.cells #[.slice oa n c] 34 (0, 0)) ∧ RowP P V (.slice oa n c) xs
theorem OutI.kept {V V' : World} {b : Nat} {P X : Nat → Prop} {l : List Rc} (h : OutI V b P l) (ho : Only X V V') (hX : ∀ k, X k → ¬ P k ∧ k ≠ b) : OutI V' b P l := by
  obtain ⟨hn, oa, n, c, xs, h1, h2, h3, h4⟩ := h
  exact ⟨hn, oa, n, c, xs, h1, h2, (ho.block b (Array.getElem?_eq_some_iff.1 h3).1 (fun hx => (hX b hx).2 rfl)).trans h3, h4.only ho (fun k hx => (hX k hx).1)⟩
theorem OutI.later {V V' : World} {b : Nat} {P : Nat → Prop} {l : List Rc} (h : OutI V b P l) (hb : Below V.heap.size V V') : OutI V' b P l :=
  h.kept (Only.of_below hb (Nat.le_refl _) (fun _ => False)) (fun _ hf => hf.elim)
theorem OutI.mono {V : World} {b : Nat} {P Q : Nat → Prop} {l : List Rc} (h : OutI V b P l) (hP : ∀ k, k < V.heap.size → P k → Q k) (hb : ¬ Q b) : OutI V b Q l := by
  obtain ⟨hn, oa, n, c, xs, h1, h2, h3, h4⟩ := h
  exact ⟨hb, oa, n, c, xs, h1, h2, h3, h4.mono hP⟩
theorem out_step {V V1 w3 : World} {b n c m c3 : Nat} {oa oa3 : Option Addr} {P : Nat → Prop} {xs ys : List RcV} (h : RowP P V (.slice oa n c) xs) (hn : xs.length = n) (hm : ys.length = m) (hbx : V.heap[b]? = some (.cells #[.slice oa n c] 34 (0, 0))) (hnb : ¬ P b)
    (hys : ∀ x ∈ ys, rowAt V 5 1 x.kv x.r.key.length (byteCells x.r.key) ∧ rowAt V 5 1 x.vv x.r.val.length (byteCells x.r.val) ∧ (∀ k, x.kv.ownBlock = some k → P k) ∧ (∀ k, x.vv.ownBlock = some k → P k))
    (hP : ∀ k, V.heap.size ≤ k → P k) (hV : Below V.heap.size V V1)
    (hr : rowAt w3 150 3 (.slice oa3 (n + m) c3) (n + m) (recsCells xs ++ recsCells ys)) (hg : V1.grownBy w3 (Value.slice oa n c).ownBlock) (ho : (Value.slice oa3 (n + m) c3).ownBlock = (Value.slice oa n c).ownBlock ∨ (Value.slice oa3 (n + m) c3).ownBlock = some V1.heap.size) :
    w3.heap[b]? = some (.cells #[.slice oa n c] 34 (0, 0)) ∧ Only P V w3 ∧ (w3.setCell ⟨b, 0, none⟩ (.slice oa3 (n + m) c3)).heap[b]? = some (.cells #[.slice oa3 (n + m) c3] 34 (0, 0)) ∧ RowP P (w3.setCell ⟨b, 0, none⟩ (.slice oa3 (n + m) c3)) (.slice oa3 (n + m) c3) (xs ++ ys) := by
  subst hn
  subst hm
  have hlt := (Array.getElem?_eq_some_iff.1 hbx).1
  have hov : Only (fun k => (Value.slice oa xs.length c).ownBlock = some k) V w3 := (Only.of_below hV (Nat.le_refl _) _).trans (Only.of_grown hg (fun k hk => hk)) (fun _ _ h => h)
  have hoP : Only P V w3 := hov.mono (fun k _ e => h.own k e)
  have hb3 := (hov.block b hlt (fun e => hnb (h.own b e))).trans hbx
  have keep : ∀ {u : Value} {k : Nat} {cs : List Value}, rowAt V 5 1 u k cs → rowAt w3 5 1 u k cs := fun {u k cs} hu => hu.kept (fun i hi => hov.block i (hu.lt i hi) (hu.types h.row (by decide) hi))
  have hset : ∀ k, k ≠ b → (w3.setCell ⟨b, 0, none⟩ (.slice oa3 (xs.length + ys.length) c3)).heap[k]? = w3.heap[k]? := fun k hk => Below.heap_setCell _ _ _ _ hk
  have h3 : RowP P w3 (.slice oa3 (xs.length + ys.length) c3) (xs ++ ys) := by
    refine ⟨?_, fun k hk => ?_, fun x hx => ?_⟩
    · rw [recsCells_append, List.length_append]
      exact hr
    · rcases ho with e | e
      · exact h.own k (by rw [← e]; exact hk)
      · rw [hk] at e
        simp only [Option.some.injEq] at e
        exact hP k (by have := hV.size; omega)
    · rcases List.mem_append.1 hx with hx | hx
      · obtain ⟨g1, g2, g3, g4⟩ := h.each x hx
        exact ⟨keep g1, keep g2, g3, g4⟩
      · obtain ⟨g1, g2, g3, g4⟩ := hys x hx
        exact ⟨keep g1, keep g2, g3, g4⟩
  exact ⟨hb3, hoP, heap_setCell_here _ hb3, h3.kept (fun k _ hp => hset k (fun e => hnb (e ▸ hp)))⟩
theorem one_rowR (w : World) (e : TypeId) (size : Nat) (ys : List Value) (hy : ys.length = size) : rowAt (w.alloc (.cells ys.toArray e)) e size (.slice (some ⟨w.heap.size, 0, none⟩) 1 1) 1 ys :=
  ⟨by simp [hy], .inr ⟨_, 0, 1, _, _, rfl, alloc_cells _ _ _, Nat.le_refl _, by unfold maxLen; omega, by simp [hy], freeRow_zero _, by subst hy; simp⟩⟩
theorem one_rec (y : RcV) : recsCells [y] = recCells y := by unfold recsCells; simp
theorem recsCells_len (ys : List RcV) : (recsCells ys).length = ys.length * 3 := by
  unfold recsCells
  induction ys with
  | nil => rfl
  | cons a t ih =>
    rw [List.flatMap_cons, List.length_append, ih, List.length_cons]
    show 3 + _ = _
    omega
theorem slice_one {w : World} {e : TypeId} {s n : Nat} {v : Value} {xs : List Value} (h : rowAt w e s v n xs) : v.oneCell' = true := by
  obtain ⟨oa, c, rfl, -⟩ := h.shape
  rfl
theorem slice_one' {w : World} {s n : Nat} {v : Value} {xs : List Value} (h : readAt w s v n xs) : v.oneCell' = true := by
  rcases h.2 with ⟨-, oa, cap, rfl, -⟩ | ⟨g, off, c, rfl, -⟩
  · rfl
  · rfl
theorem wpListIn_append_recs {F : Fence} {n : Nat} {w2 : World} {ops : Array Oper} {rest : List Oper} {o : Oper} {a : Act} {Q : Exit → Act → World → Prop} (hgd : o.guard = none) (s x : Operand)
    (ho : o.op = .call { callee := .builtin .append, args := #[s, x], argTypes := #[34, 34] })
    {oa ob : Option Addr} {m c k d : Nat} {xs ys : List RcV} {P : Nat → Prop} (h : RowP P w2 (.slice oa m c) xs) (hxm : xs.length = m) (hm : m ≤ 100000000) (hy : RecsIs w2 (.slice ob k d) ys) (hyk : ys.length = k) (hk : k ≤ 100000000)
    (hs : a.eval s = .slice oa m c) (hx : a.eval x = .slice ob k d)
    (hK : ∀ oa3 c3 w3, Hid (rowAt w3 150 3 (.slice oa3 (m + k) c3) (m + k) (recsCells xs ++ recsCells ys)) → Hid (w2.grownBy w3 (Value.slice oa m c).ownBlock) →
      Hid ((Value.slice oa3 (m + k) c3).ownBlock = (Value.slice oa m c).ownBlock ∨ (Value.slice oa3 (m + k) c3).ownBlock = some w2.heap.size) → wpListIn F n Tryz.prog ops Q rest (a.put o.dst (.slice oa3 (m + k) c3)) w3) :
    wpListIn F n Tryz.prog ops Q (o :: rest) a w2 := by
  subst hxm
  subst hyk
  have h1 : ∀ v ∈ recsCells ys, v.oneCell' = true := fun v hv => by
    unfold recsCells at hv
    obtain ⟨y, hym, hv⟩ := List.mem_flatMap.1 hv
    obtain ⟨e1, e2⟩ := hy.each y hym
    simp only [recCells, List.mem_cons, List.not_mem_nil, or_false] at hv
    rcases hv with rfl | rfl | rfl
    · rfl
    · exact slice_one' e1
    · exact slice_one' e2
  refine wpListIn_plain hgd fun K hK' => ?_
  obtain ⟨i, hi, hz, hsz, hbi⟩ := info_parts info_rc
  obtain ⟨v', w3, hrun, r1, r2, r3, r4⟩ := run_append_at (P := Tryz.prog) w2 34 34 o.type 150 i _ 3 56 Tryz.underlying34 hi hz hsz hbi rfl _ xs.length (recsCells xs) h.row _ ys.length (recsCells ys) (Src.of_read Tryz.underlying34 hy.row h1) (by unfold maxLen; omega) (by omega)
  obtain ⟨oa3, c3, rfl, _⟩ := r1.shape
  unfold Oper.wpIn
  refine ⟨?_, ?_⟩
  · simp [Oper.about, ho, resolve, Target.leads, Sem.run_pure]
  · rw [Oper.semAt_plain F _ _ (by rw [ho]; intro c hc'; cases hc')]
    simp [execOp, ho, resolve, invoke, builtin, hs, hx, hrun, Result.andThen]
    exact hK' _ _ (hK oa3 c3 w3 (Lib.hid r1) (Lib.hid r2) (Lib.hid (by simpa using r3)))
structure GotI (w5 V : World) (b n7 : Nat) (T : Nat → Prop) (l : List Rc) : Prop where
  out : OutI V b (fun a => n7 + 2 ≤ a ∧ ¬ T a) l
  below : Below w5.heap.size w5 V
  low : ∀ a, T a → n7 + 2 ≤ a
  hb : w5.heap.size ≤ b ∧ b < n7
theorem GotI.kept {w5 A B : World} {b n7 : Nat} {T P : Nat → Prop} {l : List Rc} (h : GotI w5 A b n7 T l) (ho : Only P A B) (hP : ∀ i, P i → T i ∨ i = n7 ∨ i = n7 + 1) : GotI w5 B b n7 T l := by
  have hb := h.hb
  have no : ∀ i, P i → n7 ≤ i ∧ ¬ (n7 + 2 ≤ i ∧ ¬ T i) := fun i hi => by
    rcases hP i hi with e | e | e
    · exact ⟨by have := h.low i e; omega, fun hh => hh.2 e⟩
    · exact ⟨by omega, fun hh => by omega⟩
    · exact ⟨by omega, fun hh => by omega⟩
  exact ⟨h.out.kept ho (fun k hk => ⟨(no k hk).2, by have := (no k hk).1; omega⟩), h.below.trans (ho.below (fun i hi hp => by have := (no i hp).1; omega) h.below.size), h.low, hb⟩
theorem GotI.later {w5 A B : World} {b n7 : Nat} {T : Nat → Prop} {l : List Rc} (h : GotI w5 A b n7 T l) (hb : Below A.heap.size A B) : GotI w5 B b n7 T l :=
  h.kept (P := fun _ => False) (Only.of_below hb (Nat.le_refl _) _) (fun _ hf => hf.elim)
structure InI (w5 W2 V : World) (b n7 lo hi : Nat) (T : Nat → Prop) (l : List Rc) (oa : Option Addr) (n c : Nat) (ys : List RcV) : Prop where
  rec' : ys.map (·.r) = l
  len : ys.length = n
  box : V.heap[b]? = some (.cells #[.slice oa n c] 34 (0, 0))
  row : RowP (fun a => n7 + 2 ≤ a ∧ ¬ T a) V (.slice oa n c) ys
  win : ∀ k, (Value.slice oa n c).ownBlock = some k → k < lo ∨ hi ≤ k
  below : Below w5.heap.size w5 V
  low : ∀ a, T a → n7 + 2 ≤ a
  hb : w5.heap.size ≤ b ∧ b < n7
  kept : Only (fun k => (k = b ∨ n7 ≤ k) ∧ ¬ (T k ∨ k = n7 ∨ k = n7 + 1)) W2 V
  old : ∀ k, k < hi → lo ≤ k → V.heap[k]? = W2.heap[k]?
theorem GotI.inI {w5 Wp W2 : World} {b n7 : Nat} {T P : Nat → Prop} {l : List Rc} (h : GotI w5 Wp b n7 T l) (ho : Only P Wp W2) (hP : ∀ i, P i → T i ∨ i = n7 ∨ i = n7 + 1) (hn : n7 + 2 ≤ Wp.heap.size) : ∃ oa n c ys, InI w5 W2 W2 b n7 Wp.heap.size W2.heap.size T l oa n c ys := by
  have h2 := h.kept ho hP
  obtain ⟨-, oa, n, c, ys, h3, h4, h5, h6⟩ := h.out
  have hb := h.hb
  have no : ∀ i, P i → n7 ≤ i ∧ ¬ (n7 + 2 ≤ i ∧ ¬ T i) := fun i hi => by
    rcases hP i hi with e | e | e
    · exact ⟨by have := h.low i e; omega, fun hh => hh.2 e⟩
    · exact ⟨by omega, fun hh => by omega⟩
    · exact ⟨by omega, fun hh => by omega⟩
  exact ⟨oa, n, c, ys, h3, h4, (ho.block b (by omega) (fun hp => by have := (no b hp).1; omega)).trans h5, h6.only ho (fun k hk => (no k hk).2), fun k hk => .inl (h6.row.lt k hk), h2.below, h2.low, hb, Only.refl _ _, fun k _ _ => rfl⟩
theorem InI.got {w5 W2 V : World} {b n7 lo hi : Nat} {T : Nat → Prop} {l : List Rc} {oa : Option Addr} {n c : Nat} {ys : List RcV} (h : InI w5 W2 V b n7 lo hi T l oa n c ys) : GotI w5 V b n7 T l :=
  ⟨⟨fun hh => by have := h.hb; have := hh.1; omega, oa, n, c, ys, h.rec', h.len, h.box, h.row⟩, h.below, h.low, h.hb⟩
theorem InI.size {w5 W2 V : World} {b n7 lo hi : Nat} {T : Nat → Prop} {l : List Rc} {oa : Option Addr} {n c : Nat} {ys : List RcV} (h : InI w5 W2 V b n7 lo hi T l oa n c ys) : n = l.length := by rw [← h.rec', List.length_map, h.len]
theorem InI.later {w5 W2 V V' : World} {b n7 lo hi : Nat} {T : Nat → Prop} {l : List Rc} {oa : Option Addr} {n c : Nat} {ys : List RcV} (h : InI w5 W2 V b n7 lo hi T l oa n c ys) (hb : Below V.heap.size V V') (hV : hi ≤ V.heap.size) : InI w5 W2 V' b n7 lo hi T l oa n c ys :=
  ⟨h.rec', h.len, (hb.block b (Array.getElem?_eq_some_iff.1 h.box).1).trans h.box, h.row.later hb, h.win, h.below.trans (hb.mono h.below.size), h.low, h.hb, h.kept.trans (Only.of_below hb (Nat.le_refl _) _) (fun _ _ h => h), fun k hk hl => (hb.block k (Nat.lt_of_lt_of_le hk hV)).trans (h.old k hk hl)⟩
theorem InI.step {w5 W2 V V1 w3 : World} {b n7 lo hi : Nat} {T : Nat → Prop} {l : List Rc} {oa oa3 : Option Addr} {n c c3 m : Nat} {ys zs : List RcV} (h : InI w5 W2 V b n7 lo hi T l oa n c ys) (hm : zs.length = m)
    (hzs : ∀ x ∈ zs, rowAt V 5 1 x.kv x.r.key.length (byteCells x.r.key) ∧ rowAt V 5 1 x.vv x.r.val.length (byteCells x.r.val) ∧ (∀ k, x.kv.ownBlock = some k → n7 + 2 ≤ k ∧ ¬ T k) ∧ (∀ k, x.vv.ownBlock = some k → n7 + 2 ≤ k ∧ ¬ T k))
    (hV : Below V.heap.size V V1) (hhi : hi ≤ V.heap.size) (hTV : ∀ a, T a → a < V.heap.size) (hn7 : n7 + 2 ≤ V.heap.size) (hlo : n7 ≤ lo)
    (hr : rowAt w3 150 3 (.slice oa3 (n + m) c3) (n + m) (recsCells ys ++ recsCells zs)) (hg : V1.grownBy w3 (Value.slice oa n c).ownBlock) (ho : (Value.slice oa3 (n + m) c3).ownBlock = (Value.slice oa n c).ownBlock ∨ (Value.slice oa3 (n + m) c3).ownBlock = some V1.heap.size) :
    w3.heap[b]? = some (.cells #[.slice oa n c] 34 (0, 0)) ∧ InI w5 W2 (w3.setCell ⟨b, 0, none⟩ (.slice oa3 (n + m) c3)) b n7 lo hi T (l ++ zs.map (·.r)) oa3 (n + m) c3 (ys ++ zs) := by
  have hb := h.hb
  have hnb : ¬ (n7 + 2 ≤ b ∧ ¬ T b) := fun hh => by have := hh.1; omega
  obtain ⟨g1, g2, g3, g4⟩ := out_step (P := fun a => n7 + 2 ≤ a ∧ ¬ T a) h.row h.len hm h.box hnb hzs (fun k hk => ⟨by omega, fun ht => by have := hTV k ht; omega⟩) hV hr hg ho
  have ho3 : Only (fun k => k = b) w3 (w3.setCell ⟨b, 0, none⟩ (.slice oa3 (n + m) c3)) := only_setCell (fun k => k = b) _ b 0 _ rfl
  have hov : Only (fun k => (Value.slice oa n c).ownBlock = some k) V w3 := (Only.of_below hV (Nat.le_refl _) _).trans (Only.of_grown hg (fun k hk => hk)) (fun _ _ h => h)
  refine ⟨g1, by rw [List.map_append, h.rec'], by rw [List.length_append, h.len, hm], g3, g4, fun k hk => ?_, ?_, h.low, hb, ?_, fun k hk hl => ?_⟩
  · rcases ho with e | e
    · exact h.win k (by rw [← e]; exact hk)
    · rw [hk] at e
      simp only [Option.some.injEq] at e
      have := hV.size
      exact .inr (by omega)
  · have h1 := h.below.trans (g2.below (fun i hi hh => by have := hh.1; omega) h.below.size)
    exact h1.setCell (p := ⟨b, 0, none⟩) hb.1 _
  · refine (h.kept.trans (g2.mono (fun k _ hh => ⟨.inr (by have := hh.1; omega), fun e => ?_⟩)) (fun _ _ h => h)).trans (ho3.mono (fun k _ e => ⟨.inl e, fun hh => ?_⟩)) (fun _ _ h => h)
    · rcases e with e | e | e
      · exact hh.2 e
      · have := hh.1; omega
      · have := hh.1; omega
    · rcases hh with hh | hh | hh
      · have := h.low k hh; omega
      · omega
      · omega
  · have hkb : k ≠ b := fun e => by omega
    exact (ho3.block k (Nat.lt_of_lt_of_le (Nat.lt_of_lt_of_le hk hhi) hov.size) hkb).trans ((hov.block k (Nat.lt_of_lt_of_le hk hhi) (fun e => by have := h.win k e; omega)).trans (h.old k hk hl))
end Go.Proofs.YtlgcoaeddeiegaaGreat
/- Kit: a scope through which the run goes without a goto, in fenced words. -/
namespace Go

section
variable {F : Fence} {n : Nat} {P : Program} {b : Frame} {a : Act} {k : List Item} {cs : List Frame} {w : World} {Q : Exit → Act → World → Prop}
theorem stepR_scope {c : Code} : step P (lone (b.atR a (.code (.scope c) :: k)) cs w) = .next (lone (b.atR a (.code c :: .inScope c :: k)) cs w) :=
  step_lone_go (by simp [stepG, stepG.exec, Frame.atR])
theorem stepR_inScope {c : Code} : step P (lone (b.atR a (.inScope c :: k)) cs w) = .next (lone (b.atR a k) cs w) :=
  step_lone_go (by simp [stepG, stepG.exec, Frame.atR])
theorem wpIn_scope {c : Code} (h : c.wpIn F n P (Exit.noGoto Q) a w) : (Code.scope c).wpIn F n P Q a w := by
  intro b k cs hro hb hr
  have h0 : (lone (b.atR a (.code (.scope c) :: k)) cs w).fenced P F := fenced_calm hb hr rfl
  obtain ⟨e, a₁, w₁, hq, harr⟩ := h b (.inScope c :: k) cs hro hb hr
  cases e with
  | normal => exact ⟨.normal, a₁, w₁, hq, .head h0 stepR_scope (StepsIn.trans harr (.one (fenced_calm hb hr rfl) stepR_inScope))⟩
  | exit id' =>
    have hx : exitTo id' (.inScope c :: k) = exitTo id' k := by simp [exitTo]
    exact ⟨.exit id', a₁, w₁, hq, fun k' hk => .head h0 stepR_scope (harr.1 k' (by rw [hx]; exact hk)),
      fun hr' hk => let ⟨k₁, h1, h2⟩ := harr.2 hr' (by rw [hx]; exact hk); ⟨k₁, h1, .head h0 stepR_scope h2⟩⟩
  | goto l => exact hq.elim
  | ret => exact ⟨_, a₁, w₁, hq, .of_steps (.one h0 stepR_scope) harr⟩
  | panic ch => exact ⟨_, a₁, w₁, hq, .of_steps (.one h0 stepR_scope) harr⟩
  | outgrown => exact ⟨_, a₁, w₁, hq, .of_steps (.one h0 stepR_scope) harr⟩
theorem wp_onlyR {P : Program} {c : Code} {K : Act → World → Prop} {Q' : Exit → Act → World → Prop} {a : Act} {w : World} (h : c.wp P (Exit.then K (fun _ _ _ => False)) a w) : c.wp P (Exit.then K Q') a w :=
  (wpIn_wide (n := 1)).1 (wpIn_mono (wpIn_wide.2 h) (fun e _ _ hq => by
    cases e with
    | normal => exact hq
    | exit id => exact hq.elim
    | goto l => exact hq.elim
    | ret => exact hq.elim
    | panic ch => exact hq.elim
    | outgrown => exact hq.elim))
end
end Go
/- counts and worlds: small laws. -/
namespace Go.Proofs.YtlgcoaeddeiegaaGreat
open Go Go.RowKit Go.Shelf
attribute [local go_sem] Oper.semAt_some

theorem len_sum : ∀ l : List Rc, l.length ≤ (l.map Rc.size).sum
  | [] => by simp
  | r :: l => by
    have := len_sum l
    rw [List.map_cons, List.sum_cons, List.length_cons]
    have h2 : 12 ≤ r.size := by unfold Rc.size; omega
    omega
theorem cnt_long : ∀ bs : List Bat, cntT bs ≤ (batsT bs).length
  | [] => by simp [cntT]
  | b :: r => by
    have h1 := cnt_long r
    have e : batsT (b :: r) = batchT b.1 b.2 ++ batsT r := rfl
    have e2 : cntT (b :: r) = b.2.length + cntT r := by simp [cntT]
    have h2 := len_sum b.2
    rw [e, e2, List.length_append, batchT_len]
    unfold rcsSize
    omega
theorem bcell {W w1 : World} (hb : Below W.heap.size W w1) : (∀ b o, b < W.heap.size → w1.cell? ⟨b, o, none⟩ = W.cell? ⟨b, o, none⟩) ∧ (∀ b o, b < W.heap.size → w1.frozen? ⟨b, o, none⟩ = W.frozen? ⟨b, o, none⟩) :=
  ⟨fun b o h => hb.cell (p := ⟨b, o, none⟩) h, fun b o h => hb.frozen (p := ⟨b, o, none⟩) h⟩
theorem bdrew (w : World) : Below w.heap.size w w.drew := ⟨rfl, rfl, rfl, Nat.le_refl _, fun _ _ => rfl⟩
theorem bdrewa (w : World) (o : Obj) : Below w.heap.size w (w.drew.alloc o) := (bdrew w).alloc (Nat.le_refl _) o
end Go.Proofs.YtlgcoaeddeiegaaGreat
/- partlog: a log and its disk; Sync, State. -/
namespace Go.Proofs.YtlgcoaeddeiegaaGreat
open Go Go.RowKit
attribute [local go_sem] Oper.semAt_some

structure LogD (w : World) (S T : Nat → Prop) (lp q : Nat) (log : ByteArray) (roll step : Nat) (g : Lg) (d : Dk) : Prop where
  disk : DiskAt w S q d
  log' : ∃ G a pv, LogM w T lp q log roll step g G a pv
  apart : ∀ k, S k → ¬ T k
def LogTurn (w : World) (S T : Nat → Prop) (lp q : Nat) (log : ByteArray) (roll step : Nat) (g : Lg) (d : Dk) (w' : World) : Prop :=
  ∃ S' T', (∀ k, S' k → Wid S w w' k) ∧ (∀ k, T' k → Wid T w w' k) ∧ LogD w' S' T' lp q log roll step g d ∧ Only (fun k => S k ∨ T k) w w'
section
variable {w w1 w2 : World} {S T : Nat → Prop} {lp q : Nat} {log : ByteArray} {roll step : Nat} {g g' : Lg} {d d' : Dk}
theorem LogD.lowT (h : LogD w S T lp q log roll step g d) : ∀ k, T k → k < w.heap.size := by
  obtain ⟨G, a, pv, h1⟩ := h.log'
  exact h1.low
theorem LogD.later (h : LogD w S T lp q log roll step g d) (hb : Below w.heap.size w w1) : LogD w1 S T lp q log roll step g d := by
  obtain ⟨G, a, pv, h1⟩ := h.log'
  exact ⟨h.disk.belowS hb, ⟨G, a, pv, h1.later hb⟩, h.apart⟩
theorem LogD.turn (h : LogD w S T lp q log roll step g d) (hb : Below w.heap.size w w1) : LogTurn w S T lp q log roll step g d w1 :=
  ⟨S, T, fun _ hk => .inl hk, fun _ hk => .inl hk, h.later hb, Only.of_below hb (Nat.le_refl _) _⟩
theorem LogTurn.then (h : LogTurn w S T lp q log roll step g d w1) (hn : ∀ S' T', (∀ k, S' k → Wid S w w1 k) → (∀ k, T' k → Wid T w w1 k) → LogD w1 S' T' lp q log roll step g d → LogTurn w1 S' T' lp q log roll step g' d' w2) : LogTurn w S T lp q log roll step g' d' w2 := by
  obtain ⟨S', T', h1, h2, h3, h4⟩ := h
  obtain ⟨S2, T2, k1, k2, k3, k4⟩ := hn S' T' h1 h2 h3
  have e1 := h4.size
  have e2 := k4.size
  refine ⟨S2, T2, fun k hk => ?_, fun k hk => ?_, k3, h4.trans k4 (fun k hk hh => ?_)⟩
  · rcases k1 k hk with hh | hh
    · rcases h1 k hh with hh | hh
      · exact .inl hh
      · exact .inr ⟨hh.1, Nat.lt_of_lt_of_le hh.2 e2⟩
    · exact .inr ⟨Nat.le_trans e1 hh.1, hh.2⟩
  · rcases k2 k hk with hh | hh
    · rcases h2 k hh with hh | hh
      · exact .inl hh
      · exact .inr ⟨hh.1, Nat.lt_of_lt_of_le hh.2 e2⟩
    · exact .inr ⟨Nat.le_trans e1 hh.1, hh.2⟩
  · rcases hh with hh | hh
    · rcases h1 k hh with hh | hh
      · exact .inl hh
      · have := hh.1; omega
    · rcases h2 k hh with hh | hh
      · exact .inr hh
      · have := hh.1; omega
theorem LogTurn.join {S1 T1 : Nat → Prop} (h1 : ∀ k, S1 k → Wid S w w1 k) (h2 : ∀ k, T1 k → Wid T w w1 k) (h4 : Only (fun k => S k ∨ T k) w w1) (hn : LogTurn w1 S1 T1 lp q log roll step g' d' w2) : LogTurn w S T lp q log roll step g' d' w2 := by
  obtain ⟨S2, T2, k1, k2, k3, k4⟩ := hn
  have e1 := h4.size
  have e2 := k4.size
  refine ⟨S2, T2, fun k hk => ?_, fun k hk => ?_, k3, h4.trans k4 (fun k hk hh => ?_)⟩
  · rcases k1 k hk with hh | hh
    · rcases h1 k hh with hh | hh
      · exact .inl hh
      · exact .inr ⟨hh.1, Nat.lt_of_lt_of_le hh.2 e2⟩
    · exact .inr ⟨Nat.le_trans e1 hh.1, hh.2⟩
  · rcases k2 k hk with hh | hh
    · rcases h2 k hh with hh | hh
      · exact .inl hh
      · exact .inr ⟨hh.1, Nat.lt_of_lt_of_le hh.2 e2⟩
    · exact .inr ⟨Nat.le_trans e1 hh.1, hh.2⟩
  · rcases hh with hh | hh
    · rcases h1 k hh with hh | hh
      · exact .inl hh
      · have := hh.1; omega
    · rcases h2 k hh with hh | hh
      · exact .inr hh
      · have := hh.1; omega
theorem wid_apart {w0 w3 : World} {S S3 T : Nat → Prop} (h0 : ∀ k, T k → k < w0.heap.size) (hS : ∀ k, S3 k → Wid S w0 w3 k) (hap : ∀ k, S k → ¬ T k) : ∀ k, S3 k → ¬ T k := fun k hk hT => by
  rcases hS k hk with e | e
  · exact hap k e hT
  · have := h0 k hT
    have := e.1
    omega
theorem LogM.turned {w0 w3 w4 : World} {S T S3 T3 X : Nat → Prop} {G : List Sg} {a : Sg} {pv : Value} (hm : LogM w3 T3 lp q log roll step g G a pv) (hT : ∀ k, T3 k → Wid T w0 w3 k) (hd : DiskAt w3 S3 q d') (hS : ∀ k, S3 k → Wid S w0 w3 k) (hap : ∀ k, S3 k → ¬ T3 k) (ho : Only (fun k => S k ∨ T k) w0 w3) (ho4 : Only X w3 w4) (hX : ∀ k, X k → k = lp ∨ (w0.heap.size ≤ k ∧ ¬ S3 k ∧ ¬ T3 k))
    (hh : logHead q lp log roll step g' (G.length + 1) pv w4) (e1 : g'.ini = g.ini) (e2 : g'.lb = g.lb) (e3 : g'.lbs = g.lbs) (hok : LgOk g') : LogTurn w0 S T lp q log roll step g' d' w4 := by
  have hlp := hm.rest.lp_mem
  have hsz := ho4.size
  refine ⟨S3, T3, fun k hk => ?_, fun k hk => ?_, ⟨hd.onlyS ho4 (fun k hk hx => ?_), ⟨G, a, pv, { hm with head := hh, rest := hm.rest.only ho4 (fun k hT hne hx => ?_), ini := e1.trans hm.ini, lb := e2.trans hm.lb, lbs := e3.trans hm.lbs, ok := hok }⟩, hap⟩, ho.trans ho4 (fun k hk hx => ?_)⟩
  · rcases hS k hk with e | e
    · exact .inl e
    · exact .inr ⟨e.1, Nat.lt_of_lt_of_le e.2 hsz⟩
  · rcases hT k hk with e | e
    · exact .inl e
    · exact .inr ⟨e.1, Nat.lt_of_lt_of_le e.2 hsz⟩
  · rcases hX k hx with e | e
    · exact hap k hk (e ▸ hlp)
    · exact e.2.1 hk
  · rcases hX k hx with e | e
    · exact hne e
    · exact e.2.2 hT
  · rcases hX k hx with e | e
    · rcases hT lp hlp with h1 | h1
      · exact .inr (e ▸ h1)
      · have := h1.1
        omega
    · omega
theorem LogD.diskTurn (h : LogD w S T lp q log roll step g d) (hd : DiskAt w1 (Wid S w w1) q d') (ho : Only S w w1) : LogTurn w S T lp q log roll step g d' w1 := by
  obtain ⟨G, a, pv, h1⟩ := h.log'
  refine ⟨Wid S w w1, T, fun _ hk => hk, fun _ hk => .inl hk, ⟨hd, ⟨G, a, pv, h1.only ho (fun k hT hS => h.apart k hS hT)⟩, fun k hk hT => ?_⟩, ho.mono (fun _ _ hk => .inl hk)⟩
  rcases hk with hk | hk
  · exact h.apart k hk hT
  · have := h1.low k hT
    have := hk.1
    omega
end
section
variable {w : World} {S : Nat → Prop} {s x q : Nat} {nm : ByteArray} {bn step : Nat} {sv : Value} {sp : List Sp} {bs : List Bat} {d : Dk}
set_option maxRecDepth 100000 in
set_option maxHeartbeats 2000000 in
theorem syncM_b (h : SegM w s x q nm bn step sv sp bs) (hdk : DiskAt w S q d) :
    Calls Tryz.prog 91 #[.pointer (some ⟨s, 0, none⟩)] w fun e w' => OpIs w S q (d.sync nm.data.toList) e w' := by
  have hbd := bdrew w
  have k4 : w.cell? ⟨s, 4, none⟩ = some (.pointer (some ⟨q, 0, none⟩)) := cell_of h.head rfl
  have k5 : w.cell? ⟨s, 5, none⟩ = some (.string nm) := cell_of h.head rfl
  have HN := Lib.hid (noneSeg_b k4)
  have HS := Lib.hid (sync_b (hdk.belowS hbd) nm (Nat.le_trans h.nms (by decide)))
  have HW := Lib.hid h
  clear h hbd hdk
  go_enter Tryz.func91, Tryz.ntmps91
  go_wp2_with fail
  refine HN.out.mono ?_
  rintro e w2 ⟨rfl, hw2⟩
  obtain rfl := hw2.symm
  clear hw2
  go_wp2_with fail
  go_region_law (go_simp; go_at_call 69; refine HS.out.mono ?_; rintro e w4 ⟨rfl, hd4, ho4⟩; have HD := Lib.hid (And.intro hd4 ho4); clear hd4 ho4)
  all_goals
    go_wp2_with fail
    go_ret
    exact ⟨rfl, HD.out.1, (Only.of_below (bdrew w) (Nat.le_refl _) S).trans HD.out.2 (fun _ _ h => h)⟩
end
end Go.Proofs.YtlgcoaeddeiegaaGreat
/- partlog: Sync. -/
namespace Go.Proofs.YtlgcoaeddeiegaaGreat
open Go Go.RowKit
attribute [local go_sem] Oper.semAt_some

set_option maxRecDepth 100000 in
set_option maxHeartbeats 4000000 in
theorem logSync_b {w : World} {S T : Nat → Prop} {lp q : Nat} {log : ByteArray} {roll step : Nat} {g : Lg} {d : Dk} (h : LogD w S T lp q log roll step g d) :
    Calls Tryz.prog 27 #[.pointer (some ⟨lp, 0, none⟩)] w fun e w' => e = .returned (.int .i64 (g.syncT log d).1) ∧ LogTurn w S T lp q log roll step (g.syncT log d).2.1 (g.syncT log d).2.2 w' := by
  obtain ⟨w1, hw1⟩ : ∃ W : World, W = w.alloc (.cells #[.int .i64 0] 28) := ⟨_, rfl⟩
  obtain ⟨b, hb⟩ : ∃ b, b = w.heap.size := ⟨_, rfl⟩
  have gb : w1.heap[b]? = some (.cells #[.int .i64 0] 28 (0, 0)) := by rw [hw1, hb]; exact alloc_cells _ _ _
  have hb1 : Below w.heap.size w w1 := by rw [hw1]; exact (Below.refl _ _).alloc (Nat.le_refl _) _
  have h1 := h.later hb1
  obtain ⟨G, a, pv, hm⟩ := h1.log'
  have HN := Lib.hid (noneLog_b hm)
  have k4 : w1.cell? ⟨lp, 4, none⟩ = some (.bool g.dead) := cell_of hm.head rfl
  have kb : w1.cell? ⟨b, 0, none⟩ = some (.int .i64 0) := cell_of gb rfl
  have zb : w1.frozen? ⟨b, 0, none⟩ = false := free_of gb _
  have HB := Lib.hid (And.intro gb (And.intro hb1 hb))
  have HM := Lib.hid hm
  have HD := Lib.hid h1.disk
  have H := Lib.hid h
  have HAP := Lib.hid h.apart
  obtain ⟨r, hr⟩ : ∃ r, r = d.sync (sname log g.lb) := ⟨_, rfl⟩
  have HR := Lib.hid hr
  clear gb hb1 h1 hm hr
  cases hdd : g.dead with
  | true =>
    have e1 : g.syncT log d = (9, g, d) := by unfold Lg.syncT; rw [if_pos hdd]
    rw [e1]
    rw [hdd] at k4
    clear h
    go_enter_defers Tryz.func27, Tryz.ntmps27
    go_upto_region 1 with fail
    rw [← hw1, ← hb]
    clear hw1 hb hdd e1
    go_wp2_with fail
    refine HN.out.mono ?_
    rintro e w2 ⟨rfl, hw2⟩
    obtain rfl := hw2.symm
    clear hw2
    go_wp2_with fail
    have g2 : (w1.setCell ⟨b, 0, none⟩ (.int .i64 9)).heap[b]? = some (.cells #[.int .i64 9] 28 (0, 0)) := heap_setCell_here _ HB.out.1
    have c2 := cell_of (i := 0) g2 rfl
    refine ⟨.int .i64 9, by simp [results, Tryz.results27, go_sem, c2], rfl, ?_⟩
    exact H.out.turn (HB.out.2.1.setCell (p := ⟨b, 0, none⟩) (by have := HB.out.2.2; show w.heap.size ≤ b; omega) _)
  | false =>
    rw [hdd] at k4
    have HDD := Lib.hid hdd
    clear h hdd
    go_enter_defers Tryz.func27, Tryz.ntmps27
    go_upto_region 1 with fail
    rw [← hw1, ← hb]
    clear hw1 hb
    go_wp2_with fail
    refine HN.out.mono ?_
    rintro e w2 ⟨rfl, hw2⟩
    obtain rfl := hw2.symm
    clear hw2
    have HA := Lib.hid (active_b HM.out)
    go_wp2_with fail
    refine HA.out.mono ?_
    rintro e w2 ⟨rfl, hb2⟩
    have hm2 := HM.out.later hb2
    have hd2 := HD.out.belowS hb2
    have hs := syncM_b hm2.last hd2
    rw [segName_data, ← hm2.lb, ← HR.out] at hs
    have HS := Lib.hid hs
    have H2 := Lib.hid (And.intro hm2 (And.intro hd2 hb2))
    clear hm2 hd2 hs hb2 HA HN kb zb k4
    go_wp2_with fail
    refine HS.out.mono ?_
    rintro e w3 ⟨rfl, hd3, ho3⟩
    have hm3 := H2.out.1.only ho3 (fun k hT hS => HAP.out k hS hT)
    have hnS : ¬ S b := fun hS => by have h1 := H.out.disk.lowS b hS; have := HB.out.2.2; omega
    have hg3 : w3.heap[b]? = some (.cells #[.int .i64 0] 28 (0, 0)) := (ho3.block b (Nat.lt_of_lt_of_le (Array.getElem?_eq_some_iff.1 HB.out.1).1 H2.out.2.2.size) hnS).trans ((H2.out.2.2.block b (Array.getElem?_eq_some_iff.1 HB.out.1).1).trans HB.out.1)
    have hb02 : Below w.heap.size w w2 := HB.out.2.1.trans (H2.out.2.2.mono HB.out.2.1.size)
    have ho03 : Only S w w3 := (Only.of_below hb02 (Nat.le_refl _) S).trans ho3 (fun _ _ h => h)
    have hw3 : ∀ k, Wid S w2 w3 k → Wid S w w3 k := fun k hk => by
      rcases hk with hk | hk
      · exact .inl hk
      · exact .inr ⟨Nat.le_trans hb02.size hk.1, hk.2⟩
    have HW3 := Lib.hid hw3
    have hnb : ¬ Wid S w2 w3 b := fun hk => by
      rcases hk with hk | hk
      · exact hnS hk
      · have h1 := (Array.getElem?_eq_some_iff.1 HB.out.1).1
        have h2 := H2.out.2.2.size
        have := hk.1
        omega
    have HNB := Lib.hid hnb
    have kb : w3.cell? ⟨b, 0, none⟩ = some (.int .i64 0) := cell_of hg3 rfl
    have zb : w3.frozen? ⟨b, 0, none⟩ = false := free_of hg3 _
    have k1 : w3.cell? ⟨lp, 1, none⟩ = some (.int .i64 (g.fin : Int)) := cell_of hm3.head rfl
    have k2 : w3.cell? ⟨lp, 2, none⟩ = some (.int .i64 (g.stands : Int)) := cell_of hm3.head rfl
    have z2 : w3.frozen? ⟨lp, 2, none⟩ = false := free_of hm3.head _
    have hlb : lp ≠ b := fun e => by have h1 := H.out.lowT lp (HM.out.rest.lp_mem); have := HB.out.2.2; omega
    have H3 := Lib.hid (And.intro hm3 (And.intro hg3 (And.intro ho03 hd3)))
    clear hd3 ho3 hm3 hg3 hw3 hnb HS
    obtain ⟨er, he⟩ : ∃ er, r.1 = er := ⟨_, rfl⟩
    rw [he]
    cases hc : (er == 0) with
    | false =>
      have hne : er ≠ 0 := beq_eq_false_iff_ne.1 hc
      have e1 : g.syncT log d = (er, { g with dead := true }, r.2) := by
        unfold Lg.syncT
        rw [if_neg (by rw [HDD.out]; simp), ← HR.out, he, if_pos hne]
      have HE := Lib.hid e1
      have d1 : (er != 0) = true := by unfold bne; rw [hc]; rfl
      clear hc e1
      have hne' := Lib.hid hne
      clear hne
      go_wp2_with fail
      have g4 : (w3.setCell ⟨b, 0, none⟩ (.int .i64 er)).heap[b]? = some (.cells #[.int .i64 er] 28 (0, 0)) := heap_setCell_here _ H3.out.2.1
      have gl : (w3.setCell ⟨b, 0, none⟩ (.int .i64 er)).heap[lp]? = w3.heap[lp]? := Below.heap_setCell _ _ _ _ hlb
      have hh4 := gl.trans H3.out.1.head
      refine leaves_cons (f := 73) (args := #[.pointer (some ⟨lp, 0, none⟩), .pointer (some ⟨b, 0, none⟩)]) (by simp) (by simp [go_sem]) ?_
      refine (diesNo_b hne'.out g4 hh4 rfl).mono ?_
      rintro e u' w5 ⟨rfl, rfl, hw5⟩
      have g5 : w5.heap[b]? = some (.cells #[.int .i64 er] 28 (0, 0)) := by
        rw [hw5]
        exact (Below.heap_setCell _ _ _ _ (fun e => hlb e.symm)).trans g4
      have c5 := cell_of (i := 0) g5 rfl
      have hh5 : logHead q lp log roll step { g with dead := true } (G.length + 1) pv w5 := by
        rw [hw5]
        exact heap_setCell_here _ hh4
      have ho5 : Only (fun k => k = lp ∨ k = b) w3 w5 := by
        rw [hw5]
        exact (only_setCell (fun k => k = lp ∨ k = b) _ b 0 _ (.inr rfl)).trans (only_setCell (fun k => k = lp ∨ k = b) _ lp 4 _ (.inl rfl)) (fun _ _ e => e)
      refine ⟨.int .i64 er, by simp [results, Tryz.results27, go_sem, c5], by rw [HE.out], ?_⟩
      rw [HE.out]
      exact H3.out.1.turned (fun k hk => .inl hk) H3.out.2.2.2 HW3.out (wid_apart H.out.lowT HW3.out HAP.out) (ho03.mono (fun _ _ h => .inl h)) ho5 (fun k hk => by
        rcases hk with hk | hk
        · exact .inl hk
        · exact .inr ⟨by have := HB.out.2.2; omega, by rw [hk]; exact HNB.out, fun hT => by have := H.out.lowT k hT; have := HB.out.2.2; omega⟩) hh5 rfl rfl rfl (HM.out.ok.died 1)
    | true =>
      have h0 : er = 0 := beq_iff_eq.1 hc
      have e1 : g.syncT log d = (0, { g with stands := g.fin }, r.2) := by
        unfold Lg.syncT
        rw [if_neg (by rw [HDD.out]; simp), ← HR.out, he, if_neg (by rw [h0]; simp)]
      subst h0
      have HE := Lib.hid e1
      clear hc e1
      go_wp2_with fail
      have gl : (w3.setCell ⟨lp, 2, none⟩ (.int .i64 (g.fin : Int))).heap[b]? = w3.heap[b]? := Below.heap_setCell _ _ _ _ (fun e => hlb e.symm)
      have g4 : ((w3.setCell ⟨lp, 2, none⟩ (.int .i64 (g.fin : Int))).setCell ⟨b, 0, none⟩ (.int .i64 0)).heap[b]? = some (.cells #[.int .i64 0] 28 (0, 0)) := heap_setCell_here _ (gl.trans H3.out.2.1)
      refine leaves_cons (f := 73) (args := #[.pointer (some ⟨lp, 0, none⟩), .pointer (some ⟨b, 0, none⟩)]) (by simp) (by simp [go_sem]) ?_
      refine (diesOk_b g4).mono ?_
      rintro e u' w5 ⟨rfl, rfl, hw5⟩
      rw [← hw5] at g4
      have c5 := cell_of (i := 0) g4 rfl
      have hh5 : logHead q lp log roll step { g with stands := g.fin } (G.length + 1) pv w5 := by
        rw [hw5]
        exact (Below.heap_setCell _ _ _ _ hlb).trans (heap_setCell_here _ H3.out.1.head)
      have ho5 : Only (fun k => k = lp ∨ k = b) w3 w5 := by
        rw [hw5]
        exact (only_setCell (fun k => k = lp ∨ k = b) _ lp 2 _ (.inl rfl)).trans (only_setCell (fun k => k = lp ∨ k = b) _ b 0 _ (.inr rfl)) (fun _ _ e => e)
      refine ⟨.int .i64 0, by simp [results, Tryz.results27, go_sem, c5], by rw [HE.out], ?_⟩
      rw [HE.out]
      exact H3.out.1.turned (fun k hk => .inl hk) H3.out.2.2.2 HW3.out (wid_apart H.out.lowT HW3.out HAP.out) (ho03.mono (fun _ _ h => .inl h)) ho5 (fun k hk => by
        rcases hk with hk | hk
        · exact .inl hk
        · exact .inr ⟨by have := HB.out.2.2; omega, by rw [hk]; exact HNB.out, fun hT => by have := H.out.lowT k hT; have := HB.out.2.2; omega⟩) hh5 rfl rfl rfl HM.out.ok.standsFin
end Go.Proofs.YtlgcoaeddeiegaaGreat
/- A row in a box that is appended to, of any elements. -/
namespace Go.Proofs.YtlgcoaeddeiegaaGreat
open Go Go.Maps Go.RowKit Go.Shelf
attribute [local go_sem] Oper.semAt_some

theorem one_row (w : World) (e : TypeId) (size : Nat) (ys : List Value) (hy : ys.length = size) : rowAt (w.alloc (.cells ys.toArray e)) e size (.slice (some ⟨w.heap.size, 0, none⟩) 1 1) 1 ys :=
  ⟨by simp [hy], .inr ⟨_, 0, 1, _, _, rfl, alloc_cells _ _ _, Nat.le_refl _, by unfold maxLen; omega, by simp [hy], freeRow_zero _, by subst hy; simp⟩⟩
theorem wpListIn_append_one {F : Fence} {n : Nat} {w2 : World} {ops : Array Oper} {rest : List Oper} {o : Oper} {a : Act} {Q : Exit → Act → World → Prop} (hgd : o.guard = none) (s x : Operand) (t e : TypeId)
    (ho : o.op = .call { callee := .builtin .append, args := #[s, x], argTypes := #[t, t] }) {z : Value} {size bytes : Nat} (ht : Tryz.prog.underlying t = some (.slice e)) (hinfo : (Tryz.prog.info? e).map (fun i => (i.zero, i.size, i.bytes)) = some (some z, size, bytes)) (hzs : z.cells.size = size) (hby : bytes ≤ 1000)
    {oa : Option Addr} {m c : Nat} {xs : List Value} (h : rowAt w2 e size (.slice oa m c) m xs) (hm : m ≤ 1000000) (ys : List Value) (hy : ys.length = size) (h1 : ∀ v ∈ ys, v.oneCell' = true)
    (hs : a.eval s = .slice oa m c) (hx : a.eval x = .slice (some ⟨w2.heap.size, 0, none⟩) 1 1)
    (hK : ∀ oa3 c3 w3, Hid (rowAt w3 e size (.slice oa3 (m + 1) c3) (m + 1) (xs ++ ys)) → Hid ((w2.alloc (.cells ys.toArray e)).grownBy w3 (Value.slice oa m c).ownBlock) →
      Hid ((Value.slice oa3 (m + 1) c3).ownBlock = (Value.slice oa m c).ownBlock ∨ (Value.slice oa3 (m + 1) c3).ownBlock = some (w2.heap.size + 1)) → wpListIn F n Tryz.prog ops Q rest (a.put o.dst (.slice oa3 (m + 1) c3)) w3) :
    wpListIn F n Tryz.prog ops Q (o :: rest) a (w2.alloc (.cells ys.toArray e)) := by
  refine wpListIn_plain hgd fun K hK' => ?_
  obtain ⟨i, hi, hz, hsz, hbi⟩ := info_parts hinfo
  obtain ⟨v', w3, hrun, r1, r2, r3, r4⟩ := run_append_at (P := Tryz.prog) (w2.alloc (.cells ys.toArray e)) t t o.type e i z size bytes ht hi hz hsz hbi hzs _ m xs (h.kept (fun k hk => Below.heap_alloc _ _ k (h.lt k hk))) _ 1 _ (Src.of_row ht (one_row w2 e size ys hy) h1) (by unfold maxLen; omega) (by
    have h2 : (m + 1) * bytes ≤ (m + 1) * 1000 := Nat.mul_le_mul_left _ hby
    omega)
  obtain ⟨oa3, c3, rfl, _⟩ := r1.shape
  unfold Oper.wpIn
  refine ⟨?_, ?_⟩
  · simp [Oper.about, ho, resolve, Target.leads, Sem.run_pure]
  · rw [Oper.semAt_plain F _ _ (by rw [ho]; intro c hc'; cases hc')]
    simp [execOp, ho, resolve, invoke, builtin, hs, hx, hrun, Result.andThen]
    exact hK' _ _ (hK oa3 c3 w3 (Lib.hid r1) (Lib.hid r2) (Lib.hid (by simpa using r3)))
theorem wpList_append_one {w2 : World} {ops : Array Oper} {rest : List Oper} {o : Oper} {a : Act} {Q : Exit → Act → World → Prop} (hgd : o.guard = none) (s x : Operand) (t e : TypeId)
    (ho : o.op = .call { callee := .builtin .append, args := #[s, x], argTypes := #[t, t] }) {z : Value} {size bytes : Nat} (ht : Tryz.prog.underlying t = some (.slice e)) (hinfo : (Tryz.prog.info? e).map (fun i => (i.zero, i.size, i.bytes)) = some (some z, size, bytes)) (hzs : z.cells.size = size) (hby : bytes ≤ 1000)
    {oa : Option Addr} {m c : Nat} {xs : List Value} (h : rowAt w2 e size (.slice oa m c) m xs) (hm : m ≤ 1000000000) (ys : List Value) (hy : ys.length = size) (h1 : ∀ v ∈ ys, v.oneCell' = true)
    (hs : a.eval s = .slice oa m c) (hx : a.eval x = .slice (some ⟨w2.heap.size, 0, none⟩) 1 1)
    (hK : ∀ oa3 c3 w3, Hid (rowAt w3 e size (.slice oa3 (m + 1) c3) (m + 1) (xs ++ ys)) → Hid ((w2.alloc (.cells ys.toArray e)).grownBy w3 (Value.slice oa m c).ownBlock) →
      Hid ((Value.slice oa3 (m + 1) c3).ownBlock = (Value.slice oa m c).ownBlock ∨ (Value.slice oa3 (m + 1) c3).ownBlock = some (w2.heap.size + 1)) → wpList Tryz.prog ops Q rest (a.put o.dst (.slice oa3 (m + 1) c3)) w3) :
    wpList Tryz.prog ops Q (o :: rest) a (w2.alloc (.cells ys.toArray e)) := by
  refine wpList_append_at _ hgd s x t t ho e z size bytes ht hinfo hzs _ m xs hs (h.kept (fun k hk => Below.heap_alloc _ _ k (h.lt k hk))) _ 1 _ hx (Src.of_row ht (one_row w2 e size ys hy) h1) (by unfold maxLen; omega) (by
    have h2 : (m + 1) * bytes ≤ (m + 1) * 1000 := Nat.mul_le_mul_left _ hby
    omega) ?_
  intro v' w3 hr hg hown _
  obtain ⟨oa3, c3, rfl, _⟩ := hr.shape
  exact hK oa3 c3 w3 (Lib.hid hr) (Lib.hid hg) (Lib.hid (by simpa using hown))
end Go.Proofs.YtlgcoaeddeiegaaGreat
/- partlog: roll. -/
namespace Go.Proofs.YtlgcoaeddeiegaaGreat
open Go Go.RowKit
attribute [local go_sem] Oper.semAt_some

theorem info_seg : (Tryz.prog.info? 156).map (fun i => (i.zero, i.size, i.bytes)) = some (some (.pointer none), 1, 8) := by kernel_rfl
theorem LogR.push {w w7 : World} {T : Nat → Prop} {lp q : Nat} {log : ByteArray} {step : Nat} {L : List Sg} {pv pv' : Value} {a : Sg} (h : LogR w T lp q log step L pv) (ho : Only (fun k => k = lp ∨ pv.ownBlock = some k) w w7)
    (ha : SgIs w7 q log step a) (hnew : ∀ k ∈ a.blocks, ¬ T k ∧ k < w7.heap.size) (hnd : a.blocks.Nodup) (hrow : rowAt w7 156 1 pv' (L.length + 1) (L.map Sg.ptr ++ [a.ptr])) (hpv : ∀ k, pv'.ownBlock = some k → pv.ownBlock = some k ∨ (¬ T k ∧ k ∉ a.blocks)) (hl : L.length + 1 ≤ 1000000000) :
    LogR w7 (fun k => T k ∨ k ∈ a.blocks ∨ pv'.ownBlock = some k) lp q log step (L ++ [a]) pv' := by
  have hn := h.apart
  unfold logBlocks at hn
  rw [List.nodup_cons, List.nodup_append] at hn
  obtain ⟨n1, n2, n3, n4⟩ := hn
  have hin : ∀ k, k ∈ L.flatMap Sg.blocks → T k := fun k hk => h.foot k (by simp only [logBlocks, List.mem_cons, List.mem_append]; exact .inr (.inr hk))
  have hlpT := h.lp_mem
  have hpT : ∀ k, pv.ownBlock = some k → T k := fun k hk => h.foot k (h.row_mem hk)
  have e1 : (L ++ [a]).flatMap Sg.blocks = L.flatMap Sg.blocks ++ a.blocks := by simp
  have hlp' : ¬ pv'.ownBlock = some lp := fun e => by
    rcases hpv lp e with e | e
    · exact n1 (by simp [e])
    · exact e.1 hlpT
  refine ⟨?_, fun b hb => ?_, ?_, fun k hk => ?_, fun k hk => ?_, ?_⟩
  · rw [List.length_append, List.map_append]
    exact hrow
  · rcases List.mem_append.1 hb with hb | hb
    · refine (h.each b hb).kept (fun k hk => ho.block k (h.low k (h.foot k (LogR.seg_in hb hk))) (fun e => ?_))
      have hm := LogR.seg_mem hb hk
      rcases e with e | e
      · exact n1 (List.mem_append_right _ (e ▸ hm))
      · exact n4 k (by simp [e]) k hm rfl
    · rw [List.mem_singleton] at hb
      subst hb
      exact ha
  · unfold logBlocks
    rw [e1, List.nodup_cons, List.nodup_append, List.nodup_append]
    refine ⟨fun hm => ?_, ?_, ⟨n3, hnd, fun x hx y hy e => ?_⟩, fun x hx y hy e => ?_⟩
    · rcases List.mem_append.1 hm with hm | hm
      · exact hlp' (by simpa using hm)
      · rcases List.mem_append.1 hm with hm | hm
        · exact n1 (List.mem_append_right _ hm)
        · exact (hnew lp hm).1 hlpT
    · cases pv'.ownBlock <;> simp
    · subst e
      exact (hnew x hy).1 (hin x hx)
    · subst e
      have hx' : pv'.ownBlock = some x := by simpa using hx
      rcases List.mem_append.1 hy with hy | hy
      · rcases hpv x hx' with e | e
        · exact n4 x (by simp [e]) x hy rfl
        · exact e.1 (hin x hy)
      · rcases hpv x hx' with e | e
        · exact (hnew x hy).1 (hpT x e)
        · exact e.2 hy
  · unfold logBlocks at hk
    rw [e1] at hk
    simp only [List.mem_cons, List.mem_append, Option.mem_toList] at hk
    rcases hk with hk | hk | hk | hk
    · exact .inl (hk ▸ hlpT)
    · exact .inr (.inr hk)
    · exact .inl (hin k hk)
    · exact .inr (.inl hk)
  · rcases hk with hk | hk | hk
    · exact Nat.lt_of_lt_of_le (h.low k hk) ho.size
    · exact (hnew k hk).2
    · exact hrow.lt k hk
  · rw [List.length_append]
    exact hl
theorem rolled_begin (g : Lg) : Lg.begin ⟨g.segs, g.fin, [], g.fin, g.dead⟩ = g.begin := by
  show (match g.segs with | [] => _ | s :: _ => s.1) = _
  unfold Lg.begin Lg.segs
  cases g.ini <;> rfl
theorem push_end {w w5 w6 w8 : World} {S T S' : Nat → Prop} {lp q : Nat} {log : ByteArray} {roll step : Nat} {g : Lg} {d d5 : Dk} {G : List Sg} {a : Sg} {oa : Option Addr} {n c s x : Nat} {v' : Value} (h : LogD w S T lp q log roll step g d)
    (hm5 : LogM w5 T lp q log roll step { g with stands := g.fin } G a (.slice oa n c)) (ho5 : Only (fun k => S k ∨ T k) w w5) (hn : (G ++ [a]).length = n) (hne : g.lbs ≠ []) (hfin : g.fin ≤ 9007199254740992) (hn9 : n ≤ 100001) (hok : LgOk g)
    (hseg : SegI w5 S' s x q (segName log g.fin) g.fin step (.slice none 0 0) [] [] d5) (hS : ∀ k, S' k → Wid S w w5 k) (hs : w.heap.size ≤ s) (hx : w.heap.size ≤ x)
    (hb6 : logHead q lp log roll step { g with stands := g.fin } (G.length + 1) (.slice oa n c) w6) (hrow : rowAt w6 156 1 v' (n + 1) ((G ++ [a]).map Sg.ptr ++ [.pointer (some ⟨s, 0, none⟩)]))
    (hg : (w5.alloc (.cells [.pointer (some ⟨s, 0, none⟩)].toArray 156)).grownBy w6 (Value.slice oa n c).ownBlock) (how : v'.ownBlock = (Value.slice oa n c).ownBlock ∨ v'.ownBlock = some (w5.heap.size + 1))
    (h8 : w8 = (w6.setCell ⟨lp, 9, none⟩ v').setCell ⟨lp, 3, none⟩ (.int .i64 ((n : Int) + 1))) :
    ∃ T8, (∀ k, T8 k → Wid T w w8 k) ∧ LogM w8 T8 lp q log roll step ⟨g.segs, g.fin, [], g.fin, g.dead⟩ (G ++ [a]) ⟨g.fin, [], s, x, .slice none 0 0, []⟩ v' ∧ DiskAt w8 S' q d5 ∧ (∀ k, S' k → Wid S w w8 k) ∧ (∀ k, S' k → ¬ T8 k) ∧ Only (fun k => S k ∨ T k) w w8 := by
  have hlpT := hm5.rest.lp_mem
  have hlpw := h.lowT lp hlpT
  have hapT := wid_apart h.lowT hS h.apart
  have hrT : ∀ k, (Value.slice oa n c).ownBlock = some k → T k := fun k hk => hm5.rest.foot k (hm5.rest.row_mem hk)
  have hn1 : n = G.length + 1 := by rw [← hn, List.length_append]; rfl
  have hsl := (Array.getElem?_eq_some_iff.1 hseg.head).1
  have hxl := (Array.getElem?_eq_some_iff.1 hseg.idx.head).1
  have ho56 : Only (fun k => (Value.slice oa n c).ownBlock = some k) w5 w6 := (Only.of_below ((Below.refl _ w5).alloc (Nat.le_refl _) _) (Nat.le_refl _) _).trans (Only.of_grown hg (fun k e => e)) (fun _ _ e => e)
  have ho68 : Only (fun k => k = lp) w6 w8 := by
    rw [h8]
    exact (only_setCell (fun k => k = lp) _ lp 9 _ rfl).trans (only_setCell (fun k => k = lp) _ lp 3 _ rfl) (fun _ _ e => e)
  have ho58 : Only (fun k => k = lp ∨ (Value.slice oa n c).ownBlock = some k) w5 w8 := (ho56.mono (fun _ _ e => .inr e)).trans ho68 (fun _ _ e => .inl e)
  have hs1 := hg.size
  have hs0 : (w5.alloc (.cells [.pointer (some ⟨s, 0, none⟩)].toArray 156)).heap.size = w5.heap.size + 1 := by simp
  rw [hs0] at hs1
  have hz8 := ho68.size
  have hw5 := ho5.size
  have hXT : ∀ k, (k = lp ∨ (Value.slice oa n c).ownBlock = some k) → T k := fun k hk => by
    rcases hk with hk | hk
    · exact hk ▸ hlpT
    · exact hrT k hk
  have hnT : ∀ k, w.heap.size ≤ k → ¬ T k := fun k hk hT => by have := h.lowT k hT; omega
  have hown : ∀ k, v'.ownBlock = some k → (Value.slice oa n c).ownBlock = some k ∨ k = w5.heap.size + 1 := fun k hk => by
    rcases how with e | e
    · exact .inl (by rw [← e]; exact hk)
    · rw [hk] at e
      simp only [Option.some.injEq] at e
      exact .inr e
  have hlpn : ∀ k, v'.ownBlock = some k → k ≠ lp := fun k hk e => by
    rcases hown k hk with e2 | e2
    · have h1 := (List.nodup_cons.1 hm5.rest.apart).1
      exact h1 (List.mem_append_left _ (by rw [← e, e2]; simp))
    · omega
  have hbl : ∀ k, k ∈ Sg.blocks ⟨g.fin, [], s, x, .slice none 0 0, []⟩ ↔ k = s ∨ k = x := fun k => by
    simp [Sg.blocks, Value.ownBlock]
  have hpush := LogR.push (w7 := w8) (pv' := v') (a := ⟨g.fin, [], s, x, .slice none 0 0, []⟩) hm5.rest ho58
    (hseg.toSegM.kept (fun k hk => ho58.block k (by
      rcases hk with hk | hk | hk
      · exact hk ▸ hsl
      · exact hk ▸ hxl
      · simp [Value.ownBlock] at hk) (fun e => by
      have hT := hXT k e
      rcases hk with hk | hk | hk
      · exact hnT s hs (hk ▸ hT)
      · exact hnT x hx (hk ▸ hT)
      · simp [Value.ownBlock] at hk)))
    (fun k hk => by
      rcases (hbl k).1 hk with e | e
      · exact e ▸ ⟨hnT s hs, by omega⟩
      · exact e ▸ ⟨hnT x hx, by omega⟩)
    (by
      have := hseg.sx
      simp [Sg.blocks, Value.ownBlock, this])
    (by
      rw [hn]
      exact hrow.kept (fun k hk => ho68.block k (hrow.lt k hk) (hlpn k hk)))
    (fun k hk => by
      rcases hown k hk with e | e
      · exact .inl e
      · refine .inr ⟨hnT k (by omega), fun hm => ?_⟩
        rcases (hbl k).1 hm with e2 | e2 <;> omega)
    (by rw [hn]; omega)
  have hh8 : logHead q lp log roll step ⟨g.segs, g.fin, [], g.fin, g.dead⟩ ((G ++ [a]).length + 1) v' w8 := by
    unfold logHead
    rw [rolled_begin, h8]
    have e1 : ((((G ++ [a]).length + 1 : Nat)) : Int) = (n : Int) + 1 := by rw [hn]; rfl
    rw [e1]
    exact heap_setCell_here _ (heap_setCell_here _ hb6)
  have hS8 : DiskAt w8 S' q d5 := hseg.disk.onlyS ho58 (fun k hk e => hapT k hk (hXT k e))
  refine ⟨_, fun k hk => ?_, { head := hh8, rest := hpush, ini := ?_, lb := rfl, lbs := rfl, lsize := hm5.lsize, logd := hm5.logd, ok := hok.rolled hne hfin, rollB := hm5.rollB, stepB := hm5.stepB }, hS8, fun k hk => ?_, fun k hk hT => ?_, ho5.trans ho58 (fun k _ e => .inr (hXT k e))⟩
  · rcases hk with hk | hk | hk
    · exact .inl hk
    · rcases (hbl k).1 hk with e | e
      · exact .inr ⟨by omega, by omega⟩
      · exact .inr ⟨by omega, by omega⟩
    · rcases hown k hk with e | e
      · exact .inl (hrT k e)
      · exact .inr ⟨by omega, by have := hrow.lt k hk; omega⟩
  · have := hm5.segs
    exact this
  · rcases hS k hk with e | e
    · exact .inl e
    · exact .inr ⟨e.1, by omega⟩
  · rcases hT with hT | hT | hT
    · exact hapT k hk hT
    · rcases (hbl k).1 hT with e | e
      · exact hseg.sS (e ▸ hk)
      · exact hseg.xS (e ▸ hk)
    · rcases hown k hT with e | e
      · exact hapT k hk (hrT k e)
      · have := hseg.disk.lowS k hk
        omega
end Go.Proofs.YtlgcoaeddeiegaaGreat
/- partlog: roll, the walk. -/
namespace Go.Proofs.YtlgcoaeddeiegaaGreat
open Go Go.RowKit
attribute [local go_sem] Oper.semAt_some

def CreV (w : World) (S : Nat → Prop) (q : Nat) (d : Dk) (log : ByteArray) (bn step : Nat) (pp : Option Addr) (w' : World) : Prop :=
  ((d.create (sname log bn)).1 ≠ 0 ∧ pp = none ∧ DiskAt w' (Wid S w w') q (d.create (sname log bn)).2 ∧ Only S w w') ∨
  ((d.create (sname log bn)).1 = 0 ∧ ∃ s x S', pp = some ⟨s, 0, none⟩ ∧ (∀ k, S' k → Wid S w w' k) ∧ w.heap.size ≤ s ∧ w.heap.size ≤ x ∧
      SegI w' S' s x q (segName log bn) bn step (.slice none 0 0) [] [] (d.create (sname log bn)).2 ∧ Only S w w')
theorem CreV.only {w w' : World} {S : Nat → Prop} {q : Nat} {d : Dk} {log : ByteArray} {bn step : Nat} {pp : Option Addr} (h : CreV w S q d log bn step pp w') : Only S w w' := by
  rcases h with ⟨-, -, -, h⟩ | ⟨-, s, x, S', -, -, -, -, -, h⟩
  · exact h
  · exact h
def HeadC (lp q : Nat) (log : ByteArray) (fin step : Int) (W : World) : Prop :=
  W.cell? ⟨lp, 5, none⟩ = some (.pointer (some ⟨q, 0, none⟩)) ∧ W.cell? ⟨lp, 6, none⟩ = some (.string log) ∧ W.cell? ⟨lp, 1, none⟩ = some (.int .i64 fin) ∧ W.cell? ⟨lp, 8, none⟩ = some (.int .i64 step)
theorem headC_of {lp q : Nat} {log : ByteArray} {roll step n : Nat} {g : Lg} {pv : Value} {W : World} (h : logHead q lp log roll step g n pv W) : HeadC lp q log (g.fin : Int) (step : Int) W := ⟨cell_of h rfl, cell_of h rfl, cell_of h rfl, cell_of h rfl⟩
theorem CreS.val {w w' : World} {S : Nat → Prop} {q : Nat} {d : Dk} {log : ByteArray} {bn step : Nat} {e : Ending} (h : CreS w S q d log (bn : Int) (step : Int) e w') (h1 : bn ≤ 9007199254740992) (h2 : 1 ≤ step ∧ step ≤ 16777216) :
    ∃ pp, e = .returned (.tuple #[.pointer pp, .int .i64 (d.create (sname log bn)).1]) ∧ CreV w S q d log bn step pp w' := by
  rcases h with ⟨hb, -, -⟩ | ⟨bn', step', e1, e2, -, -, -, h⟩
  · omega
  · obtain rfl : bn = bn' := by omega
    obtain rfl : step = step' := by omega
    rw [segName_data] at h
    rcases h with ⟨g0, g1, g2, g3⟩ | ⟨g0, s, x, S', g1, g2, g3, g4, g5, g6⟩
    · exact ⟨none, g1, .inl ⟨g0, rfl, g2, g3⟩⟩
    · exact ⟨some ⟨s, 0, none⟩, by rw [g0]; exact g1, .inr ⟨g0, s, x, S', rfl, g2, g3, g4, g5, g6⟩⟩
def RollIs (w : World) (S T : Nat → Prop) (lp q : Nat) (log : ByteArray) (roll step : Nat) (r : Int × Lg × Dk) (e : Ending) (w' : World) : Prop :=
  ((r.1 = 0 ∧ e = .returned (.tuple #[])) ∨ (r.1 ≠ 0 ∧ e = .panicked [{ v := stopV r.1, recovered := false }])) ∧ LogTurn w S T lp q log roll step r.2.1 r.2.2 w'
set_option maxRecDepth 100000 in
set_option maxHeartbeats 4000000 in
theorem roll_b {w : World} {S T : Nat → Prop} {lp q : Nat} {log : ByteArray} {roll step : Nat} {g : Lg} {d : Dk} (h : LogD w S T lp q log roll step g d) (hne : g.lbs ≠ []) (hfin : g.fin ≤ 9007199254740992) (hfew : g.ini.length ≤ 100000) :
    Calls Tryz.prog 76 #[.pointer (some ⟨lp, 0, none⟩)] w fun e w' => RollIs w S T lp q log roll step (g.rollT log d) e w' := by
  obtain ⟨G, a, pv, hm⟩ := h.log'
  have HA := Lib.hid (active_b hm)
  have H := Lib.hid (And.intro h (And.intro hm (And.intro hne (And.intro hfin h.apart))))
  obtain ⟨r1, hr1⟩ : ∃ r, r = d.sync (sname log g.lb) := ⟨_, rfl⟩
  obtain ⟨r2, hr2⟩ : ∃ r, r = r1.2.create (sname log g.fin) := ⟨_, rfl⟩
  have HR : Hid (r1 = d.sync (sname log g.lb) ∧ r2 = r1.2.create (sname log g.fin)) := Lib.hid ⟨hr1, hr2⟩
  have HFW : Hid (G.length ≤ 100000) := Lib.hid (by rw [hm.ini, List.length_map] at hfew; exact hfew)
  clear h hm hne hfin hr1 hr2 hfew
  go_enter Tryz.func76, Tryz.ntmps76
  go_wp2_with fail
  refine HA.out.mono ?_
  rintro e w1 ⟨rfl, hb1⟩
  have hm1 := H.out.2.1.later hb1
  have hs := syncM_b hm1.last (H.out.1.disk.belowS hb1)
  rw [segName_data, ← hm1.lb, ← HR.out.1] at hs
  have HS := Lib.hid hs
  have H1 := Lib.hid (And.intro hm1 hb1)
  clear hm1 hb1 hs HA
  go_wp2_with fail
  refine HS.out.mono ?_
  rintro e w2 ⟨rfl, hd2, ho2⟩
  have hm2 := H1.out.1.only ho2 (fun k hT hS => H.out.2.2.2.2 k hS hT)
  have ho02 : Only S w w2 := (Only.of_below H1.out.2 (Nat.le_refl _) S).trans ho2 (fun _ _ h => h)
  have hw2 : ∀ k, Wid S w1 w2 k → Wid S w w2 k := fun k hk => by
    rcases hk with hk | hk
    · exact .inl hk
    · exact .inr ⟨Nat.le_trans H1.out.2.size hk.1, hk.2⟩
  have H2 := Lib.hid (And.intro hd2 (And.intro hm2 (And.intro ho02 hw2)))
  clear hd2 ho2 hm2 ho02 hw2 HS
  obtain ⟨er, he⟩ : ∃ er, r1.1 = er := ⟨_, rfl⟩
  rw [he]
  have HE := Lib.hid he
  clear he
  by_cases h0 : er ≠ 0
  · go_wp2_with fail
    refine (must_no h0 w2).mono ?_
    rintro e w3 ⟨rfl, hw3⟩
    obtain rfl := hw3.symm
    have e1 : g.rollT log d = (er, g, r1.2) := by
      unfold Lg.rollT
      rw [← HR.out.1, HE.out, if_pos h0]
    refine ⟨rfl, ?_⟩
    rw [e1]
    refine ⟨.inr ⟨h0, rfl⟩, ?_⟩
    exact H2.out.2.1.turned (fun k hk => .inl hk) H2.out.1 H2.out.2.2.2 (wid_apart H.out.1.lowT H2.out.2.2.2 H.out.2.2.2.2) (H2.out.2.2.1.mono (fun _ _ h => .inl h)) (Only.refl (fun _ => False) w2) (fun k hk => hk.elim) H2.out.2.1.head rfl rfl rfl H.out.2.1.ok
  · obtain rfl : er = 0 := Classical.byContradiction h0
    have k1 : w2.cell? ⟨lp, 1, none⟩ = some (.int .i64 (g.fin : Int)) := cell_of H2.out.2.1.head rfl
    have k2 : w2.cell? ⟨lp, 2, none⟩ = some (.int .i64 (g.stands : Int)) := cell_of H2.out.2.1.head rfl
    have z2 : w2.frozen? ⟨lp, 2, none⟩ = false := free_of H2.out.2.1.head _
    clear h0
    go_wp2_with fail
    refine (must_ok w2).mono ?_
    rintro e w3 ⟨rfl, hw3⟩
    obtain rfl := hw3.symm
    clear hw3
    go_upto_region 2 with fail
    obtain ⟨w3, hw3⟩ : ∃ W : World, W = w2.setCell ⟨lp, 2, none⟩ (.int .i64 (g.fin : Int)) := ⟨_, rfl⟩
    rw [← hw3]
    have hh3 : logHead q lp log roll step { g with stands := g.fin } (G.length + 1) pv w3 := by
      rw [hw3]
      exact heap_setCell_here _ H2.out.2.1.head
    have ho3 : Only (fun k => k = lp) w2 w3 := by rw [hw3]; exact only_setCell (fun k => k = lp) _ lp 2 _ rfl
    have hm3 := H2.out.2.1.headTurn ho3 hh3 rfl rfl rfl H.out.2.1.ok.standsFin
    have hnlp : ∀ k, Wid S w1 w2 k → k ≠ lp := fun k hk e => by
      have hT := H.out.2.1.rest.lp_mem
      rcases H2.out.2.2.2 k hk with hS | hS
      · exact H.out.2.2.2.2 k hS (e ▸ hT)
      · have := H.out.1.lowT lp hT
        have := hS.1
        omega
    have hd3 : DiskAt w3.drew (Wid S w1 w2) q r1.2 := (H2.out.1.onlyS ho3 (fun k hk e => hnlp k hk e)).belowS (bdrew w3)
    have hcr := (createS_b hd3 log H.out.2.1.lsize H.out.2.1.logd (g.fin : Int) (step : Int)).mono (fun _ _ h => h.val H.out.2.2.2.1 H.out.2.1.stepB)
    rw [← HR.out.2] at hcr
    have ho03 : Only (fun k => S k ∨ T k) w w3 := (H2.out.2.2.1.mono (fun _ _ h => .inl h)).trans ho3 (fun k _ hk => .inr (by rw [hk]; exact H.out.2.1.rest.lp_mem))
    have j5 : w3.cell? ⟨lp, 5, none⟩ = some (.pointer (some ⟨q, 0, none⟩)) := cell_of hh3 rfl
    have j6 : w3.cell? ⟨lp, 6, none⟩ = some (.string log) := cell_of hh3 rfl
    have j1 : w3.cell? ⟨lp, 1, none⟩ = some (.int .i64 (g.fin : Int)) := cell_of hh3 rfl
    have j8 : w3.cell? ⟨lp, 8, none⟩ = some (.int .i64 (step : Int)) := cell_of hh3 rfl
    have HC := Lib.hid hcr
    have H3 := Lib.hid (And.intro hm3 (And.intro hd3 (And.intro ho03 (And.intro hnlp ho3))))
    have HH3 := Lib.hid (headC_of hh3)
    have HK : Hid (∀ W, Only (Wid S w1 w2) w3.drew W → W.cell? ⟨lp, 5, none⟩ = some (.pointer (some ⟨q, 0, none⟩)) ∧ W.cell? ⟨lp, 6, none⟩ = some (.string log) ∧ W.cell? ⟨lp, 1, none⟩ = some (.int .i64 (g.fin : Int)) ∧ W.cell? ⟨lp, 8, none⟩ = some (.int .i64 (step : Int))) := Lib.hid (fun W ho =>
      headC_of (roll := roll) (g := { g with stands := g.fin }) (n := G.length + 1) (pv := pv) ((ho.block lp (Array.getElem?_eq_some_iff.1 hh3).1 (fun e => hnlp lp e rfl)).trans hh3))
    clear hw3 hh3 ho3 hm3 hnlp hd3 hcr ho03 k1 k2 z2 j5 j6 j1 j8
    have hS3 : w3.cell? ⟨lp, 5, none⟩ = some (.pointer (some ⟨q, 0, none⟩)) ∧ w3.cell? ⟨lp, 6, none⟩ = some (.string log) ∧ w3.cell? ⟨lp, 1, none⟩ = some (.int .i64 (g.fin : Int)) ∧ w3.cell? ⟨lp, 8, none⟩ = some (.int .i64 (step : Int)) := HH3.out
    go_region_held3 (fun W => W.cell? ⟨lp, 5, none⟩ = some (.pointer (some ⟨q, 0, none⟩)) ∧ W.cell? ⟨lp, 6, none⟩ = some (.string log) ∧ W.cell? ⟨lp, 1, none⟩ = some (.int .i64 (g.fin : Int)) ∧ W.cell? ⟨lp, 8, none⟩ = some (.int .i64 (step : Int)))
      (first | assumption)
      (first | (go_at_call 64; refine HC.out.mono ?_; rintro e w5 ⟨pp, rfl, hcs⟩; have hS5 := HK.out w5 hcs.only; have HCS := Lib.hid hcs; clear hcs))
    all_goals
      have hw5 : ∀ k, Wid (Wid S w1 w2) w3.drew w5 k → Wid S w w5 k := fun k hk => by
        have hz : w2.heap.size ≤ w3.heap.size := H3.out.2.2.2.2.size
        rcases hk with hk | hk
        · rcases H2.out.2.2.2 k hk with e | e
          · exact .inl e
          · have h5 : w3.drew.heap.size ≤ w5.heap.size := HCS.out.only.size
            exact .inr ⟨e.1, Nat.lt_of_lt_of_le e.2 (Nat.le_trans hz h5)⟩
        · exact .inr ⟨Nat.le_trans H3.out.2.2.1.size hk.1, hk.2⟩
      have ho35 : Only (Wid S w1 w2) w3 w5 := (Only.of_below (bdrew w3) (Nat.le_refl _) _).trans HCS.out.only (fun _ _ h => h)
      have hS1T := wid_apart H.out.1.lowT H2.out.2.2.2 H.out.2.2.2.2
      have hm5 := H3.out.1.only ho35 (fun k hT hS => hS1T k hS hT)
      have ho05 : Only (fun k => S k ∨ T k) w w5 := H3.out.2.2.1.trans ho35 (fun k hk hS => by
        rcases H2.out.2.2.2 k hS with e | e
        · exact .inl e
        · have := e.1; omega)
      have H5 := Lib.hid (And.intro hm5 (And.intro ho05 hw5))
      have hcs := HCS.out
      clear hw5 ho35 hS1T hm5 ho05 hS3 hS5
      rcases hcs with ⟨c0, rfl, c1, c2⟩ | ⟨c0, s, x, S', rfl, c1, c2, c3, c4, c5⟩
      · rw [← HR.out.2] at c0 c1
        go_wp2_with fail
        refine (must_no c0 w5).mono ?_
        rintro e w6 ⟨rfl, hw6⟩
        obtain rfl := hw6.symm
        have e1 : g.rollT log d = (r2.1, { g with stands := g.fin }, r2.2) := by
          unfold Lg.rollT
          rw [← HR.out.1, ← HR.out.2, if_neg (by rw [HE.out]; simp), if_pos c0]
        refine ⟨rfl, ?_⟩
        rw [e1]
        refine ⟨.inr ⟨c0, rfl⟩, ?_⟩
        exact H5.out.1.turned (fun k hk => .inl hk) c1 H5.out.2.2 (wid_apart H.out.1.lowT H5.out.2.2 H.out.2.2.2.2) H5.out.2.1 (Only.refl (fun _ => False) w5) (fun k hk => hk.elim) H5.out.1.head rfl rfl rfl H3.out.1.ok
      · rw [← HR.out.2] at c0 c4
        rw [c0]
        go_wp2_with fail
        refine (must_ok w5).mono ?_
        rintro e w6 ⟨rfl, hw6⟩
        obtain rfl := hw6.symm
        clear hw6
        obtain ⟨oa, c, rfl, -⟩ := H5.out.1.rest.row.shape
        obtain ⟨n, hn⟩ : ∃ n, (G ++ [a]).length = n := ⟨_, rfl⟩
        have hn1 : n = G.length + 1 := by rw [← hn, List.length_append]; rfl
        have hn9 : n ≤ 100001 := by have := HFW.out; omega
        have hrow := H5.out.1.rest.row
        have hh5 := H5.out.1.head
        unfold logHead at hh5
        rw [hn] at hrow hh5
        have k9 : w5.cell? ⟨lp, 9, none⟩ = some (.slice oa n c) := cell_of hh5 rfl
        have hone : ∀ v ∈ ([.pointer (some ⟨s, 0, none⟩)] : List Value), v.oneCell' = true := by
          intro v hv
          simp only [List.mem_cons, List.not_mem_nil, or_false] at hv
          rcases hv with rfl
          rfl
        have hnl : ∀ k, (Value.slice oa n c).ownBlock = some k → k ≠ lp := fun k hk e => by
          have h1 := (List.nodup_cons.1 H5.out.1.rest.apart).1
          refine h1 (List.mem_append_left _ ?_)
          rw [hn, ← e, hk]
          simp
        have hlp5 : lp < w5.heap.size := (Array.getElem?_eq_some_iff.1 hh5).1
        have HN := Lib.hid (And.intro hn (And.intro hn1 (And.intro hrow (And.intro hh5 (And.intro hnl (And.intro c0 (And.intro c4 (And.intro c1 (And.intro c2 (And.intro c3 c5))))))))))
        clear hn hn1 hrow hh5 hnl c0 c1 c2 c3 c4 c5
        go_wp2_with (at_builtin; refine wpList_append_one rfl (.tmp 45) (.tmp 47) 80 156 rfl Tryz.underlying80 info_seg rfl (by omega) HN.out.2.2.1 (by omega) [.pointer (some ⟨s, 0, none⟩)] rfl hone (by rfl) (by rfl) ?_; intro oa3 c3 w6 HR6 HG6 HO6; have hb6 := (HG6.out.block lp (by simp; omega) (fun e => HN.out.2.2.2.2.1 lp e.symm rfl)).trans ((Below.heap_alloc _ _ _ hlp5).trans HN.out.2.2.2.1); have kb : w6.cell? ⟨lp, 9, none⟩ = some (.slice oa n c) := cell_of hb6 rfl; have fb : w6.frozen? ⟨lp, 9, none⟩ = false := free_of hb6 _; have kb3 : w6.cell? ⟨lp, 3, none⟩ = some (.int .i64 ((G.length + 1 : Nat) : Int)) := cell_of hb6 rfl; have fb3 : w6.frozen? ⟨lp, 3, none⟩ = false := free_of hb6 _; have kb5 : w6.cell? ⟨lp, 5, none⟩ = some (.pointer (some ⟨q, 0, none⟩)) := cell_of hb6 rfl; have HB6 := Lib.hid hb6; clear hb6)
        obtain ⟨v', hv'⟩ : ∃ v, v = Value.slice oa3 (n + 1) c3 := ⟨_, rfl⟩
        obtain ⟨w8, hw8⟩ : ∃ W : World, W = (w6.setCell ⟨lp, 9, none⟩ (.slice oa3 (n + 1) c3)).setCell ⟨lp, 3, none⟩ (.int .i64 ((n : Int) + 1)) := ⟨_, rfl⟩
        rw [← hw8]
        obtain ⟨hn, hn1, hrow, hh5, hnl, c0, c4, c1, c2, c3', c5⟩ := HN.out
        have hro := HR6.out
        have how := HO6.out
        rw [← hv'] at hw8 hro how
        have hm5n : LogM w5 T lp q log roll step { g with stands := g.fin } G a (.slice oa n c) := by rw [← hn]; exact H5.out.1
        obtain ⟨T8, hT8, hm8, hd8, hS8, hap8, ho8⟩ := push_end H.out.1 hm5n H5.out.2.1 hn H.out.2.2.1 H.out.2.2.2.1 hn9 H.out.2.1.ok c4 (fun k hk => H5.out.2.2 k (c1 k hk)) (Nat.le_trans H3.out.2.2.1.size c2) (Nat.le_trans H3.out.2.2.1.size c3') HB6.out hro HG6.out how hw8
        have kq : w8.cell? ⟨lp, 5, none⟩ = some (.pointer (some ⟨q, 0, none⟩)) := cell_of hm8.head rfl
        have HSD := Lib.hid (syncdir_b hd8)
        have H8 := Lib.hid (And.intro hT8 (And.intro hm8 (And.intro hS8 (And.intro hap8 ho8))))
        clear hm5n hn hn1 hrow hh5 hnl c0 c4 c1 c2 c3' c5 hro how hv' hw8 hT8 hm8 hd8 hS8 hap8 ho8 kb fb kb3 fb3 kb5 k9 hone hlp5 hn9
        go_wp2_with fail
        refine HSD.out.mono ?_
        rintro e w9 ⟨rfl, hd9, ho9⟩
        have hm9 := H8.out.2.1.only ho9 (fun k hT hS => H8.out.2.2.2.1 k hS hT)
        have hS9 : ∀ k, Wid S' w8 w9 k → Wid S w w9 k := fun k hk => by
          have h1 := ho9.size
          have h2 := H8.out.2.2.2.2.size
          rcases hk with hk | hk
          · rcases H8.out.2.2.1 k hk with e | e
            · exact .inl e
            · exact .inr ⟨e.1, by omega⟩
          · exact .inr ⟨by have := hk.1; omega, hk.2⟩
        have hT9 : ∀ k, T8 k → Wid T w w9 k := fun k hk => by
          have h1 := ho9.size
          rcases H8.out.1 k hk with e | e
          · exact .inl e
          · exact .inr ⟨e.1, by omega⟩
        have hap9 : ∀ k, Wid S' w8 w9 k → ¬ T8 k := wid_apart (fun k hk => H8.out.2.1.low k hk) (fun k hk => hk) H8.out.2.2.2.1
        have ho09 : Only (fun k => S k ∨ T k) w w9 := H8.out.2.2.2.2.trans ho9 (fun k hk hS => by
          rcases H8.out.2.2.1 k hS with e | e
          · exact .inl e
          · have := e.1; omega)
        have H9 := Lib.hid (And.intro hd9 (And.intro hm9 (And.intro hS9 (And.intro hT9 (And.intro hap9 ho09)))))
        clear hd9 ho9 hm9 hS9 hT9 hap9 ho09 HSD
        obtain ⟨r3, hr3⟩ : ∃ r, r = r2.2.syncdir := ⟨_, rfl⟩
        have e1 : g.rollT log d = (r3.1, ⟨g.segs, g.fin, [], g.fin, g.dead⟩, r3.2) := by
          unfold Lg.rollT
          rw [← HR.out.1, ← HR.out.2, if_neg (by rw [HE.out]; simp), if_neg (by rw [HN.out.2.2.2.2.2.1]; simp), hr3]
        rw [← hr3] at H9 ⊢
        have HE1 := Lib.hid e1
        clear hr3 e1
        have hfin : LogTurn w S T lp q log roll step ⟨g.segs, g.fin, [], g.fin, g.dead⟩ r3.2 w9 := H9.out.2.1.turned H9.out.2.2.2.1 H9.out.1 H9.out.2.2.1 H9.out.2.2.2.2.1 H9.out.2.2.2.2.2 (Only.refl (fun _ => False) w9) (fun k hk => hk.elim) H9.out.2.1.head rfl rfl rfl H9.out.2.1.ok
        have HF := Lib.hid hfin
        clear hfin
        obtain ⟨er, he⟩ : ∃ er, r3.1 = er := ⟨_, rfl⟩
        rw [he]
        have HER := Lib.hid he
        clear he
        by_cases h0 : er = 0
        · subst h0
          go_wp2_with fail
          refine (must_ok w9).mono ?_
          rintro e w10 ⟨rfl, hw10⟩
          obtain rfl := hw10.symm
          clear hw10
          go_wp2_with fail
          go_end0
          rw [HE1.out]
          exact ⟨.inl ⟨HER.out, rfl⟩, HF.out⟩
        · go_wp2_with fail
          refine (must_no h0 w9).mono ?_
          rintro e w10 ⟨rfl, hw10⟩
          obtain rfl := hw10.symm
          refine ⟨rfl, ?_⟩
          rw [HE1.out]
          exact ⟨.inr ⟨by rw [HER.out]; exact h0, by rw [HER.out]⟩, HF.out⟩
end Go.Proofs.YtlgcoaeddeiegaaGreat
