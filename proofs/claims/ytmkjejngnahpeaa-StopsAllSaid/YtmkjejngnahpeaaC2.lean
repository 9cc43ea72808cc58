/- The texts Jl, Jm in one. -/
import Derived.Test.YtmkjejngnahpeaaD8
import Derived.RangeFuncCalls
/- stops: going over the unsure files from the last one on. -/
namespace Go.Proofs.Ytmkjejngnahpeaa
open Go Go.Maps Go.RowKit Go.Shelf
attribute [local go_sem] Oper.semAt_some

abbrev Ix (N : Nat) := { i : Nat // i < N }
def backL (N : Nat) : List (Ix N) := List.ofFn fun j : Fin N => ⟨N - 1 - j.1, by omega⟩
def encU (l : List U0) (x : Ix l.length) : Array Value := #[.int .i64 (x.1 : Int), .agg #[.bool (l[x.1]'x.2).name, .int .i64 ((l[x.1]'x.2).more : Int)]]
/-- all stands but what is of type int64 -/
def K64 (W W' : World) : Prop := KeepT [2] W W' ∧ W.heap.size ≤ W'.heap.size
theorem K64.join {A B C : World} (h : K64 A B) (k : K64 B C) : K64 A C := ⟨h.1.trans k.1, Nat.le_trans h.2 k.2⟩
theorem K64.of {A B : World} (h : Below A.heap.size A B) : K64 A B := ⟨KeepT.of h, h.size⟩
theorem K64.put (W : World) (l : Nat) (o o' : Obj) (h : W.heap[l]? = some o) (hc : o.isCells = false) : K64 W (W.putObj l o') := by
  refine ⟨fun j cs t fr hj _ => ?_, (grownBy_putObj' W l o').size⟩
  refine (grownBy_putObj' W l o').block j (Array.getElem?_eq_some_iff.1 hj).1 (fun e => ?_)
  simp only [Option.some.injEq] at e
  subst e
  rw [h] at hj
  simp only [Option.some.injEq] at hj
  subst hj
  cases hc
theorem K64.row {W W' : World} {e : TypeId} {size n : Nat} {v : Value} {xs : List Value} (h : K64 W W') (hr : rowAt W e size v n xs) (he : e ≠ 2) : rowAt W' e size v n xs := by
  refine hr.kept (fun k hk => ?_)
  rcases hr.2 with ⟨hv, _⟩ | ⟨g, off, cap, cur, fr, hv, hgg, _⟩
  · rw [hv] at hk
    simp [Value.ownBlock] at hk
  · rw [hv] at hk
    simp only [Value.ownBlock, Option.some.injEq] at hk
    subst hk
    exact h.1 g _ _ _ hgg (by simpa using he)
/-- block b holds the unsure files -/
def UsBox (w : World) (b : Nat) (l : List U0) : Prop := ∃ v, w.heap[b]? = some (.cells #[v] 206 (0, 0)) ∧ rowAt w 213 2 v l.length (uCells l)
set_option maxHeartbeats 400000 in
theorem backward_b (w : World) (oa : Option Addr) (n c : Nat) : Calls Try.prog 139 #[.slice oa n c] w fun e w' => e = .returned (.func (.func 167) #[] #[.pointer (some ⟨w.heap.size, 0, none⟩)]) ∧ w' = w.alloc (.cells #[.slice oa n c] 206) := by
  go_enter Try.func139, Try.ntmps139
  go_wp2_with fail
  go_ret
  exact ⟨rfl, rfl⟩
set_option maxRecDepth 100000 in
set_option maxHeartbeats 1000000 in
theorem backIn (F : Fence) (n : Nat) (h7 : F.fn 167) (hro : F.round = none) (hn : 1 ≤ n) (l vb : Nat) (w : World) (us : List U0) (hsq : UsBox w vb us) (hfs : us.length ≤ 1000000) (J Jx : Nat → World → Prop) (W : World) (hW : Below w.heap.size w W)
    (hY : ∀ j (hj : j < us.length) W1, J j W1 → YieldAt F (n - 1) Try.prog l #[.int .i64 (us.length - 1 - j : Nat), .agg #[.bool (us[us.length - 1 - j]'(by omega)).name, .int .i64 ((us[us.length - 1 - j]'(by omega)).more : Int)]] W1 fun e W' =>
      (e = .returned (.bool true) ∧ J (j + 1) W' ∧ K64 W1 W') ∨ (e = .returned (.bool false) ∧ Jx (j + 1) W')) (h0 : J 0 W) :
    CallsIn F n Try.prog 167 #[.func (.yield l) #[] #[], .pointer (some ⟨vb, 0, none⟩)] W fun e W' => (∃ v, e = .returned v) ∧ (J us.length W' ∨ ∃ j, Jx j W') := by
  obtain ⟨v, hv, hrow⟩ := hsq
  obtain ⟨oa, c, rfl, hnc⟩ := hrow.shape
  obtain ⟨N, hN⟩ : ∃ N, us.length = N := ⟨_, rfl⟩
  rw [hN] at hv hrow hnc hfs
  have HV := Lib.hid hv
  have HR := Lib.hid hrow
  have HN := Lib.hid hN
  have HY := Lib.hid hY
  have HW := Lib.hid hW
  have cv : W.cell? ⟨vb, 0, none⟩ = some (.slice oa N c) := cell_of ((hW.block vb (Array.getElem?_eq_some_iff.1 hv).1).trans hv) rfl
  clear hv hrow hN hY hW
  refine callsIn_of_wp Try.func167 rfl h7 ?_ hro
  simp only [Try.ntmps167, List.size_toArray, List.length_cons, List.length_nil, Nat.reduceAdd, Nat.reduceSub, Array.replicate_succ, Array.replicate_zero, List.push_toArray, List.append_toArray, List.nil_append, List.cons_append]
  gi_wp2
  gi_loopw [3] (fun i wr => ∃ j : Nat, j ≤ N ∧ i = .int .i64 ((N : Int) - 1 - j) ∧ J j wr ∧ K64 w wr) (fun i wr => (intOf i + 1).toNat)
  case atStart => exact ⟨0, Nat.zero_le _, by simp, h0, K64.of HW.out⟩
  case round =>
    obtain ⟨j, hj, rfl, hJs, hbw⟩ := hrel
    by_cases hlt : j < N
    · have hjf : j < us.length := by rw [HN.out]; exact hlt
      obtain ⟨i, hi⟩ : ∃ i : Nat, us.length - 1 - j = i := ⟨_, rfl⟩
      have hiN : i < us.length := by omega
      have hii : (N : Int) - 1 - (j : Int) = (i : Int) := by rw [← hi, HN.out]; omega
      have hd : decide ((0 : Int) ≤ (i : Int)) = true := decide_eq_true (by omega)
      have hi2 : (i : Int) < (N : Int) := by rw [HN.out] at hiN; omega
      have hrw := hbw.row HR.out (by decide)
      obtain ⟨g, off, rfl⟩ := hrw.addr (by omega)
      obtain ⟨u, hu⟩ : ∃ u, us[i] = u := ⟨_, rfl⟩
      obtain ⟨ub, hub⟩ : ∃ b, u.name = b := ⟨_, rfl⟩
      obtain ⟨um, humm⟩ : ∃ m, u.more = m := ⟨_, rfl⟩
      have k0 : wr.cell? ⟨g, off + i * 2, none⟩ = some (.bool ub) := us_cell (i := 0) hrw.read hiN (by omega) (by rw [hu, ← hub]; rfl)
      have k1 : wr.cell? ⟨g, off + i * 2 + 1, none⟩ = some (.int .i64 um) := us_cell (i := 1) hrw.read hiN (by omega) (by rw [hu, ← humm]; rfl)
      have cv' : wr.cell? ⟨vb, 0, none⟩ = some (.slice (some ⟨g, off, none⟩) N c) := cell_of ((hbw.1 vb _ _ _ HV.out (by decide)).trans HV.out) rfl
      have hyy := HY.out j hjf wr hJs
      have hye : (#[.int .i64 (us.length - 1 - j : Nat), .agg #[.bool (us[us.length - 1 - j]'(by omega)).name, .int .i64 ((us[us.length - 1 - j]'(by omega)).more : Int)]] : Array Value) = #[.int .i64 (i : Int), .agg #[.bool ub, .int .i64 (um : Int)]] := by
        subst hi
        subst hu
        rw [hub, humm]
      rw [hye] at hyy
      obtain ⟨fn, tmps, assign, body, hy, hR⟩ := hyy
      have HRD := Lib.hid hR
      have HBW := Lib.hid hbw
      rw [hii]
      have HIJ : Hid ((i : Int) - 1 = (N : Int) - 1 - ((j + 1 : Nat) : Int)) := Lib.hid (by omega)
      clear hrw hu hub humm hR hye hJs hbw hii hi cv
      gi_wp2
      refine HRD.out.mono ?_
      rintro e W3 (⟨rfl, hJ3, hk3⟩ | ⟨rfl, hJx3⟩)
      · have HJ3 : Hid (J (j + 1) W3) := Lib.hid hJ3
        have HB3 : Hid (K64 w W3) := Lib.hid (HBW.out.join hk3)
        clear hJ3 hk3
        gi_wp2
        exact ⟨⟨j + 1, by omega, by rw [HIJ.out], HJ3.out, HB3.out⟩, by first | (simp [intOf]; done) | (simp [intOf]; omega)⟩
      · have HX3 : Hid (Jx (j + 1) W3) := Lib.hid hJx3
        clear hJx3
        gi_wp2
        refine bodyPost_ret (results_none rfl _ _ _) rfl ?_
        exact ⟨⟨_, rfl⟩, .inr ⟨j + 1, HX3.out⟩⟩
    · obtain rfl : j = N := by omega
      have HE : Hid (J us.length wr) := Lib.hid (by rw [HN.out]; exact hJs)
      have hneg : (j : Int) - 1 - (j : Int) = -1 := by omega
      rw [hneg]
      clear hJs
      gi_wp2
      go_end0
      exact ⟨⟨_, rfl⟩, .inl HE.out⟩
/-- **going over the unsure files, the last one first** -/
theorem back_stops (F : Fence) (n : Nat) (h7 : F.fn 167) (hro : F.round = none) (hn : 1 ≤ n) (vb : Nat) (w : World) (us : List U0) (hsq : UsBox w vb us) (hfs : us.length ≤ 1000000) :
    SeqStopsK F n Try.prog 167 #[.pointer (some ⟨vb, 0, none⟩)] (encU us) K64 (fun ys => ys = backL us.length) (fun _ => True) us.length w := fun l J Jx W hW hJ _ hY h0 => by
  have hlen : (backL us.length).length = us.length := by simp [backL]
  refine (backIn F n h7 hro hn l vb w us hsq hfs (fun j W => J ((backL us.length).take j) W) (fun j W => Jx ((backL us.length).take j) W) W hW (fun j hj W1 h1 => ?_) (by simpa using h0)).mono ?_
  · have hj' : j < (backL us.length).length := by rw [hlen]; exact hj
    have hx : (backL us.length)[j] = ⟨us.length - 1 - j, by omega⟩ := by simp [backL]
    have h2 := hY ((backL us.length).take j) (⟨us.length - 1 - j, by omega⟩ : Ix us.length) W1 h1 (by rw [List.length_take]; omega)
    rw [← hx, ← List.take_succ_eq_append_getElem hj', hx] at h2
    exact h2
  · rintro e W' ⟨he, h | ⟨j, h⟩⟩
    · refine ⟨he, .inl ⟨backL us.length, rfl, ?_⟩⟩
      rwa [List.take_of_length_le (Nat.le_of_eq hlen)] at h
    · exact ⟨he, .inr ⟨_, trivial, h⟩⟩
end Go.Proofs.Ytmkjejngnahpeaa
/- stops: At: the stop of a number. -/
namespace Go.Proofs.Ytmkjejngnahpeaa
open Go Go.Maps Go.RowKit Go.Shelf
attribute [local go_sem] Oper.semAt_some

theorem wpListIn_make_zeros {F : Fence} {n : Nat} (w : World) {ops : Array Oper} {rest : List Oper} {o : Oper} {a : Act} {Q : Exit → Act → World → Prop}
    (hg : o.guard = none) (l c : Operand) (hop : o.op = Op.makeSlice 209 l c) {m : Nat} (hm : m ≤ 1000000) (hl : a.eval l = .int .i64 m) (hc : a.eval c = .int .i64 m)
    (hK : ∀ w', Hid (NewR 2 1 w w' (.slice (some ⟨w.heap.size, 0, none⟩) m m) m (natCells (List.replicate m 0))) → Hid (Below w.heap.size w w') → wpListIn F n Try.prog ops Q rest (a.put o.dst (.slice (some ⟨w.heap.size, 0, none⟩) m m)) w') :
    wpListIn F n Try.prog ops Q (o :: rest) a w := by
  refine wpListIn_plain hg fun K hK' => ?_
  obtain ⟨i, hi, hz, hsz, hby⟩ := info_parts info_i64
  obtain ⟨w', hrun, r1, r2⟩ := run_make_full (P := Try.prog) w w.heap.size 209 2 i (.int .i64 0) 1 Try.underlying209 hi hz hsz .i64 .i64 m (by rw [hby]; omega) (by unfold maxLen; omega) (Nat.le_refl _)
  have hxs : (madeCells (Value.int .i64 0).cells (m * 1)).toList = natCells (List.replicate m 0) := by
    unfold natCells madeCells
    simp [Value.cells]
    exact List.ext_getElem (by simp) fun j h1 h2 => by simp [Nat.mod_one]
  rw [hxs] at r1
  have hb : Below w.heap.size w w' := (Below.refl _ _).grown r2 (Nat.le_refl _) (fun k e => by cases e)
  have hro := rowAt.of_row (hasRow.of_own r1)
  unfold Oper.wpIn
  refine ⟨?_, ?_⟩
  · simp [Oper.about, hop]
  · rw [Oper.semAt_plain F _ _ (by rw [hop]; intro c hc'; cases hc')]
    simp [execOp, hop, hl, hc, hrun, Result.andThen]
    exact hK' _ _ (hK w' (Lib.hid ⟨hro, fun k hk => by simp only [Value.ownBlock, Option.some.injEq] at hk; omega, hb⟩) (Lib.hid hb))
/-- a file's ways, by its place -/
def waysAt (l : List U0) (i : Nat) : Nat := match l[i]? with
  | some u => u.ways
  | none => 1
/-- one digit -/
def backStep (l : List U0) (s : List Nat × Nat) (i : Nat) : List Nat × Nat := (s.1.set i (s.2 % waysAt l i), s.2 / waysAt l i)
def backT (l : List U0) (s : List Nat × Nat) (is : List Nat) : List Nat × Nat := is.foldl (backStep l) s
theorem backT_len (l : List U0) : ∀ (is : List Nat) (s : List Nat × Nat), (backT l s is).1.length = s.1.length
  | [], _ => rfl
  | i :: r, s => by
    show (backT l (backStep l s i) r).1.length = _
    rw [backT_len l r]
    simp [backStep]
theorem backT_le (l : List U0) : ∀ (is : List Nat) (s : List Nat × Nat), (backT l s is).2 ≤ s.2
  | [], _ => Nat.le_refl _
  | i :: r, s => by
    show (backT l (backStep l s i) r).2 ≤ _
    exact Nat.le_trans (backT_le l r _) (Nat.div_le_self _ _)
theorem backT_all {l : List U0} {M : Nat} : ∀ (is : List Nat) (s : List Nat × Nat), s.2 ≤ M → (∀ x ∈ s.1, x ≤ M) → ∀ x ∈ (backT l s is).1, x ≤ M
  | [], _, _, h => h
  | i :: r, s, h1, h2 => by
    refine backT_all (l := l) r (backStep l s i) (Nat.le_trans (Nat.div_le_self _ _) h1) fun x hx => ?_
    rcases List.mem_or_eq_of_mem_set hx with h3 | h3
    · exact h2 x h3
    · rw [h3]
      exact Nat.le_trans (Nat.mod_le _ _) h1
def descL (N : Nat) : List Nat := (backL N).map (·.1)
/-- the ways of a number -/
def atWays (l : List U0) (n : Nat) : List Nat := (backT l (List.replicate l.length 0, n) (descL l.length)).1
/-- what At answers -/
def atV (d : Dk) (n : Int) : List Nat × Int :=
  if n < 0 then ([], 2)
  else match countT (unsT d.files) with
    | none => ([], 3)
    | some c => if c ≤ n.toNat then ([], 4) else (ofT (unsT d.files) (atWays (unsT d.files) n.toNat) [], 0)
def ixs {N : Nat} (pre : List (Ix N)) : List Nat := pre.map (·.1)
theorem ixs_snoc {N : Nat} (pre : List (Ix N)) (x : Ix N) : ixs (pre ++ [x]) = ixs pre ++ [x.1] := by simp [ixs]
/-- what stands at a round's head -/
structure AtI (w W : World) (b3 b4 b9 : Nat) (ow : Option Addr) (cw N : Nat) (ol : Value) (l : List U0) (s : List Nat × Nat) : Prop where
  num : W.heap[b3]? = some (.cells #[.int .i64 s.2] 2 (0, 0))
  res : W.heap[b4]? = some (.cells #[.slice none 0 0] 72 (0, 0))
  box : W.heap[b9]? = some (.cells #[.slice ow N cw] 209 (0, 0))
  row : rowAt W 2 1 (.slice ow N cw) N (natCells s.1)
  us : rowAt W 213 2 ol N (uCells l)
  below : Below w.heap.size w W
  new : w.heap.size ≤ b3 ∧ w.heap.size ≤ b4 ∧ ∀ k, (Value.slice ow N cw).ownBlock = some k → w.heap.size ≤ k ∧ k ≠ b3
theorem AtI.grown {w W W' : World} {b3 b4 b9 N cw : Nat} {ow : Option Addr} {ol : Value} {l : List U0} {s : List Nat × Nat} {row : Option Nat} (h : AtI w W b3 b4 b9 ow cw N ol l s) (hg : W.grownBy W' row) (hr : ∀ r, row = some r → w.heap.size ≤ r ∧ ∃ o : Obj, W.heap[r]? = some o ∧ o.isCells = false) : AtI w W' b3 b4 b9 ow cw N ol l s := by
  have hcell : ∀ (k : Nat) (cs : Array Value) (t : TypeId) (fr : Nat × Nat), W.heap[k]? = some (.cells cs t fr) → W'.heap[k]? = W.heap[k]? := fun k cs t fr hk =>
    hg.block k (Array.getElem?_eq_some_iff.1 hk).1 (fun e => by
      obtain ⟨_, o, ho, hc⟩ := hr k e.symm
      rw [hk] at ho
      simp only [Option.some.injEq] at ho
      subst ho
      cases hc)
  have hrow : ∀ {e : TypeId} {size n : Nat} {v : Value} {xs : List Value}, rowAt W e size v n xs → rowAt W' e size v n xs := fun {e size n v xs} hx => hx.kept (fun k hk => by
    rcases hx.2 with ⟨hv, _⟩ | ⟨g, off, cap, cur, fr, hv, hgg, _⟩
    · rw [hv] at hk
      simp [Value.ownBlock] at hk
    · rw [hv] at hk
      simp only [Value.ownBlock, Option.some.injEq] at hk
      subst hk
      exact hcell g _ _ _ hgg)
  exact ⟨(hcell _ _ _ _ h.num).trans h.num, (hcell _ _ _ _ h.res).trans h.res, (hcell _ _ _ _ h.box).trans h.box, hrow h.row, hrow h.us, h.below.grown hg h.below.size (fun k e => (hr k e).1), h.new⟩
theorem AtI.kept {w W W' : World} {b3 b4 b9 N cw : Nat} {ow : Option Addr} {ol : Value} {l : List U0} {s : List Nat × Nat} (h : AtI w W b3 b4 b9 ow cw N ol l s) (hb : Below W.heap.size W W') : AtI w W' b3 b4 b9 ow cw N ol l s := by
  have hcell : ∀ (k : Nat) (cs : Array Value) (t : TypeId) (fr : Nat × Nat), W.heap[k]? = some (.cells cs t fr) → W'.heap[k]? = W.heap[k]? := fun k cs t fr hk => hb.block k (Array.getElem?_eq_some_iff.1 hk).1
  exact ⟨(hcell _ _ _ _ h.num).trans h.num, (hcell _ _ _ _ h.res).trans h.res, (hcell _ _ _ _ h.box).trans h.box, h.row.kept (fun k hk => hb.block k (h.row.lt k hk)), h.us.kept (fun k hk => hb.block k (h.us.lt k hk)), h.below.trans (hb.mono h.below.size), h.new⟩
theorem AtI.drew {w W : World} {b3 b4 b9 N cw : Nat} {ow : Option Addr} {ol : Value} {l : List U0} {s : List Nat × Nat} (h : AtI w W b3 b4 b9 ow cw N ol l s) : AtI w W.drew b3 b4 b9 ow cw N ol l s := h.kept ⟨rfl, rfl, rfl, Nat.le_refl _, fun _ _ => rfl⟩
theorem row_block {w : World} {e : TypeId} {size n g off c : Nat} {m : Nat} {xs : List Value} (h : rowAt w e size (.slice (some ⟨g, off, none⟩) m c) n xs) : ∃ cur fr, w.heap[g]? = some (.cells cur e fr) := by
  rcases h.2 with ⟨hv, _⟩ | ⟨g', off', cap, cur, fr, hv, hgg, _⟩
  · cases hv
  · simp only [Value.slice.injEq, Option.some.injEq, Addr.mk.injEq] at hv
    obtain ⟨⟨rfl, rfl, -⟩, -, -⟩ := hv
    exact ⟨cur, fr, hgg⟩
/-- what holds behind the first of a round's two statements -/
structure AtR (w w9 W1 W : World) (b3 b4 b9 g B N : Nat) (ol : Value) (l : List U0) (s : List Nat × Nat) (ub : Bool) (um : Nat) : Prop where
  at_ : AtI w W b3 b4 b9 (some ⟨g, 0, none⟩) N N ol l s
  ubox : W.heap[B]? = some (.cells #[.bool ub, .int .i64 um] 213 (0, 0))
  keep : K64 W1 W
  from_ : KeepsFrom w9.heap.size W1 W
  size : w9.heap.size ≤ W.heap.size
theorem AtR.start {w w9 W1 : World} {b3 b4 b9 g B N : Nat} {ol : Value} {l : List U0} {s : List Nat × Nat} {ub : Bool} {um : Nat} (h : AtI w W1 b3 b4 b9 (some ⟨g, 0, none⟩) N N ol l s) (hu : W1.heap[B]? = some (.cells #[.bool ub, .int .i64 um] 213 (0, 0))) (hs : w9.heap.size ≤ W1.heap.size) : AtR w w9 W1 W1 b3 b4 b9 g B N ol l s ub um :=
  ⟨h, hu, ⟨KeepT.refl _ _, Nat.le_refl _⟩, KeepsFrom.refl _ _, hs⟩
theorem AtR.kept {w w9 W1 W W' : World} {b3 b4 b9 g B N : Nat} {ol : Value} {l : List U0} {s : List Nat × Nat} {ub : Bool} {um : Nat} (h : AtR w w9 W1 W b3 b4 b9 g B N ol l s ub um) (hb : Below W.heap.size W W') : AtR w w9 W1 W' b3 b4 b9 g B N ol l s ub um :=
  ⟨h.at_.kept hb, (hb.block B (Array.getElem?_eq_some_iff.1 h.ubox).1).trans h.ubox, h.keep.join (K64.of hb), h.from_.trans (keepsFrom_below2 hb), Nat.le_trans h.size hb.size⟩
theorem AtR.drew {w w9 W1 W : World} {b3 b4 b9 g B N : Nat} {ol : Value} {l : List U0} {s : List Nat × Nat} {ub : Bool} {um : Nat} (h : AtR w w9 W1 W b3 b4 b9 g B N ol l s ub um) : AtR w w9 W1 W.drew b3 b4 b9 g B N ol l s ub um := h.kept ⟨rfl, rfl, rfl, Nat.le_refl _, fun _ _ => rfl⟩
/-- a digit is stored -/
theorem AtR.digit {w w9 W1 W : World} {b3 b4 b9 g B N i r : Nat} {ol : Value} {l : List U0} {s : List Nat × Nat} {ub : Bool} {um : Nat} (h : AtR w w9 W1 W b3 b4 b9 g B N ol l s ub um) (hi : i < N) : AtR w w9 W1 (W.setCell ⟨g, i, none⟩ (.int .i64 r)) b3 b4 b9 g B N ol l (s.1.set i r, s.2) ub um := by
  obtain ⟨cur, fr, hg⟩ := row_block h.at_.row
  have hk : KeepT [2] W (W.setCell ⟨g, i, none⟩ (.int .i64 r)) := KeepT.set hg (by simp) _
  have hsz : W.heap.size ≤ (W.setCell ⟨g, i, none⟩ (.int .i64 r)).heap.size := (only_setCell (fun _ => True) W g i (.int .i64 r) trivial).size
  have hnew := h.at_.new
  have hgn := hnew.2.2 g rfl
  refine ⟨⟨?_, ?_, ?_, ?_, ?_, ?_, hnew⟩, ?_, h.keep.join ⟨hk, hsz⟩, h.from_.trans ((KeepsOthers.setCell _ _ _).from _), Nat.le_trans h.size hsz⟩
  · exact (Below.heap_setCell _ _ _ _ (fun e => hgn.2 e.symm)).trans h.at_.num
  · exact (hk b4 _ _ _ h.at_.res (by decide)).trans h.at_.res
  · exact (hk b9 _ _ _ h.at_.box (by decide)).trans h.at_.box
  · have := h.at_.row.setAt (j := i) (by omega) (.int .i64 r)
    rw [Nat.zero_add] at this
    have e : natCells (s.1.set i r) = (natCells s.1).set i (.int .i64 r) := by unfold natCells; rw [List.map_set]
    rw [e]
    exact this
  · exact K64.row ⟨hk, hsz⟩ h.at_.us (by decide)
  · exact h.at_.below.setCell (p := ⟨g, i, none⟩) hgn.1 _
  · exact (hk B _ _ _ h.ubox (by decide)).trans h.ubox
/-- what is left of the number is stored -/
theorem AtR.rest {w w9 W1 W : World} {b3 b4 b9 g B N q : Nat} {ol : Value} {l : List U0} {s : List Nat × Nat} {ub : Bool} {um : Nat} (h : AtR w w9 W1 W b3 b4 b9 g B N ol l s ub um) : AtR w w9 W1 (W.setCell ⟨b3, 0, none⟩ (.int .i64 q)) b3 b4 b9 g B N ol l (s.1, q) ub um := by
  have hk : KeepT [2] W (W.setCell ⟨b3, 0, none⟩ (.int .i64 q)) := KeepT.set h.at_.num (by simp) _
  have hsz : W.heap.size ≤ (W.setCell ⟨b3, 0, none⟩ (.int .i64 q)).heap.size := (only_setCell (fun _ => True) W b3 0 (.int .i64 q) trivial).size
  have hnew := h.at_.new
  refine ⟨⟨heap_setCell_here _ h.at_.num, ?_, ?_, ?_, ?_, ?_, hnew⟩, ?_, h.keep.join ⟨hk, hsz⟩, h.from_.trans ((KeepsOthers.setCell _ _ _).from _), Nat.le_trans h.size hsz⟩
  · exact (hk b4 _ _ _ h.at_.res (by decide)).trans h.at_.res
  · exact (hk b9 _ _ _ h.at_.box (by decide)).trans h.at_.box
  · exact h.at_.row.kept (fun k hk1 => Below.heap_setCell _ _ _ _ (fun e => (hnew.2.2 k hk1).2 e))
  · exact K64.row ⟨hk, hsz⟩ h.at_.us (by decide)
  · exact h.at_.below.setCell (p := ⟨b3, 0, none⟩) hnew.1 _
  · exact (hk B _ _ _ h.ubox (by decide)).trans h.ubox
end Go.Proofs.Ytmkjejngnahpeaa
