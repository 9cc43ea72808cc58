/- The texts Jc, Je, Jd, Jf, Jg, Jh in one. -/
import Derived.Test.YtmkjejngnahpeaaV9
/- A row in a box that a range over a function appends to, of any elements. -/
namespace Go.Proofs.Ytmkjejngnahpeaa
open Go Go.Maps Go.RowKit Go.Shelf
attribute [local go_sem] Oper.semAt_some

theorem one_row (w : World) (e : TypeId) (size : Nat) (ys : List Value) (hy : ys.length = size) : rowAt (w.alloc (.cells ys.toArray e)) e size (.slice (some ⟨w.heap.size, 0, none⟩) 1 1) 1 ys :=
  ⟨by simp [hy], .inr ⟨_, 0, 1, _, _, rfl, alloc_cells _ _ _, Nat.le_refl _, by unfold maxLen; omega, by simp [hy], freeRow_zero _, by subst hy; simp⟩⟩
/-- one element is appended to a row, inside a fence -/
theorem wpListIn_append_one {F : Fence} {n : Nat} {w2 : World} {ops : Array Oper} {rest : List Oper} {o : Oper} {a : Act} {Q : Exit → Act → World → Prop} (hgd : o.guard = none) (s x : Operand) (t e : TypeId)
    (ho : o.op = .call { callee := .builtin .append, args := #[s, x], argTypes := #[t, t] }) {z : Value} {size bytes : Nat} (ht : Try.prog.underlying t = some (.slice e)) (hinfo : (Try.prog.info? e).map (fun i => (i.zero, i.size, i.bytes)) = some (some z, size, bytes)) (hzs : z.cells.size = size) (hby : bytes ≤ 1000)
    {oa : Option Addr} {m c : Nat} {xs : List Value} (h : rowAt w2 e size (.slice oa m c) m xs) (hm : m ≤ 1000000) (ys : List Value) (hy : ys.length = size) (h1 : ∀ v ∈ ys, v.oneCell' = true)
    (hs : a.eval s = .slice oa m c) (hx : a.eval x = .slice (some ⟨w2.heap.size, 0, none⟩) 1 1)
    (hK : ∀ oa3 c3 w3, Hid (rowAt w3 e size (.slice oa3 (m + 1) c3) (m + 1) (xs ++ ys)) → Hid ((w2.alloc (.cells ys.toArray e)).grownBy w3 (Value.slice oa m c).ownBlock) →
      Hid ((Value.slice oa3 (m + 1) c3).ownBlock = (Value.slice oa m c).ownBlock ∨ (Value.slice oa3 (m + 1) c3).ownBlock = some (w2.heap.size + 1)) → wpListIn F n Try.prog ops Q rest (a.put o.dst (.slice oa3 (m + 1) c3)) w3) :
    wpListIn F n Try.prog ops Q (o :: rest) a (w2.alloc (.cells ys.toArray e)) := by
  refine wpListIn_plain hgd fun K hK' => ?_
  obtain ⟨i, hi, hz, hsz, hbi⟩ := info_parts hinfo
  obtain ⟨v', w3, hrun, r1, r2, r3, r4⟩ := run_append_at (P := Try.prog) (w2.alloc (.cells ys.toArray e)) t t o.type e i z size bytes ht hi hz hsz hbi hzs _ m xs (h.kept (fun k hk => Below.heap_alloc _ _ k (h.lt k hk))) _ 1 _ (Src.of_row ht (one_row w2 e size ys hy) h1) (by unfold maxLen; omega) (by
    have h2 : (m + 1) * bytes ≤ (m + 1) * 1000 := Nat.mul_le_mul_left _ hby
    omega)
  obtain ⟨oa3, c3, rfl, _⟩ := r1.shape
  unfold Oper.wpIn
  refine ⟨?_, ?_⟩
  · simp [Oper.about, ho, resolve, Target.leads, Sem.run_pure]
  · rw [Oper.semAt_plain F _ _ (by rw [ho]; intro c hc'; cases hc')]
    simp [execOp, ho, resolve, invoke, builtin, hs, hx, hrun, Result.andThen]
    exact hK' _ _ (hK oa3 c3 w3 (Lib.hid r1) (Lib.hid r2) (Lib.hid (by simpa using r3)))
/-- block b holds a row that lies in blocks from lo on; below b all is as in w -/
structure BoxRow (e t : TypeId) (size b lo : Nat) (w W : World) (m : Nat) (xs : List Value) : Prop where
  box : ∃ oa c, W.heap[b]? = some (.cells #[.slice oa m c] t (0, 0)) ∧ rowAt W e size (.slice oa m c) m xs ∧ ∀ k, (Value.slice oa m c).ownBlock = some k → lo ≤ k
  below : Below b w W
  blt : b < lo
  low : lo ≤ W.heap.size
section
variable {e t : TypeId} {size b lo m : Nat} {w W : World} {xs : List Value}
theorem BoxRow.lt (h : BoxRow e t size b lo w W m xs) : b < W.heap.size := Nat.lt_of_lt_of_le h.blt h.low
theorem BoxRow.start (hb : W.heap[b]? = some (.cells #[.slice none 0 0] t (0, 0))) (hw : Below b w W) (hbl : b < lo) (hlo : lo ≤ W.heap.size) : BoxRow e t size b lo w W 0 [] :=
  ⟨⟨none, 0, hb, ⟨by simp, .inl ⟨rfl, rfl⟩⟩, fun k hk => by simp [Value.ownBlock] at hk⟩, hw, hbl, hlo⟩
theorem BoxRow.kept {W' : World} (h : BoxRow e t size b lo w W m xs) (hb : Below W.heap.size W W') : BoxRow e t size b lo w W' m xs := by
  obtain ⟨oa, c, h1, h2, h3⟩ := h.box
  exact ⟨⟨oa, c, (hb.block _ h.lt).trans h1, h2.kept (fun k hk => hb.block k (h2.lt k hk)), h3⟩, h.below.trans (hb.mono (Nat.le_of_lt h.lt)), h.blt, Nat.le_trans h.low hb.size⟩
theorem BoxRow.grown {W' : World} {row : Option Nat} (h : BoxRow e t size b lo w W m xs) (hg : W.grownBy W' row) (hr : ∀ r, row = some r → lo ≤ r ∧ ∃ o : Obj, W.heap[r]? = some o ∧ o.isCells = false) : BoxRow e t size b lo w W' m xs := by
  obtain ⟨oa, c, h1, h2, h3⟩ := h.box
  have hbl := h.blt
  refine ⟨⟨oa, c, (hg.block _ h.lt (fun e => ?_)).trans h1, h2.kept (fun k hk => hg.block k (h2.lt k hk) (fun e => ?_)), h3⟩, h.below.grown hg (Nat.le_of_lt h.lt) (fun k e => by have := (hr k e).1; omega), hbl, Nat.le_trans h.low hg.size⟩
  · have := (hr _ e.symm).1
    omega
  · obtain ⟨_, o, ho, hc⟩ := hr k e.symm
    rcases h2.2 with ⟨hn, _⟩ | ⟨g, off, cap, cur, fr, hv, hgg, _⟩
    · rw [hn] at hk
      simp [Value.ownBlock] at hk
    · rw [hv] at hk
      simp only [Value.ownBlock, Option.some.injEq] at hk
      subst hk
      rw [hgg] at ho
      cases ho
      cases hc
/-- the box stands as it stood, while its row grows -/
theorem BoxRow.still {w3 : World} {oa : Option Addr} {c : Nat} {o : Obj} (h : BoxRow e t size b lo w W m xs) (hbx : W.heap[b]? = some (.cells #[.slice oa m c] t (0, 0)))
    (hown : ∀ k, (Value.slice oa m c).ownBlock = some k → lo ≤ k) (hg : (W.alloc o).grownBy w3 (Value.slice oa m c).ownBlock) : w3.heap[b]? = some (.cells #[.slice oa m c] t (0, 0)) :=
  (hg.block _ (by have := h.lt; simp; omega) (fun e => by have := hown _ e.symm; have := h.blt; omega)).trans ((Below.heap_alloc _ _ _ h.lt).trans hbx)
/-- one element more -/
theorem BoxRow.step {w3 : World} {ys : List Value} {oa oa3 : Option Addr} {c c3 : Nat} {o : Obj} (h : BoxRow e t size b lo w W m xs) (hbx : W.heap[b]? = some (.cells #[.slice oa m c] t (0, 0)))
    (hown : ∀ k, (Value.slice oa m c).ownBlock = some k → lo ≤ k)
    (hr : rowAt w3 e size (.slice oa3 (m + 1) c3) (m + 1) (xs ++ ys)) (hg : (W.alloc o).grownBy w3 (Value.slice oa m c).ownBlock)
    (hw : (Value.slice oa3 (m + 1) c3).ownBlock = (Value.slice oa m c).ownBlock ∨ (Value.slice oa3 (m + 1) c3).ownBlock = some (W.heap.size + 1)) :
    BoxRow e t size b lo w (w3.setCell ⟨b, 0, none⟩ (.slice oa3 (m + 1) c3)) (m + 1) (xs ++ ys) := by
  have hsz := h.lt
  have hbl := h.blt
  have hlw := h.low
  have hnew : ∀ k, (Value.slice oa3 (m + 1) c3).ownBlock = some k → lo ≤ k := fun k hk => by
    rcases hw with h1 | h1
    · exact hown k (by rw [← h1]; exact hk)
    · rw [hk] at h1
      simp only [Option.some.injEq] at h1
      omega
  have hb3 := h.still hbx hown hg
  refine ⟨⟨oa3, c3, heap_setCell_here _ hb3, hr.kept (fun k hk => Below.heap_setCell _ _ _ _ (fun e => by have := hnew k hk; dsimp only at e; omega)), hnew⟩, ?_, hbl, ?_⟩
  · exact ((h.below.alloc (by omega) o).grown hg (by simp; omega) (fun k e => by have := hown k e; omega)).setCell (p := ⟨b, 0, none⟩) (Nat.le_refl _) _
  · have h1 := hg.size
    have h2 := (only_setCell (fun _ => True) w3 b 0 (.slice oa3 (m + 1) c3) trivial).size
    simp at h1
    omega
theorem boxRow_but {w3 : World} {oa : Option Addr} {c : Nat} {o : Obj}
    (hown : ∀ k, (Value.slice oa m c).ownBlock = some k → lo ≤ k) (hg : (W.alloc o).grownBy w3 (Value.slice oa m c).ownBlock) (v : Value) :
    But b lo W (w3.setCell ⟨b, 0, none⟩ v) :=
  ((But.of ((Below.refl _ W).alloc (Nat.le_refl _) o)).join (Only.of_grown hg (fun k e => .inr (hown k e)))).join (only_setCell _ _ _ _ _ (.inl rfl))
theorem boxRow_keeps {w3 : World} {oa : Option Addr} {c B : Nat} {o : Obj} (hr : rowAt W e size (.slice oa m c) m xs)
    (hg : (W.alloc o).grownBy w3 (Value.slice oa m c).ownBlock) (v : Value) : KeepsFrom B W (w3.setCell ⟨b, 0, none⟩ v) := by
  have h1 : KeepsFrom B W w3 := ⟨by have := hg.size; simp at this; omega, fun k o' _ hk ho => by
    have hlt := (Array.getElem?_eq_some_iff.1 hk).1
    refine (hg.block k (by simp; omega) (fun e => ?_)).trans ((Below.heap_alloc _ _ _ hlt).trans hk)
    rcases hr.2 with ⟨hn, _⟩ | ⟨g, off, cap, cur, fr, hv, hgg, _⟩
    · rw [hn] at e
      simp [Value.ownBlock] at e
    · rw [hv] at e
      simp only [Value.ownBlock, Option.some.injEq] at e
      subst e
      rw [hgg] at hk
      cases hk
      cases ho⟩
  exact h1.trans ((KeepsOthers.setCell _ _ _).from _)
end
end Go.Proofs.Ytmkjejngnahpeaa
/- Going over what All tells, while one box below is written. -/
namespace Go.Proofs.Ytmkjejngnahpeaa
open Go Go.Maps Go.RowKit Go.Shelf
open Go.Proofs (encStr)
attribute [local go_sem] Oper.semAt_some

set_option maxRecDepth 100000 in
set_option maxHeartbeats 1000000 in
theorem butIn (F : Fence) (n : Nat) (h7 : F.fn 161) (hro : F.round = none) (hn : 1 ≤ n) (l vb : Nat) (w : World) (fs : List F0) (hsq : SeqAt w vb fs) (b : Nat) (hrb : ∀ v, w.heap[vb]? = some (.cells #[v] 76 (0, 0)) → ∀ k, v.ownBlock = some k → k ≠ b) (hfs : fs.length ≤ 1000000) (J Jx : Nat → World → Prop) (W : World) (hW : Below w.heap.size w W)
    (hJ : AbidesFrom W.heap.size J)
    (hY : ∀ j (hj : j < fs.length) W1, J j W1 → YieldAt F (n - 1) Try.prog l #[fileV fs[j]] W1 fun e W' =>
      (e = .returned (.bool true) ∧ J (j + 1) W' ∧ But b w.heap.size W1 W') ∨ (e = .returned (.bool false) ∧ Jx (j + 1) W')) (h0 : J 0 W) :
    CallsIn F n Try.prog 161 #[.func (.yield l) #[] #[], .pointer (some ⟨vb, 0, none⟩)] W fun e W' => (∃ v, e = .returned v) ∧ (J fs.length W' ∨ ∃ j, Jx j W') := by
  obtain ⟨v, hv, hrow⟩ := hsq
  obtain ⟨oa, c, rfl, hnc⟩ := hrow.shape
  obtain ⟨N, hN⟩ : ∃ N, fs.length = N := ⟨_, rfl⟩
  rw [hN] at hv hrow hnc hfs
  have HRB := Lib.hid (hrb _ hv)
  have cv : W.cell? ⟨vb, 0, none⟩ = some (.slice oa N c) := cell_of ((hW.block vb (Array.getElem?_eq_some_iff.1 hv).1).trans hv) rfl
  have HR := Lib.hid hrow
  have HN := Lib.hid hN
  have HY := Lib.hid hY
  have HJ := Lib.hid hJ
  have HW := Lib.hid hW
  clear hv hrow hN hY hJ hW
  refine callsIn_of_wp Try.func161 rfl h7 ?_ hro
  simp only [Try.ntmps161, List.size_toArray, List.length_cons, List.length_nil, Nat.reduceAdd, Nat.reduceSub, Array.replicate_succ, Array.replicate_zero, List.push_toArray, List.append_toArray, List.nil_append, List.cons_append]
  gi_wp2
  gi_loopw [7] (fun i wr => ∃ j : Nat, j ≤ N ∧ i = .int .i64 j ∧ J j wr ∧ But b w.heap.size w wr ∧ W.heap.size ≤ wr.heap.size) (fun i wr => N - (intOf i).toNat)
  case atStart => exact ⟨0, Nat.zero_le _, rfl, h0, But.of HW.out, Nat.le_refl _⟩
  case round =>
    obtain ⟨j, hj, rfl, hJs, hbw, hWr⟩ := hrel
    by_cases hlt : j < N
    · have hjf : j < fs.length := by rw [HN.out]; exact hlt
      have hrw := HR.out.kept (fun k hk => hbw.block k (HR.out.lt k hk) (fun e => by rcases e with e | e; exact HRB.out k hk e; have := HR.out.lt k hk; omega))
      obtain ⟨g, off, rfl⟩ := hrw.addr (by omega)
      obtain ⟨x, hx⟩ : ∃ x, fs[j] = x := ⟨_, rfl⟩
      have hcell : ∀ i, i < 5 → ∀ u, (fileCells x)[i]? = some u → wr.cell? ⟨g, off + (j * 5 + i), none⟩ = some u := fun i hi u hu => by
        have := hrw.cells (g := g) (off := off) rfl (j * 5 + i) u (by rw [filesCells_get hjf hi, hx, hu])
        simpa [Go.WideShapes.add_plain] using this
      have k0 : wr.cell? ⟨g, off + j * 5, none⟩ = some (encStr x.name) := hcell 0 (by omega) _ rfl
      have k1 : wr.cell? ⟨g, off + j * 5 + 1, none⟩ = some (.int .i64 x.bytes.length) := hcell 1 (by omega) _ rfl
      have k2 : wr.cell? ⟨g, off + j * 5 + 2, none⟩ = some (.int .i64 x.lasts) := hcell 2 (by omega) _ rfl
      have k3 : wr.cell? ⟨g, off + j * 5 + 3, none⟩ = some (.bool x.there) := hcell 3 (by omega) _ rfl
      have k4 : wr.cell? ⟨g, off + j * 5 + 4, none⟩ = some (.bool x.named) := hcell 4 (by omega) _ rfl
      obtain ⟨a0, ha0⟩ : ∃ a : ByteArray, encStr x.name = .string a := ⟨_, rfl⟩
      obtain ⟨a1, ha1⟩ : ∃ a : Int, (x.bytes.length : Int) = a := ⟨_, rfl⟩
      obtain ⟨a2, ha2⟩ : ∃ a : Int, (x.lasts : Int) = a := ⟨_, rfl⟩
      obtain ⟨a3, ha3⟩ : ∃ a, x.there = a := ⟨_, rfl⟩
      obtain ⟨a4, ha4⟩ : ∃ a, x.named = a := ⟨_, rfl⟩
      have HV : Hid (fileV x = .agg #[.string a0, .int .i64 a1, .int .i64 a2, .bool a3, .bool a4]) := Lib.hid (by unfold fileV; rw [ha0, ha1, ha2, ha3, ha4])
      rw [ha0] at k0; rw [ha1] at k1; rw [ha2] at k2; rw [ha3] at k3; rw [ha4] at k4
      have HX := Lib.hid hx
      have HJS := Lib.hid hJs
      have HBW := Lib.hid hbw
      obtain ⟨w2, hw2⟩ : ∃ w2 : World, w2 = wr.alloc (.cells #[.string a0, .int .i64 a1, .int .i64 a2, .bool a3, .bool a4] 78) := ⟨_, rfl⟩
      have hg2 : wr.grownBy w2 none := by rw [hw2]; exact World.grownBy_alloc _ _ _
      have hJ2 : J j w2 := HJ.out j wr w2 none hJs hg2 (fun r e => by cases e)
      obtain ⟨fn, tmps, assign, body, hy, hR⟩ := HY.out j hjf w2 hJ2
      rw [hx, HV.out] at hy
      have HRD := Lib.hid hR
      have HB2 : Hid (But b w.heap.size w w2 ∧ W.heap.size ≤ w2.heap.size) := Lib.hid ⟨hbw.join (But.of (below_grown hg2)), Nat.le_trans hWr hg2.size⟩
      clear hcell hrw hx hJs hbw ha0 ha1 ha2 ha3 ha4 hJ2 hg2 hR HJS
      subst hw2
      gi_wp2
      refine HRD.out.mono ?_
      rintro e W3 (⟨rfl, hJ3, hk3⟩ | ⟨rfl, hJx3⟩)
      · have HJ3 : Hid (J (j + 1) W3) := Lib.hid hJ3
        have HB3 : Hid (But b w.heap.size w W3 ∧ W.heap.size ≤ W3.heap.size) := Lib.hid ⟨HB2.out.1.join hk3, Nat.le_trans HB2.out.2 hk3.size⟩
        clear hJ3 hk3
        gi_wp2
        exact ⟨⟨j + 1, by omega, by simp, HJ3.out, HB3.out.1, HB3.out.2⟩, by simp [intOf]; omega⟩
      · have HX3 : Hid (Jx (j + 1) W3) := Lib.hid hJx3
        clear hJx3
        gi_wp2
        refine bodyPost_ret (results_none rfl _ _ _) rfl ?_
        exact ⟨⟨_, rfl⟩, .inr ⟨j + 1, HX3.out⟩⟩
    · obtain rfl : j = N := by omega
      have HE : Hid (J fs.length wr) := Lib.hid (by rw [HN.out]; exact hJs)
      clear hJs
      gi_wp2
      go_end0
      exact ⟨⟨_, rfl⟩, .inl HE.out⟩
/-- **going over what All tells** -/
theorem told_but (F : Fence) (n : Nat) (h7 : F.fn 161) (hro : F.round = none) (hn : 1 ≤ n) (vb : Nat) (w : World) (fs : List F0) (hsq : SeqAt w vb fs) (b : Nat) (hrb : ∀ v, w.heap[vb]? = some (.cells #[v] 76 (0, 0)) → ∀ k, v.ownBlock = some k → k ≠ b) (hfs : fs.length ≤ 1000000) :
    SeqStopsK F n Try.prog 161 #[.pointer (some ⟨vb, 0, none⟩)] (encOf fs) (But b w.heap.size) (fun ys => ys.map (·.1) = fs) (fun _ => True) fs.length w := fun l J Jx W hW hJ _ hY h0 => by
  have hlen : fs.attach.length = fs.length := List.length_attach
  refine (butIn F n h7 hro hn l vb w fs hsq b hrb hfs (fun j W => J (fs.attach.take j) W) (fun j W => Jx (fs.attach.take j) W) W hW (fun s A B row h hg hr => hJ _ A B row h hg hr) (fun j hj W1 h1 => ?_) (by simpa using h0)).mono ?_
  · have hj' : j < fs.attach.length := by rw [hlen]; exact hj
    have hx : (fs.attach[j]).1 = fs[j] := by simp
    have h2 := hY (fs.attach.take j) (fs.attach[j]) W1 h1 (by rw [List.length_take]; omega)
    rw [← List.take_succ_eq_append_getElem hj'] at h2
    have e : encOf fs fs.attach[j] = #[fileV fs[j]] := by unfold encOf; rw [hx]
    rw [e] at h2
    exact h2
  · rintro e W' ⟨he, h | ⟨j, h⟩⟩
    · refine ⟨he, .inl ⟨fs.attach, by simp, ?_⟩⟩
      rwa [← hlen, List.take_length] at h
    · exact ⟨he, .inr ⟨_, trivial, h⟩⟩
end Go.Proofs.Ytmkjejngnahpeaa
/- stops: the unsure files of a disk. -/
namespace Go.Proofs.Ytmkjejngnahpeaa
open Go Go.Maps Go.RowKit Go.Shelf
attribute [local go_sem] Oper.semAt_some

def unsF (f : F0) : U0 := ⟨!f.there || !f.named, if f.there = true then f.bytes.length - f.lasts else 0⟩
def unsOf (f : F0) : List U0 := if ((unsF f).name || decide (0 < (unsF f).more)) = true then [unsF f] else []
/-- the unsure files, by rising names -/
def unsT (l : List F0) : List U0 := l.flatMap unsOf
theorem unsT_append (a b : List F0) : unsT (a ++ b) = unsT a ++ unsT b := by simp [unsT]
theorem unsT_len (l : List F0) : (unsT l).length ≤ l.length := by
  induction l with
  | nil => exact Nat.le_refl _
  | cons f r ih =>
    show (unsOf f ++ unsT r).length ≤ _
    rw [List.length_append, List.length_cons]
    have : (unsOf f).length ≤ 1 := by unfold unsOf; split <;> simp
    omega
theorem unsT_more {l : List F0} (h : ∀ f ∈ l, f.bytes.length ≤ 16777216) : ∀ u ∈ unsT l, u.more ≤ 16777216 := by
  intro u hu
  obtain ⟨f, hf, h1⟩ := List.mem_flatMap.1 hu
  unfold unsOf at h1
  split at h1
  · rw [List.mem_singleton] at h1
    subst h1
    have := h f hf
    unfold unsF
    dsimp only
    split <;> omega
  · cases h1
def ofs {fs : List F0} (pre : List (Of fs)) : List F0 := pre.map (·.1)
theorem ofs_snoc {fs : List F0} (pre : List (Of fs)) (x : Of fs) : ofs (pre ++ [x]) = ofs pre ++ [x.1] := by simp [ofs]
/-- what stands at a round's head: the unsure ones so far -/
abbrev UnsI (b : Nat) (w wa W : World) (l : List F0) : Prop := BoxRow 213 206 2 b wa.heap.size w W (unsT l).length (uCells (unsT l))
theorem info_uns : (Try.prog.info? 213).map (fun i => (i.zero, i.size, i.bytes)) = some (some (.agg #[.bool false, .int .i64 0]), 2, 16) := by kernel_rfl
theorem DiskAt.sizes {w : World} {S : Nat → Prop} {q : Nat} {d : Dk} (h : DiskAt w S q d) : d.files.length ≤ 4096 ∧ ∀ f ∈ d.files, f.lasts ≤ f.bytes.length ∧ f.bytes.length ≤ 16777216 := by
  obtain ⟨mb, fv, L, h⟩ := h
  refine ⟨h.few, fun f hf => ?_⟩
  rw [← h.files] at hf
  obtain ⟨x, hx, rfl⟩ := List.mem_map.1 hf
  exact ⟨(h.each x hx).lasts, (h.each x hx).size⟩
set_option maxRecDepth 100000 in
set_option maxHeartbeats 4000000 in
theorem sall_new {w : World} {S : Nat → Prop} {q : Nat} {d : Dk} (h : DiskAt w S q d) :
    Calls Try.prog 135 #[.pointer (some ⟨q, 0, none⟩)] w fun e w' => ∃ oa n c, e = .returned (.slice oa n c) ∧ (unsT d.files).length = n ∧ rowAt w' 213 2 (.slice oa n c) n (uCells (unsT d.files)) ∧ Below w.heap.size w w' ∧ ∀ k, (Value.slice oa n c).ownBlock = some k → w.heap.size ≤ k := by
  have HD := Lib.hid h
  have HZ := Lib.hid h.sizes
  clear h
  refine (callsIn_wide (n := 8)).1 ?_
  have f1 : Fence.wide.fn 41 := trivial
  refine callsIn_of_wp_marks Try.func135 rfl trivial ?_ rfl
  simp only [Try.ntmps135, List.size_toArray, List.length_cons, List.length_nil, Nat.reduceAdd, Nat.reduceSub, Array.replicate_succ, Array.replicate_zero, List.push_toArray, List.append_toArray, List.nil_append, List.cons_append]
  obtain ⟨w1, hw1⟩ : ∃ w1 : World, w1 = w.alloc (.cells #[.slice none 0 0] 206) := ⟨_, rfl⟩
  obtain ⟨b3, hb3⟩ : ∃ b, b = w.heap.size := ⟨_, rfl⟩
  have hbr : w1.heap[b3]? = some (.cells #[.slice none 0 0] 206 (0, 0)) := by rw [hw1, hb3]; exact alloc_cells _ _ _
  have HBR := Lib.hid hbr
  have hb1 : Below w.heap.size w w1 := by rw [hw1]; exact (Below.refl _ _).alloc (Nat.le_refl _) _
  have HD1 := Lib.hid (HD.out.below hb1)
  have HB1 := Lib.hid hb1
  clear hb1 hbr HD
  gi_wp2_with (gi_at_call 41; rw [← hw1, ← hb3]; have HW1 := Lib.hid (And.intro hw1 hb3); clear hw1 hb3; refine (callsIn_wide.2 (all_b HD1.out)).mono ?_; rintro e wa ⟨vb, rfl, hsa, -, hba⟩; have HSA := Lib.hid (And.intro hsa hba); clear hsa hba)
  have hb3w : b3 < w1.heap.size := (Array.getElem?_eq_some_iff.1 HBR.out).1
  have hbr2 : UnsI b3 w wa wa [] := BoxRow.start ((HSA.out.2.block b3 hb3w).trans HBR.out) (by rw [HW1.out.2]; exact HB1.out.trans (HSA.out.2.mono HB1.out.size)) (by have := HSA.out.2.size; omega) (Nat.le_refl _)
  have hfl : d.files.length ≤ 1000000 := by have := HZ.out.1; omega
  have hrb : ∀ v, wa.heap[vb]? = some (.cells #[v] 76 (0, 0)) → ∀ k, v.ownBlock = some k → k ≠ b3 := fun v hv k hk e => by
    obtain ⟨v', hv', hrow⟩ := HSA.out.1
    rw [hv] at hv'
    simp only [Option.some.injEq, Obj.cells.injEq, Array.mk.injEq, List.cons.injEq, and_true] at hv'
    rw [← hv'] at hrow
    obtain ⟨oab, cb, hbx, _⟩ := hbr2.box
    rw [← e] at hbx
    exact absurd (row_type hrow hk hbx) (by decide)
  have hst := told_but Fence.wide 7 trivial rfl (by omega) vb wa d.files HSA.out.1 b3 hrb hfl
  have hlt := hbr2.lt
  have HLT : Hid (b3 < wa.heap.size ∧ w.heap.size ≤ b3) := Lib.hid ⟨hlt, by rw [HW1.out.2]; exact Nat.le_refl _⟩
  clear hrb hfl
  refine wpIn_rangeFunc_fresh (n := 8) (α := Of d.files) rfl (by omega) (gf := 161) (lb := #[.pointer (some ⟨vb, 0, none⟩)]) rfl trivial (enters_of Try.func161 (by kernel_rfl) rfl) hst (fun h k => But.join h k) (But.put (Nat.le_refl _)) (fun W o hW => But.of ((Below.refl _ _).alloc (Nat.le_refl _) _)) (Below.refl _ _) (fun _ => rfl)
    (fun pre W => UnsI b3 w wa W (ofs pre)) (fun _ _ _ => False) (fun pre W W' row hp hg hr => BoxRow.grown hp hg hr) (fun _ => fun _ _ _ _ hs _ _ => hs) hbr2 (fun pre W hp => hp.low)
    78 (fun x => (fileCells x.1).toArray) ?A ?assign ?body ?done ?stop
  case assign =>
    intro l x W K B hB hK
    unfold encOf fileV
    gi_wp2_with fail
    rw [← hB]
    exact hK
  case body =>
    intro l pre x B W1 hl hlr hp hB hx hlen
    obtain ⟨xf, hxf⟩ : ∃ f, x.1 = f := ⟨_, rfl⟩
    have hxz := HZ.out.2 x.1 x.2
    have hlen' : (ofs pre).length < d.files.length := by unfold ofs; rw [List.length_map]; exact hlen
    rw [hxf] at hx hxz
    obtain ⟨z1, hz1⟩ : ∃ a : Nat, a = xf.bytes.length := ⟨_, rfl⟩
    obtain ⟨z2, hz2⟩ : ∃ a : Nat, a = xf.lasts := ⟨_, rfl⟩
    obtain ⟨th, hth⟩ : ∃ b, b = xf.there := ⟨_, rfl⟩
    obtain ⟨nd, hnd⟩ : ∃ b, b = xf.named := ⟨_, rfl⟩
    have x1 : W1.cell? ⟨B, 1, none⟩ = some (.int .i64 z1) := cell_of hx (by rw [hz1]; rfl)
    have x2 : W1.cell? ⟨B, 2, none⟩ = some (.int .i64 z2) := cell_of hx (by rw [hz2]; rfl)
    have x3 : W1.cell? ⟨B, 3, none⟩ = some (.bool th) := cell_of hx (by rw [hth]; rfl)
    have x4 : W1.cell? ⟨B, 4, none⟩ = some (.bool nd) := cell_of hx (by rw [hnd]; rfl)
    rw [← hz1, ← hz2] at hxz
    have HU : Hid (unsF xf = ⟨!th || !nd, if th = true then z1 - z2 else 0⟩) := Lib.hid (by unfold unsF; rw [hz1, hz2, hth, hnd])
    have HSN : Hid (unsT (ofs (pre ++ [x])) = unsT (ofs pre) ++ unsOf xf) := Lib.hid (by rw [ofs_snoc, unsT_append, hxf]; simp [unsT])
    have hul : (unsT (ofs pre)).length ≤ 4096 := by
      have h1 := unsT_len (ofs pre)
      have h2 := HZ.out.1
      omega
    obtain ⟨m, hm⟩ : ∃ m, (unsT (ofs pre)).length = m := ⟨_, rfl⟩
    have hrow : BoxRow 213 206 2 b3 wa.heap.size w W1 m (uCells (unsT (ofs pre))) := by rw [← hm]; exact hp
    rw [hm] at hul
    have HP := Lib.hid (And.intro hrow hm)
    have HX := Lib.hid hx
    have HXV : Hid ((xf.bytes.length = z1) ∧ (xf.lasts = z2) ∧ (xf.there = th) ∧ xf.named = nd) := Lib.hid ⟨hz1.symm, hz2.symm, hth.symm, hnd.symm⟩
    have HEND0 : Hid (∀ W', Below W1.heap.size W1 W' → unsOf xf = [] → KeepsFrom wa.heap.size W1 W' ∧ But b3 wa.heap.size W1 W' ∧ UnsI b3 w wa W' (ofs (pre ++ [x]))) := Lib.hid (fun W' hb hu => by
      refine ⟨keepsFrom_below2 hb, But.of hb, ?_⟩
      unfold UnsI
      rw [HSN.out, hu, List.append_nil]
      exact BoxRow.kept hp hb)
    clear hx hz1 hz2 hth hnd hp hrow hm hxf hlen hlen' hst
    cases th
    · gi_upto_region 5 with fail
      obtain ⟨w5, hw5⟩ : ∃ W : World, W = W1.alloc (.cells #[.bool true, .int .i64 0] 213) := ⟨_, rfl⟩
      obtain ⟨b5, hb5⟩ : ∃ b, b = W1.heap.size := ⟨_, rfl⟩
      have h5 : w5.heap[b5]? = some (.cells #[.bool true, .int .i64 0] 213 (0, 0)) := by rw [hw5, hb5]; exact alloc_cells _ _ _
      have hbw5 : Below W1.heap.size W1 w5 := by rw [hw5]; exact (Below.refl _ _).alloc (Nat.le_refl _) _
      rw [← hw5, ← hb5]
      have HB5 := Lib.hid (And.intro hb5 hbw5)
      have hx5 := (hbw5.block B (Array.getElem?_eq_some_iff.1 HX.out).1).trans HX.out
      have x3' : w5.cell? ⟨B, 3, none⟩ = some (.bool false) := (hbw5.cell (p := ⟨B, 3, none⟩) (Array.getElem?_eq_some_iff.1 HX.out).1).trans x3
      have y0 : w5.cell? ⟨b5, 0, none⟩ = some (.bool true) := cell_of h5 rfl
      have y1 : w5.cell? ⟨b5, 1, none⟩ = some (.int .i64 0) := cell_of h5 rfl
      have HB6 := Lib.hid hbw5
      obtain ⟨w6, hw6⟩ : ∃ W, W = w5 := ⟨_, rfl⟩
      rw [← hw6] at x3' y0 y1 HB6 ⊢
      clear hw5 hb5 h5 hbw5 hx5 x1 x2 x3 x4 hw6
      have hbx6 := HP.out.1.kept HB6.out
      obtain ⟨oa3, c3, hbx, hrw, hown⟩ := hbx6.box
      have kb : w6.cell? ⟨b3, 0, none⟩ = some (.slice oa3 m c3) := cell_of hbx rfl
      have kf : w6.frozen? ⟨b3, 0, none⟩ = false := free_of hbx _
      have HBX := Lib.hid (And.intro hbx6 (And.intro hbx (And.intro hrw hown)))
      have hone : ∀ v ∈ ([.bool true, .int .i64 (0)] : List Value), v.oneCell' = true := by
        intro v hv
        simp only [List.mem_cons, List.not_mem_nil, or_false] at hv
        rcases hv with rfl | rfl <;> rfl
      clear hbx6 hbx hrw hown
      gi_wp2_with (gi_at_builtin; refine wpListIn_append_one rfl (.tmp 33) (.tmp 35) 206 213 rfl Try.underlying206 info_uns rfl (by omega) HBX.out.2.2.1 (by omega) [.bool true, .int .i64 (0)] rfl hone rfl rfl ?_; intro oa5 c5 w9 HRX HGX HOX; have hbx9 := BoxRow.still HBX.out.1 HBX.out.2.1 HBX.out.2.2.2 HGX.out; have kb9 : w9.cell? ⟨b3, 0, none⟩ = some (.slice oa3 m c3) := cell_of hbx9 rfl; have kf9 : w9.frozen? ⟨b3, 0, none⟩ = false := free_of hbx9 _; clear hbx9)
      have hu : unsOf xf = [⟨true, 0⟩] := by unfold unsOf; rw [HU.out]; rfl
      refine ⟨(keepsFrom_below2 HB6.out).trans (boxRow_keeps HBX.out.2.2.1 HGX.out _), (But.of HB6.out).join (boxRow_but HBX.out.2.2.2 HGX.out _), ?_⟩
      show UnsI b3 w wa _ (ofs (pre ++ [x]))
      unfold UnsI
      rw [HSN.out, hu, List.length_append, uCells_append, HP.out.2]
      exact BoxRow.step HBX.out.1 HBX.out.2.1 HBX.out.2.2.2 HRX.out HGX.out HOX.out
    · cases nd
      · gi_upto_region 5 with fail
        obtain ⟨w5, hw5⟩ : ∃ W : World, W = W1.alloc (.cells #[.bool true, .int .i64 0] 213) := ⟨_, rfl⟩
        obtain ⟨b5, hb5⟩ : ∃ b, b = W1.heap.size := ⟨_, rfl⟩
        have h5 : w5.heap[b5]? = some (.cells #[.bool true, .int .i64 0] 213 (0, 0)) := by rw [hw5, hb5]; exact alloc_cells _ _ _
        have hbw5 : Below W1.heap.size W1 w5 := by rw [hw5]; exact (Below.refl _ _).alloc (Nat.le_refl _) _
        rw [← hw5, ← hb5]
        have HB5 := Lib.hid (And.intro hb5 hbw5)
        have hx5 := (hbw5.block B (Array.getElem?_eq_some_iff.1 HX.out).1).trans HX.out
        have x3' : w5.cell? ⟨B, 3, none⟩ = some (.bool true) := (hbw5.cell (p := ⟨B, 3, none⟩) (Array.getElem?_eq_some_iff.1 HX.out).1).trans x3
        have x1' : w5.cell? ⟨B, 1, none⟩ = some (.int .i64 z1) := (hbw5.cell (p := ⟨B, 1, none⟩) (Array.getElem?_eq_some_iff.1 HX.out).1).trans x1
        have x2' : w5.cell? ⟨B, 2, none⟩ = some (.int .i64 z2) := (hbw5.cell (p := ⟨B, 2, none⟩) (Array.getElem?_eq_some_iff.1 HX.out).1).trans x2
        have y1 : w5.cell? ⟨b5, 1, none⟩ = some (.int .i64 0) := cell_of h5 rfl
        have f1' : w5.frozen? ⟨b5, 1, none⟩ = false := free_of h5 _
        have H5 := Lib.hid h5
        clear hw5 hb5 h5 hbw5 hx5 x1 x2 x3 x4
        gi_upto_region 7 with fail
        obtain ⟨w6, hw6⟩ : ∃ W, W = w5.setCell ⟨b5, 1, none⟩ (.int .i64 ((z1 : Int) - (z2 : Int))) := ⟨_, rfl⟩
        have h6 : w6.heap[b5]? = some (.cells #[.bool true, .int .i64 ((z1 : Int) - (z2 : Int))] 213 (0, 0)) := by rw [hw6]; exact heap_setCell_here _ H5.out
        have HB6 : Hid (Below W1.heap.size W1 w6) := Lib.hid (by rw [hw6]; exact HB5.out.2.setCell (p := ⟨b5, 1, none⟩) (by rw [HB5.out.1]; exact Nat.le_refl _) _)
        rw [← hw6]
        have y0 : w6.cell? ⟨b5, 0, none⟩ = some (.bool true) := cell_of h6 rfl
        have y1' : w6.cell? ⟨b5, 1, none⟩ = some (.int .i64 ((z1 : Int) - (z2 : Int))) := cell_of h6 rfl
        have HSUB : Hid ((z1 : Int) - (z2 : Int) = ((z1 - z2 : Nat) : Int)) := Lib.hid (by omega)
        clear hw6 h6 x1' x2' x3' y1 f1'
        have hbx6 := HP.out.1.kept HB6.out
        obtain ⟨oa3, c3, hbx, hrw, hown⟩ := hbx6.box
        have kb : w6.cell? ⟨b3, 0, none⟩ = some (.slice oa3 m c3) := cell_of hbx rfl
        have kf : w6.frozen? ⟨b3, 0, none⟩ = false := free_of hbx _
        have HBX := Lib.hid (And.intro hbx6 (And.intro hbx (And.intro hrw hown)))
        have hone : ∀ v ∈ ([.bool true, .int .i64 ((z1 : Int) - (z2 : Int))] : List Value), v.oneCell' = true := by
          intro v hv
          simp only [List.mem_cons, List.not_mem_nil, or_false] at hv
          rcases hv with rfl | rfl <;> rfl
        clear hbx6 hbx hrw hown
        gi_wp2_with (gi_at_builtin; refine wpListIn_append_one rfl (.tmp 33) (.tmp 35) 206 213 rfl Try.underlying206 info_uns rfl (by omega) HBX.out.2.2.1 (by omega) [.bool true, .int .i64 ((z1 : Int) - (z2 : Int))] rfl hone rfl rfl ?_; intro oa5 c5 w9 HRX HGX HOX; have hbx9 := BoxRow.still HBX.out.1 HBX.out.2.1 HBX.out.2.2.2 HGX.out; have kb9 : w9.cell? ⟨b3, 0, none⟩ = some (.slice oa3 m c3) := cell_of hbx9 rfl; have kf9 : w9.frozen? ⟨b3, 0, none⟩ = false := free_of hbx9 _; clear hbx9)
        have hu : unsOf xf = [⟨true, z1 - z2⟩] := by unfold unsOf; rw [HU.out]; rfl
        refine ⟨(keepsFrom_below2 HB6.out).trans (boxRow_keeps HBX.out.2.2.1 HGX.out _), (But.of HB6.out).join (boxRow_but HBX.out.2.2.2 HGX.out _), ?_⟩
        show UnsI b3 w wa _ (ofs (pre ++ [x]))
        unfold UnsI
        rw [HSN.out, hu, List.length_append, uCells_append, HP.out.2]
        exact BoxRow.step HBX.out.1 HBX.out.2.1 HBX.out.2.2.2 (ys := uCells [⟨true, z1 - z2⟩]) (by have h9 := HRX.out; rw [HSUB.out] at h9; exact h9) HGX.out HOX.out
      · gi_upto_region 5 with fail
        obtain ⟨w5, hw5⟩ : ∃ W : World, W = W1.alloc (.cells #[.bool false, .int .i64 0] 213) := ⟨_, rfl⟩
        obtain ⟨b5, hb5⟩ : ∃ b, b = W1.heap.size := ⟨_, rfl⟩
        have h5 : w5.heap[b5]? = some (.cells #[.bool false, .int .i64 0] 213 (0, 0)) := by rw [hw5, hb5]; exact alloc_cells _ _ _
        have hbw5 : Below W1.heap.size W1 w5 := by rw [hw5]; exact (Below.refl _ _).alloc (Nat.le_refl _) _
        rw [← hw5, ← hb5]
        have HB5 := Lib.hid (And.intro hb5 hbw5)
        have hx5 := (hbw5.block B (Array.getElem?_eq_some_iff.1 HX.out).1).trans HX.out
        have x3' : w5.cell? ⟨B, 3, none⟩ = some (.bool true) := (hbw5.cell (p := ⟨B, 3, none⟩) (Array.getElem?_eq_some_iff.1 HX.out).1).trans x3
        have x1' : w5.cell? ⟨B, 1, none⟩ = some (.int .i64 z1) := (hbw5.cell (p := ⟨B, 1, none⟩) (Array.getElem?_eq_some_iff.1 HX.out).1).trans x1
        have x2' : w5.cell? ⟨B, 2, none⟩ = some (.int .i64 z2) := (hbw5.cell (p := ⟨B, 2, none⟩) (Array.getElem?_eq_some_iff.1 HX.out).1).trans x2
        have y1 : w5.cell? ⟨b5, 1, none⟩ = some (.int .i64 0) := cell_of h5 rfl
        have f1' : w5.frozen? ⟨b5, 1, none⟩ = false := free_of h5 _
        have H5 := Lib.hid h5
        clear hw5 hb5 h5 hbw5 hx5 x1 x2 x3 x4
        gi_upto_region 7 with fail
        obtain ⟨w6, hw6⟩ : ∃ W, W = w5.setCell ⟨b5, 1, none⟩ (.int .i64 ((z1 : Int) - (z2 : Int))) := ⟨_, rfl⟩
        have h6 : w6.heap[b5]? = some (.cells #[.bool false, .int .i64 ((z1 : Int) - (z2 : Int))] 213 (0, 0)) := by rw [hw6]; exact heap_setCell_here _ H5.out
        have HB6 : Hid (Below W1.heap.size W1 w6) := Lib.hid (by rw [hw6]; exact HB5.out.2.setCell (p := ⟨b5, 1, none⟩) (by rw [HB5.out.1]; exact Nat.le_refl _) _)
        rw [← hw6]
        have y0 : w6.cell? ⟨b5, 0, none⟩ = some (.bool false) := cell_of h6 rfl
        have y1' : w6.cell? ⟨b5, 1, none⟩ = some (.int .i64 ((z1 : Int) - (z2 : Int))) := cell_of h6 rfl
        have HSUB : Hid ((z1 : Int) - (z2 : Int) = ((z1 - z2 : Nat) : Int)) := Lib.hid (by omega)
        clear hw6 h6 x1' x2' x3' y1 f1'
        by_cases hpos : (0 : Int) < (z1 : Int) - (z2 : Int)
        · have hd : decide ((0 : Int) < (z1 : Int) - (z2 : Int)) = true := decide_eq_true hpos
          have hbx6 := HP.out.1.kept HB6.out
          obtain ⟨oa3, c3, hbx, hrw, hown⟩ := hbx6.box
          have kb : w6.cell? ⟨b3, 0, none⟩ = some (.slice oa3 m c3) := cell_of hbx rfl
          have kf : w6.frozen? ⟨b3, 0, none⟩ = false := free_of hbx _
          have HBX := Lib.hid (And.intro hbx6 (And.intro hbx (And.intro hrw hown)))
          have hone : ∀ v ∈ ([.bool false, .int .i64 ((z1 : Int) - (z2 : Int))] : List Value), v.oneCell' = true := by
            intro v hv
            simp only [List.mem_cons, List.not_mem_nil, or_false] at hv
            rcases hv with rfl | rfl <;> rfl
          clear hbx6 hbx hrw hown
          gi_wp2_with (gi_at_builtin; refine wpListIn_append_one rfl (.tmp 33) (.tmp 35) 206 213 rfl Try.underlying206 info_uns rfl (by omega) HBX.out.2.2.1 (by omega) [.bool false, .int .i64 ((z1 : Int) - (z2 : Int))] rfl hone rfl rfl ?_; intro oa5 c5 w9 HRX HGX HOX; have hbx9 := BoxRow.still HBX.out.1 HBX.out.2.1 HBX.out.2.2.2 HGX.out; have kb9 : w9.cell? ⟨b3, 0, none⟩ = some (.slice oa3 m c3) := cell_of hbx9 rfl; have kf9 : w9.frozen? ⟨b3, 0, none⟩ = false := free_of hbx9 _; clear hbx9)
          have hu : unsOf xf = [⟨false, z1 - z2⟩] := by unfold unsOf; rw [HU.out]; simp only [Bool.not_true, Bool.or_self, Bool.false_or, if_true]; rw [decide_eq_true (by omega)]; rfl
          refine ⟨(keepsFrom_below2 HB6.out).trans (boxRow_keeps HBX.out.2.2.1 HGX.out _), (But.of HB6.out).join (boxRow_but HBX.out.2.2.2 HGX.out _), ?_⟩
          show UnsI b3 w wa _ (ofs (pre ++ [x]))
          unfold UnsI
          rw [HSN.out, hu, List.length_append, uCells_append, HP.out.2]
          exact BoxRow.step HBX.out.1 HBX.out.2.1 HBX.out.2.2.2 (ys := uCells [⟨false, z1 - z2⟩]) (by have h9 := HRX.out; rw [HSUB.out] at h9; exact h9) HGX.out HOX.out
        · have hd : decide ((0 : Int) < (z1 : Int) - (z2 : Int)) = false := decide_eq_false hpos
          have HE := Lib.hid (HEND0.out _ HB6.out (by unfold unsOf; rw [HU.out]; simp only [Bool.not_true, Bool.or_self, Bool.false_or, if_true]; rw [decide_eq_false (by omega)]; rfl))
          gi_wp2_with fail
          exact HE.out
  case stop =>
    rintro D c0 pre W1 _ h0 hf _
    exact hf.elim
  case done =>
    rintro D xs W1 hD hxs hp hK
    have hxs' : ofs xs = d.files := hxs
    rw [hxs'] at hp
    obtain ⟨m, hm⟩ : ∃ m, (unsT d.files).length = m := ⟨_, rfl⟩
    have hp2 : BoxRow 213 206 2 b3 wa.heap.size w W1 m (uCells (unsT d.files)) := by rw [← hm]; exact hp
    obtain ⟨oa3, c3, hbx, hrw, hown⟩ := hp2.box
    have k3 : W1.cell? ⟨b3, 0, none⟩ = some (.slice oa3 m c3) := cell_of hbx rfl
    have HR := Lib.hid (And.intro hrw (And.intro hp2 (And.intro hm hK)))
    have HOW : Hid (∀ k, (Value.slice oa3 m c3).ownBlock = some k → w.heap.size ≤ k) := Lib.hid (fun k hk => by have := hown k hk; have := HLT.out; omega)
    clear hbx hrw hown hp hp2 hK hst hxs hxs'
    gi_wp2_with fail
    have hg := grownBy_putObj' W1 D (.deferred none)
    refine ⟨by simp, .inl ⟨_, _, rfl, run_takeDeferred HR.out.2.2.2, ?_⟩⟩
    refine ⟨.slice oa3 m c3, by simp [results, Try.results135, go_sem], oa3, m, c3, rfl, hm, ?_, ?_, HOW.out⟩
    · refine HR.out.1.kept (fun k hk => hg.block k (HR.out.1.lt k hk) (fun e => ?_))
      simp only [Option.some.injEq] at e
      subst e
      rcases HR.out.1.2 with ⟨hv, _⟩ | ⟨g, off, cap, cur, fr, hv, hgg, _⟩
      · rw [hv] at hk
        simp [Value.ownBlock] at hk
      · rw [hv] at hk
        simp only [Value.ownBlock, Option.some.injEq] at hk
        rw [hk, HR.out.2.2.2] at hgg
        cases hgg
    · have hb := HR.out.2.1.below
      rw [HW1.out.2] at hb
      exact hb.grown hg hb.size (fun k e => by
        simp only [Option.some.injEq] at e
        have := HLT.out
        omega)
theorem sall_b {w : World} {S : Nat → Prop} {q : Nat} {d : Dk} (h : DiskAt w S q d) :
    Calls Try.prog 135 #[.pointer (some ⟨q, 0, none⟩)] w fun e w' => ∃ oa n c, e = .returned (.slice oa n c) ∧ (unsT d.files).length = n ∧ rowAt w' 213 2 (.slice oa n c) n (uCells (unsT d.files)) ∧ Below w.heap.size w w' :=
  (sall_new h).mono (fun _ _ ⟨oa, n, c, h1, h2, h3, h4, _⟩ => ⟨oa, n, c, h1, h2, h3, h4⟩)
end Go.Proofs.Ytmkjejngnahpeaa
/- stops: are the picks right; the next pick (printed by genjf.py). -/
namespace Go.Proofs.Ytmkjejngnahpeaa
open Go Go.Maps Go.RowKit

set_option maxHeartbeats 400000 in
theorem rneg_b (x : Int) (w : World) : Calls Try.prog 165 #[.int .i64 x] w fun e w' => e = .returned (.bool (decide (x < 0))) ∧ w' = w := by
  go_enter Try.func165, Try.ntmps165
  go_wp2_with fail
  go_ret
  exact ⟨rfl, rfl⟩
set_option maxRecDepth 100000 in
set_option maxHeartbeats 400000 in
theorem rindexInt_b {w : World} {oa : Option Addr} {n c : Nat} {ps : List Int} (hn : ps.length = n) (h : readAt w 1 (.slice oa n c) n (intCells ps)) (hm : n ≤ 1000000000) :
    Calls Try.prog 158 #[.slice oa n c, .func (.func 165) #[] #[]] w fun e w' => ∃ i : Int, e = .returned (.int .i64 i) ∧ (AllGe ps → i = -1) ∧ (¬ AllGe ps → 0 ≤ i) ∧ w' = w := by
  have H := Lib.hid h
  clear h
  go_enter Try.func158, Try.ntmps158
  go_wp2_with fail
  go_loop [8] (fun i => ∃ k : Nat, k ≤ n ∧ i = .int .i64 k ∧ AllGe (ps.take k)) (fun i => n - (intOf i).toNat)
  case atStart => exact ⟨0, Nat.zero_le _, rfl, fun x hx => by simp at hx⟩
  case round =>
    obtain ⟨k, hk, rfl, hge⟩ := hrel
    by_cases hlt : k < n
    · obtain ⟨g, off, rfl⟩ := H.out.addr (by omega)
      obtain ⟨x, hx⟩ : ∃ x, ps[k]'(by omega) = x := ⟨_, rfl⟩
      have hcx : w.cell? ⟨g, off + k, none⟩ = some (.int .i64 x) := by
        have h1 := H.out.cells (g := g) (off := off) rfl k (.int .i64 x) (by simp [intCells, ← hx])
        simpa [Go.WideShapes.add_plain] using h1
      have HX : Hid (0 ≤ x → AllGe (ps.take (k + 1))) := Lib.hid fun h0 => AllGe.snoc (by omega) hge (by rw [hx]; exact h0)
      have HY : Hid (x < 0 → ¬ AllGe ps) := Lib.hid fun h0 ha => by
        have := ha x (by rw [← hx]; exact List.getElem_mem _)
        omega
      clear hge hx
      by_cases h0 : x < 0
      · go_wp2_with (go_at_call 165; refine (rneg_b _ _).mono ?_; rintro e w' ⟨rfl, rfl⟩)
        go_ret
        exact ⟨_, rfl, fun ha => absurd ha (HY.out h0), fun _ => by omega, rfl⟩
      · go_wp2_with (go_at_call 165; refine (rneg_b _ _).mono ?_; rintro e w' ⟨rfl, rfl⟩)
        exact ⟨⟨k + 1, by omega, by simp, HX.out (by omega)⟩, by simp [intOf]; omega⟩
    · obtain rfl : k = n := by omega
      have HA : Hid (AllGe ps) := Lib.hid (by rwa [List.take_of_length_le (by omega)] at hge)
      clear hge
      go_wp2_with fail
      go_ret
      exact ⟨_, rfl, fun _ => rfl, fun h => absurd HA.out h, rfl⟩
set_option maxHeartbeats 400000 in
theorem rcontainsInt_b {w : World} {oa : Option Addr} {n c : Nat} {ps : List Int} (hn : ps.length = n) (h : readAt w 1 (.slice oa n c) n (intCells ps)) (hm : n ≤ 1000000000) :
    Calls Try.prog 109 #[.slice oa n c, .func (.func 165) #[] #[]] w fun e w' => ∃ b : Bool, e = .returned (.bool b) ∧ (b = false ↔ AllGe ps) ∧ w' = w := by
  go_enter Try.func109, Try.ntmps109
  go_wp2_with fail
  refine (rindexInt_b hn h hm).mono ?_
  rintro e w' ⟨i, rfl, h1, h2, rfl⟩
  obtain ⟨b, hb⟩ : ∃ b, decide ((0 : Int) ≤ i) = b := ⟨_, rfl⟩
  have HB : Hid (b = false ↔ AllGe ps) := Lib.hid (by
    rw [← hb]
    constructor
    · intro h3
      refine Classical.byContradiction fun h4 => ?_
      have := h2 h4
      simp at h3
      omega
    · intro h3
      have := h1 h3
      simp
      omega)
  clear h h1 h2
  go_wp2_with fail
  go_ret
  exact ⟨_, rfl, HB.out, rfl⟩
set_option maxRecDepth 100000 in
set_option maxHeartbeats 400000 in
/-- of a disk that is there, picks that may be -/
theorem sright_b {w : World} {S : Nat → Prop} {q : Nat} {d : Dk} (h : DiskAt w S q d) (hfm : d.fates.length ≤ 1000000000) {oa : Option Addr} {n c : Nat} {ps : List Int} (hn : ps.length = n) (hp : readAt w 1 (.slice oa n c) n (intCells ps)) (hm : n ≤ 1000000000) :
    Calls Try.prog 136 #[.pointer (some ⟨q, 0, none⟩), .agg #[.slice oa n c]] w fun e w' => ∃ er : Int, e = .returned (.int .i64 er) ∧ (AllGe ps → er = 0) ∧ (¬ AllGe ps → er = 2) ∧ Below w.heap.size w w' := by
  obtain ⟨w1, hw1⟩ : ∃ W : World, W = w.alloc (.cells #[.slice oa n c] 72) := ⟨_, rfl⟩
  obtain ⟨b3, hb3⟩ : ∃ b, b = w.heap.size := ⟨_, rfl⟩
  have h1 : w1.heap[b3]? = some (.cells #[.slice oa n c] 72 (0, 0)) := by rw [hw1, hb3]; exact alloc_cells _ _ _
  have hb1 : Below w.heap.size w w1 := by rw [hw1]; exact (Below.refl _ _).alloc (Nat.le_refl _) _
  have H := Lib.hid (And.intro (h.below hb1) (And.intro h1 hb1))
  have HP := Lib.hid (hp.kept (fun k hk _ _ => hb1.block k hk))
  clear h hp hb1 h1
  go_enter Try.func136, Try.ntmps136
  go_upto_region 1 with fail
  rw [← hw1, ← hb3]
  clear hw1 hb3
  go_wp2_with fail
  refine (snone_b H.out.1 hfm).mono ?_
  rintro e w2 ⟨rfl, hb2⟩
  have c0 : w2.cell? ⟨b3, 0, none⟩ = some (.slice oa n c) := cell_of ((hb2.block b3 (Array.getElem?_eq_some_iff.1 H.out.2.1).1).trans H.out.2.1) rfl
  have HB := Lib.hid (H.out.2.2.trans (hb2.mono H.out.2.2.size))
  have HP2 := Lib.hid (HP.out.kept (fun k hk _ _ => hb2.block k hk))
  clear hb2
  go_wp2_with fail
  refine (rcontainsInt_b hn HP2.out hm).mono ?_
  rintro e w3 ⟨b, rfl, hiff, hw3⟩
  obtain rfl := hw3.symm
  cases b
  · have HI : Hid (AllGe ps) := Lib.hid (hiff.1 rfl)
    clear hiff
    go_wp2_with fail
    go_ret
    exact ⟨0, rfl, fun _ => rfl, fun h => absurd HI.out h, HB.out⟩
  · have HI : Hid (¬ AllGe ps) := Lib.hid (fun h => by have := hiff.2 h; cases this)
    clear hiff
    go_wp2_with fail
    go_ret
    exact ⟨2, rfl, fun h => absurd h HI.out, fun _ => rfl, HB.out⟩
set_option maxRecDepth 100000 in
set_option maxHeartbeats 400000 in
theorem sright_nil {w : World} {pp : Option Addr} (h : IsNone w pp) (v : Value) (hv : ∃ oa n c, v = .slice oa n c) : Calls Try.prog 136 #[.pointer pp, .agg #[v]] w fun e w' => e = .returned (.int .i64 1) ∧ Below w.heap.size w w' := by
  obtain ⟨oa, n, c, rfl⟩ := hv
  obtain ⟨w1, hw1⟩ : ∃ W : World, W = w.alloc (.cells #[.slice oa n c] 72) := ⟨_, rfl⟩
  have hb1 : Below w.heap.size w w1 := by rw [hw1]; exact (Below.refl _ _).alloc (Nat.le_refl _) _
  have H := Lib.hid (And.intro (h.below hb1) hb1)
  clear h hb1
  go_enter Try.func136, Try.ntmps136
  go_upto_region 1 with fail
  rw [← hw1]
  clear hw1
  go_wp2_with fail
  refine (snone_nil H.out.1).mono ?_
  rintro e w2 ⟨rfl, rfl⟩
  go_wp2_with fail
  go_ret
  exact ⟨rfl, H.out.2⟩
/-- blocks of other types stand as they stood -/
def KeepT (ts : List TypeId) (W W' : World) : Prop := ∀ (k : Nat) (cs : Array Value) (t : TypeId) (fr : Nat × Nat), W.heap[k]? = some (.cells cs t fr) → t ∉ ts → W'.heap[k]? = W.heap[k]?
theorem KeepT.refl (ts : List TypeId) (W : World) : KeepT ts W W := fun _ _ _ _ _ _ => rfl
theorem KeepT.trans {ts : List TypeId} {A B C : World} (h : KeepT ts A B) (k : KeepT ts B C) : KeepT ts A C := fun j cs t fr hj ht => by
  have h1 := h j cs t fr hj ht
  exact (k j cs t fr (h1.trans hj) ht).trans h1
theorem KeepT.of {ts : List TypeId} {A B : World} (h : Below A.heap.size A B) : KeepT ts A B := fun j _ _ _ hj _ => h.block j (Array.getElem?_eq_some_iff.1 hj).1
theorem KeepT.set {ts : List TypeId} {W : World} {b i : Nat} {cs : Array Value} {t : TypeId} {fr : Nat × Nat} (h : W.heap[b]? = some (.cells cs t fr)) (ht : t ∈ ts) (v : Value) : KeepT ts W (W.setCell ⟨b, i, none⟩ v) := fun j cs' t' fr' hj ht' =>
  Below.heap_setCell _ _ _ _ (fun e => by
    dsimp only at e
    subst e
    rw [h] at hj
    simp only [Option.some.injEq, Obj.cells.injEq] at hj
    rw [hj.2.1] at ht
    exact ht' ht)
theorem KeepT.grown {ts : List TypeId} {W W' : World} {e : TypeId} {size m : Nat} {v : Value} {xs : List Value} (hr : rowAt W e size v m xs) (he : e ∈ ts) (hg : W.grownBy W' v.ownBlock) : KeepT ts W W' := fun j cs t fr hj ht =>
  hg.block j (Array.getElem?_eq_some_iff.1 hj).1 (fun e' => by
    have := row_type hr e'.symm hj
    rw [this] at he
    exact ht he)
/-- block b holds a row that lies in blocks from lo on -/
def HoldRow (e t : TypeId) (size b lo : Nat) (W : World) (m : Nat) (xs : List Value) : Prop :=
  ∃ oa c, W.heap[b]? = some (.cells #[.slice oa m c] t (0, 0)) ∧ rowAt W e size (.slice oa m c) m xs ∧ ∀ k, (Value.slice oa m c).ownBlock = some k → lo ≤ k
theorem HoldRow.kept {e t : TypeId} {size b lo m : Nat} {W W' : World} {xs : List Value} (h : HoldRow e t size b lo W m xs) (hb : Below W.heap.size W W') : HoldRow e t size b lo W' m xs := by
  obtain ⟨oa, c, h1, h2, h3⟩ := h
  exact ⟨oa, c, (hb.block _ (Array.getElem?_eq_some_iff.1 h1).1).trans h1, h2.kept (fun k hk => hb.block k (h2.lt k hk)), h3⟩
theorem wpList_append_one {w2 : World} {ops : Array Oper} {rest : List Oper} {o : Oper} {a : Act} {Q : Exit → Act → World → Prop} (hgd : o.guard = none) (s x : Operand) (t e : TypeId)
    (ho : o.op = .call { callee := .builtin .append, args := #[s, x], argTypes := #[t, t] }) {z : Value} {size bytes : Nat} (ht : Try.prog.underlying t = some (.slice e)) (hinfo : (Try.prog.info? e).map (fun i => (i.zero, i.size, i.bytes)) = some (some z, size, bytes)) (hzs : z.cells.size = size) (hby : bytes ≤ 1000)
    {oa : Option Addr} {m c : Nat} {xs : List Value} (h : rowAt w2 e size (.slice oa m c) m xs) (hm : m ≤ 1000000) (ys : List Value) (hy : ys.length = size) (h1 : ∀ v ∈ ys, v.oneCell' = true)
    (hs : a.eval s = .slice oa m c) (hx : a.eval x = .slice (some ⟨w2.heap.size, 0, none⟩) 1 1)
    (hK : ∀ oa3 c3 w3, Hid (rowAt w3 e size (.slice oa3 (m + 1) c3) (m + 1) (xs ++ ys)) → Hid ((w2.alloc (.cells ys.toArray e)).grownBy w3 (Value.slice oa m c).ownBlock) →
      Hid ((Value.slice oa3 (m + 1) c3).ownBlock = (Value.slice oa m c).ownBlock ∨ (Value.slice oa3 (m + 1) c3).ownBlock = some (w2.heap.size + 1)) → wpList Try.prog ops Q rest (a.put o.dst (.slice oa3 (m + 1) c3)) w3) :
    wpList Try.prog ops Q (o :: rest) a (w2.alloc (.cells ys.toArray e)) := by
  refine wpList_append_at _ hgd s x t t ho e z size bytes ht hinfo hzs _ m xs hs (h.kept (fun k hk => Below.heap_alloc _ _ k (h.lt k hk))) _ 1 _ hx (Src.of_row ht (one_row w2 e size ys hy) h1) (by unfold maxLen; omega) (by
    have h2 : (m + 1) * bytes ≤ (m + 1) * 1000 := Nat.mul_le_mul_left _ hby
    omega) ?_
  intro v' w3 hr hg hown _
  obtain ⟨oa3, c3, rfl, _⟩ := hr.shape
  exact hK oa3 c3 w3 (Lib.hid hr) (Lib.hid hg) (Lib.hid (by simpa using hown))
/-- the box's row is one longer, as it is stored -/
theorem HoldRow.store {e t : TypeId} {size b lo m : Nat} {W w3 : World} {xs ys : List Value} {oa oa3 : Option Addr} {c c3 : Nat} {o : Obj} (hlo : lo ≤ W.heap.size) (hbl : b < lo) (hbx : W.heap[b]? = some (.cells #[.slice oa m c] t (0, 0)))
    (hown : ∀ k, (Value.slice oa m c).ownBlock = some k → lo ≤ k)
    (hr : rowAt w3 e size (.slice oa3 (m + 1) c3) (m + 1) (xs ++ ys)) (hg : (W.alloc o).grownBy w3 (Value.slice oa m c).ownBlock)
    (hw : (Value.slice oa3 (m + 1) c3).ownBlock = (Value.slice oa m c).ownBlock ∨ (Value.slice oa3 (m + 1) c3).ownBlock = some (W.heap.size + 1)) :
    w3.heap[b]? = some (.cells #[.slice oa m c] t (0, 0)) ∧ HoldRow e t size b lo (w3.setCell ⟨b, 0, none⟩ (.slice oa3 (m + 1) c3)) (m + 1) (xs ++ ys) := by
  have hsz := (Array.getElem?_eq_some_iff.1 hbx).1
  have hnew : ∀ k, (Value.slice oa3 (m + 1) c3).ownBlock = some k → lo ≤ k := fun k hk => by
    rcases hw with h1 | h1
    · exact hown k (by rw [← h1]; exact hk)
    · rw [hk] at h1
      simp only [Option.some.injEq] at h1
      omega
  have hb3 : w3.heap[b]? = some (.cells #[.slice oa m c] t (0, 0)) := (hg.block _ (by simp; omega) (fun e => by have := hown _ e.symm; omega)).trans ((Below.heap_alloc _ _ _ hsz).trans hbx)
  exact ⟨hb3, oa3, c3, heap_setCell_here _ hb3, hr.kept (fun k hk => Below.heap_setCell _ _ _ _ (fun e => by have := hnew k hk; dsimp only at e; omega)), hnew⟩
end Go.Proofs.Ytmkjejngnahpeaa
/- stops: the next pick, told and kept (printed by genjg.py). -/
namespace Go.Proofs.Ytmkjejngnahpeaa
open Go Go.Maps Go.RowKit

def natCells (l : List Nat) : List Value := l.map fun (x : Nat) => .int .i64 (x : Int)
theorem natCells_append (a b : List Nat) : natCells (a ++ b) = natCells a ++ natCells b := by simp [natCells]
theorem info_int : (Try.prog.info? 3).map (fun i => (i.zero, i.size, i.bytes)) = some (some (.int .i64 0), 1, 8) := by kernel_rfl
theorem info_i64 : (Try.prog.info? 2).map (fun i => (i.zero, i.size, i.bytes)) = some (some (.int .i64 0), 1, 8) := by kernel_rfl
/-- what the next pick leaves -/
structure PnIs (W : World) (b3 b4 Z lo m : Nat) (p : Nat) (rest : List Int) (out : List Nat) (e : Ending) (W' : World) : Prop where
  ret : e = .returned (.int .i64 p)
  picks : PicksAt W' b3 Z rest
  out : HoldRow 3 32 1 b4 lo W' (m + 1) (natCells (out ++ [p]))
  keep : KeepT [32, 3] W W'
  below : Below Z W W'
  size : W.heap.size ≤ W'.heap.size
theorem pn_done {W w1 w9 : World} {b3 b4 Z lo m p : Nat} {rest : List Int} {out : List Nat} {oa oa3 : Option Addr} {c c3 : Nat} (hP : PicksAt w1 b3 Z rest) (hk : KeepT [32, 3] W w1) (hb : Below Z W w1) (hne : b3 ≠ b4) (hz4 : Z ≤ b4) (hb3 : b3 < lo) (hb4 : b4 < lo) (hlo : lo ≤ w1.heap.size)
    (hbx : w1.heap[b4]? = some (.cells #[.slice oa m c] 32 (0, 0))) (hrw : rowAt w1 3 1 (.slice oa m c) m (natCells out)) (hown : ∀ k, (Value.slice oa m c).ownBlock = some k → lo ≤ k)
    (hr : rowAt w9 3 1 (.slice oa3 (m + 1) c3) (m + 1) (natCells out ++ [.int .i64 p])) (hg : (w1.alloc (.cells [.int .i64 p].toArray 3)).grownBy w9 (Value.slice oa m c).ownBlock)
    (hw : (Value.slice oa3 (m + 1) c3).ownBlock = (Value.slice oa m c).ownBlock ∨ (Value.slice oa3 (m + 1) c3).ownBlock = some (w1.heap.size + 1)) :
    PnIs W b3 b4 Z lo m p rest out (.returned (.int .i64 p)) (w9.setCell ⟨b4, 0, none⟩ (.slice oa3 (m + 1) c3)) := by
  obtain ⟨h9, hst⟩ := HoldRow.store hlo hb4 hbx hown hr hg hw
  have hal : Below w1.heap.size w1 (w1.alloc (.cells [.int .i64 p].toArray 3)) := (Below.refl _ _).alloc (Nat.le_refl _) _
  have hrw1 : rowAt (w1.alloc (.cells [.int .i64 p].toArray 3)) 3 1 (.slice oa m c) m (natCells out) := hrw.kept (fun k hk => hal.block k (hrw.lt k hk))
  have hsz9 := hg.size
  have hsz1 := hal.size
  have hszs := (only_setCell (fun _ => True) w9 b4 0 (.slice oa3 (m + 1) c3) trivial).size
  have hb49 : Below Z w1 (w9.setCell ⟨b4, 0, none⟩ (.slice oa3 (m + 1) c3)) := ((hal.mono (by omega)).grown hg (by omega) (fun k e => by have := hown k e; omega)).setCell (p := ⟨b4, 0, none⟩) hz4 _
  have hkeep : ∀ k, k = b3 ∨ k < Z → (w9.setCell ⟨b4, 0, none⟩ (.slice oa3 (m + 1) c3)).heap[k]? = w1.heap[k]? := fun k hk => by
    rcases hk with rfl | hk
    · obtain ⟨o1, c1, hq, _⟩ := hP
      have hlt := (Array.getElem?_eq_some_iff.1 hq).1
      refine (Below.heap_setCell _ _ _ _ (fun e => hne e)).trans ((hg.block k (by omega) (fun e => by have := hown k e.symm; omega)).trans (hal.block k hlt))
    · exact hb49.block k hk
  refine ⟨rfl, hP.kept hkeep, ?_, ?_, hb.trans hb49, ?_⟩
  · rw [natCells_append]
    exact hst
  · exact ((hk.trans (KeepT.of hal)).trans (KeepT.grown hrw1 (by simp) hg)).trans (KeepT.set h9 (by simp) _)
  · have := hb.size
    omega
set_option maxRecDepth 100000 in
set_option maxHeartbeats 1000000 in
theorem pnext_b {W : World} {b3 b4 Z lo m : Nat} {ps : List Int} {out : List Nat} (hP : PicksAt W b3 Z ps) (hR : HoldRow 3 32 1 b4 lo W m (natCells out)) (hne : b3 ≠ b4) (hz3 : Z ≤ b3) (hz4 : Z ≤ b4) (hb3 : b3 < lo) (hb4 : b4 < lo) (hlo : lo ≤ W.heap.size) (hm : m ≤ 1000000)
    (hge : AllGe ps) (of : Nat) (h1 : 0 < of) (h2 : of ≤ 1000000000) (hp : ∀ x ∈ ps, x ≤ 9223372036854775807) {v : Int} (hv : v = (of : Int)) :
    Calls Try.prog 166 #[.int .i64 v, .pointer (some ⟨b3, 0, none⟩), .pointer (some ⟨b4, 0, none⟩)] W fun e W' => PnIs W b3 b4 Z lo m (nextP of ps).1 (nextP of ps).2 out e W' := by
  subst hv
  have HR := Lib.hid hR
  have HPK := Lib.hid hP
  obtain ⟨oa, c, hb, hrow, hneZ⟩ := hP
  obtain ⟨ob, cb, hbx, hrw, hown⟩ := hR
  have hone : ∀ (x : Int), ∀ v ∈ ([.int .i64 x] : List Value), v.oneCell' = true := fun x v hv => by
    rw [List.mem_singleton] at hv
    subst hv
    rfl
  have HONE := Lib.hid hone
  clear hone
  cases ps with
  | nil =>
    have HB := Lib.hid (And.intro hbx (And.intro hrw hown))
    have c0 : W.cell? ⟨b3, 0, none⟩ = some (.slice oa 0 c) := cell_of hb rfl
    have d0 : W.cell? ⟨b4, 0, none⟩ = some (.slice ob m cb) := cell_of hbx rfl
    have y0 : W.frozen? ⟨b4, 0, none⟩ = false := free_of hbx _
    clear hb hrow hneZ hbx hrw hown
    go_enter Try.func166, Try.ntmps166
    go_wp2_with (at_builtin; refine wpList_append_one rfl (.tmp 16) (.tmp 18) 32 3 rfl Try.underlying32 info_int rfl (by omega) HB.out.2.1 (by omega) [.int .i64 0] rfl (HONE.out _) rfl rfl ?_; intro oa5 c5 w9 HRX HGX HOX; have hst := (HoldRow.store hlo hb4 HB.out.1 HB.out.2.2 HRX.out HGX.out HOX.out).1; have kb9 : w9.cell? ⟨b4, 0, none⟩ = some (.slice ob m cb) := cell_of hst rfl; have kf9 : w9.frozen? ⟨b4, 0, none⟩ = false := free_of hst _; clear hst)
    go_ret
    exact pn_done (p := 0) (rest := []) HPK.out (KeepT.refl _ _) (Below.refl _ _) hne hz4 hb3 hb4 hlo HB.out.1 HB.out.2.1 HB.out.2.2 HRX.out HGX.out HOX.out
  | cons p rest =>
    obtain ⟨g, off, rfl⟩ := hrow.addr (by simp)
    have f0 : W.cell? ⟨g, off, none⟩ = some (.int .i64 p) := by
      have := hrow.cells (g := g) (off := off) rfl 0 (.int .i64 p) rfl
      simpa [Go.WideShapes.add_plain] using this
    have hcap : rest.length + 1 ≤ c := hrow.cap
    have hsub := hrow.tail
    obtain ⟨oa', hfv⟩ : ∃ oa' : Option Addr, oa' = if c = 1 then some ⟨g, off, none⟩ else (some (⟨g, off, none⟩ : Addr)).map (·.add (1 * 1)) := ⟨_, rfl⟩
    obtain ⟨c', hc'⟩ : ∃ c', c' = c - 1 := ⟨_, rfl⟩
    have hownp : (Value.slice oa' rest.length c').ownBlock = some g := by rw [hfv]; exact sub_own _ _ _ _ _ _
    obtain ⟨n1, hn1⟩ : ∃ n1, n1 = rest.length + 1 := ⟨_, rfl⟩
    have hsl : ∀ W : World, (Instr.slice 32 (.slice (some ⟨g, off, none⟩) n1 c) (some (.int .i64 1)) none none).run Try.prog W = .ok (.slice oa' rest.length c') W := fun W => by rw [hfv, hn1, hc']; exact run_tailI g off rest.length c W
    have hn2 : (0 : Int) < (n1 : Int) := by omega
    have hn3 : (1 : Int) ≤ (n1 : Int) := by omega
    rw [List.length_cons, ← hn1] at hb
    have c0 : W.cell? ⟨b3, 0, none⟩ = some (.slice (some ⟨g, off, none⟩) n1 c) := cell_of hb rfl
    have z0 : W.frozen? ⟨b3, 0, none⟩ = false := free_of hb _
    have hgb : g ≠ b3 ∧ g < Z := hneZ (by simp) g rfl
    have HSUB : Hid (readAt W 1 (.slice oa' rest.length c') rest.length (intCells rest)) := Lib.hid (by
      rw [hfv, hc']
      exact hsub)
    have hp0 : 0 ≤ p := hge p (by simp)
    obtain ⟨mp, hmp⟩ : ∃ m : Nat, p = (m : Int) := ⟨p.toNat, by omega⟩
    have hmx := hp p (by simp)
    subst hmp
    have HB := Lib.hid (And.intro hb (And.intro hownp (And.intro hgb (hrow.lt (by simp) g rfl))))
    have HX := Lib.hid (And.intro hbx (And.intro hrw hown))
    clear hrow hsub hfv hc' hownp hn1 hb hneZ hcap hge hp hp0 hgb hbx hrw hown
    have hof : (of : Int) ≠ 0 := by omega
    obtain ⟨r, hr⟩ : ∃ r, mp % of = r := ⟨_, rfl⟩
    have hmod : (mp : Int) % (of : Int) = (r : Int) := by rw [← hr]; exact (Int.natCast_emod mp of).symm
    have HRR := Lib.hid hr
    clear hr
    go_enter Try.func166, Try.ntmps166
    go_upto_region 5 with fail
    obtain ⟨w1, hw1⟩ : ∃ w1 : World, w1 = W.setCell ⟨b3, 0, none⟩ (.slice oa' rest.length c') := ⟨_, rfl⟩
    have ho : Only (fun k => k = b3) W w1 := by rw [hw1]; exact only_setCell (fun k => k = b3) W b3 0 _ rfl
    have hb1 : w1.heap[b3]? = some (.cells #[.slice oa' rest.length c'] 32 (0, 0)) := by rw [hw1]; exact heap_setCell_here _ HB.out.1
    have hk1 : KeepT [32, 3] W w1 := by rw [hw1]; exact KeepT.set HB.out.1 (by simp) _
    have hbl1 : Below Z W w1 := by rw [hw1]; exact (Below.refl _ _).setCell (p := ⟨b3, 0, none⟩) hz3 _
    have hP1 : PicksAt w1 b3 Z rest := ⟨oa', c', hb1, HSUB.out.kept (fun k _ hk _ => by
      rw [HB.out.2.1] at hk
      simp only [Option.some.injEq] at hk
      subst hk
      exact ho.block _ HB.out.2.2.2 HB.out.2.2.1.1), fun _ k hk => by
      rw [HB.out.2.1] at hk
      simp only [Option.some.injEq] at hk
      rw [← hk]; exact HB.out.2.2.1⟩
    have hbx1 : w1.heap[b4]? = some (.cells #[.slice ob m cb] 32 (0, 0)) := (ho.block b4 (Array.getElem?_eq_some_iff.1 HX.out.1).1 (fun e => hne e.symm)).trans HX.out.1
    have hrw1 : rowAt w1 3 1 (.slice ob m cb) m (natCells out) := HX.out.2.1.kept (fun k hk => ho.block k (HX.out.2.1.lt k hk) (fun e => by have := HX.out.2.2 k hk; omega))
    have hlo1 : lo ≤ w1.heap.size := Nat.le_trans hlo ho.size
    have d0 : w1.cell? ⟨b4, 0, none⟩ = some (.slice ob m cb) := cell_of hbx1 rfl
    have y0 : w1.frozen? ⟨b4, 0, none⟩ = false := free_of hbx1 _
    have H1 := Lib.hid (And.intro hP1 (And.intro hk1 (And.intro hbl1 (And.intro hbx1 (And.intro hrw1 hlo1)))))
    rw [← hw1]
    clear hw1 ho hb1 hk1 hbl1 hP1 hbx1 hrw1 hlo1 hsl c0 z0 f0
    go_wp2_with (at_builtin; refine wpList_append_one rfl (.tmp 16) (.tmp 18) 32 3 rfl Try.underlying32 info_int rfl (by omega) H1.out.2.2.2.2.1 (by omega) [.int .i64 (r : Int)] rfl (HONE.out _) rfl rfl ?_; intro oa5 c5 w9 HRX HGX HOX; have hst := (HoldRow.store H1.out.2.2.2.2.2 hb4 H1.out.2.2.2.1 HX.out.2.2 HRX.out HGX.out HOX.out).1; have kb9 : w9.cell? ⟨b4, 0, none⟩ = some (.slice ob m cb) := cell_of hst rfl; have kf9 : w9.frozen? ⟨b4, 0, none⟩ = false := free_of hst _; clear hst)
    go_ret
    show PnIs W b3 b4 Z lo m (((mp : Nat) : Int).toNat % of) rest out _ _
    rw [Int.toNat_natCast, HRR.out]
    exact pn_done (p := r) H1.out.1 H1.out.2.1 H1.out.2.2.1 hne hz4 hb3 hb4 H1.out.2.2.2.2.2 H1.out.2.2.2.1 H1.out.2.2.2.2.1 HX.out.2.2 HRX.out HGX.out HOX.out
end Go.Proofs.Ytmkjejngnahpeaa
/- stops: plain: the plain picks, and each file's way. -/
namespace Go.Proofs.Ytmkjejngnahpeaa
open Go Go.Maps Go.RowKit

structure PlS where
  out : List Nat
  ways : List Nat
  ps : List Int
def plainStep (s : PlS) (u : U0) : PlS :=
  if u.name = true then
    if (nextP 2 s.ps).1 = 0 then ⟨s.out ++ [0], s.ways ++ [0], (nextP 2 s.ps).2⟩
    else if 0 < u.more then ⟨s.out ++ [(nextP 2 s.ps).1] ++ [(nextP (u.more + 1) (nextP 2 s.ps).2).1], s.ways ++ [1 + (nextP (u.more + 1) (nextP 2 s.ps).2).1], (nextP (u.more + 1) (nextP 2 s.ps).2).2⟩
    else ⟨s.out ++ [(nextP 2 s.ps).1], s.ways ++ [1], (nextP 2 s.ps).2⟩
  else if 0 < u.more then ⟨s.out ++ [(nextP (u.more + 1) s.ps).1], s.ways ++ [(nextP (u.more + 1) s.ps).1], (nextP (u.more + 1) s.ps).2⟩
  else ⟨s.out, s.ways ++ [0], s.ps⟩
/-- the plain picks, and each file's way -/
def plainT (l : List U0) (ps : List Int) : PlS := l.foldl plainStep ⟨[], [], ps⟩
theorem plainT_succ {l : List U0} {ps : List Int} {j : Nat} (hj : j < l.length) : plainT (l.take (j + 1)) ps = plainStep (plainT (l.take j) ps) l[j] := by
  unfold plainT
  rw [List.take_succ_eq_append_getElem hj, List.foldl_append]
  rfl
theorem plainStep_ok {s : PlS} {u : U0} (h : PicksOk s.ps) : PicksOk (plainStep s u).ps := by
  unfold plainStep
  split
  · split
    · exact nextP_ok _ h
    · split
      · exact nextP_ok _ (nextP_ok _ h)
      · exact nextP_ok _ h
  · split
    · exact nextP_ok _ h
    · exact h
theorem plainStep_len {s : PlS} {u : U0} : (plainStep s u).ways.length = s.ways.length + 1 ∧ (plainStep s u).out.length ≤ s.out.length + 2 := by
  unfold plainStep
  split
  · split
    · simp
    · split <;> simp
  · split <;> simp
theorem plainT_len : ∀ (l : List U0) (s : PlS), (l.foldl plainStep s).ways.length = s.ways.length + l.length ∧ (l.foldl plainStep s).out.length ≤ s.out.length + 2 * l.length
  | [], s => ⟨rfl, Nat.le_refl _⟩
  | u :: r, s => by
    have h1 := plainT_len r (plainStep s u)
    have h2 := plainStep_len (s := s) (u := u)
    rw [List.foldl_cons, List.length_cons]
    omega
structure PlI (w wr : World) (b3 b4 : Nat) (v : Value) (s : PlS) : Prop where
  picks : PicksAt wr b3 w.heap.size s.ps
  out : HoldRow 3 32 1 b4 (w.heap.size + 2) wr s.out.length (natCells s.out)
  ways : rowAt wr 2 1 v s.ways.length (natCells s.ways)
  own : ∀ k, v.ownBlock = some k → w.heap.size + 2 ≤ k
  below : Below w.heap.size w wr
  size : w.heap.size + 2 ≤ wr.heap.size
  ne : b3 ≠ b4
  b3 : w.heap.size ≤ b3 ∧ b3 < w.heap.size + 2
  b4 : w.heap.size ≤ b4 ∧ b4 < w.heap.size + 2
section
variable {w wr W' : World} {b3 b4 : Nat} {v : Value} {s : PlS}
theorem PlI.grown (h : PlI w wr b3 b4 v s) (hb : Below wr.heap.size wr W') : PlI w W' b3 b4 v s :=
  { h with
    picks := h.picks.kept (fun k hk => hb.block k (by
      have h1 := h.b3
      have h2 := h.size
      rcases hk with rfl | hk <;> omega))
    out := h.out.kept hb
    ways := h.ways.kept (fun k hk => hb.block k (h.ways.lt k hk))
    below := h.below.trans (hb.mono (by have := h.size; omega))
    size := Nat.le_trans h.size hb.size }
theorem PlI.pick {p m : Nat} {rest : List Int} {e : Ending} (h : PlI w wr b3 b4 v s) (hm : m = s.out.length) (hp : PnIs wr b3 b4 w.heap.size (w.heap.size + 2) m p rest s.out e W') : PlI w W' b3 b4 v ⟨s.out ++ [p], s.ways, rest⟩ :=
  { h with
    picks := hp.picks
    out := by
      have := hp.out
      rw [hm] at this
      simpa using this
    ways := h.ways.kept (fun k hk => by
      rcases h.ways.2 with ⟨hv, _⟩ | ⟨g, off, cap, cur, fr, hv, hgg, _⟩
      · rw [hv] at hk
        simp [Value.ownBlock] at hk
      · rw [hv] at hk
        simp only [Value.ownBlock, Option.some.injEq] at hk
        subst hk
        exact hp.keep g _ _ _ hgg (by decide))
    below := h.below.trans hp.below
    size := Nat.le_trans h.size hp.size }
theorem PlI.way {w9 : World} {x m : Nat} {oa oa3 : Option Addr} {c c3 : Nat} (h : PlI w wr b3 b4 (.slice oa m c) s) (hm : m = s.ways.length)
    (hr : rowAt w9 2 1 (.slice oa3 (m + 1) c3) (m + 1) (natCells s.ways ++ [.int .i64 x])) (hg : (wr.alloc (.cells [.int .i64 x].toArray 2)).grownBy w9 (Value.slice oa m c).ownBlock)
    (hw : (Value.slice oa3 (m + 1) c3).ownBlock = (Value.slice oa m c).ownBlock ∨ (Value.slice oa3 (m + 1) c3).ownBlock = some (wr.heap.size + 1)) : PlI w w9 b3 b4 (.slice oa3 (m + 1) c3) ⟨s.out, s.ways ++ [x], s.ps⟩ := by
  have h1 := h.grown (W' := wr.alloc (.cells [.int .i64 x].toArray 2)) ((Below.refl _ _).alloc (Nat.le_refl _) _)
  have hbl : Below w.heap.size (wr.alloc (.cells [.int .i64 x].toArray 2)) w9 := (Below.refl _ _).grown hg (by have := h1.size; omega) (fun k e => by have := h.own k e; omega)
  have hrow := h1.ways
  rw [← hm] at hrow
  have hk : KeepT [2] (wr.alloc (.cells [.int .i64 x].toArray 2)) w9 := KeepT.grown hrow (by simp) hg
  have hsz := hg.size
  exact { h1 with
    picks := by
      obtain ⟨o1, c1, hq, hq2, hq3⟩ := h1.picks
      exact ⟨o1, c1, (hk b3 _ _ _ hq (by decide)).trans hq, hq2.kept (fun k hk1 hk2 h0 => hbl.block k (hq3 h0 k hk2).2), hq3⟩
    out := by
      obtain ⟨o1, c1, hq, hq2, hq3⟩ := h1.out
      refine ⟨o1, c1, (hk b4 _ _ _ hq (by decide)).trans hq, hq2.kept (fun k hk1 => ?_), hq3⟩
      rcases hq2.2 with ⟨hv, _⟩ | ⟨g, off, cap, cur, fr, hv, hgg, _⟩
      · rw [hv] at hk1
        simp [Value.ownBlock] at hk1
      · rw [hv] at hk1
        simp only [Value.ownBlock, Option.some.injEq] at hk1
        subst hk1
        exact hk g _ _ _ hgg (by decide)
    ways := by
      rw [natCells_append]
      have : (s.ways ++ [x]).length = m + 1 := by simp [hm]
      rw [this]
      exact hr
    own := fun k hk1 => by
      rcases hw with e | e
      · exact h.own k (by rw [← e]; exact hk1)
      · rw [hk1] at e
        simp only [Option.some.injEq] at e
        have := h.size
        omega
    below := h1.below.trans hbl
    size := Nat.le_trans h1.size hsz }
end
set_option maxRecDepth 100000 in
set_option maxHeartbeats 4000000 in
theorem plain_b {w : World} {oa : Option Addr} {n c : Nat} {l : List U0} (hn : l.length = n) (h : readAt w 2 (.slice oa n c) n (uCells l)) (hm : n ≤ 4096) (hsm : ∀ u ∈ l, u.more ≤ 16777216)
    {op : Option Addr} {np cp : Nat} {ps : List Int} (hnp : ps.length = np) (hp : readAt w 1 (.slice op np cp) np (intCells ps)) (hok : PicksOk ps) :
    Calls Try.prog 137 #[.slice oa n c, .slice op np cp] w fun e w' => ∃ o1 m1 c1 o2 m2 c2, e = .returned (.tuple #[.slice o1 m1 c1, .slice o2 m2 c2]) ∧ (plainT l ps).out.length = m1 ∧ (plainT l ps).ways.length = m2 ∧ readAt w' 1 (.slice o1 m1 c1) m1 (natCells (plainT l ps).out) ∧ readAt w' 1 (.slice o2 m2 c2) m2 (natCells (plainT l ps).ways) ∧ Below w.heap.size w w' := by
  have HR := Lib.hid h
  have HN := Lib.hid hn
  have HS := Lib.hid hsm
  have hone : ∀ (x : Int), ∀ v ∈ ([.int .i64 x] : List Value), v.oneCell' = true := fun x v hv => by
    rw [List.mem_singleton] at hv
    subst hv
    rfl
  have HONE := Lib.hid hone
  obtain ⟨w2, hw2⟩ : ∃ W : World, W = (w.alloc (.cells #[.slice op np cp] 32)).alloc (.cells #[.slice none 0 0] 32) := ⟨_, rfl⟩
  obtain ⟨b3, hb3⟩ : ∃ b, b = w.heap.size := ⟨_, rfl⟩
  obtain ⟨b4, hb4⟩ : ∃ b, b = w.heap.size + 1 := ⟨_, rfl⟩
  have hs2 : w2.heap.size = w.heap.size + 2 := by rw [hw2]; simp
  have hbl2 : Below w.heap.size w w2 := by rw [hw2]; exact ((Below.refl _ _).alloc (Nat.le_refl _) _).alloc (by simp) _
  have h3 : w2.heap[b3]? = some (.cells #[.slice op np cp] 32 (0, 0)) := by
    rw [hw2, hb3]
    exact (Below.heap_alloc _ _ _ (by simp)).trans (alloc_cells _ _ _)
  have h4 : w2.heap[b4]? = some (.cells #[.slice none 0 0] 32 (0, 0)) := by
    rw [hw2, hb4]
    have := alloc_cells (w.alloc (.cells #[.slice op np cp] 32)) #[.slice none 0 0] 32
    rwa [World.size_alloc] at this
  have hI0 : PlI w w2 b3 b4 (.slice none 0 0) ⟨[], [], ps⟩ :=
    { picks := ⟨op, cp, by rw [hnp]; exact h3, by rw [hnp]; exact hp.kept (fun k hk _ _ => hbl2.block k hk), fun h0 k hk => by
        rw [hnp] at hk h0
        have := hp.lt h0 k hk
        exact ⟨by omega, this⟩⟩
      out := ⟨none, 0, h4, ⟨rfl, .inl ⟨rfl, rfl⟩⟩, fun k hk => by simp [Value.ownBlock] at hk⟩
      ways := ⟨rfl, .inl ⟨rfl, rfl⟩⟩
      own := fun k hk => by simp [Value.ownBlock] at hk
      below := hbl2
      size := by omega
      ne := by omega
      b3 := by omega
      b4 := by omega }
  have HI0 := Lib.hid hI0
  have HOK := Lib.hid hok
  clear h hn hsm hone hnp hp hok hI0 h3 h4 hbl2 hs2
  go_enter Try.func137, Try.ntmps137
  go_upto_region 1 with fail
  rw [← hw2, ← hb4, ← hb3]
  clear hw2 hb3 hb4
  go_step3
  go_wp2_with fail
  go_step3
  go_wp2_with fail
  go_loopw [5, 13] (fun sv i wr => ∃ (j mw : Nat) (ow : Option Addr) (cw : Nat), j ≤ n ∧ i = .int .i64 j ∧ sv = .slice ow mw cw ∧ Hid ((plainT (l.take j) ps).ways.length = mw ∧ mw = j) ∧ Hid (PlI w wr b3 b4 (.slice ow mw cw) (plainT (l.take j) ps)) ∧ Hid (PicksOk (plainT (l.take j) ps).ps)) (fun _ i wr => n - (intOf i).toNat)
  case atStart => exact ⟨0, 0, none, 0, Nat.zero_le _, rfl, rfl, Lib.hid ⟨rfl, rfl⟩, HI0, HOK⟩
  case round =>
    obtain ⟨j, mw, ow, cw, hj, rfl, rfl, HM, HI, HP⟩ := hrel
    by_cases hlt : j < n
    · have hjl : j < l.length := by rw [HN.out]; exact hlt
      have hrw : readAt wr 2 (.slice oa n c) n (uCells l) := HR.out.kept (fun k hl _ _ => HI.out.below.block k hl)
      obtain ⟨g, off, rfl⟩ := hrw.addr (by omega)
      obtain ⟨u, hu⟩ : ∃ u, l[j] = u := ⟨_, rfl⟩
      have hum : u.more ≤ 16777216 := HS.out u (by rw [← hu]; exact List.getElem_mem _)
      obtain ⟨ub, hub⟩ : ∃ b, u.name = b := ⟨_, rfl⟩
      obtain ⟨um, humm⟩ : ∃ m, u.more = m := ⟨_, rfl⟩
      have k0 : wr.cell? ⟨g, off + j * 2, none⟩ = some (.bool ub) := us_cell (i := 0) hrw hjl (by omega) (by rw [hu, ← hub]; rfl)
      have k1 : wr.cell? ⟨g, off + j * 2 + 1, none⟩ = some (.int .i64 um) := us_cell (i := 1) hrw hjl (by omega) (by rw [hu, ← humm]; rfl)
      have hue : u = ⟨ub, um⟩ := by rw [← hub, ← humm]
      rw [humm] at hum
      obtain ⟨st, hst⟩ : ∃ st, plainT (l.take j) ps = st := ⟨_, rfl⟩
      have hol : st.out.length ≤ 8192 := by
        have h1 := (plainT_len (l.take j) ⟨[], [], ps⟩).2
        have h2 : plainT (l.take j) ps = (l.take j).foldl plainStep ⟨[], [], ps⟩ := rfl
        rw [← h2, hst, List.length_take] at h1
        simp at h1
        omega
      rw [hst] at HM HI HP
      have HCS : Hid (plainT (l.take (j + 1)) ps = plainStep st ⟨ub, um⟩) := Lib.hid (by rw [plainT_succ hjl, hst, hu, hue])
      have HNX : Hid (PicksOk (plainStep st ⟨ub, um⟩).ps ∧ (plainStep st ⟨ub, um⟩).ways.length = j + 1) := Lib.hid ⟨plainStep_ok HP.out, by rw [plainStep_len.1]; have := HM.out; omega⟩
      have hmw : mw = j := HM.out.2
      subst hmw
      clear hrw hu hue hub humm hst
      go_upto_region 5 with fail
      obtain ⟨w3, hw3⟩ : ∃ W : World, W = wr.alloc (.cells #[.bool ub, .int .i64 um] 213) := ⟨_, rfl⟩
      obtain ⟨b8, hb8⟩ : ∃ b, b = wr.heap.size := ⟨_, rfl⟩
      have h3 : w3.heap[b8]? = some (.cells #[.bool ub, .int .i64 um] 213 (0, 0)) := by rw [hw3, hb8]; exact alloc_cells _ _ _
      have hbl3 : Below wr.heap.size wr w3 := by rw [hw3]; exact (Below.refl _ _).alloc (Nat.le_refl _) _
      have HI3 := Lib.hid (HI.out.grown hbl3)
      have H3 := Lib.hid h3
      have y0 : w3.cell? ⟨b8, 0, none⟩ = some (.bool ub) := cell_of h3 rfl
      have y1 : w3.cell? ⟨b8, 1, none⟩ = some (.int .i64 um) := cell_of h3 rfl
      rw [← hw3, ← hb8]
      clear hw3 hb8 h3 hbl3 k0 k1
      have HEND : Hid (∀ (wx : World) (oy : Option Addr) (cy : Nat), PlI w wx b3 b4 (.slice oy (mw + 1) cy) (plainStep st ⟨ub, um⟩) → ∃ (j' mw' : Nat) (ow' : Option Addr) (cw' : Nat), j' ≤ n ∧ (Value.int .i64 ((mw : Int) + 1)) = .int .i64 j' ∧ (Value.slice oy (mw + 1) cy) = .slice ow' mw' cw' ∧ Hid ((plainT (l.take j') ps).ways.length = mw' ∧ mw' = j') ∧ Hid (PlI w wx b3 b4 (.slice ow' mw' cw') (plainT (l.take j') ps)) ∧ Hid (PicksOk (plainT (l.take j') ps).ps)) := Lib.hid (fun wx oy cy hpl => by
        refine ⟨mw + 1, mw + 1, oy, cy, by omega, by simp, rfl, Lib.hid ⟨by rw [HCS.out]; exact HNX.out.2, rfl⟩, Lib.hid (by rw [HCS.out]; exact hpl), Lib.hid (by rw [HCS.out]; exact HNX.out.1)⟩)
      have HOKP : Hid (AllGe st.ps ∧ ∀ x ∈ st.ps, x ≤ 9223372036854775807) := Lib.hid ⟨fun x hx => (HP.out x hx).1, fun x hx => (HP.out x hx).2⟩
      cases ub
      · by_cases hpos : 0 < um
        · have hd : decide ((0 : Int) < (um : Int)) = true := decide_eq_true (by omega)
          go_wp2_with fail
          refine (pnext_b HI3.out.picks HI3.out.out HI3.out.ne HI3.out.b3.1 HI3.out.b4.1 HI3.out.b3.2 HI3.out.b4.2 HI3.out.size (by omega) HOKP.out.1 (um + 1) (by omega) (by omega) HOKP.out.2 (by omega)).mono ?_
          rintro e w4 hpn
          obtain rfl := hpn.ret
          have hpi := HI3.out.pick rfl hpn
          have hplt := nextP_lt (um + 1) st.ps (by omega)
          obtain ⟨p, hp⟩ : ∃ p, (nextP (um + 1) st.ps).1 = p := ⟨_, rfl⟩
          rw [hp] at hpi hplt ⊢
          have HPI := Lib.hid hpi
          have HPP := Lib.hid hp
          clear hpn hpi hp
          have hwr : rowAt w4 2 1 (.slice ow mw cw) mw (natCells st.ways) := by have h9 := HPI.out.ways; have e9 := HM.out.1; (try dsimp only at h9); rw [e9] at h9; exact h9
          have HWR := Lib.hid hwr
          clear hwr
          go_wp2_with (at_builtin; refine wpList_append_one rfl (.tmp 35) (.tmp 37) 209 2 rfl Try.underlying209 info_i64 rfl (by omega) HWR.out (by omega) [.int .i64 ((p : Int))] rfl (HONE.out _) rfl rfl ?_; intro oa9 c9 w9 HRX HGX HOX)
          have hfin := PlI.way (x := p) HPI.out HM.out.1.symm (by have h9 := HRX.out; exact h9) (by have h9 := HGX.out; exact h9) HOX.out
          have hst : plainStep st ⟨false, um⟩ = ⟨st.out ++ [p], st.ways ++ [p], (nextP (um + 1) st.ps).2⟩ := by unfold plainStep; rw [if_neg (by simp), if_pos hpos, HPP.out]
          rw [← hst] at hfin
          exact ⟨HEND.out _ _ _ hfin, by simp [intOf]; omega⟩
        · have hd : decide ((0 : Int) < (um : Int)) = false := decide_eq_false (by omega)
          have hwr : rowAt w3 2 1 (.slice ow mw cw) mw (natCells st.ways) := by have h9 := HI3.out.ways; have e9 := HM.out.1; (try dsimp only at h9); rw [e9] at h9; exact h9
          have HWR := Lib.hid hwr
          clear hwr
          go_wp2_with (at_builtin; refine wpList_append_one rfl (.tmp 35) (.tmp 37) 209 2 rfl Try.underlying209 info_i64 rfl (by omega) HWR.out (by omega) [.int .i64 (0)] rfl (HONE.out _) rfl rfl ?_; intro oa9 c9 w9 HRX HGX HOX)
          have hfin := PlI.way (x := 0) HI3.out HM.out.1.symm (by have h9 := HRX.out; exact h9) (by have h9 := HGX.out; exact h9) HOX.out
          have hst : plainStep st ⟨false, um⟩ = ⟨st.out, st.ways ++ [0], st.ps⟩ := by unfold plainStep; rw [if_neg (by simp), if_neg hpos]
          rw [← hst] at hfin
          exact ⟨HEND.out _ _ _ hfin, by simp [intOf]; omega⟩
      · go_wp2_with fail
        refine (pnext_b HI3.out.picks HI3.out.out HI3.out.ne HI3.out.b3.1 HI3.out.b4.1 HI3.out.b3.2 HI3.out.b4.2 HI3.out.size (by omega) HOKP.out.1 2 (by omega) (by omega) HOKP.out.2 (by omega)).mono ?_
        rintro e w4 hpn
        obtain rfl := hpn.ret
        have hpi := HI3.out.pick rfl hpn
        have h84 : w4.heap[b8]? = some (.cells #[.bool true, .int .i64 um] 213 (0, 0)) := (hpn.keep b8 _ _ _ H3.out (by decide)).trans H3.out
        have y1' : w4.cell? ⟨b8, 1, none⟩ = some (.int .i64 um) := cell_of h84 rfl
        have hplt := nextP_lt 2 st.ps (by omega)
        have hok2 := nextP_ok 2 HP.out
        obtain ⟨p, hp⟩ : ∃ p, (nextP 2 st.ps).1 = p := ⟨_, rfl⟩
        obtain ⟨r2, hr2⟩ : ∃ r, (nextP 2 st.ps).2 = r := ⟨_, rfl⟩
        rw [hp, hr2] at hpi
        rw [hp] at hplt ⊢
        rw [hr2] at hok2
        have HPI := Lib.hid hpi
        have HPP := Lib.hid (And.intro hp hr2)
        have HOK2 : Hid (AllGe r2 ∧ ∀ x ∈ r2, x ≤ 9223372036854775807) := Lib.hid ⟨fun x hx => (hok2 x hx).1, fun x hx => (hok2 x hx).2⟩
        clear hpn hpi hp hr2 hok2 h84 y0 y1
        by_cases hp0 : p = 0
        · subst hp0
          have hwr : rowAt w4 2 1 (.slice ow mw cw) mw (natCells st.ways) := by have h9 := HPI.out.ways; have e9 := HM.out.1; (try dsimp only at h9); rw [e9] at h9; exact h9
          have HWR := Lib.hid hwr
          clear hwr
          go_wp2_with (at_builtin; refine wpList_append_one rfl (.tmp 22) (.tmp 23) 209 2 rfl Try.underlying209 info_i64 rfl (by omega) HWR.out (by omega) [.int .i64 (0)] rfl (HONE.out _) rfl rfl ?_; intro oa9 c9 w9 HRX HGX HOX)
          have hfin := PlI.way (x := 0) HPI.out HM.out.1.symm (by have h9 := HRX.out; exact h9) (by have h9 := HGX.out; exact h9) HOX.out
          have hst : plainStep st ⟨true, um⟩ = ⟨st.out ++ [0], st.ways ++ [0], r2⟩ := by unfold plainStep; rw [if_pos rfl, if_pos HPP.out.1, HPP.out.2]
          rw [← hst] at hfin
          exact ⟨HEND.out _ _ _ hfin, by simp [intOf]; omega⟩
        · have hpe : ((p : Int) == 0) = false := by simp; omega
          have hol2 : (st.out ++ [p]).length ≤ 1000000 := by simp; omega
          by_cases hpos : 0 < um
          · have hd : decide ((0 : Int) < (um : Int)) = true := decide_eq_true (by omega)
            go_wp2_with fail
            refine (pnext_b HPI.out.picks HPI.out.out HPI.out.ne HPI.out.b3.1 HPI.out.b4.1 HPI.out.b3.2 HPI.out.b4.2 HPI.out.size hol2 HOK2.out.1 (um + 1) (by omega) (by omega) HOK2.out.2 (by omega)).mono ?_
            rintro e w5 hpn
            obtain rfl := hpn.ret
            have hpi := HPI.out.pick rfl hpn
            have hplt2 := nextP_lt (um + 1) r2 (by omega)
            obtain ⟨p2, hp2⟩ : ∃ p, (nextP (um + 1) r2).1 = p := ⟨_, rfl⟩
            rw [hp2] at hpi hplt2 ⊢
            have HPI2 := Lib.hid hpi
            have HPP2 := Lib.hid hp2
            clear hpn hpi hp2
            have hwr : rowAt w5 2 1 (.slice ow mw cw) mw (natCells st.ways) := by have h9 := HPI2.out.ways; have e9 := HM.out.1; (try dsimp only at h9); rw [e9] at h9; exact h9
            have HWR := Lib.hid hwr
            clear hwr
            go_wp2_with (at_builtin; refine wpList_append_one rfl (.tmp 35) (.tmp 37) 209 2 rfl Try.underlying209 info_i64 rfl (by omega) HWR.out (by omega) [.int .i64 (1 + (p2 : Int))] rfl (HONE.out _) rfl rfl ?_; intro oa9 c9 w9 HRX HGX HOX)
            have hfin := PlI.way (x := (1 + p2)) HPI2.out HM.out.1.symm (by have h9 := HRX.out; rw [show (1 : Int) + (p2 : Int) = ((1 + p2 : Nat) : Int) by omega] at h9; exact h9) (by have h9 := HGX.out; rw [show (1 : Int) + (p2 : Int) = ((1 + p2 : Nat) : Int) by omega] at h9; exact h9) HOX.out
            have hst : plainStep st ⟨true, um⟩ = ⟨st.out ++ [p] ++ [p2], st.ways ++ [1 + p2], (nextP (um + 1) r2).2⟩ := by unfold plainStep; rw [if_pos rfl, if_neg (by rw [HPP.out.1]; exact hp0), if_pos hpos, HPP.out.2, HPP.out.1, HPP2.out]
            rw [← hst] at hfin
            exact ⟨HEND.out _ _ _ hfin, by simp [intOf]; omega⟩
          · have hd : decide ((0 : Int) < (um : Int)) = false := decide_eq_false (by omega)
            have hwr : rowAt w4 2 1 (.slice ow mw cw) mw (natCells st.ways) := by have h9 := HPI.out.ways; have e9 := HM.out.1; (try dsimp only at h9); rw [e9] at h9; exact h9
            have HWR := Lib.hid hwr
            clear hwr
            go_wp2_with (at_builtin; refine wpList_append_one rfl (.tmp 35) (.tmp 37) 209 2 rfl Try.underlying209 info_i64 rfl (by omega) HWR.out (by omega) [.int .i64 (1)] rfl (HONE.out _) rfl rfl ?_; intro oa9 c9 w9 HRX HGX HOX)
            have hfin := PlI.way (x := 1) HPI.out HM.out.1.symm (by have h9 := HRX.out; exact h9) (by have h9 := HGX.out; exact h9) HOX.out
            have hst : plainStep st ⟨true, um⟩ = ⟨st.out ++ [p], st.ways ++ [1], r2⟩ := by unfold plainStep; rw [if_pos rfl, if_neg (by rw [HPP.out.1]; exact hp0), if_neg hpos, HPP.out.2, HPP.out.1]
            rw [← hst] at hfin
            exact ⟨HEND.out _ _ _ hfin, by simp [intOf]; omega⟩
    · obtain rfl : j = n := by omega
      have hpl : plainT (l.take j) ps = plainT l ps := by rw [List.take_of_length_le (by rw [HN.out]; exact Nat.le_refl _)]
      rw [hpl] at HM HI
      obtain ⟨o4, c4, hq, hq2, _⟩ := HI.out.out
      obtain ⟨m4, hm4⟩ : ∃ m, (plainT l ps).out.length = m := ⟨_, rfl⟩
      rw [hm4] at hq hq2
      have d4 : wr.cell? ⟨b4, 0, none⟩ = some (.slice o4 m4 c4) := cell_of hq rfl
      have f4 : wr.frozen? ⟨b4, 0, none⟩ = false := free_of hq _
      have HQ := Lib.hid (And.intro hq (And.intro hq2 hm4))
      clear hq hq2 hm4 hpl
      go_wp2_with fail
      have hq4 : (wr.setCell ⟨b4, 0, none⟩ (.slice o4 m4 c4)).heap[b4]? = some (.cells #[.slice o4 m4 c4] 32 (0, 0)) := heap_setCell_here _ HQ.out.1
      have hrr := cell_of (i := 0) (v := .slice o4 m4 c4) hq4 rfl
      have hoth : ∀ k, k ≠ b4 → (wr.setCell ⟨b4, 0, none⟩ (.slice o4 m4 c4)).heap[k]? = wr.heap[k]? := fun k hk => Below.heap_setCell _ _ _ _ (fun e => hk e)
      rw [Exit.noGoto_ret]
      refine bodyPost_ret (v := .tuple #[.slice o4 m4 c4, .slice ow mw cw]) (by simp [results, Try.results137, go_sem, hrr]) rfl ?_
      have hwy := HI.out.ways
      rw [HM.out.1] at hwy
      refine ⟨o4, m4, c4, ow, mw, cw, rfl, HQ.out.2.2, HM.out.1, (HQ.out.2.1.kept (fun k hk => hoth k (fun e => ?_))).read, (hwy.kept (fun k hk => hoth k (fun e => ?_))).read, HI.out.below.setCell (p := ⟨b4, 0, none⟩) HI.out.b4.1 _⟩
      · rw [e] at hk
        exact absurd (row_type HQ.out.2.1 hk HQ.out.1) (by decide)
      · rw [e] at hk
        exact absurd (row_type hwy hk HQ.out.1) (by decide)
end Go.Proofs.Ytmkjejngnahpeaa
