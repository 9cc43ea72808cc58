/- The texts Jb, Jc, Je, Jd in one. -/
import Derived.Test.YtmkjejngnahpeaaJa
import Derived.Test.YtmkjejngnahpeaaGd
import Derived.Test.YtmkjejngnahpeaaEh
/- stops: is there a disk; a range over a function whose variable is boxed. -/
namespace Go.Proofs.Ytmkjejngnahpeaa
open Go Go.Maps Go.RowKit Go.Shelf

/-- all below n stands as it stood, but for one block -/
abbrev But (b n : Nat) (w w' : World) : Prop := Only (fun k => k = b ∨ n ≤ k) w w'
theorem But.join {b n : Nat} {A B C : World} (h : But b n A B) (k : But b n B C) : But b n A C := Only.trans h k (fun _ _ h => h)
theorem But.of {b n : Nat} {A B : World} (h : Below A.heap.size A B) : But b n A B := Only.of_below h (Nat.le_refl _) _
theorem But.put {b n : Nat} {w : World} (hn : n ≤ w.heap.size) (W : World) (l : Nat) (o o' : Obj) (hl : w.heap.size ≤ l) (_ : W.heap[l]? = some o) (_ : o.isCells = false) (_ : o.isWalk = false) : But b n W (W.putObj l o') :=
  Only.of_grown (grownBy_putObj' W l o') (fun k e => by cases e; exact .inr (by omega))
theorem keepsFrom_below2 {B : Nat} {W W' : World} (h : Below W.heap.size W W') : KeepsFrom B W W' := ⟨h.size, fun k _ _ hk _ => (h.block k (Array.getElem?_eq_some_iff.1 hk).1).trans hk⟩
/-- **A RANGE OVER A FUNCTION WHOSE VARIABLE IS BOXED ANEW IN EACH ROUND** -/
theorem wpIn_rangeFunc_fresh {F : Fence} {n : Nat} {P : Program} {α : Type} {g : Operand} {ps : Array Tmp} {assign body : Code} {Q : Exit → Act → World → Prop} {a : Act} {w : World}
    (hro : F.round = none) (h1 : 1 ≤ n) {gf : Nat} {lb : Array Value} (hg : a.eval g = .func (.func gf) #[] lb) (hFg : F.fn gf) (eg : ∀ args w, (callFunc gf args).run P w = .ok (.enter gf args) w)
    {encs : α → Array Value} {Kp : World → World → Prop} {S Sp : List α → Prop} {N : Nat} {w0 : World} (hseq : SeqStopsK F (n - 1) P gf lb encs Kp S Sp N w0)
    (hKt : ∀ {A B C : World}, Kp A B → Kp B C → Kp A C) (hKb : ∀ (W : World) (l : Nat) (o o' : Obj), w.heap.size ≤ l → W.heap[l]? = some o → o.isCells = false → o.isWalk = false → Kp W (W.putObj l o')) (hKa : ∀ (W : World) (o : Obj), w.heap.size ≤ W.heap.size → Kp W (W.alloc o)) (hb0 : Below w0.heap.size w0 w) (hps : ∀ x, (encs x).size = ps.size)
    (I : List α → World → Prop) (Ix : Code → List α → World → Prop) (hI : OwnFrom w.heap.size I) (hIx : ∀ c, OwnFrom w.heap.size (Ix c)) (h0 : I [] w) (hsz : ∀ pre W, I pre W → w.heap.size ≤ W.heap.size)
    (t : TypeId) (val : α → Array Value) (A : α → Nat → Act)
    (hassign : ∀ (l : Nat) (x : α) (W : World) (K : Act → World → Prop) (B : Nat), B = W.heap.size → K (A x B) (W.alloc (.cells (val x) t)) →
      assign.wpIn (F.inRound l) (n - 1 - 1) P (Exit.then K (fun _ _ _ => False)) { tmps := (ps.zip (encs x)).foldl (fun t (p, v) => t.setIfInBounds p v) a.tmps, defers := [] } W)
    (hbody : ∀ (l : Nat) (pre : List α) (x : α) (B : Nat) (W : World), w.heap.size ≤ l → (∃ r, W.heap[l]? = some (.loop r)) → I pre W → w.heap.size ≤ B → W.heap[B]? = some (.cells (val x) t (0, 0)) → pre.length < N → body.wpIn (F.inRound l) (n - 1 - 1) P (ownPostG w.heap.size Kp I Ix (pre ++ [x]) W) (A x B) W)
    (hdone : ∀ (D : Nat) (xs : List α) (W : World), w.heap.size ≤ D → S xs → I xs W → W.heap[D]? = some (.deferred (some [])) → Q .normal { a with defers := { target := .collected D, args := #[] } :: a.defers } W)
    (hstop : ∀ (D : Nat) (c : Code) (pre : List α) (W : World), w.heap.size ≤ D → Sp pre → Ix c pre W → W.heap[D]? = some (.deferred (some [])) → c.wpIn F n P Q { a with defers := { target := .collected D, args := #[] } :: a.defers } W) :
    (Code.rangeFunc g ps assign body).wpIn F n P Q a w :=
  wpIn_rangeFunc_ownH hro h1 hg hFg eg hseq hKt hKb hb0 hps I Ix hI hIx h0
    (fun x a' W => ∃ B, w.heap.size ≤ B ∧ W.heap[B]? = some (.cells (val x) t (0, 0)) ∧ a' = A x B)
    (fun x a' _ X Y row hs hg hr => by
      obtain ⟨B, e1, e2, e3⟩ := hs
      refine ⟨B, e1, (hg.block B (Array.getElem?_eq_some_iff.1 e2).1 (fun e => ?_)).trans e2, e3⟩
      obtain ⟨_, o, ho, hc⟩ := hr B e.symm
      rw [e2] at ho
      cases ho
      cases hc)
    (fun l pre x W K hi hK => hassign l x W K _ rfl (hK _ _ ((KeepsOthers.alloc _ _).from _) (hKa _ _ (hsz _ _ hi)) (hI.alloc _ hi) ⟨W.heap.size, hsz _ _ hi, alloc_cells _ _ _, rfl⟩))
    (fun l pre x a' W hl hr hi ⟨B, e1, e2, e3⟩ hlen => by subst e3; exact hbody l pre x B W hl hr hi e1 e2 hlen) hdone hstop
set_option maxRecDepth 100000 in
set_option maxHeartbeats 400000 in
theorem snone_b {w : World} {S : Nat → Prop} {q : Nat} {d : Dk} (h : DiskAt w S q d) (hfm : d.fates.length ≤ 1000000000) :
    Calls Try.prog 133 #[.pointer (some ⟨q, 0, none⟩)] w fun e w' => e = .returned (.bool false) ∧ Below w.heap.size w w' := by
  go_enter Try.func133, Try.ntmps133
  go_wp2_with fail
  refine (copy_b h hfm).mono ?_
  rintro e w1 ⟨qo, rfl, hd, hb⟩
  clear hd h
  go_wp2_with fail
  go_ret
  exact ⟨rfl, hb⟩
set_option maxRecDepth 100000 in
set_option maxHeartbeats 400000 in
theorem snone_nil {w : World} {pp : Option Addr} (h : IsNone w pp) : Calls Try.prog 133 #[.pointer pp] w fun e w' => e = .returned (.bool true) ∧ w' = w := by
  cases pp with
  | none =>
    go_enter Try.func133, Try.ntmps133
    go_wp2_with fail
    go_ret
    exact ⟨rfl, rfl⟩
  | some a =>
    go_enter Try.func133, Try.ntmps133
    go_wp2_with fail
    refine (copy_nil h).mono ?_
    rintro e w1 ⟨rfl, rfl⟩
    go_wp2_with fail
    go_ret
    exact ⟨rfl, rfl⟩
end Go.Proofs.Ytmkjejngnahpeaa
/- A row in a box that a range over a function appends to, of any elements. -/
namespace Go.Proofs.Ytmkjejngnahpeaa
open Go Go.Maps Go.RowKit Go.Shelf
attribute [local go_sem] Oper.semAt_some

theorem one_row (w : World) (e : TypeId) (size : Nat) (ys : List Value) (hy : ys.length = size) : rowAt (w.alloc (.cells ys.toArray e)) e size (.slice (some ⟨w.heap.size, 0, none⟩) 1 1) 1 ys :=
  ⟨by simp [hy], .inr ⟨_, 0, 1, _, _, rfl, alloc_cells _ _ _, Nat.le_refl _, by unfold maxLen; omega, by simp [hy], freeRow_zero _, by subst hy; simp⟩⟩
/-- one element is appended to a row, inside a fence -/
theorem wpListIn_append_one {F : Fence} {n : Nat} {w2 : World} {ops : Array Oper} {rest : List Oper} {o : Oper} {a : Act} {Q : Exit → Act → World → Prop} (hgd : o.guard = none) (s x : Operand) (t e : TypeId)
    (ho : o.op = .call { callee := .builtin .append, args := #[s, x], argTypes := #[t, t] }) {z : Value} {size bytes : Nat} (ht : Try.prog.underlying t = some (.slice e)) (hinfo : (Try.prog.info? e).map (fun i => (i.zero, i.size, i.bytes)) = some (some z, size, bytes)) (hzs : z.cells.size = size) (hby : bytes ≤ 1000)
    {oa : Option Addr} {m c : Nat} {xs : List Value} (h : rowAt w2 e size (.slice oa m c) m xs) (hm : m ≤ 1000000) (ys : List Value) (hy : ys.length = size) (h1 : ∀ v ∈ ys, v.oneCell' = true)
    (hs : a.eval s = .slice oa m c) (hx : a.eval x = .slice (some ⟨w2.heap.size, 0, none⟩) 1 1)
    (hK : ∀ oa3 c3 w3, Hid (rowAt w3 e size (.slice oa3 (m + 1) c3) (m + 1) (xs ++ ys)) → Hid ((w2.alloc (.cells ys.toArray e)).grownBy w3 (Value.slice oa m c).ownBlock) →
      Hid ((Value.slice oa3 (m + 1) c3).ownBlock = (Value.slice oa m c).ownBlock ∨ (Value.slice oa3 (m + 1) c3).ownBlock = some (w2.heap.size + 1)) → wpListIn F n Try.prog ops Q rest (a.put o.dst (.slice oa3 (m + 1) c3)) w3) :
    wpListIn F n Try.prog ops Q (o :: rest) a (w2.alloc (.cells ys.toArray e)) := by
  refine wpListIn_plain hgd fun K hK' => ?_
  obtain ⟨i, hi, hz, hsz, hbi⟩ := info_parts hinfo
  obtain ⟨v', w3, hrun, r1, r2, r3, r4⟩ := run_append_at (P := Try.prog) (w2.alloc (.cells ys.toArray e)) t t o.type e i z size bytes ht hi hz hsz hbi hzs _ m xs (h.kept (fun k hk => Below.heap_alloc _ _ k (h.lt k hk))) _ 1 _ (Src.of_row ht (one_row w2 e size ys hy) h1) (by unfold maxLen; omega) (by
    have h2 : (m + 1) * bytes ≤ (m + 1) * 1000 := Nat.mul_le_mul_left _ hby
    omega)
  obtain ⟨oa3, c3, rfl, _⟩ := r1.shape
  unfold Oper.wpIn
  refine ⟨?_, ?_⟩
  · simp [Oper.about, ho, resolve, Target.leads, Sem.run_pure]
  · rw [Oper.semAt_plain F _ _ (by rw [ho]; intro c hc'; cases hc')]
    simp [execOp, ho, resolve, invoke, builtin, hs, hx, hrun, Result.andThen]
    exact hK' _ _ (hK oa3 c3 w3 (Lib.hid r1) (Lib.hid r2) (Lib.hid (by simpa using r3)))
/-- block b holds a row that lies in blocks from lo on; below b all is as in w -/
structure BoxRow (e t : TypeId) (size b lo : Nat) (w W : World) (m : Nat) (xs : List Value) : Prop where
  box : ∃ oa c, W.heap[b]? = some (.cells #[.slice oa m c] t (0, 0)) ∧ rowAt W e size (.slice oa m c) m xs ∧ ∀ k, (Value.slice oa m c).ownBlock = some k → lo ≤ k
  below : Below b w W
  blt : b < lo
  low : lo ≤ W.heap.size
section
variable {e t : TypeId} {size b lo m : Nat} {w W : World} {xs : List Value}
theorem BoxRow.lt (h : BoxRow e t size b lo w W m xs) : b < W.heap.size := Nat.lt_of_lt_of_le h.blt h.low
theorem BoxRow.start (hb : W.heap[b]? = some (.cells #[.slice none 0 0] t (0, 0))) (hw : Below b w W) (hbl : b < lo) (hlo : lo ≤ W.heap.size) : BoxRow e t size b lo w W 0 [] :=
  ⟨⟨none, 0, hb, ⟨by simp, .inl ⟨rfl, rfl⟩⟩, fun k hk => by simp [Value.ownBlock] at hk⟩, hw, hbl, hlo⟩
theorem BoxRow.kept {W' : World} (h : BoxRow e t size b lo w W m xs) (hb : Below W.heap.size W W') : BoxRow e t size b lo w W' m xs := by
  obtain ⟨oa, c, h1, h2, h3⟩ := h.box
  exact ⟨⟨oa, c, (hb.block _ h.lt).trans h1, h2.kept (fun k hk => hb.block k (h2.lt k hk)), h3⟩, h.below.trans (hb.mono (Nat.le_of_lt h.lt)), h.blt, Nat.le_trans h.low hb.size⟩
theorem BoxRow.grown {W' : World} {row : Option Nat} (h : BoxRow e t size b lo w W m xs) (hg : W.grownBy W' row) (hr : ∀ r, row = some r → lo ≤ r ∧ ∃ o : Obj, W.heap[r]? = some o ∧ o.isCells = false) : BoxRow e t size b lo w W' m xs := by
  obtain ⟨oa, c, h1, h2, h3⟩ := h.box
  have hbl := h.blt
  refine ⟨⟨oa, c, (hg.block _ h.lt (fun e => ?_)).trans h1, h2.kept (fun k hk => hg.block k (h2.lt k hk) (fun e => ?_)), h3⟩, h.below.grown hg (Nat.le_of_lt h.lt) (fun k e => by have := (hr k e).1; omega), hbl, Nat.le_trans h.low hg.size⟩
  · have := (hr _ e.symm).1
    omega
  · obtain ⟨_, o, ho, hc⟩ := hr k e.symm
    rcases h2.2 with ⟨hn, _⟩ | ⟨g, off, cap, cur, fr, hv, hgg, _⟩
    · rw [hn] at hk
      simp [Value.ownBlock] at hk
    · rw [hv] at hk
      simp only [Value.ownBlock, Option.some.injEq] at hk
      subst hk
      rw [hgg] at ho
      cases ho
      cases hc
/-- the box stands as it stood, while its row grows -/
theorem BoxRow.still {w3 : World} {oa : Option Addr} {c : Nat} {o : Obj} (h : BoxRow e t size b lo w W m xs) (hbx : W.heap[b]? = some (.cells #[.slice oa m c] t (0, 0)))
    (hown : ∀ k, (Value.slice oa m c).ownBlock = some k → lo ≤ k) (hg : (W.alloc o).grownBy w3 (Value.slice oa m c).ownBlock) : w3.heap[b]? = some (.cells #[.slice oa m c] t (0, 0)) :=
  (hg.block _ (by have := h.lt; simp; omega) (fun e => by have := hown _ e.symm; have := h.blt; omega)).trans ((Below.heap_alloc _ _ _ h.lt).trans hbx)
/-- one element more -/
theorem BoxRow.step {w3 : World} {ys : List Value} {oa oa3 : Option Addr} {c c3 : Nat} {o : Obj} (h : BoxRow e t size b lo w W m xs) (hbx : W.heap[b]? = some (.cells #[.slice oa m c] t (0, 0)))
    (hown : ∀ k, (Value.slice oa m c).ownBlock = some k → lo ≤ k)
    (hr : rowAt w3 e size (.slice oa3 (m + 1) c3) (m + 1) (xs ++ ys)) (hg : (W.alloc o).grownBy w3 (Value.slice oa m c).ownBlock)
    (hw : (Value.slice oa3 (m + 1) c3).ownBlock = (Value.slice oa m c).ownBlock ∨ (Value.slice oa3 (m + 1) c3).ownBlock = some (W.heap.size + 1)) :
    BoxRow e t size b lo w (w3.setCell ⟨b, 0, none⟩ (.slice oa3 (m + 1) c3)) (m + 1) (xs ++ ys) := by
  have hsz := h.lt
  have hbl := h.blt
  have hlw := h.low
  have hnew : ∀ k, (Value.slice oa3 (m + 1) c3).ownBlock = some k → lo ≤ k := fun k hk => by
    rcases hw with h1 | h1
    · exact hown k (by rw [← h1]; exact hk)
    · rw [hk] at h1
      simp only [Option.some.injEq] at h1
      omega
  have hb3 := h.still hbx hown hg
  refine ⟨⟨oa3, c3, heap_setCell_here _ hb3, hr.kept (fun k hk => Below.heap_setCell _ _ _ _ (fun e => by have := hnew k hk; dsimp only at e; omega)), hnew⟩, ?_, hbl, ?_⟩
  · exact ((h.below.alloc (by omega) o).grown hg (by simp; omega) (fun k e => by have := hown k e; omega)).setCell (p := ⟨b, 0, none⟩) (Nat.le_refl _) _
  · have h1 := hg.size
    have h2 := (only_setCell (fun _ => True) w3 b 0 (.slice oa3 (m + 1) c3) trivial).size
    simp at h1
    omega
theorem boxRow_but {w3 : World} {oa : Option Addr} {c : Nat} {o : Obj}
    (hown : ∀ k, (Value.slice oa m c).ownBlock = some k → lo ≤ k) (hg : (W.alloc o).grownBy w3 (Value.slice oa m c).ownBlock) (v : Value) :
    But b lo W (w3.setCell ⟨b, 0, none⟩ v) :=
  ((But.of ((Below.refl _ W).alloc (Nat.le_refl _) o)).join (Only.of_grown hg (fun k e => .inr (hown k e)))).join (only_setCell _ _ _ _ _ (.inl rfl))
theorem boxRow_keeps {w3 : World} {oa : Option Addr} {c B : Nat} {o : Obj} (hr : rowAt W e size (.slice oa m c) m xs)
    (hg : (W.alloc o).grownBy w3 (Value.slice oa m c).ownBlock) (v : Value) : KeepsFrom B W (w3.setCell ⟨b, 0, none⟩ v) := by
  have h1 : KeepsFrom B W w3 := ⟨by have := hg.size; simp at this; omega, fun k o' _ hk ho => by
    have hlt := (Array.getElem?_eq_some_iff.1 hk).1
    refine (hg.block k (by simp; omega) (fun e => ?_)).trans ((Below.heap_alloc _ _ _ hlt).trans hk)
    rcases hr.2 with ⟨hn, _⟩ | ⟨g, off, cap, cur, fr, hv, hgg, _⟩
    · rw [hn] at e
      simp [Value.ownBlock] at e
    · rw [hv] at e
      simp only [Value.ownBlock, Option.some.injEq] at e
      subst e
      rw [hgg] at hk
      cases hk
      cases ho⟩
  exact h1.trans ((KeepsOthers.setCell _ _ _).from _)
end
end Go.Proofs.Ytmkjejngnahpeaa
/- Going over what All tells, while one box below is written. -/
namespace Go.Proofs.Ytmkjejngnahpeaa
open Go Go.Maps Go.RowKit Go.Shelf
open Go.Proofs (encStr)
attribute [local go_sem] Oper.semAt_some

set_option maxRecDepth 100000 in
set_option maxHeartbeats 1000000 in
theorem butIn (F : Fence) (n : Nat) (h7 : F.fn 161) (hro : F.round = none) (hn : 1 ≤ n) (l vb : Nat) (w : World) (fs : List F0) (hsq : SeqAt w vb fs) (b : Nat) (hrb : ∀ v, w.heap[vb]? = some (.cells #[v] 76 (0, 0)) → ∀ k, v.ownBlock = some k → k ≠ b) (hfs : fs.length ≤ 1000000) (J Jx : Nat → World → Prop) (W : World) (hW : Below w.heap.size w W)
    (hJ : AbidesFrom W.heap.size J)
    (hY : ∀ j (hj : j < fs.length) W1, J j W1 → YieldAt F (n - 1) Try.prog l #[fileV fs[j]] W1 fun e W' =>
      (e = .returned (.bool true) ∧ J (j + 1) W' ∧ But b w.heap.size W1 W') ∨ (e = .returned (.bool false) ∧ Jx (j + 1) W')) (h0 : J 0 W) :
    CallsIn F n Try.prog 161 #[.func (.yield l) #[] #[], .pointer (some ⟨vb, 0, none⟩)] W fun e W' => (∃ v, e = .returned v) ∧ (J fs.length W' ∨ ∃ j, Jx j W') := by
  obtain ⟨v, hv, hrow⟩ := hsq
  obtain ⟨oa, c, rfl, hnc⟩ := hrow.shape
  obtain ⟨N, hN⟩ : ∃ N, fs.length = N := ⟨_, rfl⟩
  rw [hN] at hv hrow hnc hfs
  have HRB := Lib.hid (hrb _ hv)
  have cv : W.cell? ⟨vb, 0, none⟩ = some (.slice oa N c) := cell_of ((hW.block vb (Array.getElem?_eq_some_iff.1 hv).1).trans hv) rfl
  have HR := Lib.hid hrow
  have HN := Lib.hid hN
  have HY := Lib.hid hY
  have HJ := Lib.hid hJ
  have HW := Lib.hid hW
  clear hv hrow hN hY hJ hW
  refine callsIn_of_wp Try.func161 rfl h7 ?_ hro
  simp only [Try.ntmps161, List.size_toArray, List.length_cons, List.length_nil, Nat.reduceAdd, Nat.reduceSub, Array.replicate_succ, Array.replicate_zero, List.push_toArray, List.append_toArray, List.nil_append, List.cons_append]
  gi_wp2
  gi_loopw [7] (fun i wr => ∃ j : Nat, j ≤ N ∧ i = .int .i64 j ∧ J j wr ∧ But b w.heap.size w wr ∧ W.heap.size ≤ wr.heap.size) (fun i wr => N - (intOf i).toNat)
  case atStart => exact ⟨0, Nat.zero_le _, rfl, h0, But.of HW.out, Nat.le_refl _⟩
  case round =>
    obtain ⟨j, hj, rfl, hJs, hbw, hWr⟩ := hrel
    by_cases hlt : j < N
    · have hjf : j < fs.length := by rw [HN.out]; exact hlt
      have hrw := HR.out.kept (fun k hk => hbw.block k (HR.out.lt k hk) (fun e => by rcases e with e | e; exact HRB.out k hk e; have := HR.out.lt k hk; omega))
      obtain ⟨g, off, rfl⟩ := hrw.addr (by omega)
      obtain ⟨x, hx⟩ : ∃ x, fs[j] = x := ⟨_, rfl⟩
      have hcell : ∀ i, i < 5 → ∀ u, (fileCells x)[i]? = some u → wr.cell? ⟨g, off + (j * 5 + i), none⟩ = some u := fun i hi u hu => by
        have := hrw.cells (g := g) (off := off) rfl (j * 5 + i) u (by rw [filesCells_get hjf hi, hx, hu])
        simpa [Go.WideShapes.add_plain] using this
      have k0 : wr.cell? ⟨g, off + j * 5, none⟩ = some (encStr x.name) := hcell 0 (by omega) _ rfl
      have k1 : wr.cell? ⟨g, off + j * 5 + 1, none⟩ = some (.int .i64 x.bytes.length) := hcell 1 (by omega) _ rfl
      have k2 : wr.cell? ⟨g, off + j * 5 + 2, none⟩ = some (.int .i64 x.lasts) := hcell 2 (by omega) _ rfl
      have k3 : wr.cell? ⟨g, off + j * 5 + 3, none⟩ = some (.bool x.there) := hcell 3 (by omega) _ rfl
      have k4 : wr.cell? ⟨g, off + j * 5 + 4, none⟩ = some (.bool x.named) := hcell 4 (by omega) _ rfl
      obtain ⟨a0, ha0⟩ : ∃ a : ByteArray, encStr x.name = .string a := ⟨_, rfl⟩
      obtain ⟨a1, ha1⟩ : ∃ a : Int, (x.bytes.length : Int) = a := ⟨_, rfl⟩
      obtain ⟨a2, ha2⟩ : ∃ a : Int, (x.lasts : Int) = a := ⟨_, rfl⟩
      obtain ⟨a3, ha3⟩ : ∃ a, x.there = a := ⟨_, rfl⟩
      obtain ⟨a4, ha4⟩ : ∃ a, x.named = a := ⟨_, rfl⟩
      have HV : Hid (fileV x = .agg #[.string a0, .int .i64 a1, .int .i64 a2, .bool a3, .bool a4]) := Lib.hid (by unfold fileV; rw [ha0, ha1, ha2, ha3, ha4])
      rw [ha0] at k0; rw [ha1] at k1; rw [ha2] at k2; rw [ha3] at k3; rw [ha4] at k4
      have HX := Lib.hid hx
      have HJS := Lib.hid hJs
      have HBW := Lib.hid hbw
      obtain ⟨w2, hw2⟩ : ∃ w2 : World, w2 = wr.alloc (.cells #[.string a0, .int .i64 a1, .int .i64 a2, .bool a3, .bool a4] 78) := ⟨_, rfl⟩
      have hg2 : wr.grownBy w2 none := by rw [hw2]; exact World.grownBy_alloc _ _ _
      have hJ2 : J j w2 := HJ.out j wr w2 none hJs hg2 (fun r e => by cases e)
      obtain ⟨fn, tmps, assign, body, hy, hR⟩ := HY.out j hjf w2 hJ2
      rw [hx, HV.out] at hy
      have HRD := Lib.hid hR
      have HB2 : Hid (But b w.heap.size w w2 ∧ W.heap.size ≤ w2.heap.size) := Lib.hid ⟨hbw.join (But.of (below_grown hg2)), Nat.le_trans hWr hg2.size⟩
      clear hcell hrw hx hJs hbw ha0 ha1 ha2 ha3 ha4 hJ2 hg2 hR HJS
      subst hw2
      gi_wp2
      refine HRD.out.mono ?_
      rintro e W3 (⟨rfl, hJ3, hk3⟩ | ⟨rfl, hJx3⟩)
      · have HJ3 : Hid (J (j + 1) W3) := Lib.hid hJ3
        have HB3 : Hid (But b w.heap.size w W3 ∧ W.heap.size ≤ W3.heap.size) := Lib.hid ⟨HB2.out.1.join hk3, Nat.le_trans HB2.out.2 hk3.size⟩
        clear hJ3 hk3
        gi_wp2
        exact ⟨⟨j + 1, by omega, by simp, HJ3.out, HB3.out.1, HB3.out.2⟩, by simp [intOf]; omega⟩
      · have HX3 : Hid (Jx (j + 1) W3) := Lib.hid hJx3
        clear hJx3
        gi_wp2
        refine bodyPost_ret (results_none rfl _ _ _) rfl ?_
        exact ⟨⟨_, rfl⟩, .inr ⟨j + 1, HX3.out⟩⟩
    · obtain rfl : j = N := by omega
      have HE : Hid (J fs.length wr) := Lib.hid (by rw [HN.out]; exact hJs)
      clear hJs
      gi_wp2
      go_end0
      exact ⟨⟨_, rfl⟩, .inl HE.out⟩
/-- **going over what All tells** -/
theorem told_but (F : Fence) (n : Nat) (h7 : F.fn 161) (hro : F.round = none) (hn : 1 ≤ n) (vb : Nat) (w : World) (fs : List F0) (hsq : SeqAt w vb fs) (b : Nat) (hrb : ∀ v, w.heap[vb]? = some (.cells #[v] 76 (0, 0)) → ∀ k, v.ownBlock = some k → k ≠ b) (hfs : fs.length ≤ 1000000) :
    SeqStopsK F n Try.prog 161 #[.pointer (some ⟨vb, 0, none⟩)] (encOf fs) (But b w.heap.size) (fun ys => ys.map (·.1) = fs) (fun _ => True) fs.length w := fun l J Jx W hW hJ _ hY h0 => by
  have hlen : fs.attach.length = fs.length := List.length_attach
  refine (butIn F n h7 hro hn l vb w fs hsq b hrb hfs (fun j W => J (fs.attach.take j) W) (fun j W => Jx (fs.attach.take j) W) W hW (fun s A B row h hg hr => hJ _ A B row h hg hr) (fun j hj W1 h1 => ?_) (by simpa using h0)).mono ?_
  · have hj' : j < fs.attach.length := by rw [hlen]; exact hj
    have hx : (fs.attach[j]).1 = fs[j] := by simp
    have h2 := hY (fs.attach.take j) (fs.attach[j]) W1 h1 (by rw [List.length_take]; omega)
    rw [← List.take_succ_eq_append_getElem hj'] at h2
    have e : encOf fs fs.attach[j] = #[fileV fs[j]] := by unfold encOf; rw [hx]
    rw [e] at h2
    exact h2
  · rintro e W' ⟨he, h | ⟨j, h⟩⟩
    · refine ⟨he, .inl ⟨fs.attach, by simp, ?_⟩⟩
      rwa [← hlen, List.take_length] at h
    · exact ⟨he, .inr ⟨_, trivial, h⟩⟩
end Go.Proofs.Ytmkjejngnahpeaa
/- stops: the unsure files of a disk. -/
namespace Go.Proofs.Ytmkjejngnahpeaa
open Go Go.Maps Go.RowKit Go.Shelf
attribute [local go_sem] Oper.semAt_some

def unsF (f : F0) : U0 := ⟨!f.there || !f.named, if f.there = true then f.bytes.length - f.lasts else 0⟩
def unsOf (f : F0) : List U0 := if ((unsF f).name || decide (0 < (unsF f).more)) = true then [unsF f] else []
/-- the unsure files, by rising names -/
def unsT (l : List F0) : List U0 := l.flatMap unsOf
theorem unsT_append (a b : List F0) : unsT (a ++ b) = unsT a ++ unsT b := by simp [unsT]
theorem unsT_len (l : List F0) : (unsT l).length ≤ l.length := by
  induction l with
  | nil => exact Nat.le_refl _
  | cons f r ih =>
    show (unsOf f ++ unsT r).length ≤ _
    rw [List.length_append, List.length_cons]
    have : (unsOf f).length ≤ 1 := by unfold unsOf; split <;> simp
    omega
theorem unsT_more {l : List F0} (h : ∀ f ∈ l, f.bytes.length ≤ 16777216) : ∀ u ∈ unsT l, u.more ≤ 16777216 := by
  intro u hu
  obtain ⟨f, hf, h1⟩ := List.mem_flatMap.1 hu
  unfold unsOf at h1
  split at h1
  · rw [List.mem_singleton] at h1
    subst h1
    have := h f hf
    unfold unsF
    dsimp only
    split <;> omega
  · cases h1
def ofs {fs : List F0} (pre : List (Of fs)) : List F0 := pre.map (·.1)
theorem ofs_snoc {fs : List F0} (pre : List (Of fs)) (x : Of fs) : ofs (pre ++ [x]) = ofs pre ++ [x.1] := by simp [ofs]
/-- what stands at a round's head: the unsure ones so far -/
abbrev UnsI (b : Nat) (w wa W : World) (l : List F0) : Prop := BoxRow 213 206 2 b wa.heap.size w W (unsT l).length (uCells (unsT l))
theorem info_uns : (Try.prog.info? 213).map (fun i => (i.zero, i.size, i.bytes)) = some (some (.agg #[.bool false, .int .i64 0]), 2, 16) := by kernel_rfl
theorem DiskAt.sizes {w : World} {S : Nat → Prop} {q : Nat} {d : Dk} (h : DiskAt w S q d) : d.files.length ≤ 4096 ∧ ∀ f ∈ d.files, f.lasts ≤ f.bytes.length ∧ f.bytes.length ≤ 16777216 := by
  obtain ⟨mb, fv, L, h⟩ := h
  refine ⟨h.few, fun f hf => ?_⟩
  rw [← h.files] at hf
  obtain ⟨x, hx, rfl⟩ := List.mem_map.1 hf
  exact ⟨(h.each x hx).lasts, (h.each x hx).size⟩
set_option maxRecDepth 100000 in
set_option maxHeartbeats 4000000 in
theorem sall_b {w : World} {S : Nat → Prop} {q : Nat} {d : Dk} (h : DiskAt w S q d) :
    Calls Try.prog 135 #[.pointer (some ⟨q, 0, none⟩)] w fun e w' => ∃ oa n c, e = .returned (.slice oa n c) ∧ (unsT d.files).length = n ∧ rowAt w' 213 2 (.slice oa n c) n (uCells (unsT d.files)) ∧ Below w.heap.size w w' := by
  have HD := Lib.hid h
  have HZ := Lib.hid h.sizes
  clear h
  refine (callsIn_wide (n := 8)).1 ?_
  have f1 : Fence.wide.fn 41 := trivial
  refine callsIn_of_wp_marks Try.func135 rfl trivial ?_ rfl
  simp only [Try.ntmps135, List.size_toArray, List.length_cons, List.length_nil, Nat.reduceAdd, Nat.reduceSub, Array.replicate_succ, Array.replicate_zero, List.push_toArray, List.append_toArray, List.nil_append, List.cons_append]
  obtain ⟨w1, hw1⟩ : ∃ w1 : World, w1 = w.alloc (.cells #[.slice none 0 0] 206) := ⟨_, rfl⟩
  obtain ⟨b3, hb3⟩ : ∃ b, b = w.heap.size := ⟨_, rfl⟩
  have hbr : w1.heap[b3]? = some (.cells #[.slice none 0 0] 206 (0, 0)) := by rw [hw1, hb3]; exact alloc_cells _ _ _
  have HBR := Lib.hid hbr
  have hb1 : Below w.heap.size w w1 := by rw [hw1]; exact (Below.refl _ _).alloc (Nat.le_refl _) _
  have HD1 := Lib.hid (HD.out.below hb1)
  have HB1 := Lib.hid hb1
  clear hb1 hbr HD
  gi_wp2_with (gi_at_call 41; rw [← hw1, ← hb3]; have HW1 := Lib.hid (And.intro hw1 hb3); clear hw1 hb3; refine (callsIn_wide.2 (all_b HD1.out)).mono ?_; rintro e wa ⟨vb, rfl, hsa, -, hba⟩; have HSA := Lib.hid (And.intro hsa hba); clear hsa hba)
  have hb3w : b3 < w1.heap.size := (Array.getElem?_eq_some_iff.1 HBR.out).1
  have hbr2 : UnsI b3 w wa wa [] := BoxRow.start ((HSA.out.2.block b3 hb3w).trans HBR.out) (by rw [HW1.out.2]; exact HB1.out.trans (HSA.out.2.mono HB1.out.size)) (by have := HSA.out.2.size; omega) (Nat.le_refl _)
  have hfl : d.files.length ≤ 1000000 := by have := HZ.out.1; omega
  have hrb : ∀ v, wa.heap[vb]? = some (.cells #[v] 76 (0, 0)) → ∀ k, v.ownBlock = some k → k ≠ b3 := fun v hv k hk e => by
    obtain ⟨v', hv', hrow⟩ := HSA.out.1
    rw [hv] at hv'
    simp only [Option.some.injEq, Obj.cells.injEq, Array.mk.injEq, List.cons.injEq, and_true] at hv'
    rw [← hv'] at hrow
    obtain ⟨oab, cb, hbx, _⟩ := hbr2.box
    rw [← e] at hbx
    exact absurd (row_type hrow hk hbx) (by decide)
  have hst := told_but Fence.wide 7 trivial rfl (by omega) vb wa d.files HSA.out.1 b3 hrb hfl
  have hlt := hbr2.lt
  have HLT : Hid (b3 < wa.heap.size ∧ w.heap.size ≤ b3) := Lib.hid ⟨hlt, by rw [HW1.out.2]; exact Nat.le_refl _⟩
  clear hrb hfl
  refine wpIn_rangeFunc_fresh (n := 8) (α := Of d.files) rfl (by omega) (gf := 161) (lb := #[.pointer (some ⟨vb, 0, none⟩)]) rfl trivial (enters_of Try.func161 (by kernel_rfl) rfl) hst (fun h k => But.join h k) (But.put (Nat.le_refl _)) (fun W o hW => But.of ((Below.refl _ _).alloc (Nat.le_refl _) _)) (Below.refl _ _) (fun _ => rfl)
    (fun pre W => UnsI b3 w wa W (ofs pre)) (fun _ _ _ => False) (fun pre W W' row hp hg hr => BoxRow.grown hp hg hr) (fun _ => fun _ _ _ _ hs _ _ => hs) hbr2 (fun pre W hp => hp.low)
    78 (fun x => (fileCells x.1).toArray) ?A ?assign ?body ?done ?stop
  case assign =>
    intro l x W K B hB hK
    unfold encOf fileV
    gi_wp2_with fail
    rw [← hB]
    exact hK
  case body =>
    intro l pre x B W1 hl hlr hp hB hx hlen
    obtain ⟨xf, hxf⟩ : ∃ f, x.1 = f := ⟨_, rfl⟩
    have hxz := HZ.out.2 x.1 x.2
    have hlen' : (ofs pre).length < d.files.length := by unfold ofs; rw [List.length_map]; exact hlen
    rw [hxf] at hx hxz
    obtain ⟨z1, hz1⟩ : ∃ a : Nat, a = xf.bytes.length := ⟨_, rfl⟩
    obtain ⟨z2, hz2⟩ : ∃ a : Nat, a = xf.lasts := ⟨_, rfl⟩
    obtain ⟨th, hth⟩ : ∃ b, b = xf.there := ⟨_, rfl⟩
    obtain ⟨nd, hnd⟩ : ∃ b, b = xf.named := ⟨_, rfl⟩
    have x1 : W1.cell? ⟨B, 1, none⟩ = some (.int .i64 z1) := cell_of hx (by rw [hz1]; rfl)
    have x2 : W1.cell? ⟨B, 2, none⟩ = some (.int .i64 z2) := cell_of hx (by rw [hz2]; rfl)
    have x3 : W1.cell? ⟨B, 3, none⟩ = some (.bool th) := cell_of hx (by rw [hth]; rfl)
    have x4 : W1.cell? ⟨B, 4, none⟩ = some (.bool nd) := cell_of hx (by rw [hnd]; rfl)
    rw [← hz1, ← hz2] at hxz
    have HU : Hid (unsF xf = ⟨!th || !nd, if th = true then z1 - z2 else 0⟩) := Lib.hid (by unfold unsF; rw [hz1, hz2, hth, hnd])
    have HSN : Hid (unsT (ofs (pre ++ [x])) = unsT (ofs pre) ++ unsOf xf) := Lib.hid (by rw [ofs_snoc, unsT_append, hxf]; simp [unsT])
    have hul : (unsT (ofs pre)).length ≤ 4096 := by
      have h1 := unsT_len (ofs pre)
      have h2 := HZ.out.1
      omega
    obtain ⟨m, hm⟩ : ∃ m, (unsT (ofs pre)).length = m := ⟨_, rfl⟩
    have hrow : BoxRow 213 206 2 b3 wa.heap.size w W1 m (uCells (unsT (ofs pre))) := by rw [← hm]; exact hp
    rw [hm] at hul
    have HP := Lib.hid (And.intro hrow hm)
    have HX := Lib.hid hx
    have HXV : Hid ((xf.bytes.length = z1) ∧ (xf.lasts = z2) ∧ (xf.there = th) ∧ xf.named = nd) := Lib.hid ⟨hz1.symm, hz2.symm, hth.symm, hnd.symm⟩
    have HEND0 : Hid (∀ W', Below W1.heap.size W1 W' → unsOf xf = [] → KeepsFrom wa.heap.size W1 W' ∧ But b3 wa.heap.size W1 W' ∧ UnsI b3 w wa W' (ofs (pre ++ [x]))) := Lib.hid (fun W' hb hu => by
      refine ⟨keepsFrom_below2 hb, But.of hb, ?_⟩
      unfold UnsI
      rw [HSN.out, hu, List.append_nil]
      exact BoxRow.kept hp hb)
    clear hx hz1 hz2 hth hnd hp hrow hm hxf hlen hlen' hst
    cases th
    · gi_upto_region 5 with fail
      obtain ⟨w5, hw5⟩ : ∃ W : World, W = W1.alloc (.cells #[.bool true, .int .i64 0] 213) := ⟨_, rfl⟩
      obtain ⟨b5, hb5⟩ : ∃ b, b = W1.heap.size := ⟨_, rfl⟩
      have h5 : w5.heap[b5]? = some (.cells #[.bool true, .int .i64 0] 213 (0, 0)) := by rw [hw5, hb5]; exact alloc_cells _ _ _
      have hbw5 : Below W1.heap.size W1 w5 := by rw [hw5]; exact (Below.refl _ _).alloc (Nat.le_refl _) _
      rw [← hw5, ← hb5]
      have HB5 := Lib.hid (And.intro hb5 hbw5)
      have hx5 := (hbw5.block B (Array.getElem?_eq_some_iff.1 HX.out).1).trans HX.out
      have x3' : w5.cell? ⟨B, 3, none⟩ = some (.bool false) := (hbw5.cell (p := ⟨B, 3, none⟩) (Array.getElem?_eq_some_iff.1 HX.out).1).trans x3
      have y0 : w5.cell? ⟨b5, 0, none⟩ = some (.bool true) := cell_of h5 rfl
      have y1 : w5.cell? ⟨b5, 1, none⟩ = some (.int .i64 0) := cell_of h5 rfl
      have HB6 := Lib.hid hbw5
      obtain ⟨w6, hw6⟩ : ∃ W, W = w5 := ⟨_, rfl⟩
      rw [← hw6] at x3' y0 y1 HB6 ⊢
      clear hw5 hb5 h5 hbw5 hx5 x1 x2 x3 x4 hw6
      have hbx6 := HP.out.1.kept HB6.out
      obtain ⟨oa3, c3, hbx, hrw, hown⟩ := hbx6.box
      have kb : w6.cell? ⟨b3, 0, none⟩ = some (.slice oa3 m c3) := cell_of hbx rfl
      have kf : w6.frozen? ⟨b3, 0, none⟩ = false := free_of hbx _
      have HBX := Lib.hid (And.intro hbx6 (And.intro hbx (And.intro hrw hown)))
      have hone : ∀ v ∈ ([.bool true, .int .i64 (0)] : List Value), v.oneCell' = true := by
        intro v hv
        simp only [List.mem_cons, List.not_mem_nil, or_false] at hv
        rcases hv with rfl | rfl <;> rfl
      clear hbx6 hbx hrw hown
      gi_wp2_with (gi_at_builtin; refine wpListIn_append_one rfl (.tmp 33) (.tmp 35) 206 213 rfl Try.underlying206 info_uns rfl (by omega) HBX.out.2.2.1 (by omega) [.bool true, .int .i64 (0)] rfl hone rfl rfl ?_; intro oa5 c5 w9 HRX HGX HOX; have hbx9 := BoxRow.still HBX.out.1 HBX.out.2.1 HBX.out.2.2.2 HGX.out; have kb9 : w9.cell? ⟨b3, 0, none⟩ = some (.slice oa3 m c3) := cell_of hbx9 rfl; have kf9 : w9.frozen? ⟨b3, 0, none⟩ = false := free_of hbx9 _; clear hbx9)
      have hu : unsOf xf = [⟨true, 0⟩] := by unfold unsOf; rw [HU.out]; rfl
      refine ⟨(keepsFrom_below2 HB6.out).trans (boxRow_keeps HBX.out.2.2.1 HGX.out _), (But.of HB6.out).join (boxRow_but HBX.out.2.2.2 HGX.out _), ?_⟩
      show UnsI b3 w wa _ (ofs (pre ++ [x]))
      unfold UnsI
      rw [HSN.out, hu, List.length_append, uCells_append, HP.out.2]
      exact BoxRow.step HBX.out.1 HBX.out.2.1 HBX.out.2.2.2 HRX.out HGX.out HOX.out
    · cases nd
      · gi_upto_region 5 with fail
        obtain ⟨w5, hw5⟩ : ∃ W : World, W = W1.alloc (.cells #[.bool true, .int .i64 0] 213) := ⟨_, rfl⟩
        obtain ⟨b5, hb5⟩ : ∃ b, b = W1.heap.size := ⟨_, rfl⟩
        have h5 : w5.heap[b5]? = some (.cells #[.bool true, .int .i64 0] 213 (0, 0)) := by rw [hw5, hb5]; exact alloc_cells _ _ _
        have hbw5 : Below W1.heap.size W1 w5 := by rw [hw5]; exact (Below.refl _ _).alloc (Nat.le_refl _) _
        rw [← hw5, ← hb5]
        have HB5 := Lib.hid (And.intro hb5 hbw5)
        have hx5 := (hbw5.block B (Array.getElem?_eq_some_iff.1 HX.out).1).trans HX.out
        have x3' : w5.cell? ⟨B, 3, none⟩ = some (.bool true) := (hbw5.cell (p := ⟨B, 3, none⟩) (Array.getElem?_eq_some_iff.1 HX.out).1).trans x3
        have x1' : w5.cell? ⟨B, 1, none⟩ = some (.int .i64 z1) := (hbw5.cell (p := ⟨B, 1, none⟩) (Array.getElem?_eq_some_iff.1 HX.out).1).trans x1
        have x2' : w5.cell? ⟨B, 2, none⟩ = some (.int .i64 z2) := (hbw5.cell (p := ⟨B, 2, none⟩) (Array.getElem?_eq_some_iff.1 HX.out).1).trans x2
        have y1 : w5.cell? ⟨b5, 1, none⟩ = some (.int .i64 0) := cell_of h5 rfl
        have f1' : w5.frozen? ⟨b5, 1, none⟩ = false := free_of h5 _
        have H5 := Lib.hid h5
        clear hw5 hb5 h5 hbw5 hx5 x1 x2 x3 x4
        gi_upto_region 7 with fail
        obtain ⟨w6, hw6⟩ : ∃ W, W = w5.setCell ⟨b5, 1, none⟩ (.int .i64 ((z1 : Int) - (z2 : Int))) := ⟨_, rfl⟩
        have h6 : w6.heap[b5]? = some (.cells #[.bool true, .int .i64 ((z1 : Int) - (z2 : Int))] 213 (0, 0)) := by rw [hw6]; exact heap_setCell_here _ H5.out
        have HB6 : Hid (Below W1.heap.size W1 w6) := Lib.hid (by rw [hw6]; exact HB5.out.2.setCell (p := ⟨b5, 1, none⟩) (by rw [HB5.out.1]; exact Nat.le_refl _) _)
        rw [← hw6]
        have y0 : w6.cell? ⟨b5, 0, none⟩ = some (.bool true) := cell_of h6 rfl
        have y1' : w6.cell? ⟨b5, 1, none⟩ = some (.int .i64 ((z1 : Int) - (z2 : Int))) := cell_of h6 rfl
        have HSUB : Hid ((z1 : Int) - (z2 : Int) = ((z1 - z2 : Nat) : Int)) := Lib.hid (by omega)
        clear hw6 h6 x1' x2' x3' y1 f1'
        have hbx6 := HP.out.1.kept HB6.out
        obtain ⟨oa3, c3, hbx, hrw, hown⟩ := hbx6.box
        have kb : w6.cell? ⟨b3, 0, none⟩ = some (.slice oa3 m c3) := cell_of hbx rfl
        have kf : w6.frozen? ⟨b3, 0, none⟩ = false := free_of hbx _
        have HBX := Lib.hid (And.intro hbx6 (And.intro hbx (And.intro hrw hown)))
        have hone : ∀ v ∈ ([.bool true, .int .i64 ((z1 : Int) - (z2 : Int))] : List Value), v.oneCell' = true := by
          intro v hv
          simp only [List.mem_cons, List.not_mem_nil, or_false] at hv
          rcases hv with rfl | rfl <;> rfl
        clear hbx6 hbx hrw hown
        gi_wp2_with (gi_at_builtin; refine wpListIn_append_one rfl (.tmp 33) (.tmp 35) 206 213 rfl Try.underlying206 info_uns rfl (by omega) HBX.out.2.2.1 (by omega) [.bool true, .int .i64 ((z1 : Int) - (z2 : Int))] rfl hone rfl rfl ?_; intro oa5 c5 w9 HRX HGX HOX; have hbx9 := BoxRow.still HBX.out.1 HBX.out.2.1 HBX.out.2.2.2 HGX.out; have kb9 : w9.cell? ⟨b3, 0, none⟩ = some (.slice oa3 m c3) := cell_of hbx9 rfl; have kf9 : w9.frozen? ⟨b3, 0, none⟩ = false := free_of hbx9 _; clear hbx9)
        have hu : unsOf xf = [⟨true, z1 - z2⟩] := by unfold unsOf; rw [HU.out]; rfl
        refine ⟨(keepsFrom_below2 HB6.out).trans (boxRow_keeps HBX.out.2.2.1 HGX.out _), (But.of HB6.out).join (boxRow_but HBX.out.2.2.2 HGX.out _), ?_⟩
        show UnsI b3 w wa _ (ofs (pre ++ [x]))
        unfold UnsI
        rw [HSN.out, hu, List.length_append, uCells_append, HP.out.2]
        exact BoxRow.step HBX.out.1 HBX.out.2.1 HBX.out.2.2.2 (ys := uCells [⟨true, z1 - z2⟩]) (by have h9 := HRX.out; rw [HSUB.out] at h9; exact h9) HGX.out HOX.out
      · gi_upto_region 5 with fail
        obtain ⟨w5, hw5⟩ : ∃ W : World, W = W1.alloc (.cells #[.bool false, .int .i64 0] 213) := ⟨_, rfl⟩
        obtain ⟨b5, hb5⟩ : ∃ b, b = W1.heap.size := ⟨_, rfl⟩
        have h5 : w5.heap[b5]? = some (.cells #[.bool false, .int .i64 0] 213 (0, 0)) := by rw [hw5, hb5]; exact alloc_cells _ _ _
        have hbw5 : Below W1.heap.size W1 w5 := by rw [hw5]; exact (Below.refl _ _).alloc (Nat.le_refl _) _
        rw [← hw5, ← hb5]
        have HB5 := Lib.hid (And.intro hb5 hbw5)
        have hx5 := (hbw5.block B (Array.getElem?_eq_some_iff.1 HX.out).1).trans HX.out
        have x3' : w5.cell? ⟨B, 3, none⟩ = some (.bool true) := (hbw5.cell (p := ⟨B, 3, none⟩) (Array.getElem?_eq_some_iff.1 HX.out).1).trans x3
        have x1' : w5.cell? ⟨B, 1, none⟩ = some (.int .i64 z1) := (hbw5.cell (p := ⟨B, 1, none⟩) (Array.getElem?_eq_some_iff.1 HX.out).1).trans x1
        have x2' : w5.cell? ⟨B, 2, none⟩ = some (.int .i64 z2) := (hbw5.cell (p := ⟨B, 2, none⟩) (Array.getElem?_eq_some_iff.1 HX.out).1).trans x2
        have y1 : w5.cell? ⟨b5, 1, none⟩ = some (.int .i64 0) := cell_of h5 rfl
        have f1' : w5.frozen? ⟨b5, 1, none⟩ = false := free_of h5 _
        have H5 := Lib.hid h5
        clear hw5 hb5 h5 hbw5 hx5 x1 x2 x3 x4
        gi_upto_region 7 with fail
        obtain ⟨w6, hw6⟩ : ∃ W, W = w5.setCell ⟨b5, 1, none⟩ (.int .i64 ((z1 : Int) - (z2 : Int))) := ⟨_, rfl⟩
        have h6 : w6.heap[b5]? = some (.cells #[.bool false, .int .i64 ((z1 : Int) - (z2 : Int))] 213 (0, 0)) := by rw [hw6]; exact heap_setCell_here _ H5.out
        have HB6 : Hid (Below W1.heap.size W1 w6) := Lib.hid (by rw [hw6]; exact HB5.out.2.setCell (p := ⟨b5, 1, none⟩) (by rw [HB5.out.1]; exact Nat.le_refl _) _)
        rw [← hw6]
        have y0 : w6.cell? ⟨b5, 0, none⟩ = some (.bool false) := cell_of h6 rfl
        have y1' : w6.cell? ⟨b5, 1, none⟩ = some (.int .i64 ((z1 : Int) - (z2 : Int))) := cell_of h6 rfl
        have HSUB : Hid ((z1 : Int) - (z2 : Int) = ((z1 - z2 : Nat) : Int)) := Lib.hid (by omega)
        clear hw6 h6 x1' x2' x3' y1 f1'
        by_cases hpos : (0 : Int) < (z1 : Int) - (z2 : Int)
        · have hd : decide ((0 : Int) < (z1 : Int) - (z2 : Int)) = true := decide_eq_true hpos
          have hbx6 := HP.out.1.kept HB6.out
          obtain ⟨oa3, c3, hbx, hrw, hown⟩ := hbx6.box
          have kb : w6.cell? ⟨b3, 0, none⟩ = some (.slice oa3 m c3) := cell_of hbx rfl
          have kf : w6.frozen? ⟨b3, 0, none⟩ = false := free_of hbx _
          have HBX := Lib.hid (And.intro hbx6 (And.intro hbx (And.intro hrw hown)))
          have hone : ∀ v ∈ ([.bool false, .int .i64 ((z1 : Int) - (z2 : Int))] : List Value), v.oneCell' = true := by
            intro v hv
            simp only [List.mem_cons, List.not_mem_nil, or_false] at hv
            rcases hv with rfl | rfl <;> rfl
          clear hbx6 hbx hrw hown
          gi_wp2_with (gi_at_builtin; refine wpListIn_append_one rfl (.tmp 33) (.tmp 35) 206 213 rfl Try.underlying206 info_uns rfl (by omega) HBX.out.2.2.1 (by omega) [.bool false, .int .i64 ((z1 : Int) - (z2 : Int))] rfl hone rfl rfl ?_; intro oa5 c5 w9 HRX HGX HOX; have hbx9 := BoxRow.still HBX.out.1 HBX.out.2.1 HBX.out.2.2.2 HGX.out; have kb9 : w9.cell? ⟨b3, 0, none⟩ = some (.slice oa3 m c3) := cell_of hbx9 rfl; have kf9 : w9.frozen? ⟨b3, 0, none⟩ = false := free_of hbx9 _; clear hbx9)
          have hu : unsOf xf = [⟨false, z1 - z2⟩] := by unfold unsOf; rw [HU.out]; simp only [Bool.not_true, Bool.or_self, Bool.false_or, if_true]; rw [decide_eq_true (by omega)]; rfl
          refine ⟨(keepsFrom_below2 HB6.out).trans (boxRow_keeps HBX.out.2.2.1 HGX.out _), (But.of HB6.out).join (boxRow_but HBX.out.2.2.2 HGX.out _), ?_⟩
          show UnsI b3 w wa _ (ofs (pre ++ [x]))
          unfold UnsI
          rw [HSN.out, hu, List.length_append, uCells_append, HP.out.2]
          exact BoxRow.step HBX.out.1 HBX.out.2.1 HBX.out.2.2.2 (ys := uCells [⟨false, z1 - z2⟩]) (by have h9 := HRX.out; rw [HSUB.out] at h9; exact h9) HGX.out HOX.out
        · have hd : decide ((0 : Int) < (z1 : Int) - (z2 : Int)) = false := decide_eq_false hpos
          have HE := Lib.hid (HEND0.out _ HB6.out (by unfold unsOf; rw [HU.out]; simp only [Bool.not_true, Bool.or_self, Bool.false_or, if_true]; rw [decide_eq_false (by omega)]; rfl))
          gi_wp2_with fail
          exact HE.out
  case stop =>
    rintro D c0 pre W1 _ h0 hf _
    exact hf.elim
  case done =>
    rintro D xs W1 hD hxs hp hK
    have hxs' : ofs xs = d.files := hxs
    rw [hxs'] at hp
    obtain ⟨m, hm⟩ : ∃ m, (unsT d.files).length = m := ⟨_, rfl⟩
    have hp2 : BoxRow 213 206 2 b3 wa.heap.size w W1 m (uCells (unsT d.files)) := by rw [← hm]; exact hp
    obtain ⟨oa3, c3, hbx, hrw, hown⟩ := hp2.box
    have k3 : W1.cell? ⟨b3, 0, none⟩ = some (.slice oa3 m c3) := cell_of hbx rfl
    have HR := Lib.hid (And.intro hrw (And.intro hp2 (And.intro hm hK)))
    clear hbx hrw hown hp hp2 hK hst hxs hxs'
    gi_wp2_with fail
    have hg := grownBy_putObj' W1 D (.deferred none)
    refine ⟨by simp, .inl ⟨_, _, rfl, run_takeDeferred HR.out.2.2.2, ?_⟩⟩
    refine ⟨.slice oa3 m c3, by simp [results, Try.results135, go_sem], oa3, m, c3, rfl, hm, ?_, ?_⟩
    · refine HR.out.1.kept (fun k hk => hg.block k (HR.out.1.lt k hk) (fun e => ?_))
      simp only [Option.some.injEq] at e
      subst e
      rcases HR.out.1.2 with ⟨hv, _⟩ | ⟨g, off, cap, cur, fr, hv, hgg, _⟩
      · rw [hv] at hk
        simp [Value.ownBlock] at hk
      · rw [hv] at hk
        simp only [Value.ownBlock, Option.some.injEq] at hk
        rw [hk, HR.out.2.2.2] at hgg
        cases hgg
    · have hb := HR.out.2.1.below
      rw [HW1.out.2] at hb
      exact hb.grown hg hb.size (fun k e => by
        simp only [Option.some.injEq] at e
        have := HLT.out
        omega)
end Go.Proofs.Ytmkjejngnahpeaa
