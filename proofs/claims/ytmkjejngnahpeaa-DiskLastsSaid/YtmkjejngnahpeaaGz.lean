/- The texts Gc, Gd, Ge, Gh, Gi, Gj, Gf in one. -/
import Derived.Test.YtmkjejngnahpeaaFw
import Derived.RangeFuncNested
import Derived.RangeFuncWrites
import Derived.Sort.BigQuietIn
/- Disk: what a crash leaves of each file, in plain words. -/
namespace Go.Proofs.Ytmkjejngnahpeaa
open Go Go.RowKit

/-- f is what a crash may leave of w -/
structure Left (w f : F0) : Prop where
  name : f.name = w.name
  there : f.there = true
  named : f.named = true
  lasts : f.lasts = f.bytes.length
  least : w.lasts ≤ f.bytes.length
  most : f.bytes.length ≤ w.bytes.length
  begins : f.bytes = w.bytes.take f.bytes.length
def firmF (w : F0) : Bool := w.there && w.named
/-- the files that a crash leaves, each with what it was -/
def leftPairs : List F0 → List Int → List (F0 × F0)
  | [], _ => []
  | w :: r, ps => if (keepP w ps).1 = false then leftPairs r (keepP w ps).2 else (w, cutF w (moreP w (keepP w ps).2).1) :: leftPairs r (moreP w (keepP w ps).2).2
theorem crash_pairs : ∀ (l acc : List F0) (ps : List Int), (l.foldl crashStep (acc, ps)).1 = acc ++ (leftPairs l ps).map (·.2)
  | [], acc, ps => by simp [leftPairs]
  | w :: r, acc, ps => by
    rw [List.foldl_cons]
    cases hk : (keepP w ps).1 with
    | false =>
      have e : crashStep (acc, ps) w = (acc, (keepP w ps).2) := by unfold crashStep; rw [if_pos hk]
      have e2 : leftPairs (w :: r) ps = leftPairs r (keepP w ps).2 := by rw [leftPairs, if_pos hk]
      rw [e, e2, crash_pairs r acc]
    | true =>
      have hk' : ¬ (keepP w ps).1 = false := by rw [hk]; simp
      have e : crashStep (acc, ps) w = (acc ++ [cutF w (moreP w (keepP w ps).2).1], (moreP w (keepP w ps).2).2) := by unfold crashStep; rw [if_neg hk']
      have e2 : leftPairs (w :: r) ps = (w, cutF w (moreP w (keepP w ps).2).1) :: leftPairs r (moreP w (keepP w ps).2).2 := by rw [leftPairs, if_neg hk']
      rw [e, e2, crash_pairs r]
      simp
theorem pairs_left : ∀ (l : List F0) (ps : List Int), (∀ w ∈ l, w.lasts ≤ w.bytes.length) → ∀ p ∈ leftPairs l ps, p.1 ∈ l ∧ Left p.1 p.2
  | [], ps, _, p, hp => by cases hp
  | w :: r, ps, hl, p, hp => by
    unfold leftPairs at hp
    split at hp
    · have := pairs_left r _ (fun x hx => hl x (by simp [hx])) p hp
      exact ⟨by simp [this.1], this.2⟩
    · rcases List.mem_cons.1 hp with rfl | hp
      · have hm := moreP_le w (keepP w ps).2 (hl w (by simp))
        have hlen : (w.bytes.take (w.lasts + (moreP w (keepP w ps).2).1)).length = w.lasts + (moreP w (keepP w ps).2).1 := by
          rw [List.length_take]; omega
        refine ⟨by simp, rfl, rfl, rfl, hlen.symm, ?_, ?_, ?_⟩
        · show w.lasts ≤ (w.bytes.take (w.lasts + (moreP w (keepP w ps).2).1)).length
          rw [hlen]; omega
        · show (w.bytes.take (w.lasts + (moreP w (keepP w ps).2).1)).length ≤ _
          rw [hlen]; omega
        · show w.bytes.take _ = w.bytes.take (w.bytes.take (w.lasts + (moreP w (keepP w ps).2).1)).length
          rw [hlen]
      · have := pairs_left r _ (fun x hx => hl x (by simp [hx])) p hp
        exact ⟨by simp [this.1], this.2⟩
theorem pairs_firm : ∀ (l : List F0) (ps : List Int), ((leftPairs l ps).filter fun p => firmF p.1).length = (l.filter firmF).length
  | [], ps => rfl
  | w :: r, ps => by
    unfold leftPairs
    split
    · rename_i hk
      have hw : firmF w = false := by
        unfold keepP at hk
        unfold firmF
        split at hk
        · cases hk
        · rename_i h; simpa using h
      rw [List.filter_cons_of_neg (by simp [hw]), pairs_firm r]
    · cases hw : firmF w
      · rw [List.filter_cons_of_neg (by simp [hw]), List.filter_cons_of_neg (by simp [hw]), pairs_firm r]
      · rw [List.filter_cons_of_pos (by simpa using hw), List.filter_cons_of_pos hw, List.length_cons, List.length_cons, pairs_firm r]
/-- the last file of a name -/
def lookF (l : List F0) (s : List UInt8) : Option F0 := l.find? fun w => w.name == s
theorem lookF_mem {l : List F0} (hs : (l.map (·.name)).Pairwise (· < ·)) {w : F0} (hw : w ∈ l) : lookF l w.name = some w := by
  have hnd : (l.map (·.name)).Nodup := hs.imp (fun {a b} hab he => by rw [he] at hab; exact List.lt_irrefl _ hab)
  clear hs
  unfold lookF
  induction l with
  | nil => cases hw
  | cons a r ih =>
    rw [List.map_cons, List.nodup_cons] at hnd
    rcases List.mem_cons.1 hw with rfl | h1
    · simp
    · have hne : ¬ a.name = w.name := fun e => hnd.1 (by rw [e]; exact List.mem_map_of_mem h1)
      rw [List.find?_cons_of_neg (by simpa using hne)]
      exact ih h1 hnd.2
/-- **what DiskLasts says, plainly** -/
theorem crash_left {d : Dk} (ps : List Int) (hl : ∀ w ∈ d.files, w.lasts ≤ w.bytes.length) (hs : (d.files.map (·.name)).Pairwise (· < ·)) :
    (∀ f ∈ (d.crash ps).files, ∃ w ∈ d.files, lookF d.files f.name = some w ∧ Left w f) ∧
    ((d.crash ps).files.filter fun f => (lookF d.files f.name).any firmF).length = (d.files.filter firmF).length := by
  have e : (d.crash ps).files = (leftPairs d.files ps).map (·.2) := by
    show (d.files.foldl crashStep ([], ps)).1 = _
    rw [crash_pairs]
    rfl
  have key : ∀ p ∈ leftPairs d.files ps, lookF d.files p.2.name = some p.1 ∧ p.1 ∈ d.files ∧ Left p.1 p.2 := fun p hp => by
    obtain ⟨h1, h2⟩ := pairs_left d.files ps hl p hp
    exact ⟨by rw [h2.name]; exact lookF_mem hs h1, h1, h2⟩
  refine ⟨fun f hf => ?_, ?_⟩
  · rw [e] at hf
    obtain ⟨p, hp, rfl⟩ := List.mem_map.1 hf
    obtain ⟨h1, h2, h3⟩ := key p hp
    exact ⟨p.1, h2, h1, h3⟩
  · rw [e, List.filter_map, List.length_map, ← pairs_firm d.files ps]
    congr 1
    refine List.filter_congr fun p hp => ?_
    simp only [Function.comp, (key p hp).1, Option.any_some]
end Go.Proofs.Ytmkjejngnahpeaa
/- Disk: going over what All tells, each file one of those told. -/
namespace Go.Proofs.Ytmkjejngnahpeaa
open Go Go.Maps Go.RowKit Go.Shelf
open Go.Proofs (encStr)
attribute [local go_sem] Oper.semAt_some

abbrev Of (fs : List F0) := { f : F0 // f ∈ fs }
def encOf (fs : List F0) (x : Of fs) : Array Value := #[fileV x.1]
set_option maxRecDepth 100000 in
set_option maxHeartbeats 1000000 in
theorem toldIn (F : Fence) (n : Nat) (h7 : F.fn 161) (hro : F.round = none) (hn : 1 ≤ n) (l vb : Nat) (w : World) (fs : List F0) (hsq : SeqAt w vb fs) (hfs : fs.length ≤ 1000000) (J Jx : Nat → World → Prop) (W : World) (hW : Below w.heap.size w W)
    (hJ : AbidesFrom W.heap.size J)
    (hY : ∀ j (hj : j < fs.length) W1, J j W1 → YieldAt F (n - 1) Try.prog l #[fileV fs[j]] W1 fun e W' =>
      (e = .returned (.bool true) ∧ J (j + 1) W' ∧ Below w.heap.size W1 W') ∨ (e = .returned (.bool false) ∧ Jx (j + 1) W')) (h0 : J 0 W) :
    CallsIn F n Try.prog 161 #[.func (.yield l) #[] #[], .pointer (some ⟨vb, 0, none⟩)] W fun e W' => (∃ v, e = .returned v) ∧ (J fs.length W' ∨ ∃ j, Jx j W') := by
  obtain ⟨v, hv, hrow⟩ := hsq
  obtain ⟨oa, c, rfl, hnc⟩ := hrow.shape
  obtain ⟨N, hN⟩ : ∃ N, fs.length = N := ⟨_, rfl⟩
  rw [hN] at hv hrow hnc hfs
  have cv : W.cell? ⟨vb, 0, none⟩ = some (.slice oa N c) := cell_of ((hW.block vb (Array.getElem?_eq_some_iff.1 hv).1).trans hv) rfl
  have HR := Lib.hid hrow
  have HN := Lib.hid hN
  have HY := Lib.hid hY
  have HJ := Lib.hid hJ
  have HW := Lib.hid hW
  clear hv hrow hN hY hJ hW
  refine callsIn_of_wp Try.func161 rfl h7 ?_ hro
  simp only [Try.ntmps161, List.size_toArray, List.length_cons, List.length_nil, Nat.reduceAdd, Nat.reduceSub, Array.replicate_succ, Array.replicate_zero, List.push_toArray, List.append_toArray, List.nil_append, List.cons_append]
  gi_wp2
  gi_loopw [7] (fun i wr => ∃ j : Nat, j ≤ N ∧ i = .int .i64 j ∧ J j wr ∧ Below w.heap.size w wr ∧ W.heap.size ≤ wr.heap.size) (fun i wr => N - (intOf i).toNat)
  case atStart => exact ⟨0, Nat.zero_le _, rfl, h0, HW.out, Nat.le_refl _⟩
  case round =>
    obtain ⟨j, hj, rfl, hJs, hbw, hWr⟩ := hrel
    by_cases hlt : j < N
    · have hjf : j < fs.length := by rw [HN.out]; exact hlt
      have hrw := HR.out.kept (fun k hk => hbw.block k (HR.out.lt k hk))
      obtain ⟨g, off, rfl⟩ := hrw.addr (by omega)
      obtain ⟨x, hx⟩ : ∃ x, fs[j] = x := ⟨_, rfl⟩
      have hcell : ∀ i, i < 5 → ∀ u, (fileCells x)[i]? = some u → wr.cell? ⟨g, off + (j * 5 + i), none⟩ = some u := fun i hi u hu => by
        have := hrw.cells (g := g) (off := off) rfl (j * 5 + i) u (by rw [filesCells_get hjf hi, hx, hu])
        simpa [Go.WideShapes.add_plain] using this
      have k0 : wr.cell? ⟨g, off + j * 5, none⟩ = some (encStr x.name) := hcell 0 (by omega) _ rfl
      have k1 : wr.cell? ⟨g, off + j * 5 + 1, none⟩ = some (.int .i64 x.bytes.length) := hcell 1 (by omega) _ rfl
      have k2 : wr.cell? ⟨g, off + j * 5 + 2, none⟩ = some (.int .i64 x.lasts) := hcell 2 (by omega) _ rfl
      have k3 : wr.cell? ⟨g, off + j * 5 + 3, none⟩ = some (.bool x.there) := hcell 3 (by omega) _ rfl
      have k4 : wr.cell? ⟨g, off + j * 5 + 4, none⟩ = some (.bool x.named) := hcell 4 (by omega) _ rfl
      obtain ⟨a0, ha0⟩ : ∃ a : ByteArray, encStr x.name = .string a := ⟨_, rfl⟩
      obtain ⟨a1, ha1⟩ : ∃ a : Int, (x.bytes.length : Int) = a := ⟨_, rfl⟩
      obtain ⟨a2, ha2⟩ : ∃ a : Int, (x.lasts : Int) = a := ⟨_, rfl⟩
      obtain ⟨a3, ha3⟩ : ∃ a, x.there = a := ⟨_, rfl⟩
      obtain ⟨a4, ha4⟩ : ∃ a, x.named = a := ⟨_, rfl⟩
      have HV : Hid (fileV x = .agg #[.string a0, .int .i64 a1, .int .i64 a2, .bool a3, .bool a4]) := Lib.hid (by unfold fileV; rw [ha0, ha1, ha2, ha3, ha4])
      rw [ha0] at k0; rw [ha1] at k1; rw [ha2] at k2; rw [ha3] at k3; rw [ha4] at k4
      have HX := Lib.hid hx
      have HJS := Lib.hid hJs
      have HBW := Lib.hid hbw
      obtain ⟨w2, hw2⟩ : ∃ w2 : World, w2 = wr.alloc (.cells #[.string a0, .int .i64 a1, .int .i64 a2, .bool a3, .bool a4] 78) := ⟨_, rfl⟩
      have hg2 : wr.grownBy w2 none := by rw [hw2]; exact World.grownBy_alloc _ _ _
      have hJ2 : J j w2 := HJ.out j wr w2 none hJs hg2 (fun r e => by cases e)
      obtain ⟨fn, tmps, assign, body, hy, hR⟩ := HY.out j hjf w2 hJ2
      rw [hx, HV.out] at hy
      have HRD := Lib.hid hR
      have HB2 : Hid (Below w.heap.size w w2 ∧ W.heap.size ≤ w2.heap.size) := Lib.hid ⟨hbw.trans ((below_grown hg2).mono hbw.size), Nat.le_trans hWr hg2.size⟩
      clear hcell hrw hx hJs hbw ha0 ha1 ha2 ha3 ha4 hJ2 hg2 hR HJS
      subst hw2
      gi_wp2
      refine HRD.out.mono ?_
      rintro e W3 (⟨rfl, hJ3, hk3⟩ | ⟨rfl, hJx3⟩)
      · have HJ3 : Hid (J (j + 1) W3) := Lib.hid hJ3
        have HB3 : Hid (Below w.heap.size w W3 ∧ W.heap.size ≤ W3.heap.size) := Lib.hid ⟨HB2.out.1.trans hk3, Nat.le_trans HB2.out.2 hk3.size⟩
        clear hJ3 hk3
        gi_wp2
        exact ⟨⟨j + 1, by omega, by simp, HJ3.out, HB3.out.1, HB3.out.2⟩, by simp [intOf]; omega⟩
      · have HX3 : Hid (Jx (j + 1) W3) := Lib.hid hJx3
        clear hJx3
        gi_wp2
        refine bodyPost_ret (results_none rfl _ _ _) rfl ?_
        exact ⟨⟨_, rfl⟩, .inr ⟨j + 1, HX3.out⟩⟩
    · obtain rfl : j = N := by omega
      have HE : Hid (J fs.length wr) := Lib.hid (by rw [HN.out]; exact hJs)
      clear hJs
      gi_wp2
      go_end0
      exact ⟨⟨_, rfl⟩, .inl HE.out⟩
/-- **going over what All tells** -/
theorem told_stops (F : Fence) (n : Nat) (h7 : F.fn 161) (hro : F.round = none) (hn : 1 ≤ n) (vb : Nat) (w : World) (fs : List F0) (hsq : SeqAt w vb fs) (hfs : fs.length ≤ 1000000) :
    SeqStopsK F n Try.prog 161 #[.pointer (some ⟨vb, 0, none⟩)] (encOf fs) (Below w.heap.size) (fun ys => ys.map (·.1) = fs) (fun _ => True) fs.length w := fun l J Jx W hW hJ _ hY h0 => by
  have hlen : fs.attach.length = fs.length := List.length_attach
  refine (toldIn F n h7 hro hn l vb w fs hsq hfs (fun j W => J (fs.attach.take j) W) (fun j W => Jx (fs.attach.take j) W) W hW (fun s A B row h hg hr => hJ _ A B row h hg hr) (fun j hj W1 h1 => ?_) (by simpa using h0)).mono ?_
  · have hj' : j < fs.attach.length := by rw [hlen]; exact hj
    have hx : (fs.attach[j]).1 = fs[j] := by simp
    have h2 := hY (fs.attach.take j) (fs.attach[j]) W1 h1 (by rw [List.length_take]; omega)
    rw [← List.take_succ_eq_append_getElem hj'] at h2
    have e : encOf fs fs.attach[j] = #[fileV fs[j]] := by unfold encOf; rw [hx]
    rw [e] at h2
    exact h2
  · rintro e W' ⟨he, h | ⟨j, h⟩⟩
    · refine ⟨he, .inl ⟨fs.attach, by simp, ?_⟩⟩
      rwa [← hlen, List.take_length] at h
    · exact ⟨he, .inr ⟨_, trivial, h⟩⟩
end Go.Proofs.Ytmkjejngnahpeaa
/- Disk: DiskLasts, the ways out ahead of the play. -/
namespace Go.Proofs.Ytmkjejngnahpeaa
open Go Go.Maps Go.RowKit Go.Shelf
attribute [local go_sem] Oper.semAt_some

theorem box_set {w : World} {r : Nat} {t : TypeId} {v u : Value} (h : w.heap[r]? = some (.cells #[v] t (0, 0))) : (w.setCell ⟨r, 0, none⟩ u).heap[r]? = some (.cells #[u] t (0, 0)) := heap_setCell_here _ h
theorem box_new (w : World) (t : TypeId) (v : Value) : (w.alloc (.cells #[v] t)).heap[w.heap.size]? = some (.cells #[v] t (0, 0)) := alloc_cells _ _ _
/-- a file is appended to a row, inside a fence -/
theorem wpListIn_append_file {F : Fence} {n : Nat} {w2 : World} {ops : Array Oper} {rest : List Oper} {o : Oper} {a : Act} {Q : Exit → Act → World → Prop} (hgd : o.guard = none) (s x : Operand)
    (ho : o.op = .call { callee := .builtin .append, args := #[s, x], argTypes := #[76, 76] })
    {oa : Option Addr} {m c : Nat} {xs : List Value} {nm : ByteArray} {a1 a2 a3 a4 : Value} (h : rowAt w2 78 5 (.slice oa m c) m xs) (hm : m ≤ 1000000) (h1 : ∀ v ∈ [.string nm, a1, a2, a3, a4], v.oneCell' = true)
    (hs : a.eval s = .slice oa m c) (hx : a.eval x = .slice (some ⟨w2.heap.size, 0, none⟩) 1 1)
    (hK : ∀ oa3 c3 w3, Hid (rowAt w3 78 5 (.slice oa3 (m + 1) c3) (m + 1) (xs ++ [.string nm, a1, a2, a3, a4])) → Hid ((w2.alloc (.cells #[.string nm, a1, a2, a3, a4] 78)).grownBy w3 (Value.slice oa m c).ownBlock) →
      Hid ((Value.slice oa3 (m + 1) c3).ownBlock = (Value.slice oa m c).ownBlock ∨ (Value.slice oa3 (m + 1) c3).ownBlock = some (w2.heap.size + 1)) → wpListIn F n Try.prog ops Q rest (a.put o.dst (.slice oa3 (m + 1) c3)) w3) :
    wpListIn F n Try.prog ops Q (o :: rest) a (w2.alloc (.cells #[.string nm, a1, a2, a3, a4] 78)) := by
  refine wpListIn_plain hgd fun K hK' => ?_
  obtain ⟨i, hi, hz, hsz, hby⟩ := info_parts info_file
  obtain ⟨v', w3, hrun, r1, r2, r3, r4⟩ := run_append_at (P := Try.prog) (w2.alloc (.cells #[.string nm, a1, a2, a3, a4] 78)) 76 76 o.type 78 i (.agg #[.string ⟨#[]⟩, .int .i64 0, .int .i64 0, .bool false, .bool false]) 5 40 Try.underlying76 hi hz hsz hby rfl _ m xs (h.kept (fun k hk => Below.heap_alloc _ _ k (h.lt k hk))) _ 1 _ (Src.of_row Try.underlying76 (five_row w2 (.string nm) a1 a2 a3 a4) h1) (by unfold maxLen; omega) (by omega)
  obtain ⟨oa3, c3, rfl, _⟩ := r1.shape
  unfold Oper.wpIn
  refine ⟨?_, ?_⟩
  · simp [Oper.about, ho, resolve, Target.leads, Sem.run_pure]
  · rw [Oper.semAt_plain F _ _ (by rw [ho]; intro c hc'; cases hc')]
    simp [execOp, ho, resolve, invoke, builtin, hs, hx, hrun, Result.andThen]
    exact hK' _ _ (hK oa3 c3 w3 (Lib.hid r1) (Lib.hid r2) (Lib.hid (by simpa using r3)))
/-- the files gone over so far lie in the box behind w -/
structure WasI (w W : World) (l : List F0) : Prop where
  box : ∃ oa c, W.heap[w.heap.size]? = some (.cells #[.slice oa l.length c] 76 (0, 0)) ∧ rowAt W 78 5 (.slice oa l.length c) l.length (filesCells l) ∧ ∀ k, (Value.slice oa l.length c).ownBlock = some k → w.heap.size < k
  below : Below w.heap.size w W
theorem WasI.size {w W : World} {l : List F0} (h : WasI w W l) : w.heap.size < W.heap.size := by
  obtain ⟨_, _, h1, _⟩ := h.box
  exact (Array.getElem?_eq_some_iff.1 h1).1
theorem WasI.grown {w W W' : World} {l : List F0} {row : Option Nat} (h : WasI w W l) (hg : W.grownBy W' row) (hr : ∀ r, row = some r → w.heap.size < r ∧ ∃ o : Obj, W.heap[r]? = some o ∧ o.isCells = false) : WasI w W' l := by
  obtain ⟨oa, c, h1, h2, h3⟩ := h.box
  refine ⟨⟨oa, c, (hg.block _ h.size (fun e => ?_)).trans h1, h2.kept (fun k hk => hg.block k (h2.lt k hk) (fun e => ?_)), h3⟩, h.below.grown hg (by have := h.size; omega) (fun k e => by have := (hr k e).1; omega)⟩
  · have := (hr _ e.symm).1
    omega
  · obtain ⟨_, o, ho, hc⟩ := hr k e.symm
    rcases h2.2 with ⟨hn, _⟩ | ⟨g, off, cap, cur, fr, hv, hgg, _⟩
    · rw [hn] at hk
      simp [Value.ownBlock] at hk
    · rw [hv] at hk
      simp only [Value.ownBlock, Option.some.injEq] at hk
      subst hk
      rw [hgg] at ho
      cases ho
      cases hc
theorem WasI.new (w : World) : WasI w (w.alloc (.cells #[.slice none 0 0] 76)) [] :=
  ⟨⟨none, 0, box_new _ _ _, ⟨by simp [filesCells], .inl ⟨rfl, rfl⟩⟩, fun k hk => by simp [Value.ownBlock] at hk⟩, (Below.refl _ _).alloc (Nat.le_refl _) _⟩
theorem was_box {w W1 w3 : World} {l : List F0} {oa : Option Addr} {m c : Nat} {o : Obj} (h : WasI w W1 l) (hbx : W1.heap[w.heap.size]? = some (.cells #[.slice oa m c] 76 (0, 0)))
    (hown : ∀ k, (Value.slice oa m c).ownBlock = some k → w.heap.size < k) (hg : (W1.alloc o).grownBy w3 (Value.slice oa m c).ownBlock) : w3.heap[w.heap.size]? = some (.cells #[.slice oa m c] 76 (0, 0)) :=
  (hg.block _ (by have := h.size; simp; omega) (fun e => by have := hown _ e.symm; omega)).trans ((Below.heap_alloc _ _ _ h.size).trans hbx)
/-- one file more -/
theorem WasI.step {w W1 w3 : World} {l : List F0} {x : F0} {oa oa3 : Option Addr} {c c3 : Nat} {o : Obj} (h : WasI w W1 l) (hbx : W1.heap[w.heap.size]? = some (.cells #[.slice oa l.length c] 76 (0, 0)))
    (hown : ∀ k, (Value.slice oa l.length c).ownBlock = some k → w.heap.size < k)
    (hr : rowAt w3 78 5 (.slice oa3 (l.length + 1) c3) (l.length + 1) (filesCells l ++ fileCells x)) (hg : (W1.alloc o).grownBy w3 (Value.slice oa l.length c).ownBlock)
    (hw : (Value.slice oa3 (l.length + 1) c3).ownBlock = (Value.slice oa l.length c).ownBlock ∨ (Value.slice oa3 (l.length + 1) c3).ownBlock = some (W1.heap.size + 1)) :
    WasI w (w3.setCell ⟨w.heap.size, 0, none⟩ (.slice oa3 (l.length + 1) c3)) (l ++ [x]) := by
  have hsz := h.size
  have hlen : (l ++ [x]).length = l.length + 1 := by simp
  have hcl : filesCells (l ++ [x]) = filesCells l ++ fileCells x := by simp [filesCells]
  have hnew : ∀ k, (Value.slice oa3 (l.length + 1) c3).ownBlock = some k → w.heap.size < k := fun k hk => by
    rcases hw with h1 | h1
    · exact hown k (by rw [← h1]; exact hk)
    · rw [hk] at h1
      simp only [Option.some.injEq] at h1
      omega
  have hb3 : w3.heap[w.heap.size]? = some (.cells #[.slice oa l.length c] 76 (0, 0)) := (hg.block _ (by simp; omega) (fun e => by have := hown _ e.symm; omega)).trans ((Below.heap_alloc _ _ _ hsz).trans hbx)
  refine ⟨⟨oa3, c3, by rw [hlen]; exact box_set hb3, by rw [hlen, hcl]; exact hr.kept (fun k hk => Below.heap_setCell _ _ _ _ (fun e => by have := hnew k hk; dsimp only at e; omega)), by rw [hlen]; exact hnew⟩, ?_⟩
  exact ((h.below.alloc (by omega) o).grown hg (by simp; omega) (fun k e => by have := hown k e; omega)).setCell (p := ⟨w.heap.size, 0, none⟩) (Nat.le_refl _) _
theorem was_below {w W1 w3 : World} {l : List F0} {oa : Option Addr} {m c : Nat} {o : Obj} (h : WasI w W1 l)
    (hown : ∀ k, (Value.slice oa m c).ownBlock = some k → w.heap.size < k) (hg : (W1.alloc o).grownBy w3 (Value.slice oa m c).ownBlock) (v : Value) :
    Below w.heap.size W1 (w3.setCell ⟨w.heap.size, 0, none⟩ v) := by
  have hsz := h.size
  have h1 : Below w.heap.size W1 (W1.alloc o) := (Below.refl _ W1).alloc (by omega) o
  have h2 : Below w.heap.size W1 w3 := h1.grown hg (by simp; omega) (fun k e => by have := hown k e; omega)
  exact h2.setCell (p := ⟨w.heap.size, 0, none⟩) (Nat.le_refl _) _
theorem was_keeps {w W1 w3 : World} {oa : Option Addr} {m c B : Nat} {xs : List Value} {o : Obj} (hr : rowAt W1 78 5 (.slice oa m c) m xs)
    (hg : (W1.alloc o).grownBy w3 (Value.slice oa m c).ownBlock) (v : Value) : KeepsFrom B W1 (w3.setCell ⟨w.heap.size, 0, none⟩ v) := by
  have h1 : KeepsFrom B W1 w3 := ⟨by have := hg.size; simp at this; omega, fun k o' _ hk ho => by
    have hlt := (Array.getElem?_eq_some_iff.1 hk).1
    refine (hg.block k (by simp; omega) (fun e => ?_)).trans ((Below.heap_alloc _ _ _ hlt).trans hk)
    rcases hr.2 with ⟨hn, _⟩ | ⟨g, off, cap, cur, fr, hv, hgg, _⟩
    · rw [hn] at e
      simp [Value.ownBlock] at e
    · rw [hv] at e
      simp only [Value.ownBlock, Option.some.injEq] at e
      subst e
      rw [hgg] at hk
      cases hk
      cases ho⟩
  exact h1.trans ((KeepsOthers.setCell _ _ _).from _)
/-- **A RANGE OVER A FUNCTION WHOSE VARIABLE IS BOXED ANEW IN EACH ROUND** -/
theorem wpIn_rangeFunc_box {F : Fence} {n : Nat} {P : Program} {α : Type} {g : Operand} {ps : Array Tmp} {assign body : Code} {Q : Exit → Act → World → Prop} {a : Act} {w : World}
    (hro : F.round = none) (h1 : 1 ≤ n) {gf : Nat} {lb : Array Value} (hg : a.eval g = .func (.func gf) #[] lb) (hFg : F.fn gf) (eg : ∀ args w, (callFunc gf args).run P w = .ok (.enter gf args) w)
    {encs : α → Array Value} {n₀ : Nat} {S Sp : List α → Prop} {N : Nat} {w0 : World} (hseq : SeqStopsK F (n - 1) P gf lb encs (Below n₀) S Sp N w0)
    (hn₀ : n₀ ≤ w.heap.size) (hb0 : Below w0.heap.size w0 w) (hps : ∀ x, (encs x).size = ps.size)
    (I : List α → World → Prop) (Ix : Code → List α → World → Prop) (hI : OwnFrom w.heap.size I) (hIx : ∀ c, OwnFrom w.heap.size (Ix c)) (h0 : I [] w) (hsz : ∀ pre W, I pre W → w.heap.size ≤ W.heap.size)
    (t : TypeId) (val : α → Array Value) (A : α → Nat → Act)
    (hassign : ∀ (l : Nat) (x : α) (W : World) (K : Act → World → Prop) (B : Nat), B = W.heap.size → K (A x B) (W.alloc (.cells (val x) t)) →
      assign.wpIn (F.inRound l) (n - 1 - 1) P (Exit.then K (fun _ _ _ => False)) { tmps := (ps.zip (encs x)).foldl (fun t (p, v) => t.setIfInBounds p v) a.tmps, defers := [] } W)
    (hbody : ∀ (l : Nat) (pre : List α) (x : α) (B : Nat) (W : World), w.heap.size ≤ l → (∃ r, W.heap[l]? = some (.loop r)) → I pre W → w.heap.size ≤ B → W.heap[B]? = some (.cells (val x) t (0, 0)) → pre.length < N → body.wpIn (F.inRound l) (n - 1 - 1) P (ownPostG w.heap.size (Below n₀) I Ix (pre ++ [x]) W) (A x B) W)
    (hdone : ∀ (D : Nat) (xs : List α) (W : World), w.heap.size ≤ D → S xs → I xs W → W.heap[D]? = some (.deferred (some [])) → Q .normal { a with defers := { target := .collected D, args := #[] } :: a.defers } W)
    (hstop : ∀ (D : Nat) (c : Code) (pre : List α) (W : World), w.heap.size ≤ D → Sp pre → Ix c pre W → W.heap[D]? = some (.deferred (some [])) → c.wpIn F n P Q { a with defers := { target := .collected D, args := #[] } :: a.defers } W) :
    (Code.rangeFunc g ps assign body).wpIn F n P Q a w :=
  wpIn_rangeFunc_ownH hro h1 hg hFg eg hseq belowK_t (belowK_b hn₀) hb0 hps I Ix hI hIx h0
    (fun x a' W => ∃ B, w.heap.size ≤ B ∧ W.heap[B]? = some (.cells (val x) t (0, 0)) ∧ a' = A x B)
    (fun x a' _ X Y row hs hg hr => by
      obtain ⟨B, e1, e2, e3⟩ := hs
      refine ⟨B, e1, (hg.block B (Array.getElem?_eq_some_iff.1 e2).1 (fun e => ?_)).trans e2, e3⟩
      obtain ⟨_, o, ho, hc⟩ := hr B e.symm
      rw [e2] at ho
      cases ho
      cases hc)
    (fun l pre x W K hi hK => hassign l x W K _ rfl (hK _ _ ((KeepsOthers.alloc _ _).from _) ((Below.refl _ _).alloc (Nat.le_trans hn₀ (hsz _ _ hi)) _) (hI.alloc _ hi) ⟨W.heap.size, hsz _ _ hi, alloc_cells _ _ _, rfl⟩))
    (fun l pre x a' W hl hr hi ⟨B, e1, e2, e3⟩ hlen => by subst e3; exact hbody l pre x B W hl hr hi e1 e2 hlen) hdone hstop
set_option maxRecDepth 100000 in
set_option maxHeartbeats 4000000 in
theorem lasts_early {W : World} {v0 v1 v2 : Value} {fs : List (Int × Int)} {l : List StepT} {p2 : List Int} (hf : readAt W 2 v0 fs.length (fateCells fs)) (hs : ScriptAt W v1 l) (h2 : readAt W 1 v2 p2.length (intCells p2))
    (hbig : 100 < fs.length ∨ vastT l = true ∨ fs.any badFate = true ∨ 300 < p2.length) :
    Calls Try.prog 6 #[v0, v1, v2] W fun e W' => e = .returned (.bool true) ∧ Below W.heap.size W W' := by
  obtain ⟨oa, c, rfl⟩ := hf.shape
  obtain ⟨ob, cb, rfl⟩ := hs.row.shape
  obtain ⟨o2, c2, rfl⟩ := h2.shape
  obtain ⟨m, hm⟩ : ∃ n, fs.length = n := ⟨_, rfl⟩
  obtain ⟨n, hn⟩ : ∃ n, l.length = n := ⟨_, rfl⟩
  obtain ⟨n2, hn2⟩ : ∃ n, p2.length = n := ⟨_, rfl⟩
  obtain ⟨vt, hvt⟩ : ∃ b, vastT l = b := ⟨_, rfl⟩
  obtain ⟨rg, hrg⟩ : ∃ b, fs.any badFate = b := ⟨_, rfl⟩
  rw [hm] at hf hbig ⊢
  rw [hn] at hs ⊢
  rw [hn2] at h2 hbig ⊢
  rw [hvt, hrg] at hbig
  have HVB : Hid (∀ w, Below W.heap.size W w → Calls Try.prog 36 #[.slice ob n cb] w fun e w' => e = .returned (.bool vt) ∧ w' = w) := Lib.hid (fun w hb => by rw [← hvt]; exact vast_b (by have := hs.below hb; exact this))
  have HRB : Hid (¬ (100 : Int) < (m : Int) → ∀ w, Below W.heap.size W w → Calls Try.prog 37 #[.slice oa m c] w fun e w' => e = .returned (.bool (!rg)) ∧ w' = w) := Lib.hid (fun h w hb => by
    have := refRight_b (w := w) (v := .slice oa m c) (l := fs) (by rw [hm]; exact hf.kept (fun k hk _ _ => hb.block k hk)) (by rw [hm]; omega)
    rwa [hrg] at this)
  obtain ⟨b0, hb0⟩ : ∃ b, decide ((100 : Int) < (m : Int)) = b := ⟨_, rfl⟩
  obtain ⟨b2, hb2⟩ : ∃ b, decide ((300 : Int) < (n2 : Int)) = b := ⟨_, rfl⟩
  have hg : (b0 || vt || rg || b2) = true := by
    rw [← hb0, ← hb2]
    rcases hbig with h | h | h | h
    · have : decide ((100 : Int) < (m : Int)) = true := by simp; omega
      rw [this]; simp
    · rw [h]; simp
    · rw [h]; simp
    · have : decide ((300 : Int) < (n2 : Int)) = true := by simp; omega
      rw [this]; simp
  have HRC : b0 = false → Hid (∀ w, Below W.heap.size W w → Calls Try.prog 37 #[.slice oa m c] w fun e w' => e = .returned (.bool (!rg)) ∧ w' = w) := fun h => Lib.hid (HRB.out (by rw [h] at hb0; simpa using hb0))
  clear hf hs h2 hm hn hn2 hvt hrg hbig HRB
  obtain ⟨w1, hw1⟩ : ∃ w1 : World, w1 = W.alloc (.cells #[.bool false] 4) := ⟨_, rfl⟩
  have hr1 : w1.heap[W.heap.size]? = some (.cells #[.bool false] 4 (0, 0)) := by rw [hw1]; exact box_new _ _ _
  have hbe : Below W.heap.size W w1 := by rw [hw1]; exact (Below.refl _ _).alloc (Nat.le_refl _) _
  have HR1 := Lib.hid hr1
  have HB1 := Lib.hid hbe
  have HW1 := Lib.hid hw1
  have HVB := Lib.hid (HVB.out w1 hbe)
  clear hr1 hbe hw1
  cases b0 <;> cases vt <;> cases rg <;> cases b2 <;> first
    | (exfalso; revert hg; decide)
    | (go_enter Try.func6, Try.ntmps6
       go_upto_region 1 with fail
       rw [← HW1.out]
       (first | (have HRX := Lib.hid ((HRC rfl).out w1 HB1.out); clear HRC) | clear HRC)
       go_wp2_with (first | (go_at_call 36; refine HVB.out.mono ?_; rintro e w' ⟨rfl, hw'⟩; obtain rfl := hw'.symm) | (go_at_call 37; refine HRX.out.mono ?_; rintro e w' ⟨rfl, hw'⟩; obtain rfl := hw'.symm) | (go_at_call 38; refine (known7_b _).mono ?_; rintro e w2 ⟨rfl, hb⟩; have HR2 := Lib.hid ((hb.block W.heap.size (Array.getElem?_eq_some_iff.1 HR1.out).1).trans HR1.out); have HB2 := Lib.hid (HB1.out.trans (hb.mono HB1.out.size)); have rc : w2.cell? ⟨W.heap.size, 0, none⟩ = some (.bool false) := cell_of HR2.out rfl; have rz : w2.frozen? ⟨W.heap.size, 0, none⟩ = false := free_of HR2.out _; clear hb))
       have hrr := cell_of (box_set (u := .bool true) HR2.out) (i := 0) (v := .bool true) rfl
       exact bodyPost_ret (v := .bool true) (by simp [results, Try.results6, go_sem, hrr]) rfl ⟨rfl, HB2.out.setCell (p := ⟨W.heap.size, 0, none⟩) (Nat.le_refl _) _⟩)
end Go.Proofs.Ytmkjejngnahpeaa
/- Disk: what the inner loop of DiskLasts finds, in plain words. -/
namespace Go.Proofs.Ytmkjejngnahpeaa
open Go Go.RowKit

def zeroF0 : F0 := ⟨[], [], 0, false, false⟩
/-- the last file of a name, else the empty one -/
def lastF (l : List F0) (s : List UInt8) (a : F0) : F0 := l.foldl (fun a w => if w.name = s then w else a) a
theorem lastF_succ {l : List F0} {j : Nat} (hj : j < l.length) (s : List UInt8) (a : F0) : lastF (l.take (j + 1)) s a = if l[j].name = s then l[j] else lastF (l.take j) s a := by
  unfold lastF
  rw [List.take_succ_eq_append_getElem hj, List.foldl_append]
  rfl
theorem lastF_none : ∀ (l : List F0) (s : List UInt8) (a : F0), (∀ w ∈ l, w.name ≠ s) → lastF l s a = a
  | [], _, _, _ => rfl
  | w :: r, s, a, h => by
    show lastF r s (if w.name = s then w else a) = a
    rw [if_neg (h w (by simp))]
    exact lastF_none r s a (fun x hx => h x (by simp [hx]))
theorem lastF_mem : ∀ {l : List F0} {w : F0} (a : F0), (l.map (·.name)).Nodup → w ∈ l → lastF l w.name a = w
  | x :: r, w, a, hn, hw => by
    rw [List.map_cons, List.nodup_cons] at hn
    show lastF r w.name (if x.name = w.name then x else a) = w
    rcases List.mem_cons.1 hw with rfl | h1
    · rw [if_pos rfl]
      exact lastF_none r _ _ (fun y hy he => hn.1 (by rw [← he]; exact List.mem_map_of_mem hy))
    · exact lastF_mem _ hn.2 h1
theorem names_nodup {l : List F0} (h : (l.map (·.name)).Pairwise (· < ·)) : (l.map (·.name)).Nodup :=
  h.imp (fun {a b} hab he => by rw [he] at hab; exact List.lt_irrefl _ hab)
/-- what the law's guard and its two reads ask of a file that a crash leaves -/
theorem left_reads {d : Dk} (ps : List Int) (hl : ∀ w ∈ d.files, w.lasts ≤ w.bytes.length) (hs : (d.files.map (·.name)).Pairwise (· < ·)) {f : F0} (hf : f ∈ (d.crash ps).files) :
    ∃ w ∈ d.files, lastF d.files f.name zeroF0 = w ∧ lookF d.files f.name = some w ∧ Left w f := by
  obtain ⟨w, hw, h1, h2⟩ := (crash_left ps hl hs).1 f hf
  exact ⟨w, hw, by rw [h2.name]; exact lastF_mem _ (names_nodup hs) hw, h1, h2⟩
theorem findF_mem {l : List F0} (hs : (l.map (·.name)).Pairwise (· < ·)) {w : F0} (hw : w ∈ l) (ht : w.there = true) (fa : List (Int × Int)) (st : Int) : (⟨l, fa, st⟩ : Dk).find w.name = some w := by
  have h := lookF_mem hs hw
  unfold lookF at h
  unfold Dk.find Dk.at
  show (l.find? fun x => x.name == w.name).filter _ = _
  rw [h]
  simp [Option.filter, ht]
/-- both reads tell the same bytes -/
theorem reads_same {d : Dk} {ps : List Int} (hs : (d.files.map (·.name)).Pairwise (· < ·)) (hs2 : ((d.crash ps).files.map (·.name)).Pairwise (· < ·)) {f w : F0} (hf : f ∈ (d.crash ps).files) (hw : w ∈ d.files) (ht : w.there = true) (h : Left w f) (hok : nameOk f.name = true) :
    d.read f.name 0 f.bytes.length = (f.bytes, 0) ∧ (d.crash ps).read f.name 0 (f.bytes.length + 9) = (f.bytes, 0) := by
  have h1 : d.find f.name = some w := by rw [h.name]; exact findF_mem hs hw ht d.fates d.steps
  have h2 : (d.crash ps).find f.name = some f := findF_mem hs2 hf h.there (d.crash ps).fates (d.crash ps).steps
  have hm := h.most
  constructor
  · unfold Dk.read
    rw [if_neg (by rw [hok]; simp), h1]
    show (if _ then _ else _) = _
    rw [if_neg (by omega)]
    have e : min ((f.bytes.length : Int)).toNat (w.bytes.length - (0 : Int).toNat) = f.bytes.length := by simp; omega
    rw [e, Int.toNat_zero, List.drop_zero, ← h.begins]
  · unfold Dk.read
    rw [if_neg (by rw [hok]; simp), h2]
    show (if _ then _ else _) = _
    rw [if_neg (by omega)]
    have e : min ((f.bytes.length : Int) + 9).toNat (f.bytes.length - (0 : Int).toNat) = f.bytes.length := by simp; omega
    rw [e, Int.toNat_zero, List.drop_zero, List.take_length]
/-- of the files gone over, those whose file was firm before -/
def firmIn (l : List F0) (pre : List F0) : Nat := (pre.filter fun f => (lookF l f.name).any firmF).length
theorem firmIn_snoc (l pre : List F0) (f : F0) : firmIn l (pre ++ [f]) = firmIn l pre + (if (lookF l f.name).any firmF then 1 else 0) := by
  unfold firmIn
  rw [List.filter_append, List.length_append]
  congr 1
  by_cases h : (lookF l f.name).any firmF = true
  · rw [if_pos h, List.filter_cons_of_pos (by simpa using h)]; rfl
  · rw [if_neg h, List.filter_cons_of_neg (by simpa using h)]; rfl
theorem firmIn_le (l pre : List F0) : firmIn l pre ≤ pre.length := List.length_filter_le _ _
theorem firmIn_all {d : Dk} (ps : List Int) (hl : ∀ w ∈ d.files, w.lasts ≤ w.bytes.length) (hs : (d.files.map (·.name)).Pairwise (· < ·)) : firmIn d.files (d.crash ps).files = (d.files.filter firmF).length := (crash_left ps hl hs).2
/-- the last loop's count -/
def firmTo (l : List F0) (j : Nat) : Nat := ((l.take j).filter firmF).length
theorem firmTo_succ {l : List F0} {j : Nat} (hj : j < l.length) : firmTo l (j + 1) = firmTo l j + (if firmF l[j] then 1 else 0) := by
  unfold firmTo
  rw [List.take_succ_eq_append_getElem hj, List.filter_append, List.length_append]
  congr 1
  by_cases h : firmF l[j] = true
  · rw [if_pos h, List.filter_cons_of_pos h]; rfl
  · rw [if_neg h, List.filter_cons_of_neg h]; rfl
theorem firmTo_all (l : List F0) : firmTo l l.length = (l.filter firmF).length := by unfold firmTo; rw [List.take_length]
end Go.Proofs.Ytmkjejngnahpeaa
/- Disk: what holds at a round's head of DiskLasts' second range. -/
namespace Go.Proofs.Ytmkjejngnahpeaa
open Go Go.Maps Go.RowKit Go.Shelf

theorem WasI.kept {w W W' : World} {l : List F0} (h : WasI w W l) (hb : Below W.heap.size W W') : WasI w W' l := by
  obtain ⟨oa, c, h1, h2, h3⟩ := h.box
  exact ⟨⟨oa, c, (hb.block _ h.size).trans h1, h2.kept (fun k hk => hb.block k (h2.lt k hk)), h3⟩, h.below.trans (hb.mono (by have := h.size; omega))⟩
theorem firm_le (l : List F0) : (l.filter firmF).length ≤ l.length := List.length_filter_le _ _
theorem firmTo_le (l : List F0) (j : Nat) : firmTo l j ≤ (l.filter firmF).length := by
  unfold firmTo
  exact ((List.take_sublist j l).filter _).length_le
/-- only the counter has turned of what lay in w0, and it tells n -/
structure CntI (w0 W : World) (b n : Nat) : Prop where
  only : Only (fun k => k = b) w0 W
  box : W.heap[b]? = some (.cells #[.int .i64 n] 3 (0, 0))
theorem CntI.grown {w0 W W' : World} {b n : Nat} {row : Option Nat} (h : CntI w0 W b n) (hb : b < w0.heap.size) (hg : W.grownBy W' row) (hr : ∀ r, row = some r → w0.heap.size ≤ r) : CntI w0 W' b n := by
  have hsz := h.only.size
  refine ⟨h.only.trans (Only.of_grown (S := fun k => w0.heap.size ≤ k) hg hr) (fun i hi hi' => by omega), (hg.block b (by omega) (fun e => by have := hr b e.symm; omega)).trans h.box⟩
theorem CntI.below {w0 W W' : World} {b n : Nat} (h : CntI w0 W b n) (hb : Below W.heap.size W W') : CntI w0 W' b n :=
  ⟨h.only.trans (Only.of_below hb (Nat.le_refl _) (fun _ => False)) (fun _ _ hf => hf.elim), (hb.block b (Array.getElem?_eq_some_iff.1 h.box).1).trans h.box⟩
theorem CntI.set {w0 W : World} {b n : Nat} (h : CntI w0 W b n) (k : Nat) : CntI w0 (W.setCell ⟨b, 0, none⟩ (.int .i64 k)) b k :=
  ⟨h.only.trans (Only.of_grown (S := fun i => i = b) (grownBy_setCell' W b _) (fun i e => by simpa using e.symm)) (fun _ _ hi => hi), box_set h.box⟩
theorem CntI.trans {w0 W W' : World} {b n k : Nat} (h : CntI w0 W b n) (h' : CntI W W' b k) : CntI w0 W' b k := ⟨h.only.trans h'.only (fun _ _ hi => hi), h'.box⟩
theorem CntI.start {w0 W : World} {b n : Nat} (h : CntI w0 W b n) : CntI W W b n := ⟨Only.refl _ _, h.box⟩
/-- a block of deferred calls lies there still -/
theorem CntI.mark {w0 W : World} {b n D : Nat} (h : CntI w0 W b n) (hD : w0.heap[D]? = some (.deferred (some []))) (hne : D ≠ b) : W.heap[D]? = some (.deferred (some [])) := (h.only.block D (Array.getElem?_eq_some_iff.1 hD).1 hne).trans hD
theorem mark_ne {W : World} {b D n : Nat} (hb : W.heap[b]? = some (.cells #[.int .i64 n] 3 (0, 0))) (hD : W.heap[D]? = some (.deferred (some []))) : D ≠ b := fun e => by
  rw [e, hb] at hD
  cases hD
/-- the files gone over lie there still -/
theorem CntI.was {w W1 w0 W : World} {b n : Nat} {l : List F0} (h : CntI w0 W b n) (hw : WasI w W1 l) (hb : Below W1.heap.size W1 w0) (he : b = W1.heap.size) : WasI w W l :=
  hw.kept (hb.trans (h.only.below (fun i hi e => by omega) hb.size))
/-- .. and so does a disk -/
theorem CntI.disk {w0 W : World} {b n q : Nat} {S : Nat → Prop} {d : Dk} (h : CntI w0 W b n) (hd : DiskAt w0 S q d) (hS : ∀ k, S k → k ≠ b) : DiskAt W S q d := hd.only h.only (fun k hk e => hS k hk e)
theorem DiskAt.lasts_of {w : World} {S : Nat → Prop} {q : Nat} {d : Dk} (h : DiskAt w S q d) : ∀ f ∈ d.files, f.lasts ≤ f.bytes.length := by
  obtain ⟨mb, fv, L, h⟩ := h
  intro f hf
  rw [← h.files] at hf
  obtain ⟨x, hx, rfl⟩ := List.mem_map.1 hf
  exact (h.each x hx).lasts
theorem DiskAt.sorted_of {w : World} {S : Nat → Prop} {q : Nat} {d : Dk} (h : DiskAt w S q d) : (d.files.map (·.name)).Pairwise (· < ·) ∧ ∀ f ∈ d.files, nameOk f.name = true := by
  obtain ⟨mb, fv, L, h⟩ := h
  exact ⟨h.sorted, h.names⟩
end Go.Proofs.Ytmkjejngnahpeaa
/- A region that draws its order and only reads, inside a round of a range over a function. -/
namespace Go.Proofs.Ytmkjejngnahpeaa
open Go

def noDefer (o : Oper) : Bool := match o.op with | .defer _ => false | _ => true
theorem noDefer_spec {o : Oper} (h : noDefer o = true) : ∀ c, o.op ≠ .defer c := fun c e => by
  unfold noDefer at h
  rw [e] at h
  cases h
section
variable {F : Fence} {n : Nat} {P : Program} {ops : Array Oper} {md : Region.Mode} {C : World → Prop}
theorem wpIn_of_quiet_nd {o : Oper} {a : Act} {K : Act → Prop} {K' : Act → World → Prop} {Q' : Exit → Act → World → Prop} {w : World} (hnd : ∀ c, o.op ≠ .defer c) (hw : C w) (h : ∀ a w', C w' → K a → K' a w')
    (ha : o.askedIn F P a C) (hh : o.quietIn F n P a C K) : o.wpIn F n P a w K' Q' := by
  obtain ⟨v, h1, h2⟩ := hh
  have h3 := h1 w hw
  unfold Oper.quietAtIn at h3
  unfold Oper.wpIn
  refine ⟨ha w hw, ?_⟩
  rw [Oper.semAt_eq F.round _ _ hnd]
  generalize (execOp a.eval o).run P w = r at *
  cases r with
  | ok x w' =>
    cases x <;> simp only [Oper.quietUponIn] at h3 <;> simp only [Oper.uponIn]
    case value u =>
      obtain ⟨e1, e2⟩ := h3
      rw [e1, e2]
      exact h _ _ hw h2
    case skip =>
      obtain ⟨e1, e2⟩ := h3
      rw [e1, ← e2]
      exact h _ _ hw h2
    case enter f args =>
      obtain ⟨e1, hd, hc⟩ := h3
      rw [e1]
      exact ⟨hd, hc.mono fun e w'' ⟨he, hw''⟩ => by subst he; exact h _ _ hw'' h2⟩
  | halt x w' => simp only [Oper.quietUponIn] at h3
theorem wpOpIn_of_qOpIn_nd {i : Nat} {a : Act} {K : Act → Prop} {K' : Act → World → Prop} {Q' : Exit → Act → World → Prop} {w : World} (hnd : ∀ o ∈ ops, noDefer o = true) (hC : C w) (h : ∀ a w', C w' → K a → K' a w')
    (hh : qOpIn F n P ops C i K a) : wpOpIn F n P ops Q' i K' a w := by
  unfold qOpIn at hh
  unfold wpOpIn
  split
  · rename_i ho; simp only [ho] at hh; exact h _ _ hC hh
  · rename_i o ho
    simp only [ho] at hh
    obtain ⟨ha, hh⟩ := hh
    split
    · rename_i hw; simp only [hw, if_true] at hh; exact wpIn_of_quiet_nd (noDefer_spec (hnd o (Array.mem_of_getElem? ho))) hC h ha hh
    · rename_i hw; simp only [hw] at hh; exact ⟨ha w hC, h _ _ hC hh⟩
theorem wpAnyIn_of_quiet_nd {Q : Act → Prop} {Q' : Exit → Act → World → Prop} (hnd : ∀ o ∈ ops, noDefer o = true) (hQ : ∀ a w, C w → Q a → Q' .normal a w) : ∀ (fuel : Nat) (listed : Array Bool) (a : Act) (w : World), C w →
    wpAnyQIn F n P md ops C Q fuel listed a → wpAnyIn F n P md ops Q' fuel listed a w
  | 0, _, _, _, hw, h => ⟨h.1, hQ _ _ hw h.2⟩
  | fuel + 1, _, _, _, hw, h => ⟨fun h0 => hQ _ _ hw (h.1 h0), fun i hi => wpOpIn_of_qOpIn_nd hnd hw (fun a' w' hw' => wpAnyIn_of_quiet_nd hnd hQ fuel _ a' w' hw') (h.2 i hi)⟩
/-- one walk of the lexical order serves every order, in a round too, where no operation defers -/
theorem wpIn_region_quiet_nd {id : Nat} {Q : Exit → Act → World → Prop} {a : Act} {w : World} {l : List Oper} (hnd : l.all noDefer = true) (hm : P.follows .mixedOrders = true) (hB : Region.lexB .any l.toArray = true)
    (h : wpQuietIn F n P l.toArray (fun w' => ∃ n, w' = w.drewN n) (fun a' => ∀ w', (∃ n, w' = w.drewN n) → Q .normal a' w') l a) : (Code.region id l.toArray true).wpIn F n P Q a w := by
  simp only [Region.lexB, Bool.and_eq_true] at hB
  refine wpIn_region_any hm (wpAnyIn_of_quiet_nd (C := fun w' => ∃ n, w' = w.drewN n) (Q := fun a' => ∀ w', (∃ n, w' = w.drewN n) → Q .normal a' w') (fun o ho => List.all_eq_true.1 hnd o (by simpa using ho)) (fun _ w' hw' h => h w' hw') _ _ _ _ ⟨1, rfl⟩ ?_)
  have := wpAnyQIn_lex (F := F) (n := n) (C := fun w' => ∃ n, w' = w.drewN n) (md := .any) hB.1 l.toArray.toList 0 (Array.replicate l.toArray.size false) a (by simp) (by simpa using hB.2) (by simpa using h)
  simpa using this
end
end Go.Proofs.Ytmkjejngnahpeaa
/- Disk: DiskLasts, the walk. -/
namespace Go.Proofs.Ytmkjejngnahpeaa
open Go Go.Maps Go.RowKit Go.Shelf
attribute [local go_sem] Oper.semAt_some

/-- both lists of files lie there -/
structure BothAt (w w' : World) (b1 b2 : Nat) (l1 l2 : List F0) : Prop where
  one : SeqAt w' b1 l1
  two : SeqAt w' b2 l2
  below : Below w.heap.size w w'
theorem AllIs.box {w w' : World} {l : List F0} {v : Value} (h : AllIs w l (.returned v) w') : ∃ vb, v = .func (.func 161) #[] #[.pointer (some ⟨vb, 0, none⟩)] ∧ SeqAt w' vb l ∧ Below w.heap.size w w' := by
  obtain ⟨vb, he, hs, _, hb⟩ := h
  exact ⟨vb, by simpa using he, hs, hb⟩
theorem both_one {w w1 w2 : World} {b1 b2 : Nat} {l1 l2 : List F0} (h1 : SeqAt w1 b1 l1) (hb1 : Below w.heap.size w w1) (h2 : SeqAt w2 b2 l2) (hb2 : Below w1.heap.size w1 w2) : BothAt w w2 b1 b2 l1 l2 :=
  ⟨h1.kept hb2 (Nat.le_refl _), h2, hb1.trans (hb2.mono hb1.size)⟩
theorem both_two {w w1 w2 : World} {b1 b2 : Nat} {l1 l2 : List F0} (h1 : SeqAt w1 b2 l2) (hb1 : Below w.heap.size w w1) (h2 : SeqAt w2 b1 l1) (hb2 : Below w1.heap.size w1 w2) : BothAt w w2 b1 b2 l1 l2 :=
  ⟨h2, h1.kept hb2 (Nat.le_refl _), hb1.trans (hb2.mono hb1.size)⟩
theorem below_drew (w : World) : Below w.heap.size w w.drew := ⟨rfl, rfl, rfl, Nat.le_refl _, fun _ _ => rfl⟩
/-- the two boxes hold their disks -/
def P7 (w0 : World) (x y : Nat) (a b : Value) (W : World) : Prop := W.cell? ⟨x, 0, none⟩ = some a ∧ W.cell? ⟨y, 0, none⟩ = some b ∧ Below w0.heap.size w0 W ∧ x < w0.heap.size ∧ y < w0.heap.size
theorem p7_of {w0 W W' : World} {x y : Nat} {a b : Value} (h : W.cell? ⟨x, 0, none⟩ = some a ∧ W.cell? ⟨y, 0, none⟩ = some b ∧ Below w0.heap.size w0 W ∧ x < w0.heap.size ∧ y < w0.heap.size) (hb : Below W.heap.size W W') : W'.cell? ⟨x, 0, none⟩ = some a ∧ W'.cell? ⟨y, 0, none⟩ = some b ∧ Below w0.heap.size w0 W' ∧ x < w0.heap.size ∧ y < w0.heap.size :=
  ⟨(hb.cell (p := ⟨x, 0, none⟩) (Nat.lt_of_lt_of_le h.2.2.2.1 h.2.2.1.size)).trans h.1, (hb.cell (p := ⟨y, 0, none⟩) (Nat.lt_of_lt_of_le h.2.2.2.2 h.2.2.1.size)).trans h.2.1, h.2.2.1.trans (hb.mono h.2.2.1.size), h.2.2.2⟩
theorem p7_drew {w0 W : World} {x y : Nat} {a b : Value} (h : W.cell? ⟨x, 0, none⟩ = some a ∧ W.cell? ⟨y, 0, none⟩ = some b ∧ Below w0.heap.size w0 W ∧ x < w0.heap.size ∧ y < w0.heap.size) : W.drew.cell? ⟨x, 0, none⟩ = some a ∧ W.drew.cell? ⟨y, 0, none⟩ = some b ∧ Below w0.heap.size w0 W.drew ∧ x < w0.heap.size ∧ y < w0.heap.size := p7_of h ⟨rfl, rfl, rfl, Nat.le_refl _, fun _ _ => rfl⟩
theorem p7_below {w0 W : World} {x y : Nat} {a b : Value} (h : W.cell? ⟨x, 0, none⟩ = some a ∧ W.cell? ⟨y, 0, none⟩ = some b ∧ Below w0.heap.size w0 W ∧ x < w0.heap.size ∧ y < w0.heap.size) : Below w0.heap.size w0 W := h.2.2.1
theorem keepsFrom_below {B : Nat} {W W' : World} (h : Below W.heap.size W W') : KeepsFrom B W W' := ⟨h.size, fun k _ _ hk _ => (h.block k (Array.getElem?_eq_some_iff.1 hk).1).trans hk⟩
/-- what a crash call answers -/
theorem crash_d {w : World} {S : Nat → Prop} {q : Nat} {d : Dk} (h : DiskAt w S q d) {oa : Option Addr} {c n : Nat} {ps : List Int} (hn : ps.length = n) (hp : readAt w 1 (.slice oa n c) n (intCells ps)) (hpl : n ≤ 1000) (hpm : ∀ x ∈ ps, x ≤ 9223372036854775807) :
    Calls Try.prog 40 #[.pointer (some ⟨q, 0, none⟩), .agg #[.slice oa n c]] w fun e w' => (e = .returned (.tuple #[.pointer none, .int .i64 2]) ∧ Below w.heap.size w w') ∨
      (∃ q2, e = .returned (.tuple #[.pointer (some ⟨q2, 0, none⟩), .int .i64 0]) ∧ DiskAt w' (fun k => w.heap.size ≤ k ∧ k < w'.heap.size) q2 (d.crash ps) ∧ Below w.heap.size w w') := by
  subst hn
  refine (crash_b h oa c ps hp (by omega) hpm).mono ?_
  rintro e w' (⟨_, he, hb⟩ | ⟨_, q2, he, hd, hb⟩)
  · exact .inl ⟨he, hb⟩
  · exact .inr ⟨q2, he, hd, hb⟩
set_option maxRecDepth 100000 in
set_option maxHeartbeats 4000000 in
theorem lasts_main {W : World} {v0 v1 v2 : Value} {fs : List (Int × Int)} {l : List StepT} {p2 : List Int} (hf : readAt W 2 v0 fs.length (fateCells fs)) (hs : ScriptAt W v1 l) (h2 : readAt W 1 v2 p2.length (intCells p2)) (hm2 : ∀ x ∈ p2, x ≤ 9223372036854775807)
    (hfl : fs.length ≤ 100) (hvt : vastT l = false) (hrg : fs.any badFate = false) (hpl : p2.length ≤ 300) :
    Calls Try.prog 6 #[v0, v1, v2] W fun e W' => e = .returned (.bool true) ∧ Below W.heap.size W W' := by
  obtain ⟨oa, c, rfl⟩ := hf.shape
  obtain ⟨ob, cb, rfl⟩ := hs.row.shape
  obtain ⟨o2, c2, rfl⟩ := h2.shape
  obtain ⟨m, hm⟩ : ∃ n, fs.length = n := ⟨_, rfl⟩
  obtain ⟨n, hn⟩ : ∃ n, l.length = n := ⟨_, rfl⟩
  obtain ⟨n2, hn2⟩ : ∃ n, p2.length = n := ⟨_, rfl⟩
  obtain ⟨hl300, hlx⟩ := not_vast hvt
  rw [hm] at hf hfl ⊢
  rw [hn] at hs hl300 ⊢
  rw [hn2] at h2 hpl ⊢
  obtain ⟨w1, hw1⟩ : ∃ w1 : World, w1 = W.alloc (.cells #[.bool false] 4) := ⟨_, rfl⟩
  obtain ⟨b6, hb6⟩ : ∃ b, b = W.heap.size := ⟨_, rfl⟩
  have hr1 : w1.heap[b6]? = some (.cells #[.bool false] 4 (0, 0)) := by rw [hw1, hb6]; exact box_new _ _ _
  have hbe : Below W.heap.size W w1 := by rw [hw1]; exact (Below.refl _ _).alloc (Nat.le_refl _) _
  have hf1 : readAt w1 2 (.slice oa m c) m (fateCells fs) := hf.kept (fun k hk _ _ => hbe.block k hk)
  have hs1 : ScriptAt w1 (.slice ob n cb) l := hs.below hbe
  have HVB : Hid (Calls Try.prog 36 #[.slice ob n cb] w1 fun e w' => e = .returned (.bool false) ∧ w' = w1) := Lib.hid (by rw [← hvt]; exact vast_b hs1)
  have HRX : Hid (Calls Try.prog 37 #[.slice oa m c] w1 fun e w' => e = .returned (.bool true) ∧ w' = w1) := Lib.hid (by
    have := refRight_b (w := w1) (v := .slice oa m c) (l := fs) (by rw [hm]; exact hf1) (by rw [hm]; omega)
    rwa [hrg] at this)
  have HPL := Lib.hid (play_b (fs := fs) (by rw [hm]; exact hf1) hs1 (by omega) hrg (by omega) hlx)
  have hd1 : decide ((100 : Int) < (m : Int)) = false := by simp; omega
  have hd2 : decide ((300 : Int) < (n2 : Int)) = false := by simp; omega
  have HR1 := Lib.hid hr1
  have HB1 := Lib.hid hbe
  have HP2 := Lib.hid (And.intro h2 (And.intro hn2 hm2))
  have HPN : Hid (n2 ≤ 300 ∧ n ≤ 300 ∧ l.length = n) := Lib.hid ⟨hpl, hl300, hn⟩
  clear hr1 hbe hf hs h2 hm2 hvt hrg hm hn hn2 hlx hf1 hs1 hpl hfl hl300
  refine (callsIn_wide (n := 8)).1 ?_
  have f1 : Fence.wide.fn 36 := trivial
  have f2 : Fence.wide.fn 37 := trivial
  have f3 : Fence.wide.fn 38 := trivial
  have f4 : Fence.wide.fn 39 := trivial
  have f5 : Fence.wide.fn 40 := trivial
  have f6 : Fence.wide.fn 41 := trivial
  have f7 : Fence.wide.fn 42 := trivial
  refine callsIn_of_wp_marks Try.func6 rfl trivial ?_ rfl
  simp only [Try.ntmps6, List.size_toArray, List.length_cons, List.length_nil, Nat.reduceAdd, Nat.reduceSub, Array.replicate_succ, Array.replicate_zero, List.push_toArray, List.append_toArray, List.nil_append, List.cons_append]
  gi_wp2_with (first | (gi_at_call 36; rw [← hw1, ← hb6]; have HW1 := Lib.hid (And.intro hw1 hb6); clear hw1 hb6; refine (callsIn_wide.2 HVB.out).mono ?_; rintro e w' ⟨rfl, hw'⟩; obtain rfl := hw'.symm) | (gi_at_call 37; refine (callsIn_wide.2 HRX.out).mono ?_; rintro e w' ⟨rfl, hw'⟩; obtain rfl := hw'.symm))
  refine (callsIn_wide.2 HPL.out).mono ?_
  rintro e w2 ⟨q, rfl, hdp, hsm, hbp⟩
  obtain ⟨d, hd⟩ : ∃ d0, Dk.playT ⟨[], fs, 0⟩ l = d0 := ⟨_, rfl⟩
  rw [hd] at hdp hsm
  rw [HPN.out.2.2] at hsm
  clear hd HPL HVB HRX
  have HD2 : Hid (DiskAt w2 (Can w1.heap.size w2) q d ∧ Small d n) := Lib.hid ⟨hdp, hsm⟩
  have HR2 := Lib.hid ((hbp.block b6 (Array.getElem?_eq_some_iff.1 HR1.out).1).trans HR1.out)
  have HB2 := Lib.hid (HB1.out.trans (hbp.mono HB1.out.size))
  have HS2 := Lib.hid (And.intro (Array.getElem?_eq_some_iff.1 HR1.out).1 hbp.size)
  clear hdp hsm hbp
  gi_wp2_with fail
  obtain ⟨w3, hw3⟩ : ∃ w3 : World, w3 = w2.alloc (.cells #[.pointer (some ⟨q, 0, none⟩)] 37) := ⟨_, rfl⟩
  obtain ⟨b7, hb7⟩ : ∃ b, b = w2.heap.size := ⟨_, rfl⟩
  have hx3 : w3.heap[b7]? = some (.cells #[.pointer (some ⟨q, 0, none⟩)] 37 (0, 0)) := by rw [hw3, hb7]; exact box_new _ _ _
  have hb23 : Below w2.heap.size w2 w3 := by rw [hw3]; exact (Below.refl _ _).alloc (Nat.le_refl _) _
  rw [← hw3, ← hb7]
  have HB7 := Lib.hid hb7
  have HX3 := Lib.hid hx3
  have HR3 := Lib.hid ((hb23.block b6 (Array.getElem?_eq_some_iff.1 HR2.out).1).trans HR2.out)
  have HB3 := Lib.hid (HB2.out.trans (hb23.mono HB2.out.size))
  have HD3 := Lib.hid (HD2.out.1.below hb23)
  have HSM := Lib.hid HD2.out.2
  clear hw3 hb7 hx3 hb23 HR2 HB2 HD2
  have hcr := crash_d HD3.out HP2.out.2.1 (HP2.out.1.kept (fun k hk _ _ => HB3.out.block k hk)) (by have := HPN.out; omega) HP2.out.2.2
  refine (callsIn_wide.2 hcr).mono ?_
  clear hcr
  rintro e w4 (⟨rfl, hb4⟩ | ⟨qo, rfl, hdo, hb4⟩)
  · have HR4 := Lib.hid ((hb4.block b6 (Array.getElem?_eq_some_iff.1 HR3.out).1).trans HR3.out)
    have HB4 := Lib.hid (HB3.out.trans (hb4.mono HB3.out.size))
    clear hb4
    gi_wp2_with fail
    refine (callsIn_wide.2 (known7_b _)).mono ?_
    rintro e w5 ⟨rfl, hb⟩
    have hb45 : Below w4.heap.size w4 w5 := ((Below.refl _ _).alloc (Nat.le_refl _) _).trans (hb.mono (by simp))
    have HR5 := Lib.hid ((hb45.block b6 (Array.getElem?_eq_some_iff.1 HR4.out).1).trans HR4.out)
    have HB5 := Lib.hid (HB4.out.trans (hb45.mono HB4.out.size))
    have rc : w5.cell? ⟨b6, 0, none⟩ = some (.bool false) := cell_of HR5.out rfl
    have rz : w5.frozen? ⟨b6, 0, none⟩ = false := free_of HR5.out _
    clear hb hb45
    gi_wp2_with fail
    have hrr := cell_of (box_set (u := .bool true) HR5.out) (i := 0) (v := .bool true) rfl
    refine ⟨.bool true, ?_, rfl, HB5.out.setCell (p := ⟨b6, 0, none⟩) (by have := HW1.out.2; show W.heap.size ≤ b6; omega) _⟩
    simp [results, Try.results6, go_sem, hrr]
  · have HDO := Lib.hid hdo
    have HB34 := Lib.hid hb4
    have HX4 := Lib.hid ((hb4.block b7 (Array.getElem?_eq_some_iff.1 HX3.out).1).trans HX3.out)
    have HR4 := Lib.hid ((hb4.block b6 (Array.getElem?_eq_some_iff.1 HR3.out).1).trans HR3.out)
    have HB4 := Lib.hid (HB3.out.trans (hb4.mono HB3.out.size))
    have HD4 := Lib.hid (HD3.out.below hb4)
    have HD3o := HD3
    clear hdo hb4 HR3 HB3 HX3 HD3
    gi_upto_region 7 with fail
    obtain ⟨w5, hw5⟩ : ∃ w5 : World, w5 = w4.alloc (.cells #[.pointer (some ⟨qo, 0, none⟩)] 37) := ⟨_, rfl⟩
    obtain ⟨b8, hb8⟩ : ∃ b, b = w4.heap.size := ⟨_, rfl⟩
    have hy5 : w5.heap[b8]? = some (.cells #[.pointer (some ⟨qo, 0, none⟩)] 37 (0, 0)) := by rw [hw5, hb8]; exact box_new _ _ _
    have hb45 : Below w4.heap.size w4 w5 := by rw [hw5]; exact (Below.refl _ _).alloc (Nat.le_refl _) _
    rw [← hw5, ← hb8]
    have HB8 := Lib.hid hb8
    have hx5 := (hb45.block b7 (Array.getElem?_eq_some_iff.1 HX4.out).1).trans HX4.out
    have HXY := Lib.hid (And.intro hx5 hy5)
    have HR5 := Lib.hid ((hb45.block b6 (Array.getElem?_eq_some_iff.1 HR4.out).1).trans HR4.out)
    have HB5 := Lib.hid (HB4.out.trans (hb45.mono HB4.out.size))
    have HD5 := Lib.hid (HD4.out.below hb45)
    have HO5 := Lib.hid (HDO.out.below hb45)
    have hne : ¬ qo = q := fun he => by
      obtain ⟨mb1, fv1, L1, k1⟩ := HD3o.out
      obtain ⟨mb2, fv2, L2, k2⟩ := HDO.out
      have h1 := k1.low q k1.q_mem
      have h2 := k2.foot qo (by simp [diskBlocks])
      have h3 := h2.1
      omega
    have HQ : Hid (∀ W, Below w5.heap.size w5 W → ∀ k, (k = q ∨ k = qo) → Calls Try.prog 41 #[.pointer (some ⟨k, 0, none⟩)] W fun e w' => AllIs W (if k = q then d.files else (d.crash p2).files) e w') := Lib.hid (fun W hb k hk => by
      by_cases h : k = q
      · subst h; rw [if_pos rfl]; exact all_b (HD5.out.below hb)
      · rw [if_neg h]
        rcases hk with hk | hk
        · exact absurd hk h
        · subst hk; exact all_b (HO5.out.below hb))
    have h7 : w5.cell? ⟨b7, 0, none⟩ = some (.pointer (some ⟨q, 0, none⟩)) ∧ w5.cell? ⟨b8, 0, none⟩ = some (.pointer (some ⟨qo, 0, none⟩)) ∧ Below w5.heap.size w5 w5 ∧ b7 < w5.heap.size ∧ b8 < w5.heap.size := ⟨cell_of hx5 rfl, cell_of hy5 rfl, Below.refl _ _, (Array.getElem?_eq_some_iff.1 hx5).1, (Array.getElem?_eq_some_iff.1 hy5).1⟩
    clear hw5 hb8 hy5 hb45 hx5 HX4 HR4 HB4 HD4 HDO HD3o
    gi_cut [8, 10, 11] from 8 (fun s8 s10 s11 wx => s8 = .pointer (some ⟨b8, 0, none⟩) ∧ ∃ va vb, s10 = .func (.func 161) #[] #[.pointer (some ⟨va, 0, none⟩)] ∧ s11 = .func (.func 161) #[] #[.pointer (some ⟨vb, 0, none⟩)] ∧ Hid (BothAt w5 wx va vb d.files (d.crash p2).files))
    case first =>
      refine wpIn_wide.2 (wp_only ?_)
      go_region_held3 (fun W => W.cell? ⟨b7, 0, none⟩ = some (.pointer (some ⟨q, 0, none⟩)) ∧ W.cell? ⟨b8, 0, none⟩ = some (.pointer (some ⟨qo, 0, none⟩)) ∧ Below w5.heap.size w5 W ∧ b7 < w5.heap.size ∧ b8 < w5.heap.size)
        (first | assumption | exact p7_drew (by assumption) | exact p7_of (by assumption) (by assumption))
        (first | (go_at_call 41; refine (HQ.out _ (p7_below (by assumption)) _ (by first | exact .inl rfl | exact .inr rfl)).mono ?_; rintro e wa ⟨va, rfl, hsa, -, hba⟩; first | (rw [if_pos rfl] at hsa; have HSA := Lib.hid (And.intro hsa hba)) | (rw [if_neg hne] at hsa; have HSB := Lib.hid (And.intro hsa hba))))
      all_goals
        go_wp2_with fail
        go_meet
        refine ⟨rfl, _, _, rfl, rfl, Lib.hid ?_⟩
        exact both_one HSA.out.1 ((below_drew w5).trans HSA.out.2) HSB.out.1 HSB.out.2
    case rest =>
      obtain ⟨rfl, va, vb, rfl, rfl, HBA⟩ := hcut
      clear HQ h7 hne
      have hnf : ∀ (k : Nat) (W : World), (binOp .eql 74 (.func (.func 161) #[] #[.pointer (some ⟨k, 0, none⟩)]) .nilFunc).run Try.prog W = .ok (.bool false) W := fun k W => by kernel_rfl
      gi_wp2_with fail
      obtain ⟨w12, hw12⟩ : ∃ w12 : World, w12 = wc.alloc (.cells #[.slice none 0 0] 76) := ⟨_, rfl⟩
      have hwas0 : WasI wc w12 [] := by rw [hw12]; exact WasI.new wc
      have hsz12 : w12.heap.size = wc.heap.size + 1 := by rw [hw12]; simp
      have hb12 : Below wc.heap.size wc w12 := hwas0.below
      rw [← hw12]
      have hfl : d.files.length ≤ 1000000 := by have := HSM.out.files; have := HPN.out; omega
      have hst1 := told_stops Fence.wide 7 trivial rfl (by omega) va wc d.files HBA.out.one hfl
      have HFL := Lib.hid hfl
      clear hw12 hnf hfl
      refine wpIn_rangeFunc_box (n := 8) (α := Of d.files) rfl (by omega) (gf := 161) (lb := #[.pointer (some ⟨va, 0, none⟩)]) rfl trivial (enters_of Try.func161 (by kernel_rfl) rfl) hst1 (by omega) hb12 (fun _ => rfl)
        (fun (pre : List (Of d.files)) W => WasI wc W (pre.map (·.1))) (fun _ _ _ => False) (fun pre W W' row hp hg hr => WasI.grown hp hg (fun r e => ⟨by have := (hr r e).1; omega, (hr r e).2⟩)) (fun _ => fun _ _ _ _ hs _ _ => hs) hwas0 (fun pre W hp => by have := hp.size; omega)
        78 (fun x => (fileCells x.1).toArray) ?A ?assign ?body ?done ?stop
      case assign =>
        intro l x W K B hB hK
        unfold encOf fileV
        gi_wp2_with fail
        rw [← hB]
        exact hK
      case body =>
        intro l pre x B W1 hl hlr hp hB hx hlen
        obtain ⟨xf, hxf⟩ : ∃ f, x.1 = f := ⟨_, rfl⟩
        rw [hxf] at hx
        obtain ⟨oa3, c3, hbx, hrw, hown⟩ := hp.box
        obtain ⟨m3, hm3⟩ : ∃ k, (pre.map (·.1)).length = k := ⟨_, rfl⟩
        rw [hm3] at hbx hrw hown
        have hm3' : m3 ≤ 1000000 := by rw [← hm3, List.length_map]; exact Nat.le_of_lt (Nat.lt_of_lt_of_le hlen HFL.out)
        obtain ⟨a0, ha0⟩ : ∃ a : ByteArray, Go.Proofs.encStr xf.name = .string a := ⟨_, rfl⟩
        obtain ⟨a1, ha1⟩ : ∃ a : Int, (xf.bytes.length : Int) = a := ⟨_, rfl⟩
        obtain ⟨a2, ha2⟩ : ∃ a : Int, (xf.lasts : Int) = a := ⟨_, rfl⟩
        obtain ⟨a3, ha3⟩ : ∃ a, xf.there = a := ⟨_, rfl⟩
        obtain ⟨a4, ha4⟩ : ∃ a, xf.named = a := ⟨_, rfl⟩
        have hfc : fileCells xf = [.string a0, .int .i64 a1, .int .i64 a2, .bool a3, .bool a4] := by unfold fileCells; rw [ha0, ha1, ha2, ha3, ha4]
        rw [hfc] at hx
        have k0 : W1.cell? ⟨B, 0, none⟩ = some (.string a0) := cell_of hx rfl
        have k1 : W1.cell? ⟨B, 1, none⟩ = some (.int .i64 a1) := cell_of hx rfl
        have k2 : W1.cell? ⟨B, 2, none⟩ = some (.int .i64 a2) := cell_of hx rfl
        have k3 : W1.cell? ⟨B, 3, none⟩ = some (.bool a3) := cell_of hx rfl
        have k4 : W1.cell? ⟨B, 4, none⟩ = some (.bool a4) := cell_of hx rfl
        have kb : W1.cell? ⟨wc.heap.size, 0, none⟩ = some (.slice oa3 m3 c3) := cell_of hbx rfl
        have kf : W1.frozen? ⟨wc.heap.size, 0, none⟩ = false := free_of hbx _
        have HBX := Lib.hid (And.intro hbx (And.intro hrw hown))
        have HP := Lib.hid hp
        have HFC := Lib.hid (And.intro hfc (And.intro hxf (And.intro hm3 hm3')))
        clear hx hbx hrw hown hp hxf hm3 hm3' ha0 ha1 ha2 ha3 ha4 hfc hwas0 hst1 hb12
        gi_wp2_with (gi_at_builtin; refine wpListIn_append_file rfl (.tmp 70) (.tmp 72) rfl HBX.out.2.1 HFC.out.2.2.2 (by intro v hv; simp only [List.mem_cons, List.not_mem_nil, or_false] at hv; rcases hv with rfl | rfl | rfl | rfl | rfl <;> rfl) rfl rfl ?_; intro oa5 c5 w9 HRX HGX HOX; have hbx9 := was_box HP.out HBX.out.1 HBX.out.2.2 HGX.out; have kb9 : w9.cell? ⟨wc.heap.size, 0, none⟩ = some (.slice oa3 m3 c3) := cell_of hbx9 rfl; have kf9 : w9.frozen? ⟨wc.heap.size, 0, none⟩ = false := free_of hbx9 _; clear hbx9)
        have hm3 := HFC.out.2.2.1
        have hxf := HFC.out.2.1
        have hfc := HFC.out.1
        have hst := WasI.step (x := xf) (o := .cells #[.string a0, .int .i64 a1, .int .i64 a2, .bool a3, .bool a4] 78) (oa := oa3) (c := c3) (oa3 := oa5) (c3 := c5) (w3 := w9) HP.out (by rw [hm3]; exact HBX.out.1) (by rw [hm3]; exact HBX.out.2.2) (by rw [hm3, hfc]; exact HRX.out) (by rw [hm3]; exact HGX.out) (by rw [hm3]; exact HOX.out)
        rw [hm3] at hst
        refine ⟨was_keeps HBX.out.2.1 HGX.out _, was_below HP.out HBX.out.2.2 HGX.out _, ?_⟩
        show WasI wc _ ((pre ++ [x]).map (·.1))
        rw [List.map_append, List.map_cons, List.map_nil, hxf]
        exact hst
      case stop =>
        rintro D c0 pre W1 _ h0 hf _
        exact hf.elim
      case done =>
        rintro D xs W1 hD hxs hp hK
        have hxs' : xs.map (·.1) = d.files := hxs
        rw [hxs'] at hp
        have HP := Lib.hid hp
        have HMK := Lib.hid (And.intro hK hD)
        clear hxs hxs' hp hK hD hst1 hwas0
        gi_wp2_with fail
        obtain ⟨w14, hw14⟩ : ∃ w14 : World, w14 = W1.alloc (.cells #[.int .i64 0] 3) := ⟨_, rfl⟩
        obtain ⟨b14, hb14⟩ : ∃ b, b = W1.heap.size := ⟨_, rfl⟩
        have hc14 : CntI w14 w14 b14 0 := ⟨Only.refl _ _, by rw [hw14, hb14]; exact box_new _ _ _⟩
        have hbw : Below W1.heap.size W1 w14 := by rw [hw14]; exact (Below.refl _ _).alloc (Nat.le_refl _) _
        have hb14' : b14 < w14.heap.size := (Array.getElem?_eq_some_iff.1 hc14.box).1
        have hwb : Below wc.heap.size wc w14 := HP.out.below.trans (hbw.mono HP.out.below.size)
        rw [← hw14, ← hb14]
        have H14 := Lib.hid (And.intro hb14 hbw)
        have hfl2 : (d.crash p2).files.length ≤ 1000000 := by
          obtain ⟨mb, fv, L, k⟩ := HO5.out
          have := k.few
          omega
        have hst2 := told_stops Fence.wide 7 trivial rfl (by omega) vb wc (d.crash p2).files HBA.out.two hfl2
        have HFL2 := Lib.hid hfl2
        clear hw14 hb14 hbw hfl2
        refine wpIn_rangeFunc_box (n := 8) (α := Of (d.crash p2).files) rfl (by omega) (gf := 161) (lb := #[.pointer (some ⟨vb, 0, none⟩)]) rfl trivial (enters_of Try.func161 (by kernel_rfl) rfl) hst2 hwb.size hwb (fun _ => rfl)
          (fun (pre : List (Of (d.crash p2).files)) W => CntI w14 W b14 (firmIn d.files (pre.map (·.1)))) (fun _ _ _ => False) (fun pre W W' row hp hg hr => CntI.grown hp hb14' hg (fun r e => (hr r e).1)) (fun _ => fun _ _ _ _ hs _ _ => hs) hc14 (fun pre W hp => hp.only.size)
          78 (fun x => (fileCells x.1).toArray) ?A2 ?assign2 ?body2 ?done2 ?stop2
        case assign2 =>
          intro l x W K B hB hK
          unfold encOf fileV
          gi_wp2_with fail
          rw [← hB]
          exact hK
        case stop2 =>
          rintro D c0 pre W1 _ h0 hf _
          exact hf.elim
        case body2 =>
          intro l pre x B W2 hl hlr hp hB hx hlen
          obtain ⟨xf, hxf⟩ : ∃ f, x.1 = f := ⟨_, rfl⟩
          have hxm : xf ∈ (d.crash p2).files := by rw [← hxf]; exact x.2
          have hn14 : firmIn d.files (pre.map (·.1)) ≤ 1000000 := by
            have h1 := firmIn_le d.files (pre.map (·.1))
            rw [List.length_map] at h1
            have h2 := HFL2.out
            omega
          rw [hxf] at hx
          obtain ⟨f, hwm, hlast, hlook, hleft⟩ := left_reads p2 HD5.out.lasts_of HD5.out.sorted_of.1 hxm
          obtain ⟨a0, ha0⟩ : ∃ a : ByteArray, a = ⟨xf.name.toArray⟩ := ⟨_, rfl⟩
          obtain ⟨a1, ha1⟩ : ∃ a : Int, a = (xf.bytes.length : Int) := ⟨_, rfl⟩
          obtain ⟨z1, hz1⟩ : ∃ a : Int, a = (f.bytes.length : Int) := ⟨_, rfl⟩
          obtain ⟨z2, hz2⟩ : ∃ a : Int, a = (f.lasts : Int) := ⟨_, rfl⟩
          obtain ⟨zt, hzt⟩ : ∃ b, b = f.there := ⟨_, rfl⟩
          obtain ⟨zn, hzn⟩ : ∃ b, b = f.named := ⟨_, rfl⟩
          have hxc : fileCells xf = [.string a0, .int .i64 a1, .int .i64 a1, .bool true, .bool true] := by
            unfold fileCells
            rw [ha0, ha1, hleft.lasts, hleft.there, hleft.named]
          have HFC : Hid (fileCells f = [.string a0, .int .i64 z1, .int .i64 z2, .bool zt, .bool zn]) := Lib.hid (by
            unfold fileCells
            rw [ha0, hz1, hz2, hzt, hzn, hleft.name])
          have hd1 : decide (a1 < z2) = false := decide_eq_false (by
            have := hleft.least
            omega)
          have hd2 : decide (z1 < a1) = false := decide_eq_false (by
            have := hleft.most
            omega)
          have hd1b : ¬ a1 < z2 := by simpa using hd1
          have hd2b : ¬ z1 < a1 := by simpa using hd2
          have ha1b : 0 ≤ a1 ∧ a1 ≤ 16777216 := by
            obtain ⟨mb5, fv5, L5, k5⟩ := HO5.out
            have h1 := hxm
            rw [← k5.files] at h1
            obtain ⟨y, hy, hye⟩ := List.mem_map.1 h1
            have h2 := (k5.each y hy).size
            rw [hye] at h2
            omega
          rw [hxc] at hx
          obtain ⟨n14, hn14e⟩ : ∃ n, n = firmIn d.files (pre.map (·.1)) := ⟨_, rfl⟩
          rw [← hn14e] at hp hn14
          have HSN : Hid (firmIn d.files ((pre ++ [x]).map (·.1)) = n14 + (if (zt && zn) = true then 1 else 0)) := Lib.hid (by
            rw [List.map_append, List.map_cons, List.map_nil, hxf, firmIn_snoc, hlook, ← hn14e, hzt, hzn]
            rfl)
          have hnm : a0.data.toList = xf.name := by rw [ha0]
          have HN0 := Lib.hid ha0
          obtain ⟨N, hN⟩ : ∃ N, d.files.length = N := ⟨_, rfl⟩
          have HN := Lib.hid hN
          have HLS : Hid (lastF d.files xf.name zeroF0 = f) := Lib.hid hlast
          have HW2w := hp.was HP.out H14.out.2 H14.out.1
          have hwc2 : wc.heap.size ≤ W2.heap.size := by have := HW2w.size; omega
          have hw52 : Below w5.heap.size w5 W2 := by
            have g2 : Below w5.heap.size w5 W1 := HBA.out.below.trans (HP.out.below.mono HBA.out.below.size)
            have g3 : Below w5.heap.size w5 w14 := g2.trans (H14.out.2.mono g2.size)
            have g4 := H14.out.1
            exact g3.trans (hp.only.below (fun i hi e => by have := g2.size; omega) g3.size)
          have hD2 := HD5.out.below hw52
          have hO2 := HO5.out.below hw52
          have h7 := (hw52.block b7 (Array.getElem?_eq_some_iff.1 HXY.out.1).1).trans HXY.out.1
          have h8 := (hw52.block b8 (Array.getElem?_eq_some_iff.1 HXY.out.2).1).trans HXY.out.2
          have HB2 : Hid (WasI wc W2 d.files ∧ W2.heap[B]? = some (.cells #[.string a0, .int .i64 a1, .int .i64 a1, .bool true, .bool true] 78 (0, 0)) ∧ W2.heap[b7]? = some (.cells #[.pointer (some ⟨q, 0, none⟩)] 37 (0, 0)) ∧ W2.heap[b8]? = some (.cells #[.pointer (some ⟨qo, 0, none⟩)] 37 (0, 0))) := Lib.hid ⟨HW2w, hx, h7, h8⟩
          have HDO2 := Lib.hid (And.intro hD2 hO2)
          have hokx : nameOk xf.name = true := HO5.out.sorted_of.2 xf hxm
          have HRD : Hid (zt = true → d.read a0.data.toList 0 a1 = (xf.bytes, 0) ∧ (d.crash p2).read a0.data.toList 0 (a1 + 9) = (xf.bytes, 0)) := Lib.hid (fun hz => by
            rw [hnm, ha1]
            exact reads_same HD5.out.sorted_of.1 HO5.out.sorted_of.1 hxm hwm (by rw [← hzt]; exact hz) hleft hokx)
          have hnsz : a0.size ≤ maxLen := by
            have h1 : xf.name.length ≤ 32 := by
              have h2 := hokx
              unfold nameOk at h2
              simp only [Bool.and_eq_true, decide_eq_true_eq] at h2
              exact h2.2
            have h3 : a0.size = xf.name.length := by rw [ha0]; simp [ByteArray.size]
            unfold maxLen
            omega
          have HNS := Lib.hid hnsz
          have HP2 := Lib.hid (And.intro hp hwc2)
          have HN14 := Lib.hid hn14
          have HL := Lib.hid (And.intro hl (And.intro hlr hB))
          clear hl hlr hB hp hx hlen hxm hwm hlast hlook hleft hxc ha0 ha1 hz1 hz2 hzt hzn hn14e hN HW2w hwc2 hw52 hD2 hO2 h7 h8 hokx hnm hnsz hn14 hc14 hst2 hxf
          gi_wp2_with fail
          obtain ⟨w16, hw16⟩ : ∃ w16 : World, w16 = W2.alloc (.cells #[.string ⟨#[]⟩, .int .i64 0, .int .i64 0, .bool false, .bool false] 78) := ⟨_, rfl⟩
          obtain ⟨b16, hb16⟩ : ∃ b, b = W2.heap.size := ⟨_, rfl⟩
          have hc16 : w16.heap[b16]? = some (.cells (fileCells zeroF0).toArray 78 (0, 0)) := by rw [hw16, hb16]; exact alloc_cells _ _ _
          have hbw16 : Below W2.heap.size W2 w16 := by rw [hw16]; exact (Below.refl _ _).alloc (Nat.le_refl _) _
          rw [← hw16, ← hb16]
          have HB16 := Lib.hid hb16
          have HC16 := Lib.hid (And.intro hc16 hbw16)
          clear hw16 hb16 hc16 hbw16
          gi_loopw [17] (fun i wr => ∃ j : Nat, j ≤ N ∧ i = .int .i64 j ∧ Hid (wr.heap[b16]? = some (.cells (fileCells (lastF (d.files.take j) xf.name zeroF0)).toArray 78 (0, 0)) ∧ Below W2.heap.size W2 wr)) (fun i wr => N - (intOf i).toNat)
          case atStart => exact ⟨0, Nat.zero_le _, rfl, HC16⟩
          case round =>
            obtain ⟨j, hjN, rfl, HI⟩ := hrel
            have hwas := HB2.out.1.kept HI.out.2
            obtain ⟨oaw, cw, hbxw, hrww, _⟩ := hwas.box
            rw [HN.out] at hbxw hrww
            have kw : wr.cell? ⟨wc.heap.size, 0, none⟩ = some (.slice oaw N cw) := cell_of hbxw rfl
            have hxr := (HI.out.2.block B (Array.getElem?_eq_some_iff.1 HB2.out.2.1).1).trans HB2.out.2.1
            have x0 : wr.cell? ⟨B, 0, none⟩ = some (.string a0) := cell_of hxr rfl
            have hNb : N ≤ 1000000 := by rw [← HN.out]; exact HFL.out
            clear hbxw hwas
            by_cases hlt : j < N
            · have hjf : j < d.files.length := by rw [HN.out]; exact hlt
              obtain ⟨y, hy⟩ : ∃ y, d.files[j] = y := ⟨_, rfl⟩
              obtain ⟨g, off, rfl⟩ := hrww.addr (by omega)
              have hcell : ∀ i, i < 5 → ∀ u, (fileCells y)[i]? = some u → wr.cell? ⟨g, off + (j * 5 + i), none⟩ = some u := fun i hi u hu => by
                have := hrww.cells (g := g) (off := off) rfl (j * 5 + i) u (by rw [filesCells_get hjf hi, hy, hu])
                simpa [Go.WideShapes.add_plain] using this
              obtain ⟨y0, hy0⟩ : ∃ a : ByteArray, a = ⟨y.name.toArray⟩ := ⟨_, rfl⟩
              obtain ⟨y1, hy1⟩ : ∃ a : Int, a = (y.bytes.length : Int) := ⟨_, rfl⟩
              obtain ⟨y2, hy2⟩ : ∃ a : Int, a = (y.lasts : Int) := ⟨_, rfl⟩
              obtain ⟨y3, hy3⟩ : ∃ a, a = y.there := ⟨_, rfl⟩
              obtain ⟨y4, hy4⟩ : ∃ a, a = y.named := ⟨_, rfl⟩
              have hyc : fileCells y = [.string y0, .int .i64 y1, .int .i64 y2, .bool y3, .bool y4] := by
                unfold fileCells
                rw [hy0, hy1, hy2, hy3, hy4]
              have k0 : wr.cell? ⟨g, off + j * 5, none⟩ = some (.string y0) := hcell 0 (by omega) _ (by rw [hyc]; rfl)
              have k1 : wr.cell? ⟨g, off + j * 5 + 1, none⟩ = some (.int .i64 y1) := hcell 1 (by omega) _ (by rw [hyc]; rfl)
              have k2 : wr.cell? ⟨g, off + j * 5 + 2, none⟩ = some (.int .i64 y2) := hcell 2 (by omega) _ (by rw [hyc]; rfl)
              have k3 : wr.cell? ⟨g, off + j * 5 + 3, none⟩ = some (.bool y3) := hcell 3 (by omega) _ (by rw [hyc]; rfl)
              have k4 : wr.cell? ⟨g, off + j * 5 + 4, none⟩ = some (.bool y4) := hcell 4 (by omega) _ (by rw [hyc]; rfl)
              have hfs := lastF_succ hjf xf.name zeroF0
              rw [hy] at hfs
              have HSZ : Hid (W2.heap.size ≤ b16) := Lib.hid (by rw [HB16.out]; exact Nat.le_refl _)
              obtain ⟨lz, hlz⟩ : ∃ z, lastF (d.files.take j) xf.name zeroF0 = z := ⟨_, rfl⟩
              rw [hlz] at hfs HI
              by_cases hn : y.name = xf.name
              · have heq : (y0.toList == a0.toList) = true := str_eq_true (by rw [hy0, HN0.out, hn])
                obtain ⟨l0, hl0⟩ : ∃ a, Go.Proofs.encStr lz.name = a := ⟨_, rfl⟩
                have hb0 : wr.cell? ⟨b16, 0, none⟩ = some l0 := by rw [← hl0]; exact cell_of HI.out.1 rfl
                have hb1 : wr.cell? ⟨b16, 1, none⟩ = some (.int .i64 lz.bytes.length) := cell_of HI.out.1 rfl
                have hb2 : wr.cell? ⟨b16, 2, none⟩ = some (.int .i64 lz.lasts) := cell_of HI.out.1 rfl
                have hb3 : wr.cell? ⟨b16, 3, none⟩ = some (.bool lz.there) := cell_of HI.out.1 rfl
                have hb4 : wr.cell? ⟨b16, 4, none⟩ = some (.bool lz.named) := cell_of HI.out.1 rfl
                have z0 : wr.frozen? ⟨b16, 0, none⟩ = false := free_of HI.out.1 _
                have z1 : wr.frozen? ⟨b16, 1, none⟩ = false := free_of HI.out.1 _
                have z2 : wr.frozen? ⟨b16, 2, none⟩ = false := free_of HI.out.1 _
                have z3 : wr.frozen? ⟨b16, 3, none⟩ = false := free_of HI.out.1 _
                have z4 : wr.frozen? ⟨b16, 4, none⟩ = false := free_of HI.out.1 _
                rw [if_pos hn] at hfs
                have HFS := Lib.hid (And.intro hfs hyc)
                clear hfs hyc hcell hrww hxr hy hy0 hy1 hy2 hy3 hy4 hlz hn hl0
                gi_wp2_with fail
                refine wpIn_region_quiet_nd (by kernel_rfl) (by kernel_rfl) (by kernel_rfl) ?_
                repeat (gi_big_quiet_step (fail))
                refine wpQuietIn_nil ?_
                intro _ hw'
                obtain ⟨nq, hw''⟩ := hw'
                subst hw''
                gi_wp2_with fail
                refine ⟨⟨j + 1, by omega, by simp, Lib.hid ⟨?_, ?_⟩⟩, by simp [intOf]; omega⟩
                · rw [HFS.out.1, HFS.out.2]
                  refine (heap_setCell_here _ (heap_setCell_here _ (heap_setCell_here _ (heap_setCell_here _ (heap_setCell_here _ (w := wr.drewN nq) HI.out.1))))).trans ?_
                  rfl
                · have hd : Below W2.heap.size W2 (wr.drewN nq) := ⟨HI.out.2.os, HI.out.2.tape, HI.out.2.output, HI.out.2.size, HI.out.2.block⟩
                  exact ((((hd.setCell (p := ⟨b16, 0, none⟩) HSZ.out _).setCell (p := ⟨b16, 1, none⟩) HSZ.out _).setCell (p := ⟨b16, 2, none⟩) HSZ.out _).setCell (p := ⟨b16, 3, none⟩) HSZ.out _).setCell (p := ⟨b16, 4, none⟩) HSZ.out _
              · have heq : (y0.toList == a0.toList) = false := str_eq_false (fun e => hn (by
                  rw [hy0, HN0.out] at e
                  simpa using e))
                rw [if_neg hn] at hfs
                have HFS := Lib.hid hfs
                clear hfs hyc hcell hrww hxr hy hy0 hy1 hy2 hy3 hy4 hlz hn k1 k2 k3 k4
                gi_wp2_with fail
                refine wpIn_region_quiet_nd (by kernel_rfl) (by kernel_rfl) (by kernel_rfl) ?_
                repeat (gi_big_quiet_step (fail))
                refine wpQuietIn_nil ?_
                intro _ hw'
                obtain ⟨nq, hw''⟩ := hw'
                subst hw''
                gi_wp2_with fail
                refine ⟨⟨j + 1, by omega, by simp, Lib.hid ⟨?_, ?_⟩⟩, by simp [intOf]; omega⟩
                · rw [HFS.out]
                  exact HI.out.1
                · exact ⟨HI.out.2.os, HI.out.2.tape, HI.out.2.output, HI.out.2.size, HI.out.2.block⟩
            · obtain rfl : j = N := by omega
              have hlf : lastF (d.files.take j) xf.name zeroF0 = f := by rw [← HN.out, List.take_length]; exact HLS.out
              have h16 := HI.out.1
              rw [hlf, HFC.out] at h16
              have HBW := Lib.hid HI.out.2
              have e0 : wr.cell? ⟨b16, 0, none⟩ = some (.string a0) := cell_of h16 rfl
              have e1 : wr.cell? ⟨b16, 1, none⟩ = some (.int .i64 z1) := cell_of h16 rfl
              have e2 : wr.cell? ⟨b16, 2, none⟩ = some (.int .i64 z2) := cell_of h16 rfl
              have e3 : wr.cell? ⟨b16, 3, none⟩ = some (.bool zt) := cell_of h16 rfl
              have e4 : wr.cell? ⟨b16, 4, none⟩ = some (.bool zn) := cell_of h16 rfl
              have x1 : wr.cell? ⟨B, 1, none⟩ = some (.int .i64 a1) := cell_of hxr rfl
              have x2 : wr.cell? ⟨B, 2, none⟩ = some (.int .i64 a1) := cell_of hxr rfl
              have x3 : wr.cell? ⟨B, 3, none⟩ = some (.bool true) := cell_of hxr rfl
              have x4 : wr.cell? ⟨B, 4, none⟩ = some (.bool true) := cell_of hxr rfl
              have H16 := Lib.hid (And.intro h16 hxr)
              have HEND : Hid (∀ W', Below W2.heap.size W2 W' → (zt && zn) = false → KeepsFrom w14.heap.size W2 W' ∧ Below wc.heap.size W2 W' ∧ CntI w14 W' b14 (firmIn d.files ((pre ++ [x]).map (·.1)))) := Lib.hid (fun W' hb hz => by
                have h1 := HSN.out
                rw [hz] at h1
                refine ⟨keepsFrom_below hb, hb.mono HP2.out.2, ?_⟩
                rw [h1]
                exact HP2.out.1.below hb)
              clear hlf h16 hrww hxr hNb
              cases zt
              · gi_wp2_with fail
                exact HEND.out _ HBW.out rfl
              · have hr1 : Calls Try.prog 42 #[.pointer (some ⟨q, 0, none⟩), .string a0, .int .i64 0, .int .i64 a1] wr fun e w' => ∃ v, e = .returned (.tuple #[v, .int .i64 0]) ∧ NewBytes wr w' v xf.bytes := by
                  have := read_b (HDO2.out.1.below HBW.out) a0 HNS.out 0 a1 (by omega) (by omega)
                  rw [(HRD.out (by first | rfl | trivial)).1] at this
                  exact this
                have HR1' := Lib.hid hr1
                have c7 : wr.cell? ⟨b7, 0, none⟩ = some (.pointer (some ⟨q, 0, none⟩)) := cell_of ((HBW.out.block b7 (Array.getElem?_eq_some_iff.1 HB2.out.2.2.1).1).trans HB2.out.2.2.1) rfl
                clear hr1
                gi_wp2_with fail
                refine (CallsIn.inRound l (callsIn_wide.2 HR1'.out)).mono ?_
                rintro e w6 ⟨v1, rfl, hv1⟩
                have hb6 : Below W2.heap.size W2 w6 := HBW.out.trans (hv1.2.2.mono HBW.out.size)
                have hr2 : Calls Try.prog 42 #[.pointer (some ⟨qo, 0, none⟩), .string a0, .int .i64 0, .int .i64 (a1 + 9)] w6 fun e w' => ∃ v, e = .returned (.tuple #[v, .int .i64 0]) ∧ NewBytes w6 w' v xf.bytes := by
                  have := read_b (HDO2.out.2.below hb6) a0 HNS.out 0 (a1 + 9) (by omega) (by omega)
                  rw [(HRD.out (by first | rfl | trivial)).2] at this
                  exact this
                have HR2' := Lib.hid hr2
                have hx6 := (hv1.2.2.block B (Array.getElem?_eq_some_iff.1 H16.out.2).1).trans H16.out.2
                have h166 := (hv1.2.2.block b16 (Array.getElem?_eq_some_iff.1 H16.out.1).1).trans H16.out.1
                have c8 : w6.cell? ⟨b8, 0, none⟩ = some (.pointer (some ⟨qo, 0, none⟩)) := cell_of ((hb6.block b8 (Array.getElem?_eq_some_iff.1 HB2.out.2.2.2).1).trans HB2.out.2.2.2) rfl
                have x0' : w6.cell? ⟨B, 0, none⟩ = some (.string a0) := cell_of hx6 rfl
                have x1' : w6.cell? ⟨B, 1, none⟩ = some (.int .i64 a1) := cell_of hx6 rfl
                have HV1 := Lib.hid hv1
                have HB6 := Lib.hid (And.intro hb6 (And.intro hx6 h166))
                clear hv1 hb6 hr2 hx6 h166 e0 e1 e2 e3 e4 x0 x1 x2 x3 x4 c7
                gi_wp2_with fail
                refine (CallsIn.inRound l (callsIn_wide.2 HR2'.out)).mono ?_
                rintro e w7 ⟨v2, rfl, hv2⟩
                have hb7 : Below W2.heap.size W2 w7 := HB6.out.1.trans (hv2.2.2.mono HB6.out.1.size)
                have hcv1 : (convert 79 9 v1).run Try.prog w7 = .ok (.string ⟨xf.bytes.toArray⟩) w7 := run_string_at w7 79 9 5 v1 xf.bytes Try.underlying79 Try.underlying5 Try.underlying9 (HV1.out.1.kept (fun k hk => hv2.2.2.block k (HV1.out.1.lt k hk)))
                have hcv2 : (convert 79 9 v2).run Try.prog w7 = .ok (.string ⟨xf.bytes.toArray⟩) w7 := run_string_at w7 79 9 5 v2 xf.bytes Try.underlying79 Try.underlying5 Try.underlying9 hv2.1
                obtain ⟨sb, hsb⟩ : ∃ a : ByteArray, a = ⟨xf.bytes.toArray⟩ := ⟨_, rfl⟩
                rw [← hsb] at hcv1 hcv2
                have h167 := (hv2.2.2.block b16 (Array.getElem?_eq_some_iff.1 HB6.out.2.2).1).trans HB6.out.2.2
                have e3 : w7.cell? ⟨b16, 3, none⟩ = some (.bool true) := cell_of h167 rfl
                have e4 : w7.cell? ⟨b16, 4, none⟩ = some (.bool zn) := cell_of h167 rfl
                have hcnt := (HP2.out.1.below hb7).box
                have c14 : w7.cell? ⟨b14, 0, none⟩ = some (.int .i64 n14) := cell_of hcnt rfl
                have f14 : w7.frozen? ⟨b14, 0, none⟩ = false := free_of hcnt _
                have hn14 : (n14 : Int) ≤ 1000000 := by have := HN14.out; omega
                have HB7 := Lib.hid hb7
                clear hb7 hv2 hsb h167 hcnt x0' x1' c8
                cases zn
                · gi_wp2_with fail
                  exact HEND.out _ HB7.out rfl
                · gi_wp2_with fail
                  have h1 : firmIn d.files ((pre ++ [x]).map (·.1)) = n14 + 1 := HSN.out
                  have h1e : ((n14 : Int) + 1) = ((n14 + 1 : Nat) : Int) := by omega
                  rw [h1e]
                  have hwb14 : wc.heap.size ≤ b14 := by rw [H14.out.1]; exact HP.out.below.size
                  refine ⟨(keepsFrom_below HB7.out).trans ((KeepsOthers.setCell _ _ _).from _), (HB7.out.mono HP2.out.2).setCell (p := ⟨b14, 0, none⟩) hwb14 _, ?_⟩
                  show CntI w14 _ b14 (firmIn d.files ((pre ++ [x]).map (·.1)))
                  rw [h1]
                  exact (HP2.out.1.below HB7.out).set (n14 + 1)
        case done2 =>
          rintro D2 xs W2 hD2 hxs hp hK2
          have hxs' : xs.map (·.1) = (d.crash p2).files := hxs
          rw [hxs', firmIn_all p2 HD5.out.lasts_of HD5.out.sorted_of.1] at hp
          obtain ⟨oa3, c3, hbx, hrw, _⟩ := (hp.was HP.out H14.out.2 H14.out.1).box
          obtain ⟨N, hN⟩ : ∃ N, d.files.length = N := ⟨_, rfl⟩
          rw [hN] at hbx hrw
          have HN := Lib.hid hN
          have HP2' := Lib.hid hp
          have HRW := Lib.hid (And.intro hbx hrw)
          have HMK2 := Lib.hid (And.intro hK2 hD2)
          clear hxs hxs' hp hK2 hD2 hst2 hbx hrw hN hc14
          gi_wp2_with fail
          have HLW := Lib.hid hb14'
          gi_loopw [22] (fun i wr => ∃ (j k : Nat), j ≤ N ∧ i = .int .i64 j ∧ Hid (k + firmTo d.files j = (d.files.filter firmF).length) ∧ Hid (CntI W2 wr b14 k)) (fun i wr => N - (intOf i).toNat)
          case atStart => exact ⟨0, (d.files.filter firmF).length, Nat.zero_le _, rfl, Lib.hid (by simp [firmTo]), Lib.hid HP2'.out.start⟩
          case round =>
            obtain ⟨j, k, hjN, rfl, HK, HC2⟩ := hrel
            have HC := Lib.hid (HP2'.out.trans HC2.out)
            obtain ⟨oaw, cw, hbxw, hrww, _⟩ := (HC.out.was HP.out H14.out.2 H14.out.1).box
            rw [HN.out] at hbxw hrww
            have kw : wr.cell? ⟨wc.heap.size, 0, none⟩ = some (.slice oaw N cw) := cell_of hbxw rfl
            have kc : wr.cell? ⟨b14, 0, none⟩ = some (.int .i64 k) := cell_of HC.out.box rfl
            have kz : wr.frozen? ⟨b14, 0, none⟩ = false := free_of HC.out.box _
            have hk1 := firmTo_le d.files j
            have hk2 := HFL.out
            have hkb : (k : Int) ≤ 1000000 := by have := HK.out; have := firm_le d.files; omega
            by_cases hlt : j < N
            · have hjf : j < d.files.length := by rw [HN.out]; exact hlt
              obtain ⟨x, hx⟩ : ∃ x, d.files[j] = x := ⟨_, rfl⟩
              obtain ⟨g, off, rfl⟩ := hrww.addr (by omega)
              have hcell : ∀ i, i < 5 → ∀ u, (fileCells x)[i]? = some u → wr.cell? ⟨g, off + (j * 5 + i), none⟩ = some u := fun i hi u hu => by
                have := hrww.cells (g := g) (off := off) rfl (j * 5 + i) u (by rw [filesCells_get hjf hi, hx, hu])
                simpa [Go.WideShapes.add_plain] using this
              obtain ⟨th, hth⟩ : ∃ b, x.there = b := ⟨_, rfl⟩
              obtain ⟨nd, hnd⟩ : ∃ b, x.named = b := ⟨_, rfl⟩
              have k3 : wr.cell? ⟨g, off + j * 5 + 3, none⟩ = some (.bool th) := hcell 3 (by omega) _ (by rw [← hth]; rfl)
              have k4 : wr.cell? ⟨g, off + j * 5 + 4, none⟩ = some (.bool nd) := hcell 4 (by omega) _ (by rw [← hnd]; rfl)
              have hfs := firmTo_succ hjf
              rw [hx] at hfs
              have HFS : Hid (firmTo d.files (j + 1) = firmTo d.files j + (if (th && nd) = true then 1 else 0)) := Lib.hid (by rw [hfs]; unfold firmF; rw [hth, hnd])
              have HLE := Lib.hid (firmTo_le d.files (j + 1))
              clear hcell hx hth hnd hfs hbxw hrww hk1 hk2
              have hNb : N ≤ 1000000 := by rw [← HN.out]; exact HFL.out
              have HKJ := HK.out
              cases th <;> cases nd
              case true.true =>
                have hf1 : firmTo d.files (j + 1) = firmTo d.files j + 1 := HFS.out
                have hf2 := HLE.out
                have hk1 : 1 ≤ k := by omega
                have hkc : (k : Int) - 1 = ((k - 1 : Nat) : Int) := by omega
                have HKC := Lib.hid hkc
                have HK1 : Hid (k - 1 + firmTo d.files (j + 1) = (d.files.filter firmF).length) := Lib.hid (by omega)
                clear hf1 hf2 hkc HKJ
                gi_wp2_with fail
                refine ⟨⟨j + 1, k - 1, by omega, by simp, HK1, Lib.hid ?_⟩, by simp [intOf]; omega⟩
                rw [HKC.out]
                exact HC2.out.set (k - 1)
              all_goals
                have hf1 : firmTo d.files (j + 1) = firmTo d.files j + 0 := HFS.out
                have HK1 : Hid (k + firmTo d.files (j + 1) = (d.files.filter firmF).length) := Lib.hid (by omega)
                clear hf1 HKJ
                gi_wp2_with fail
                exact ⟨⟨j + 1, k, by omega, by simp, HK1, HC2⟩, by simp [intOf]; omega⟩
            · obtain rfl : j = N := by omega
              have hk0 : k = 0 := by
                have h1 := HK.out
                rw [← HN.out, firmTo_all] at h1
                omega
              subst hk0
              have hb6 : wr.heap[b6]? = some (.cells #[.bool false] 4 (0, 0)) := by
                have h5 := HR5.out
                have hl5 := (Array.getElem?_eq_some_iff.1 h5).1
                have hs1 := HBA.out.below.size
                have hs2 := HP.out.size
                have hs3 := H14.out.2.size
                have hb14e := H14.out.1
                refine (HC.out.only.block b6 (by omega) (fun e => by omega)).trans ?_
                refine (H14.out.2.block b6 (by omega)).trans ?_
                refine (HP.out.below.block b6 (by omega)).trans ?_
                exact (HBA.out.below.block b6 hl5).trans h5
              have HB6 := Lib.hid hb6
              have hbr : Below W.heap.size W wr := by
                have hs1 := HBA.out.below.size
                have hs2 := HP.out.below.size
                have hs3 := H14.out.2.size
                have hs5 := HB5.out.size
                have hb14e := H14.out.1
                have g1 : Below W.heap.size W wc := HB5.out.trans (HBA.out.below.mono hs5)
                have g2 : Below W.heap.size W W1 := g1.trans (HP.out.below.mono g1.size)
                have g3 : Below W.heap.size W w14 := g2.trans (H14.out.2.mono g2.size)
                exact g3.trans (HC.out.only.below (fun i hi e => by omega) g3.size)
              have HBR := Lib.hid hbr
              have HM2 : Hid (wr.heap[D2]? = some (.deferred (some [])) ∧ w14.heap.size ≤ D2) := Lib.hid ⟨HC2.out.mark HMK2.out.1 (mark_ne HP2'.out.box HMK2.out.1), HMK2.out.2⟩
              have HM1 : Hid (wr.heap[D]? = some (.deferred (some [])) ∧ D < w14.heap.size ∧ wc.heap.size ≤ D) := Lib.hid (by
                have h1 := (Array.getElem?_eq_some_iff.1 HMK.out.1).1
                have h2 := H14.out.2.size
                have h3 := H14.out.1
                have h4 := hsz12
                have h5 := HMK.out.2
                refine ⟨HC.out.mark ((H14.out.2.block D h1).trans HMK.out.1) (by omega), by omega, by omega⟩)
              have HLW2 : Hid (W.heap.size ≤ b6 ∧ W.heap.size ≤ wc.heap.size ∧ wc.heap.size ≤ w14.heap.size) := Lib.hid (by
                have h1 := HW1.out.2
                have h2 := (HB5.out.trans (HBA.out.below.mono HB5.out.size)).size
                have h3 := HP.out.below.size
                have h4 := H14.out.2.size
                omega)
              clear hbxw hrww hk1 hk2 hb6 hbr
              gi_wp2_with fail
              refine (callsIn_wide.2 (known7_b _)).mono ?_
              rintro e w20 ⟨rfl, hb20⟩
              have HR20 := Lib.hid ((hb20.block b6 (Array.getElem?_eq_some_iff.1 HB6.out).1).trans HB6.out)
              have HM2' := Lib.hid ((hb20.block D2 (Array.getElem?_eq_some_iff.1 HM2.out.1).1).trans HM2.out.1)
              have HM1' := Lib.hid ((hb20.block D (Array.getElem?_eq_some_iff.1 HM1.out.1).1).trans HM1.out.1)
              have HB20 := Lib.hid (HBR.out.trans (hb20.mono HBR.out.size))
              have rc : w20.cell? ⟨b6, 0, none⟩ = some (.bool false) := cell_of HR20.out rfl
              have rz : w20.frozen? ⟨b6, 0, none⟩ = false := free_of HR20.out _
              clear hb20
              gi_wp2_with fail
              have hm2 := (KeepsOthers.setCell w20 ⟨b6, 0, none⟩ (.bool true)).same D2 _ HM2'.out rfl
              have hm1 := (KeepsOthers.setCell w20 ⟨b6, 0, none⟩ (.bool true)).same D _ HM1'.out rfl
              have hr1 : (w20.setCell ⟨b6, 0, none⟩ (.bool true)).heap[b6]? = some (.cells #[.bool true] 4 (0, 0)) := box_set HR20.out
              have hg1 := grownBy_putObj' (w20.setCell ⟨b6, 0, none⟩ (.bool true)) D2 (.deferred none)
              have hm3 := (hg1.block D (Array.getElem?_eq_some_iff.1 hm1).1 (fun e => by
                simp only [Option.some.injEq] at e
                have h1 := HM1.out.2.1
                have h2 := HM2.out.2
                omega)).trans hm1
              have hr2 := (hg1.block b6 (Array.getElem?_eq_some_iff.1 hr1).1 (fun e => by
                simp only [Option.some.injEq] at e
                rw [← e, hr1] at hm2
                cases hm2)).trans hr1
              have hg2 := grownBy_putObj' ((w20.setCell ⟨b6, 0, none⟩ (.bool true)).putObj D2 (.deferred none)) D (.deferred none)
              have hr3 := (hg2.block b6 (Array.getElem?_eq_some_iff.1 hr2).1 (fun e => by
                simp only [Option.some.injEq] at e
                rw [← e, hr2] at hm3
                cases hm3)).trans hr2
              have hcr := cell_of (i := 0) (v := .bool true) hr3 rfl
              have hbz : Below W.heap.size W (w20.setCell ⟨b6, 0, none⟩ (.bool true)) := HB20.out.setCell (p := ⟨b6, 0, none⟩) HLW2.out.1 _
              have hbz2 := hbz.grown hg1 hbz.size (fun k e => by
                simp only [Option.some.injEq] at e
                have h1 := HM2.out.2
                have h2 := HLW2.out
                omega)
              have hbz3 := hbz2.grown hg2 hbz2.size (fun k e => by
                simp only [Option.some.injEq] at e
                have h1 := HM1.out.2.2
                have h2 := HLW2.out
                omega)
              refine ⟨by simp, .inl ⟨_, _, rfl, run_takeDeferred hm2, by simp, .inl ⟨_, _, rfl, run_takeDeferred hm3, ?_⟩⟩⟩
              refine ⟨.bool true, ?_, rfl, hbz3⟩
              simp [results, Try.results6, go_sem, hcr]
end Go.Proofs.Ytmkjejngnahpeaa
