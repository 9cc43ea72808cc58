/- The texts Jf, Jg in one. -/
import Derived.Test.YtmkjejngnahpeaaD6
/- stops: are the picks right; the next pick (printed by genjf.py). -/
namespace Go.Proofs.Ytmkjejngnahpeaa
open Go Go.Maps Go.RowKit

set_option maxHeartbeats 400000 in
theorem rneg_b (x : Int) (w : World) : Calls Try.prog 165 #[.int .i64 x] w fun e w' => e = .returned (.bool (decide (x < 0))) ∧ w' = w := by
  go_enter Try.func165, Try.ntmps165
  go_wp2_with fail
  go_ret
  exact ⟨rfl, rfl⟩
set_option maxRecDepth 100000 in
set_option maxHeartbeats 400000 in
theorem rindexInt_b {w : World} {oa : Option Addr} {n c : Nat} {ps : List Int} (hn : ps.length = n) (h : readAt w 1 (.slice oa n c) n (intCells ps)) (hm : n ≤ 1000000000) :
    Calls Try.prog 158 #[.slice oa n c, .func (.func 165) #[] #[]] w fun e w' => ∃ i : Int, e = .returned (.int .i64 i) ∧ (AllGe ps → i = -1) ∧ (¬ AllGe ps → 0 ≤ i) ∧ w' = w := by
  have H := Lib.hid h
  clear h
  go_enter Try.func158, Try.ntmps158
  go_wp2_with fail
  go_loop [8] (fun i => ∃ k : Nat, k ≤ n ∧ i = .int .i64 k ∧ AllGe (ps.take k)) (fun i => n - (intOf i).toNat)
  case atStart => exact ⟨0, Nat.zero_le _, rfl, fun x hx => by simp at hx⟩
  case round =>
    obtain ⟨k, hk, rfl, hge⟩ := hrel
    by_cases hlt : k < n
    · obtain ⟨g, off, rfl⟩ := H.out.addr (by omega)
      obtain ⟨x, hx⟩ : ∃ x, ps[k]'(by omega) = x := ⟨_, rfl⟩
      have hcx : w.cell? ⟨g, off + k, none⟩ = some (.int .i64 x) := by
        have h1 := H.out.cells (g := g) (off := off) rfl k (.int .i64 x) (by simp [intCells, ← hx])
        simpa [Go.WideShapes.add_plain] using h1
      have HX : Hid (0 ≤ x → AllGe (ps.take (k + 1))) := Lib.hid fun h0 => AllGe.snoc (by omega) hge (by rw [hx]; exact h0)
      have HY : Hid (x < 0 → ¬ AllGe ps) := Lib.hid fun h0 ha => by
        have := ha x (by rw [← hx]; exact List.getElem_mem _)
        omega
      clear hge hx
      by_cases h0 : x < 0
      · go_wp2_with (go_at_call 165; refine (rneg_b _ _).mono ?_; rintro e w' ⟨rfl, rfl⟩)
        go_ret
        exact ⟨_, rfl, fun ha => absurd ha (HY.out h0), fun _ => by omega, rfl⟩
      · go_wp2_with (go_at_call 165; refine (rneg_b _ _).mono ?_; rintro e w' ⟨rfl, rfl⟩)
        exact ⟨⟨k + 1, by omega, by simp, HX.out (by omega)⟩, by simp [intOf]; omega⟩
    · obtain rfl : k = n := by omega
      have HA : Hid (AllGe ps) := Lib.hid (by rwa [List.take_of_length_le (by omega)] at hge)
      clear hge
      go_wp2_with fail
      go_ret
      exact ⟨_, rfl, fun _ => rfl, fun h => absurd HA.out h, rfl⟩
set_option maxHeartbeats 400000 in
theorem rcontainsInt_b {w : World} {oa : Option Addr} {n c : Nat} {ps : List Int} (hn : ps.length = n) (h : readAt w 1 (.slice oa n c) n (intCells ps)) (hm : n ≤ 1000000000) :
    Calls Try.prog 109 #[.slice oa n c, .func (.func 165) #[] #[]] w fun e w' => ∃ b : Bool, e = .returned (.bool b) ∧ (b = false ↔ AllGe ps) ∧ w' = w := by
  go_enter Try.func109, Try.ntmps109
  go_wp2_with fail
  refine (rindexInt_b hn h hm).mono ?_
  rintro e w' ⟨i, rfl, h1, h2, rfl⟩
  obtain ⟨b, hb⟩ : ∃ b, decide ((0 : Int) ≤ i) = b := ⟨_, rfl⟩
  have HB : Hid (b = false ↔ AllGe ps) := Lib.hid (by
    rw [← hb]
    constructor
    · intro h3
      refine Classical.byContradiction fun h4 => ?_
      have := h2 h4
      simp at h3
      omega
    · intro h3
      have := h1 h3
      simp
      omega)
  clear h h1 h2
  go_wp2_with fail
  go_ret
  exact ⟨_, rfl, HB.out, rfl⟩
set_option maxRecDepth 100000 in
set_option maxHeartbeats 400000 in
/-- of a disk that is there, picks that may be -/
theorem sright_b {w : World} {S : Nat → Prop} {q : Nat} {d : Dk} (h : DiskAt w S q d) (hfm : d.fates.length ≤ 1000000000) {oa : Option Addr} {n c : Nat} {ps : List Int} (hn : ps.length = n) (hp : readAt w 1 (.slice oa n c) n (intCells ps)) (hm : n ≤ 1000000000) :
    Calls Try.prog 136 #[.pointer (some ⟨q, 0, none⟩), .agg #[.slice oa n c]] w fun e w' => ∃ er : Int, e = .returned (.int .i64 er) ∧ (AllGe ps → er = 0) ∧ (¬ AllGe ps → er = 2) ∧ Below w.heap.size w w' := by
  obtain ⟨w1, hw1⟩ : ∃ W : World, W = w.alloc (.cells #[.slice oa n c] 72) := ⟨_, rfl⟩
  obtain ⟨b3, hb3⟩ : ∃ b, b = w.heap.size := ⟨_, rfl⟩
  have h1 : w1.heap[b3]? = some (.cells #[.slice oa n c] 72 (0, 0)) := by rw [hw1, hb3]; exact alloc_cells _ _ _
  have hb1 : Below w.heap.size w w1 := by rw [hw1]; exact (Below.refl _ _).alloc (Nat.le_refl _) _
  have H := Lib.hid (And.intro (h.below hb1) (And.intro h1 hb1))
  have HP := Lib.hid (hp.kept (fun k hk _ _ => hb1.block k hk))
  clear h hp hb1 h1
  go_enter Try.func136, Try.ntmps136
  go_upto_region 1 with fail
  rw [← hw1, ← hb3]
  clear hw1 hb3
  go_wp2_with fail
  refine (snone_b H.out.1 hfm).mono ?_
  rintro e w2 ⟨rfl, hb2⟩
  have c0 : w2.cell? ⟨b3, 0, none⟩ = some (.slice oa n c) := cell_of ((hb2.block b3 (Array.getElem?_eq_some_iff.1 H.out.2.1).1).trans H.out.2.1) rfl
  have HB := Lib.hid (H.out.2.2.trans (hb2.mono H.out.2.2.size))
  have HP2 := Lib.hid (HP.out.kept (fun k hk _ _ => hb2.block k hk))
  clear hb2
  go_wp2_with fail
  refine (rcontainsInt_b hn HP2.out hm).mono ?_
  rintro e w3 ⟨b, rfl, hiff, hw3⟩
  obtain rfl := hw3.symm
  cases b
  · have HI : Hid (AllGe ps) := Lib.hid (hiff.1 rfl)
    clear hiff
    go_wp2_with fail
    go_ret
    exact ⟨0, rfl, fun _ => rfl, fun h => absurd HI.out h, HB.out⟩
  · have HI : Hid (¬ AllGe ps) := Lib.hid (fun h => by have := hiff.2 h; cases this)
    clear hiff
    go_wp2_with fail
    go_ret
    exact ⟨2, rfl, fun h => absurd h HI.out, fun _ => rfl, HB.out⟩
set_option maxRecDepth 100000 in
set_option maxHeartbeats 400000 in
theorem sright_nil {w : World} {pp : Option Addr} (h : IsNone w pp) (v : Value) (hv : ∃ oa n c, v = .slice oa n c) : Calls Try.prog 136 #[.pointer pp, .agg #[v]] w fun e w' => e = .returned (.int .i64 1) ∧ Below w.heap.size w w' := by
  obtain ⟨oa, n, c, rfl⟩ := hv
  obtain ⟨w1, hw1⟩ : ∃ W : World, W = w.alloc (.cells #[.slice oa n c] 72) := ⟨_, rfl⟩
  have hb1 : Below w.heap.size w w1 := by rw [hw1]; exact (Below.refl _ _).alloc (Nat.le_refl _) _
  have H := Lib.hid (And.intro (h.below hb1) hb1)
  clear h hb1
  go_enter Try.func136, Try.ntmps136
  go_upto_region 1 with fail
  rw [← hw1]
  clear hw1
  go_wp2_with fail
  refine (snone_nil H.out.1).mono ?_
  rintro e w2 ⟨rfl, rfl⟩
  go_wp2_with fail
  go_ret
  exact ⟨rfl, H.out.2⟩
/-- blocks of other types stand as they stood -/
def KeepT (ts : List TypeId) (W W' : World) : Prop := ∀ (k : Nat) (cs : Array Value) (t : TypeId) (fr : Nat × Nat), W.heap[k]? = some (.cells cs t fr) → t ∉ ts → W'.heap[k]? = W.heap[k]?
theorem KeepT.refl (ts : List TypeId) (W : World) : KeepT ts W W := fun _ _ _ _ _ _ => rfl
theorem KeepT.trans {ts : List TypeId} {A B C : World} (h : KeepT ts A B) (k : KeepT ts B C) : KeepT ts A C := fun j cs t fr hj ht => by
  have h1 := h j cs t fr hj ht
  exact (k j cs t fr (h1.trans hj) ht).trans h1
theorem KeepT.of {ts : List TypeId} {A B : World} (h : Below A.heap.size A B) : KeepT ts A B := fun j _ _ _ hj _ => h.block j (Array.getElem?_eq_some_iff.1 hj).1
theorem KeepT.set {ts : List TypeId} {W : World} {b i : Nat} {cs : Array Value} {t : TypeId} {fr : Nat × Nat} (h : W.heap[b]? = some (.cells cs t fr)) (ht : t ∈ ts) (v : Value) : KeepT ts W (W.setCell ⟨b, i, none⟩ v) := fun j cs' t' fr' hj ht' =>
  Below.heap_setCell _ _ _ _ (fun e => by
    dsimp only at e
    subst e
    rw [h] at hj
    simp only [Option.some.injEq, Obj.cells.injEq] at hj
    rw [hj.2.1] at ht
    exact ht' ht)
theorem KeepT.grown {ts : List TypeId} {W W' : World} {e : TypeId} {size m : Nat} {v : Value} {xs : List Value} (hr : rowAt W e size v m xs) (he : e ∈ ts) (hg : W.grownBy W' v.ownBlock) : KeepT ts W W' := fun j cs t fr hj ht =>
  hg.block j (Array.getElem?_eq_some_iff.1 hj).1 (fun e' => by
    have := row_type hr e'.symm hj
    rw [this] at he
    exact ht he)
/-- block b holds a row that lies in blocks from lo on -/
def HoldRow (e t : TypeId) (size b lo : Nat) (W : World) (m : Nat) (xs : List Value) : Prop :=
  ∃ oa c, W.heap[b]? = some (.cells #[.slice oa m c] t (0, 0)) ∧ rowAt W e size (.slice oa m c) m xs ∧ ∀ k, (Value.slice oa m c).ownBlock = some k → lo ≤ k
theorem HoldRow.kept {e t : TypeId} {size b lo m : Nat} {W W' : World} {xs : List Value} (h : HoldRow e t size b lo W m xs) (hb : Below W.heap.size W W') : HoldRow e t size b lo W' m xs := by
  obtain ⟨oa, c, h1, h2, h3⟩ := h
  exact ⟨oa, c, (hb.block _ (Array.getElem?_eq_some_iff.1 h1).1).trans h1, h2.kept (fun k hk => hb.block k (h2.lt k hk)), h3⟩
theorem wpList_append_one {w2 : World} {ops : Array Oper} {rest : List Oper} {o : Oper} {a : Act} {Q : Exit → Act → World → Prop} (hgd : o.guard = none) (s x : Operand) (t e : TypeId)
    (ho : o.op = .call { callee := .builtin .append, args := #[s, x], argTypes := #[t, t] }) {z : Value} {size bytes : Nat} (ht : Try.prog.underlying t = some (.slice e)) (hinfo : (Try.prog.info? e).map (fun i => (i.zero, i.size, i.bytes)) = some (some z, size, bytes)) (hzs : z.cells.size = size) (hby : bytes ≤ 1000)
    {oa : Option Addr} {m c : Nat} {xs : List Value} (h : rowAt w2 e size (.slice oa m c) m xs) (hm : m ≤ 1000000) (ys : List Value) (hy : ys.length = size) (h1 : ∀ v ∈ ys, v.oneCell' = true)
    (hs : a.eval s = .slice oa m c) (hx : a.eval x = .slice (some ⟨w2.heap.size, 0, none⟩) 1 1)
    (hK : ∀ oa3 c3 w3, Hid (rowAt w3 e size (.slice oa3 (m + 1) c3) (m + 1) (xs ++ ys)) → Hid ((w2.alloc (.cells ys.toArray e)).grownBy w3 (Value.slice oa m c).ownBlock) →
      Hid ((Value.slice oa3 (m + 1) c3).ownBlock = (Value.slice oa m c).ownBlock ∨ (Value.slice oa3 (m + 1) c3).ownBlock = some (w2.heap.size + 1)) → wpList Try.prog ops Q rest (a.put o.dst (.slice oa3 (m + 1) c3)) w3) :
    wpList Try.prog ops Q (o :: rest) a (w2.alloc (.cells ys.toArray e)) := by
  refine wpList_append_at _ hgd s x t t ho e z size bytes ht hinfo hzs _ m xs hs (h.kept (fun k hk => Below.heap_alloc _ _ k (h.lt k hk))) _ 1 _ hx (Src.of_row ht (one_row w2 e size ys hy) h1) (by unfold maxLen; omega) (by
    have h2 : (m + 1) * bytes ≤ (m + 1) * 1000 := Nat.mul_le_mul_left _ hby
    omega) ?_
  intro v' w3 hr hg hown _
  obtain ⟨oa3, c3, rfl, _⟩ := hr.shape
  exact hK oa3 c3 w3 (Lib.hid hr) (Lib.hid hg) (Lib.hid (by simpa using hown))
/-- the box's row is one longer, as it is stored -/
theorem HoldRow.store {e t : TypeId} {size b lo m : Nat} {W w3 : World} {xs ys : List Value} {oa oa3 : Option Addr} {c c3 : Nat} {o : Obj} (hlo : lo ≤ W.heap.size) (hbl : b < lo) (hbx : W.heap[b]? = some (.cells #[.slice oa m c] t (0, 0)))
    (hown : ∀ k, (Value.slice oa m c).ownBlock = some k → lo ≤ k)
    (hr : rowAt w3 e size (.slice oa3 (m + 1) c3) (m + 1) (xs ++ ys)) (hg : (W.alloc o).grownBy w3 (Value.slice oa m c).ownBlock)
    (hw : (Value.slice oa3 (m + 1) c3).ownBlock = (Value.slice oa m c).ownBlock ∨ (Value.slice oa3 (m + 1) c3).ownBlock = some (W.heap.size + 1)) :
    w3.heap[b]? = some (.cells #[.slice oa m c] t (0, 0)) ∧ HoldRow e t size b lo (w3.setCell ⟨b, 0, none⟩ (.slice oa3 (m + 1) c3)) (m + 1) (xs ++ ys) := by
  have hsz := (Array.getElem?_eq_some_iff.1 hbx).1
  have hnew : ∀ k, (Value.slice oa3 (m + 1) c3).ownBlock = some k → lo ≤ k := fun k hk => by
    rcases hw with h1 | h1
    · exact hown k (by rw [← h1]; exact hk)
    · rw [hk] at h1
      simp only [Option.some.injEq] at h1
      omega
  have hb3 : w3.heap[b]? = some (.cells #[.slice oa m c] t (0, 0)) := (hg.block _ (by simp; omega) (fun e => by have := hown _ e.symm; omega)).trans ((Below.heap_alloc _ _ _ hsz).trans hbx)
  exact ⟨hb3, oa3, c3, heap_setCell_here _ hb3, hr.kept (fun k hk => Below.heap_setCell _ _ _ _ (fun e => by have := hnew k hk; dsimp only at e; omega)), hnew⟩
end Go.Proofs.Ytmkjejngnahpeaa
/- stops: the next pick, told and kept (printed by genjg.py). -/
namespace Go.Proofs.Ytmkjejngnahpeaa
open Go Go.Maps Go.RowKit

def natCells (l : List Nat) : List Value := l.map fun (x : Nat) => .int .i64 (x : Int)
theorem natCells_append (a b : List Nat) : natCells (a ++ b) = natCells a ++ natCells b := by simp [natCells]
theorem info_int : (Try.prog.info? 3).map (fun i => (i.zero, i.size, i.bytes)) = some (some (.int .i64 0), 1, 8) := by kernel_rfl
theorem info_i64 : (Try.prog.info? 2).map (fun i => (i.zero, i.size, i.bytes)) = some (some (.int .i64 0), 1, 8) := by kernel_rfl
/-- what the next pick leaves -/
structure PnIs (W : World) (b3 b4 Z lo m : Nat) (p : Nat) (rest : List Int) (out : List Nat) (e : Ending) (W' : World) : Prop where
  ret : e = .returned (.int .i64 p)
  picks : PicksAt W' b3 Z rest
  out : HoldRow 3 32 1 b4 lo W' (m + 1) (natCells (out ++ [p]))
  keep : KeepT [32, 3] W W'
  below : Below Z W W'
  size : W.heap.size ≤ W'.heap.size
theorem pn_done {W w1 w9 : World} {b3 b4 Z lo m p : Nat} {rest : List Int} {out : List Nat} {oa oa3 : Option Addr} {c c3 : Nat} (hP : PicksAt w1 b3 Z rest) (hk : KeepT [32, 3] W w1) (hb : Below Z W w1) (hne : b3 ≠ b4) (hz4 : Z ≤ b4) (hb3 : b3 < lo) (hb4 : b4 < lo) (hlo : lo ≤ w1.heap.size)
    (hbx : w1.heap[b4]? = some (.cells #[.slice oa m c] 32 (0, 0))) (hrw : rowAt w1 3 1 (.slice oa m c) m (natCells out)) (hown : ∀ k, (Value.slice oa m c).ownBlock = some k → lo ≤ k)
    (hr : rowAt w9 3 1 (.slice oa3 (m + 1) c3) (m + 1) (natCells out ++ [.int .i64 p])) (hg : (w1.alloc (.cells [.int .i64 p].toArray 3)).grownBy w9 (Value.slice oa m c).ownBlock)
    (hw : (Value.slice oa3 (m + 1) c3).ownBlock = (Value.slice oa m c).ownBlock ∨ (Value.slice oa3 (m + 1) c3).ownBlock = some (w1.heap.size + 1)) :
    PnIs W b3 b4 Z lo m p rest out (.returned (.int .i64 p)) (w9.setCell ⟨b4, 0, none⟩ (.slice oa3 (m + 1) c3)) := by
  obtain ⟨h9, hst⟩ := HoldRow.store hlo hb4 hbx hown hr hg hw
  have hal : Below w1.heap.size w1 (w1.alloc (.cells [.int .i64 p].toArray 3)) := (Below.refl _ _).alloc (Nat.le_refl _) _
  have hrw1 : rowAt (w1.alloc (.cells [.int .i64 p].toArray 3)) 3 1 (.slice oa m c) m (natCells out) := hrw.kept (fun k hk => hal.block k (hrw.lt k hk))
  have hsz9 := hg.size
  have hsz1 := hal.size
  have hszs := (only_setCell (fun _ => True) w9 b4 0 (.slice oa3 (m + 1) c3) trivial).size
  have hb49 : Below Z w1 (w9.setCell ⟨b4, 0, none⟩ (.slice oa3 (m + 1) c3)) := ((hal.mono (by omega)).grown hg (by omega) (fun k e => by have := hown k e; omega)).setCell (p := ⟨b4, 0, none⟩) hz4 _
  have hkeep : ∀ k, k = b3 ∨ k < Z → (w9.setCell ⟨b4, 0, none⟩ (.slice oa3 (m + 1) c3)).heap[k]? = w1.heap[k]? := fun k hk => by
    rcases hk with rfl | hk
    · obtain ⟨o1, c1, hq, _⟩ := hP
      have hlt := (Array.getElem?_eq_some_iff.1 hq).1
      refine (Below.heap_setCell _ _ _ _ (fun e => hne e)).trans ((hg.block k (by omega) (fun e => by have := hown k e.symm; omega)).trans (hal.block k hlt))
    · exact hb49.block k hk
  refine ⟨rfl, hP.kept hkeep, ?_, ?_, hb.trans hb49, ?_⟩
  · rw [natCells_append]
    exact hst
  · exact ((hk.trans (KeepT.of hal)).trans (KeepT.grown hrw1 (by simp) hg)).trans (KeepT.set h9 (by simp) _)
  · have := hb.size
    omega
set_option maxRecDepth 100000 in
set_option maxHeartbeats 1000000 in
theorem pnext_b {W : World} {b3 b4 Z lo m : Nat} {ps : List Int} {out : List Nat} (hP : PicksAt W b3 Z ps) (hR : HoldRow 3 32 1 b4 lo W m (natCells out)) (hne : b3 ≠ b4) (hz3 : Z ≤ b3) (hz4 : Z ≤ b4) (hb3 : b3 < lo) (hb4 : b4 < lo) (hlo : lo ≤ W.heap.size) (hm : m ≤ 1000000)
    (hge : AllGe ps) (of : Nat) (h1 : 0 < of) (h2 : of ≤ 1000000000) (hp : ∀ x ∈ ps, x ≤ 9223372036854775807) {v : Int} (hv : v = (of : Int)) :
    Calls Try.prog 166 #[.int .i64 v, .pointer (some ⟨b3, 0, none⟩), .pointer (some ⟨b4, 0, none⟩)] W fun e W' => PnIs W b3 b4 Z lo m (nextP of ps).1 (nextP of ps).2 out e W' := by
  subst hv
  have HR := Lib.hid hR
  have HPK := Lib.hid hP
  obtain ⟨oa, c, hb, hrow, hneZ⟩ := hP
  obtain ⟨ob, cb, hbx, hrw, hown⟩ := hR
  have hone : ∀ (x : Int), ∀ v ∈ ([.int .i64 x] : List Value), v.oneCell' = true := fun x v hv => by
    rw [List.mem_singleton] at hv
    subst hv
    rfl
  have HONE := Lib.hid hone
  clear hone
  cases ps with
  | nil =>
    have HB := Lib.hid (And.intro hbx (And.intro hrw hown))
    have c0 : W.cell? ⟨b3, 0, none⟩ = some (.slice oa 0 c) := cell_of hb rfl
    have d0 : W.cell? ⟨b4, 0, none⟩ = some (.slice ob m cb) := cell_of hbx rfl
    have y0 : W.frozen? ⟨b4, 0, none⟩ = false := free_of hbx _
    clear hb hrow hneZ hbx hrw hown
    go_enter Try.func166, Try.ntmps166
    go_wp2_with (at_builtin; refine wpList_append_one rfl (.tmp 16) (.tmp 18) 32 3 rfl Try.underlying32 info_int rfl (by omega) HB.out.2.1 (by omega) [.int .i64 0] rfl (HONE.out _) rfl rfl ?_; intro oa5 c5 w9 HRX HGX HOX; have hst := (HoldRow.store hlo hb4 HB.out.1 HB.out.2.2 HRX.out HGX.out HOX.out).1; have kb9 : w9.cell? ⟨b4, 0, none⟩ = some (.slice ob m cb) := cell_of hst rfl; have kf9 : w9.frozen? ⟨b4, 0, none⟩ = false := free_of hst _; clear hst)
    go_ret
    exact pn_done (p := 0) (rest := []) HPK.out (KeepT.refl _ _) (Below.refl _ _) hne hz4 hb3 hb4 hlo HB.out.1 HB.out.2.1 HB.out.2.2 HRX.out HGX.out HOX.out
  | cons p rest =>
    obtain ⟨g, off, rfl⟩ := hrow.addr (by simp)
    have f0 : W.cell? ⟨g, off, none⟩ = some (.int .i64 p) := by
      have := hrow.cells (g := g) (off := off) rfl 0 (.int .i64 p) rfl
      simpa [Go.WideShapes.add_plain] using this
    have hcap : rest.length + 1 ≤ c := hrow.cap
    have hsub := hrow.tail
    obtain ⟨oa', hfv⟩ : ∃ oa' : Option Addr, oa' = if c = 1 then some ⟨g, off, none⟩ else (some (⟨g, off, none⟩ : Addr)).map (·.add (1 * 1)) := ⟨_, rfl⟩
    obtain ⟨c', hc'⟩ : ∃ c', c' = c - 1 := ⟨_, rfl⟩
    have hownp : (Value.slice oa' rest.length c').ownBlock = some g := by rw [hfv]; exact sub_own _ _ _ _ _ _
    obtain ⟨n1, hn1⟩ : ∃ n1, n1 = rest.length + 1 := ⟨_, rfl⟩
    have hsl : ∀ W : World, (Instr.slice 32 (.slice (some ⟨g, off, none⟩) n1 c) (some (.int .i64 1)) none none).run Try.prog W = .ok (.slice oa' rest.length c') W := fun W => by rw [hfv, hn1, hc']; exact run_tailI g off rest.length c W
    have hn2 : (0 : Int) < (n1 : Int) := by omega
    have hn3 : (1 : Int) ≤ (n1 : Int) := by omega
    rw [List.length_cons, ← hn1] at hb
    have c0 : W.cell? ⟨b3, 0, none⟩ = some (.slice (some ⟨g, off, none⟩) n1 c) := cell_of hb rfl
    have z0 : W.frozen? ⟨b3, 0, none⟩ = false := free_of hb _
    have hgb : g ≠ b3 ∧ g < Z := hneZ (by simp) g rfl
    have HSUB : Hid (readAt W 1 (.slice oa' rest.length c') rest.length (intCells rest)) := Lib.hid (by
      rw [hfv, hc']
      exact hsub)
    have hp0 : 0 ≤ p := hge p (by simp)
    obtain ⟨mp, hmp⟩ : ∃ m : Nat, p = (m : Int) := ⟨p.toNat, by omega⟩
    have hmx := hp p (by simp)
    subst hmp
    have HB := Lib.hid (And.intro hb (And.intro hownp (And.intro hgb (hrow.lt (by simp) g rfl))))
    have HX := Lib.hid (And.intro hbx (And.intro hrw hown))
    clear hrow hsub hfv hc' hownp hn1 hb hneZ hcap hge hp hp0 hgb hbx hrw hown
    have hof : (of : Int) ≠ 0 := by omega
    obtain ⟨r, hr⟩ : ∃ r, mp % of = r := ⟨_, rfl⟩
    have hmod : (mp : Int) % (of : Int) = (r : Int) := by rw [← hr]; exact (Int.natCast_emod mp of).symm
    have HRR := Lib.hid hr
    clear hr
    go_enter Try.func166, Try.ntmps166
    go_upto_region 5 with fail
    obtain ⟨w1, hw1⟩ : ∃ w1 : World, w1 = W.setCell ⟨b3, 0, none⟩ (.slice oa' rest.length c') := ⟨_, rfl⟩
    have ho : Only (fun k => k = b3) W w1 := by rw [hw1]; exact only_setCell (fun k => k = b3) W b3 0 _ rfl
    have hb1 : w1.heap[b3]? = some (.cells #[.slice oa' rest.length c'] 32 (0, 0)) := by rw [hw1]; exact heap_setCell_here _ HB.out.1
    have hk1 : KeepT [32, 3] W w1 := by rw [hw1]; exact KeepT.set HB.out.1 (by simp) _
    have hbl1 : Below Z W w1 := by rw [hw1]; exact (Below.refl _ _).setCell (p := ⟨b3, 0, none⟩) hz3 _
    have hP1 : PicksAt w1 b3 Z rest := ⟨oa', c', hb1, HSUB.out.kept (fun k _ hk _ => by
      rw [HB.out.2.1] at hk
      simp only [Option.some.injEq] at hk
      subst hk
      exact ho.block _ HB.out.2.2.2 HB.out.2.2.1.1), fun _ k hk => by
      rw [HB.out.2.1] at hk
      simp only [Option.some.injEq] at hk
      rw [← hk]; exact HB.out.2.2.1⟩
    have hbx1 : w1.heap[b4]? = some (.cells #[.slice ob m cb] 32 (0, 0)) := (ho.block b4 (Array.getElem?_eq_some_iff.1 HX.out.1).1 (fun e => hne e.symm)).trans HX.out.1
    have hrw1 : rowAt w1 3 1 (.slice ob m cb) m (natCells out) := HX.out.2.1.kept (fun k hk => ho.block k (HX.out.2.1.lt k hk) (fun e => by have := HX.out.2.2 k hk; omega))
    have hlo1 : lo ≤ w1.heap.size := Nat.le_trans hlo ho.size
    have d0 : w1.cell? ⟨b4, 0, none⟩ = some (.slice ob m cb) := cell_of hbx1 rfl
    have y0 : w1.frozen? ⟨b4, 0, none⟩ = false := free_of hbx1 _
    have H1 := Lib.hid (And.intro hP1 (And.intro hk1 (And.intro hbl1 (And.intro hbx1 (And.intro hrw1 hlo1)))))
    rw [← hw1]
    clear hw1 ho hb1 hk1 hbl1 hP1 hbx1 hrw1 hlo1 hsl c0 z0 f0
    go_wp2_with (at_builtin; refine wpList_append_one rfl (.tmp 16) (.tmp 18) 32 3 rfl Try.underlying32 info_int rfl (by omega) H1.out.2.2.2.2.1 (by omega) [.int .i64 (r : Int)] rfl (HONE.out _) rfl rfl ?_; intro oa5 c5 w9 HRX HGX HOX; have hst := (HoldRow.store H1.out.2.2.2.2.2 hb4 H1.out.2.2.2.1 HX.out.2.2 HRX.out HGX.out HOX.out).1; have kb9 : w9.cell? ⟨b4, 0, none⟩ = some (.slice ob m cb) := cell_of hst rfl; have kf9 : w9.frozen? ⟨b4, 0, none⟩ = false := free_of hst _; clear hst)
    go_ret
    show PnIs W b3 b4 Z lo m (((mp : Nat) : Int).toNat % of) rest out _ _
    rw [Int.toNat_natCast, HRR.out]
    exact pn_done (p := r) H1.out.1 H1.out.2.1 H1.out.2.2.1 hne hz4 hb3 hb4 H1.out.2.2.2.2.2 H1.out.2.2.2.1 H1.out.2.2.2.2.1 HX.out.2.2 HRX.out HGX.out HOX.out
end Go.Proofs.Ytmkjejngnahpeaa
