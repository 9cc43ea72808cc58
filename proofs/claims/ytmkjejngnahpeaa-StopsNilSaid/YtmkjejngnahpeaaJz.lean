/- The texts Jf, Jg, Jh, Ji, Jj, Jk, Jl, Jm in one. -/
import Derived.Test.YtmkjejngnahpeaaJy
import Derived.Test.YtmkjejngnahpeaaFj
import Derived.Deep.RegionHeld3
import Derived.RangeFuncCalls
/- stops: are the picks right; the next pick (printed by genjf.py). -/
namespace Go.Proofs.Ytmkjejngnahpeaa
open Go Go.Maps Go.RowKit

set_option maxHeartbeats 400000 in
theorem rneg_b (x : Int) (w : World) : Calls Try.prog 165 #[.int .i64 x] w fun e w' => e = .returned (.bool (decide (x < 0))) ∧ w' = w := by
  go_enter Try.func165, Try.ntmps165
  go_wp2_with fail
  go_ret
  exact ⟨rfl, rfl⟩
set_option maxRecDepth 100000 in
set_option maxHeartbeats 400000 in
theorem rindexInt_b {w : World} {oa : Option Addr} {n c : Nat} {ps : List Int} (hn : ps.length = n) (h : readAt w 1 (.slice oa n c) n (intCells ps)) (hm : n ≤ 1000000000) :
    Calls Try.prog 158 #[.slice oa n c, .func (.func 165) #[] #[]] w fun e w' => ∃ i : Int, e = .returned (.int .i64 i) ∧ (AllGe ps → i = -1) ∧ (¬ AllGe ps → 0 ≤ i) ∧ w' = w := by
  have H := Lib.hid h
  clear h
  go_enter Try.func158, Try.ntmps158
  go_wp2_with fail
  go_loop [8] (fun i => ∃ k : Nat, k ≤ n ∧ i = .int .i64 k ∧ AllGe (ps.take k)) (fun i => n - (intOf i).toNat)
  case atStart => exact ⟨0, Nat.zero_le _, rfl, fun x hx => by simp at hx⟩
  case round =>
    obtain ⟨k, hk, rfl, hge⟩ := hrel
    by_cases hlt : k < n
    · obtain ⟨g, off, rfl⟩ := H.out.addr (by omega)
      obtain ⟨x, hx⟩ : ∃ x, ps[k]'(by omega) = x := ⟨_, rfl⟩
      have hcx : w.cell? ⟨g, off + k, none⟩ = some (.int .i64 x) := by
        have h1 := H.out.cells (g := g) (off := off) rfl k (.int .i64 x) (by simp [intCells, ← hx])
        simpa [Go.WideShapes.add_plain] using h1
      have HX : Hid (0 ≤ x → AllGe (ps.take (k + 1))) := Lib.hid fun h0 => AllGe.snoc (by omega) hge (by rw [hx]; exact h0)
      have HY : Hid (x < 0 → ¬ AllGe ps) := Lib.hid fun h0 ha => by
        have := ha x (by rw [← hx]; exact List.getElem_mem _)
        omega
      clear hge hx
      by_cases h0 : x < 0
      · go_wp2_with (go_at_call 165; refine (rneg_b _ _).mono ?_; rintro e w' ⟨rfl, rfl⟩)
        go_ret
        exact ⟨_, rfl, fun ha => absurd ha (HY.out h0), fun _ => by omega, rfl⟩
      · go_wp2_with (go_at_call 165; refine (rneg_b _ _).mono ?_; rintro e w' ⟨rfl, rfl⟩)
        exact ⟨⟨k + 1, by omega, by simp, HX.out (by omega)⟩, by simp [intOf]; omega⟩
    · obtain rfl : k = n := by omega
      have HA : Hid (AllGe ps) := Lib.hid (by rwa [List.take_of_length_le (by omega)] at hge)
      clear hge
      go_wp2_with fail
      go_ret
      exact ⟨_, rfl, fun _ => rfl, fun h => absurd HA.out h, rfl⟩
set_option maxHeartbeats 400000 in
theorem rcontainsInt_b {w : World} {oa : Option Addr} {n c : Nat} {ps : List Int} (hn : ps.length = n) (h : readAt w 1 (.slice oa n c) n (intCells ps)) (hm : n ≤ 1000000000) :
    Calls Try.prog 109 #[.slice oa n c, .func (.func 165) #[] #[]] w fun e w' => ∃ b : Bool, e = .returned (.bool b) ∧ (b = false ↔ AllGe ps) ∧ w' = w := by
  go_enter Try.func109, Try.ntmps109
  go_wp2_with fail
  refine (rindexInt_b hn h hm).mono ?_
  rintro e w' ⟨i, rfl, h1, h2, rfl⟩
  obtain ⟨b, hb⟩ : ∃ b, decide ((0 : Int) ≤ i) = b := ⟨_, rfl⟩
  have HB : Hid (b = false ↔ AllGe ps) := Lib.hid (by
    rw [← hb]
    constructor
    · intro h3
      refine Classical.byContradiction fun h4 => ?_
      have := h2 h4
      simp at h3
      omega
    · intro h3
      have := h1 h3
      simp
      omega)
  clear h h1 h2
  go_wp2_with fail
  go_ret
  exact ⟨_, rfl, HB.out, rfl⟩
set_option maxRecDepth 100000 in
set_option maxHeartbeats 400000 in
/-- of a disk that is there, picks that may be -/
theorem sright_b {w : World} {S : Nat → Prop} {q : Nat} {d : Dk} (h : DiskAt w S q d) (hfm : d.fates.length ≤ 1000000000) {oa : Option Addr} {n c : Nat} {ps : List Int} (hn : ps.length = n) (hp : readAt w 1 (.slice oa n c) n (intCells ps)) (hm : n ≤ 1000000000) :
    Calls Try.prog 136 #[.pointer (some ⟨q, 0, none⟩), .agg #[.slice oa n c]] w fun e w' => ∃ er : Int, e = .returned (.int .i64 er) ∧ (AllGe ps → er = 0) ∧ (¬ AllGe ps → er = 2) ∧ Below w.heap.size w w' := by
  obtain ⟨w1, hw1⟩ : ∃ W : World, W = w.alloc (.cells #[.slice oa n c] 72) := ⟨_, rfl⟩
  obtain ⟨b3, hb3⟩ : ∃ b, b = w.heap.size := ⟨_, rfl⟩
  have h1 : w1.heap[b3]? = some (.cells #[.slice oa n c] 72 (0, 0)) := by rw [hw1, hb3]; exact alloc_cells _ _ _
  have hb1 : Below w.heap.size w w1 := by rw [hw1]; exact (Below.refl _ _).alloc (Nat.le_refl _) _
  have H := Lib.hid (And.intro (h.below hb1) (And.intro h1 hb1))
  have HP := Lib.hid (hp.kept (fun k hk _ _ => hb1.block k hk))
  clear h hp hb1 h1
  go_enter Try.func136, Try.ntmps136
  go_upto_region 1 with fail
  rw [← hw1, ← hb3]
  clear hw1 hb3
  go_wp2_with fail
  refine (snone_b H.out.1 hfm).mono ?_
  rintro e w2 ⟨rfl, hb2⟩
  have c0 : w2.cell? ⟨b3, 0, none⟩ = some (.slice oa n c) := cell_of ((hb2.block b3 (Array.getElem?_eq_some_iff.1 H.out.2.1).1).trans H.out.2.1) rfl
  have HB := Lib.hid (H.out.2.2.trans (hb2.mono H.out.2.2.size))
  have HP2 := Lib.hid (HP.out.kept (fun k hk _ _ => hb2.block k hk))
  clear hb2
  go_wp2_with fail
  refine (rcontainsInt_b hn HP2.out hm).mono ?_
  rintro e w3 ⟨b, rfl, hiff, hw3⟩
  obtain rfl := hw3.symm
  cases b
  · have HI : Hid (AllGe ps) := Lib.hid (hiff.1 rfl)
    clear hiff
    go_wp2_with fail
    go_ret
    exact ⟨0, rfl, fun _ => rfl, fun h => absurd HI.out h, HB.out⟩
  · have HI : Hid (¬ AllGe ps) := Lib.hid (fun h => by have := hiff.2 h; cases this)
    clear hiff
    go_wp2_with fail
    go_ret
    exact ⟨2, rfl, fun h => absurd h HI.out, fun _ => rfl, HB.out⟩
set_option maxRecDepth 100000 in
set_option maxHeartbeats 400000 in
theorem sright_nil {w : World} {pp : Option Addr} (h : IsNone w pp) (v : Value) (hv : ∃ oa n c, v = .slice oa n c) : Calls Try.prog 136 #[.pointer pp, .agg #[v]] w fun e w' => e = .returned (.int .i64 1) ∧ Below w.heap.size w w' := by
  obtain ⟨oa, n, c, rfl⟩ := hv
  obtain ⟨w1, hw1⟩ : ∃ W : World, W = w.alloc (.cells #[.slice oa n c] 72) := ⟨_, rfl⟩
  have hb1 : Below w.heap.size w w1 := by rw [hw1]; exact (Below.refl _ _).alloc (Nat.le_refl _) _
  have H := Lib.hid (And.intro (h.below hb1) hb1)
  clear h hb1
  go_enter Try.func136, Try.ntmps136
  go_upto_region 1 with fail
  rw [← hw1]
  clear hw1
  go_wp2_with fail
  refine (snone_nil H.out.1).mono ?_
  rintro e w2 ⟨rfl, rfl⟩
  go_wp2_with fail
  go_ret
  exact ⟨rfl, H.out.2⟩
/-- blocks of other types stand as they stood -/
def KeepT (ts : List TypeId) (W W' : World) : Prop := ∀ (k : Nat) (cs : Array Value) (t : TypeId) (fr : Nat × Nat), W.heap[k]? = some (.cells cs t fr) → t ∉ ts → W'.heap[k]? = W.heap[k]?
theorem KeepT.refl (ts : List TypeId) (W : World) : KeepT ts W W := fun _ _ _ _ _ _ => rfl
theorem KeepT.trans {ts : List TypeId} {A B C : World} (h : KeepT ts A B) (k : KeepT ts B C) : KeepT ts A C := fun j cs t fr hj ht => by
  have h1 := h j cs t fr hj ht
  exact (k j cs t fr (h1.trans hj) ht).trans h1
theorem KeepT.of {ts : List TypeId} {A B : World} (h : Below A.heap.size A B) : KeepT ts A B := fun j _ _ _ hj _ => h.block j (Array.getElem?_eq_some_iff.1 hj).1
theorem KeepT.set {ts : List TypeId} {W : World} {b i : Nat} {cs : Array Value} {t : TypeId} {fr : Nat × Nat} (h : W.heap[b]? = some (.cells cs t fr)) (ht : t ∈ ts) (v : Value) : KeepT ts W (W.setCell ⟨b, i, none⟩ v) := fun j cs' t' fr' hj ht' =>
  Below.heap_setCell _ _ _ _ (fun e => by
    dsimp only at e
    subst e
    rw [h] at hj
    simp only [Option.some.injEq, Obj.cells.injEq] at hj
    rw [hj.2.1] at ht
    exact ht' ht)
theorem KeepT.grown {ts : List TypeId} {W W' : World} {e : TypeId} {size m : Nat} {v : Value} {xs : List Value} (hr : rowAt W e size v m xs) (he : e ∈ ts) (hg : W.grownBy W' v.ownBlock) : KeepT ts W W' := fun j cs t fr hj ht =>
  hg.block j (Array.getElem?_eq_some_iff.1 hj).1 (fun e' => by
    have := row_type hr e'.symm hj
    rw [this] at he
    exact ht he)
/-- block b holds a row that lies in blocks from lo on -/
def HoldRow (e t : TypeId) (size b lo : Nat) (W : World) (m : Nat) (xs : List Value) : Prop :=
  ∃ oa c, W.heap[b]? = some (.cells #[.slice oa m c] t (0, 0)) ∧ rowAt W e size (.slice oa m c) m xs ∧ ∀ k, (Value.slice oa m c).ownBlock = some k → lo ≤ k
theorem HoldRow.kept {e t : TypeId} {size b lo m : Nat} {W W' : World} {xs : List Value} (h : HoldRow e t size b lo W m xs) (hb : Below W.heap.size W W') : HoldRow e t size b lo W' m xs := by
  obtain ⟨oa, c, h1, h2, h3⟩ := h
  exact ⟨oa, c, (hb.block _ (Array.getElem?_eq_some_iff.1 h1).1).trans h1, h2.kept (fun k hk => hb.block k (h2.lt k hk)), h3⟩
theorem wpList_append_one {w2 : World} {ops : Array Oper} {rest : List Oper} {o : Oper} {a : Act} {Q : Exit → Act → World → Prop} (hgd : o.guard = none) (s x : Operand) (t e : TypeId)
    (ho : o.op = .call { callee := .builtin .append, args := #[s, x], argTypes := #[t, t] }) {z : Value} {size bytes : Nat} (ht : Try.prog.underlying t = some (.slice e)) (hinfo : (Try.prog.info? e).map (fun i => (i.zero, i.size, i.bytes)) = some (some z, size, bytes)) (hzs : z.cells.size = size) (hby : bytes ≤ 1000)
    {oa : Option Addr} {m c : Nat} {xs : List Value} (h : rowAt w2 e size (.slice oa m c) m xs) (hm : m ≤ 1000000) (ys : List Value) (hy : ys.length = size) (h1 : ∀ v ∈ ys, v.oneCell' = true)
    (hs : a.eval s = .slice oa m c) (hx : a.eval x = .slice (some ⟨w2.heap.size, 0, none⟩) 1 1)
    (hK : ∀ oa3 c3 w3, Hid (rowAt w3 e size (.slice oa3 (m + 1) c3) (m + 1) (xs ++ ys)) → Hid ((w2.alloc (.cells ys.toArray e)).grownBy w3 (Value.slice oa m c).ownBlock) →
      Hid ((Value.slice oa3 (m + 1) c3).ownBlock = (Value.slice oa m c).ownBlock ∨ (Value.slice oa3 (m + 1) c3).ownBlock = some (w2.heap.size + 1)) → wpList Try.prog ops Q rest (a.put o.dst (.slice oa3 (m + 1) c3)) w3) :
    wpList Try.prog ops Q (o :: rest) a (w2.alloc (.cells ys.toArray e)) := by
  refine wpList_append_at _ hgd s x t t ho e z size bytes ht hinfo hzs _ m xs hs (h.kept (fun k hk => Below.heap_alloc _ _ k (h.lt k hk))) _ 1 _ hx (Src.of_row ht (one_row w2 e size ys hy) h1) (by unfold maxLen; omega) (by
    have h2 : (m + 1) * bytes ≤ (m + 1) * 1000 := Nat.mul_le_mul_left _ hby
    omega) ?_
  intro v' w3 hr hg hown _
  obtain ⟨oa3, c3, rfl, _⟩ := hr.shape
  exact hK oa3 c3 w3 (Lib.hid hr) (Lib.hid hg) (Lib.hid (by simpa using hown))
/-- the box's row is one longer, as it is stored -/
theorem HoldRow.store {e t : TypeId} {size b lo m : Nat} {W w3 : World} {xs ys : List Value} {oa oa3 : Option Addr} {c c3 : Nat} {o : Obj} (hlo : lo ≤ W.heap.size) (hbl : b < lo) (hbx : W.heap[b]? = some (.cells #[.slice oa m c] t (0, 0)))
    (hown : ∀ k, (Value.slice oa m c).ownBlock = some k → lo ≤ k)
    (hr : rowAt w3 e size (.slice oa3 (m + 1) c3) (m + 1) (xs ++ ys)) (hg : (W.alloc o).grownBy w3 (Value.slice oa m c).ownBlock)
    (hw : (Value.slice oa3 (m + 1) c3).ownBlock = (Value.slice oa m c).ownBlock ∨ (Value.slice oa3 (m + 1) c3).ownBlock = some (W.heap.size + 1)) :
    w3.heap[b]? = some (.cells #[.slice oa m c] t (0, 0)) ∧ HoldRow e t size b lo (w3.setCell ⟨b, 0, none⟩ (.slice oa3 (m + 1) c3)) (m + 1) (xs ++ ys) := by
  have hsz := (Array.getElem?_eq_some_iff.1 hbx).1
  have hnew : ∀ k, (Value.slice oa3 (m + 1) c3).ownBlock = some k → lo ≤ k := fun k hk => by
    rcases hw with h1 | h1
    · exact hown k (by rw [← h1]; exact hk)
    · rw [hk] at h1
      simp only [Option.some.injEq] at h1
      omega
  have hb3 : w3.heap[b]? = some (.cells #[.slice oa m c] t (0, 0)) := (hg.block _ (by simp; omega) (fun e => by have := hown _ e.symm; omega)).trans ((Below.heap_alloc _ _ _ hsz).trans hbx)
  exact ⟨hb3, oa3, c3, heap_setCell_here _ hb3, hr.kept (fun k hk => Below.heap_setCell _ _ _ _ (fun e => by have := hnew k hk; dsimp only at e; omega)), hnew⟩
end Go.Proofs.Ytmkjejngnahpeaa
/- stops: the next pick, told and kept (printed by genjg.py). -/
namespace Go.Proofs.Ytmkjejngnahpeaa
open Go Go.Maps Go.RowKit

def natCells (l : List Nat) : List Value := l.map fun (x : Nat) => .int .i64 (x : Int)
theorem natCells_append (a b : List Nat) : natCells (a ++ b) = natCells a ++ natCells b := by simp [natCells]
theorem info_int : (Try.prog.info? 3).map (fun i => (i.zero, i.size, i.bytes)) = some (some (.int .i64 0), 1, 8) := by kernel_rfl
theorem info_i64 : (Try.prog.info? 2).map (fun i => (i.zero, i.size, i.bytes)) = some (some (.int .i64 0), 1, 8) := by kernel_rfl
/-- what the next pick leaves -/
structure PnIs (W : World) (b3 b4 Z lo m : Nat) (p : Nat) (rest : List Int) (out : List Nat) (e : Ending) (W' : World) : Prop where
  ret : e = .returned (.int .i64 p)
  picks : PicksAt W' b3 Z rest
  out : HoldRow 3 32 1 b4 lo W' (m + 1) (natCells (out ++ [p]))
  keep : KeepT [32, 3] W W'
  below : Below Z W W'
  size : W.heap.size ≤ W'.heap.size
theorem pn_done {W w1 w9 : World} {b3 b4 Z lo m p : Nat} {rest : List Int} {out : List Nat} {oa oa3 : Option Addr} {c c3 : Nat} (hP : PicksAt w1 b3 Z rest) (hk : KeepT [32, 3] W w1) (hb : Below Z W w1) (hne : b3 ≠ b4) (hz4 : Z ≤ b4) (hb3 : b3 < lo) (hb4 : b4 < lo) (hlo : lo ≤ w1.heap.size)
    (hbx : w1.heap[b4]? = some (.cells #[.slice oa m c] 32 (0, 0))) (hrw : rowAt w1 3 1 (.slice oa m c) m (natCells out)) (hown : ∀ k, (Value.slice oa m c).ownBlock = some k → lo ≤ k)
    (hr : rowAt w9 3 1 (.slice oa3 (m + 1) c3) (m + 1) (natCells out ++ [.int .i64 p])) (hg : (w1.alloc (.cells [.int .i64 p].toArray 3)).grownBy w9 (Value.slice oa m c).ownBlock)
    (hw : (Value.slice oa3 (m + 1) c3).ownBlock = (Value.slice oa m c).ownBlock ∨ (Value.slice oa3 (m + 1) c3).ownBlock = some (w1.heap.size + 1)) :
    PnIs W b3 b4 Z lo m p rest out (.returned (.int .i64 p)) (w9.setCell ⟨b4, 0, none⟩ (.slice oa3 (m + 1) c3)) := by
  obtain ⟨h9, hst⟩ := HoldRow.store hlo hb4 hbx hown hr hg hw
  have hal : Below w1.heap.size w1 (w1.alloc (.cells [.int .i64 p].toArray 3)) := (Below.refl _ _).alloc (Nat.le_refl _) _
  have hrw1 : rowAt (w1.alloc (.cells [.int .i64 p].toArray 3)) 3 1 (.slice oa m c) m (natCells out) := hrw.kept (fun k hk => hal.block k (hrw.lt k hk))
  have hsz9 := hg.size
  have hsz1 := hal.size
  have hszs := (only_setCell (fun _ => True) w9 b4 0 (.slice oa3 (m + 1) c3) trivial).size
  have hb49 : Below Z w1 (w9.setCell ⟨b4, 0, none⟩ (.slice oa3 (m + 1) c3)) := ((hal.mono (by omega)).grown hg (by omega) (fun k e => by have := hown k e; omega)).setCell (p := ⟨b4, 0, none⟩) hz4 _
  have hkeep : ∀ k, k = b3 ∨ k < Z → (w9.setCell ⟨b4, 0, none⟩ (.slice oa3 (m + 1) c3)).heap[k]? = w1.heap[k]? := fun k hk => by
    rcases hk with rfl | hk
    · obtain ⟨o1, c1, hq, _⟩ := hP
      have hlt := (Array.getElem?_eq_some_iff.1 hq).1
      refine (Below.heap_setCell _ _ _ _ (fun e => hne e)).trans ((hg.block k (by omega) (fun e => by have := hown k e.symm; omega)).trans (hal.block k hlt))
    · exact hb49.block k hk
  refine ⟨rfl, hP.kept hkeep, ?_, ?_, hb.trans hb49, ?_⟩
  · rw [natCells_append]
    exact hst
  · exact ((hk.trans (KeepT.of hal)).trans (KeepT.grown hrw1 (by simp) hg)).trans (KeepT.set h9 (by simp) _)
  · have := hb.size
    omega
set_option maxRecDepth 100000 in
set_option maxHeartbeats 1000000 in
theorem pnext_b {W : World} {b3 b4 Z lo m : Nat} {ps : List Int} {out : List Nat} (hP : PicksAt W b3 Z ps) (hR : HoldRow 3 32 1 b4 lo W m (natCells out)) (hne : b3 ≠ b4) (hz3 : Z ≤ b3) (hz4 : Z ≤ b4) (hb3 : b3 < lo) (hb4 : b4 < lo) (hlo : lo ≤ W.heap.size) (hm : m ≤ 1000000)
    (hge : AllGe ps) (of : Nat) (h1 : 0 < of) (h2 : of ≤ 1000000000) (hp : ∀ x ∈ ps, x ≤ 9223372036854775807) {v : Int} (hv : v = (of : Int)) :
    Calls Try.prog 166 #[.int .i64 v, .pointer (some ⟨b3, 0, none⟩), .pointer (some ⟨b4, 0, none⟩)] W fun e W' => PnIs W b3 b4 Z lo m (nextP of ps).1 (nextP of ps).2 out e W' := by
  subst hv
  have HR := Lib.hid hR
  have HPK := Lib.hid hP
  obtain ⟨oa, c, hb, hrow, hneZ⟩ := hP
  obtain ⟨ob, cb, hbx, hrw, hown⟩ := hR
  have hone : ∀ (x : Int), ∀ v ∈ ([.int .i64 x] : List Value), v.oneCell' = true := fun x v hv => by
    rw [List.mem_singleton] at hv
    subst hv
    rfl
  have HONE := Lib.hid hone
  clear hone
  cases ps with
  | nil =>
    have HB := Lib.hid (And.intro hbx (And.intro hrw hown))
    have c0 : W.cell? ⟨b3, 0, none⟩ = some (.slice oa 0 c) := cell_of hb rfl
    have d0 : W.cell? ⟨b4, 0, none⟩ = some (.slice ob m cb) := cell_of hbx rfl
    have y0 : W.frozen? ⟨b4, 0, none⟩ = false := free_of hbx _
    clear hb hrow hneZ hbx hrw hown
    go_enter Try.func166, Try.ntmps166
    go_wp2_with (at_builtin; refine wpList_append_one rfl (.tmp 16) (.tmp 18) 32 3 rfl Try.underlying32 info_int rfl (by omega) HB.out.2.1 (by omega) [.int .i64 0] rfl (HONE.out _) rfl rfl ?_; intro oa5 c5 w9 HRX HGX HOX; have hst := (HoldRow.store hlo hb4 HB.out.1 HB.out.2.2 HRX.out HGX.out HOX.out).1; have kb9 : w9.cell? ⟨b4, 0, none⟩ = some (.slice ob m cb) := cell_of hst rfl; have kf9 : w9.frozen? ⟨b4, 0, none⟩ = false := free_of hst _; clear hst)
    go_ret
    exact pn_done (p := 0) (rest := []) HPK.out (KeepT.refl _ _) (Below.refl _ _) hne hz4 hb3 hb4 hlo HB.out.1 HB.out.2.1 HB.out.2.2 HRX.out HGX.out HOX.out
  | cons p rest =>
    obtain ⟨g, off, rfl⟩ := hrow.addr (by simp)
    have f0 : W.cell? ⟨g, off, none⟩ = some (.int .i64 p) := by
      have := hrow.cells (g := g) (off := off) rfl 0 (.int .i64 p) rfl
      simpa [Go.WideShapes.add_plain] using this
    have hcap : rest.length + 1 ≤ c := hrow.cap
    have hsub := hrow.tail
    obtain ⟨oa', hfv⟩ : ∃ oa' : Option Addr, oa' = if c = 1 then some ⟨g, off, none⟩ else (some (⟨g, off, none⟩ : Addr)).map (·.add (1 * 1)) := ⟨_, rfl⟩
    obtain ⟨c', hc'⟩ : ∃ c', c' = c - 1 := ⟨_, rfl⟩
    have hownp : (Value.slice oa' rest.length c').ownBlock = some g := by rw [hfv]; exact sub_own _ _ _ _ _ _
    obtain ⟨n1, hn1⟩ : ∃ n1, n1 = rest.length + 1 := ⟨_, rfl⟩
    have hsl : ∀ W : World, (Instr.slice 32 (.slice (some ⟨g, off, none⟩) n1 c) (some (.int .i64 1)) none none).run Try.prog W = .ok (.slice oa' rest.length c') W := fun W => by rw [hfv, hn1, hc']; exact run_tailI g off rest.length c W
    have hn2 : (0 : Int) < (n1 : Int) := by omega
    have hn3 : (1 : Int) ≤ (n1 : Int) := by omega
    rw [List.length_cons, ← hn1] at hb
    have c0 : W.cell? ⟨b3, 0, none⟩ = some (.slice (some ⟨g, off, none⟩) n1 c) := cell_of hb rfl
    have z0 : W.frozen? ⟨b3, 0, none⟩ = false := free_of hb _
    have hgb : g ≠ b3 ∧ g < Z := hneZ (by simp) g rfl
    have HSUB : Hid (readAt W 1 (.slice oa' rest.length c') rest.length (intCells rest)) := Lib.hid (by
      rw [hfv, hc']
      exact hsub)
    have hp0 : 0 ≤ p := hge p (by simp)
    obtain ⟨mp, hmp⟩ : ∃ m : Nat, p = (m : Int) := ⟨p.toNat, by omega⟩
    have hmx := hp p (by simp)
    subst hmp
    have HB := Lib.hid (And.intro hb (And.intro hownp (And.intro hgb (hrow.lt (by simp) g rfl))))
    have HX := Lib.hid (And.intro hbx (And.intro hrw hown))
    clear hrow hsub hfv hc' hownp hn1 hb hneZ hcap hge hp hp0 hgb hbx hrw hown
    have hof : (of : Int) ≠ 0 := by omega
    obtain ⟨r, hr⟩ : ∃ r, mp % of = r := ⟨_, rfl⟩
    have hmod : (mp : Int) % (of : Int) = (r : Int) := by rw [← hr]; exact (Int.natCast_emod mp of).symm
    have HRR := Lib.hid hr
    clear hr
    go_enter Try.func166, Try.ntmps166
    go_upto_region 5 with fail
    obtain ⟨w1, hw1⟩ : ∃ w1 : World, w1 = W.setCell ⟨b3, 0, none⟩ (.slice oa' rest.length c') := ⟨_, rfl⟩
    have ho : Only (fun k => k = b3) W w1 := by rw [hw1]; exact only_setCell (fun k => k = b3) W b3 0 _ rfl
    have hb1 : w1.heap[b3]? = some (.cells #[.slice oa' rest.length c'] 32 (0, 0)) := by rw [hw1]; exact heap_setCell_here _ HB.out.1
    have hk1 : KeepT [32, 3] W w1 := by rw [hw1]; exact KeepT.set HB.out.1 (by simp) _
    have hbl1 : Below Z W w1 := by rw [hw1]; exact (Below.refl _ _).setCell (p := ⟨b3, 0, none⟩) hz3 _
    have hP1 : PicksAt w1 b3 Z rest := ⟨oa', c', hb1, HSUB.out.kept (fun k _ hk _ => by
      rw [HB.out.2.1] at hk
      simp only [Option.some.injEq] at hk
      subst hk
      exact ho.block _ HB.out.2.2.2 HB.out.2.2.1.1), fun _ k hk => by
      rw [HB.out.2.1] at hk
      simp only [Option.some.injEq] at hk
      rw [← hk]; exact HB.out.2.2.1⟩
    have hbx1 : w1.heap[b4]? = some (.cells #[.slice ob m cb] 32 (0, 0)) := (ho.block b4 (Array.getElem?_eq_some_iff.1 HX.out.1).1 (fun e => hne e.symm)).trans HX.out.1
    have hrw1 : rowAt w1 3 1 (.slice ob m cb) m (natCells out) := HX.out.2.1.kept (fun k hk => ho.block k (HX.out.2.1.lt k hk) (fun e => by have := HX.out.2.2 k hk; omega))
    have hlo1 : lo ≤ w1.heap.size := Nat.le_trans hlo ho.size
    have d0 : w1.cell? ⟨b4, 0, none⟩ = some (.slice ob m cb) := cell_of hbx1 rfl
    have y0 : w1.frozen? ⟨b4, 0, none⟩ = false := free_of hbx1 _
    have H1 := Lib.hid (And.intro hP1 (And.intro hk1 (And.intro hbl1 (And.intro hbx1 (And.intro hrw1 hlo1)))))
    rw [← hw1]
    clear hw1 ho hb1 hk1 hbl1 hP1 hbx1 hrw1 hlo1 hsl c0 z0 f0
    go_wp2_with (at_builtin; refine wpList_append_one rfl (.tmp 16) (.tmp 18) 32 3 rfl Try.underlying32 info_int rfl (by omega) H1.out.2.2.2.2.1 (by omega) [.int .i64 (r : Int)] rfl (HONE.out _) rfl rfl ?_; intro oa5 c5 w9 HRX HGX HOX; have hst := (HoldRow.store H1.out.2.2.2.2.2 hb4 H1.out.2.2.2.1 HX.out.2.2 HRX.out HGX.out HOX.out).1; have kb9 : w9.cell? ⟨b4, 0, none⟩ = some (.slice ob m cb) := cell_of hst rfl; have kf9 : w9.frozen? ⟨b4, 0, none⟩ = false := free_of hst _; clear hst)
    go_ret
    show PnIs W b3 b4 Z lo m (((mp : Nat) : Int).toNat % of) rest out _ _
    rw [Int.toNat_natCast, HRR.out]
    exact pn_done (p := r) H1.out.1 H1.out.2.1 H1.out.2.2.1 hne hz4 hb3 hb4 H1.out.2.2.2.2.2 H1.out.2.2.2.1 H1.out.2.2.2.2.1 HX.out.2.2 HRX.out HGX.out HOX.out
end Go.Proofs.Ytmkjejngnahpeaa
/- stops: plain: the plain picks, and each file's way. -/
namespace Go.Proofs.Ytmkjejngnahpeaa
open Go Go.Maps Go.RowKit

structure PlS where
  out : List Nat
  ways : List Nat
  ps : List Int
def plainStep (s : PlS) (u : U0) : PlS :=
  if u.name = true then
    if (nextP 2 s.ps).1 = 0 then ⟨s.out ++ [0], s.ways ++ [0], (nextP 2 s.ps).2⟩
    else if 0 < u.more then ⟨s.out ++ [(nextP 2 s.ps).1] ++ [(nextP (u.more + 1) (nextP 2 s.ps).2).1], s.ways ++ [1 + (nextP (u.more + 1) (nextP 2 s.ps).2).1], (nextP (u.more + 1) (nextP 2 s.ps).2).2⟩
    else ⟨s.out ++ [(nextP 2 s.ps).1], s.ways ++ [1], (nextP 2 s.ps).2⟩
  else if 0 < u.more then ⟨s.out ++ [(nextP (u.more + 1) s.ps).1], s.ways ++ [(nextP (u.more + 1) s.ps).1], (nextP (u.more + 1) s.ps).2⟩
  else ⟨s.out, s.ways ++ [0], s.ps⟩
/-- the plain picks, and each file's way -/
def plainT (l : List U0) (ps : List Int) : PlS := l.foldl plainStep ⟨[], [], ps⟩
theorem plainT_succ {l : List U0} {ps : List Int} {j : Nat} (hj : j < l.length) : plainT (l.take (j + 1)) ps = plainStep (plainT (l.take j) ps) l[j] := by
  unfold plainT
  rw [List.take_succ_eq_append_getElem hj, List.foldl_append]
  rfl
theorem plainStep_ok {s : PlS} {u : U0} (h : PicksOk s.ps) : PicksOk (plainStep s u).ps := by
  unfold plainStep
  split
  · split
    · exact nextP_ok _ h
    · split
      · exact nextP_ok _ (nextP_ok _ h)
      · exact nextP_ok _ h
  · split
    · exact nextP_ok _ h
    · exact h
theorem plainStep_len {s : PlS} {u : U0} : (plainStep s u).ways.length = s.ways.length + 1 ∧ (plainStep s u).out.length ≤ s.out.length + 2 := by
  unfold plainStep
  split
  · split
    · simp
    · split <;> simp
  · split <;> simp
theorem plainT_len : ∀ (l : List U0) (s : PlS), (l.foldl plainStep s).ways.length = s.ways.length + l.length ∧ (l.foldl plainStep s).out.length ≤ s.out.length + 2 * l.length
  | [], s => ⟨rfl, Nat.le_refl _⟩
  | u :: r, s => by
    have h1 := plainT_len r (plainStep s u)
    have h2 := plainStep_len (s := s) (u := u)
    rw [List.foldl_cons, List.length_cons]
    omega
structure PlI (w wr : World) (b3 b4 : Nat) (v : Value) (s : PlS) : Prop where
  picks : PicksAt wr b3 w.heap.size s.ps
  out : HoldRow 3 32 1 b4 (w.heap.size + 2) wr s.out.length (natCells s.out)
  ways : rowAt wr 2 1 v s.ways.length (natCells s.ways)
  own : ∀ k, v.ownBlock = some k → w.heap.size + 2 ≤ k
  below : Below w.heap.size w wr
  size : w.heap.size + 2 ≤ wr.heap.size
  ne : b3 ≠ b4
  b3 : w.heap.size ≤ b3 ∧ b3 < w.heap.size + 2
  b4 : w.heap.size ≤ b4 ∧ b4 < w.heap.size + 2
section
variable {w wr W' : World} {b3 b4 : Nat} {v : Value} {s : PlS}
theorem PlI.grown (h : PlI w wr b3 b4 v s) (hb : Below wr.heap.size wr W') : PlI w W' b3 b4 v s :=
  { h with
    picks := h.picks.kept (fun k hk => hb.block k (by
      have h1 := h.b3
      have h2 := h.size
      rcases hk with rfl | hk <;> omega))
    out := h.out.kept hb
    ways := h.ways.kept (fun k hk => hb.block k (h.ways.lt k hk))
    below := h.below.trans (hb.mono (by have := h.size; omega))
    size := Nat.le_trans h.size hb.size }
theorem PlI.pick {p m : Nat} {rest : List Int} {e : Ending} (h : PlI w wr b3 b4 v s) (hm : m = s.out.length) (hp : PnIs wr b3 b4 w.heap.size (w.heap.size + 2) m p rest s.out e W') : PlI w W' b3 b4 v ⟨s.out ++ [p], s.ways, rest⟩ :=
  { h with
    picks := hp.picks
    out := by
      have := hp.out
      rw [hm] at this
      simpa using this
    ways := h.ways.kept (fun k hk => by
      rcases h.ways.2 with ⟨hv, _⟩ | ⟨g, off, cap, cur, fr, hv, hgg, _⟩
      · rw [hv] at hk
        simp [Value.ownBlock] at hk
      · rw [hv] at hk
        simp only [Value.ownBlock, Option.some.injEq] at hk
        subst hk
        exact hp.keep g _ _ _ hgg (by decide))
    below := h.below.trans hp.below
    size := Nat.le_trans h.size hp.size }
theorem PlI.way {w9 : World} {x m : Nat} {oa oa3 : Option Addr} {c c3 : Nat} (h : PlI w wr b3 b4 (.slice oa m c) s) (hm : m = s.ways.length)
    (hr : rowAt w9 2 1 (.slice oa3 (m + 1) c3) (m + 1) (natCells s.ways ++ [.int .i64 x])) (hg : (wr.alloc (.cells [.int .i64 x].toArray 2)).grownBy w9 (Value.slice oa m c).ownBlock)
    (hw : (Value.slice oa3 (m + 1) c3).ownBlock = (Value.slice oa m c).ownBlock ∨ (Value.slice oa3 (m + 1) c3).ownBlock = some (wr.heap.size + 1)) : PlI w w9 b3 b4 (.slice oa3 (m + 1) c3) ⟨s.out, s.ways ++ [x], s.ps⟩ := by
  have h1 := h.grown (W' := wr.alloc (.cells [.int .i64 x].toArray 2)) ((Below.refl _ _).alloc (Nat.le_refl _) _)
  have hbl : Below w.heap.size (wr.alloc (.cells [.int .i64 x].toArray 2)) w9 := (Below.refl _ _).grown hg (by have := h1.size; omega) (fun k e => by have := h.own k e; omega)
  have hrow := h1.ways
  rw [← hm] at hrow
  have hk : KeepT [2] (wr.alloc (.cells [.int .i64 x].toArray 2)) w9 := KeepT.grown hrow (by simp) hg
  have hsz := hg.size
  exact { h1 with
    picks := by
      obtain ⟨o1, c1, hq, hq2, hq3⟩ := h1.picks
      exact ⟨o1, c1, (hk b3 _ _ _ hq (by decide)).trans hq, hq2.kept (fun k hk1 hk2 h0 => hbl.block k (hq3 h0 k hk2).2), hq3⟩
    out := by
      obtain ⟨o1, c1, hq, hq2, hq3⟩ := h1.out
      refine ⟨o1, c1, (hk b4 _ _ _ hq (by decide)).trans hq, hq2.kept (fun k hk1 => ?_), hq3⟩
      rcases hq2.2 with ⟨hv, _⟩ | ⟨g, off, cap, cur, fr, hv, hgg, _⟩
      · rw [hv] at hk1
        simp [Value.ownBlock] at hk1
      · rw [hv] at hk1
        simp only [Value.ownBlock, Option.some.injEq] at hk1
        subst hk1
        exact hk g _ _ _ hgg (by decide)
    ways := by
      rw [natCells_append]
      have : (s.ways ++ [x]).length = m + 1 := by simp [hm]
      rw [this]
      exact hr
    own := fun k hk1 => by
      rcases hw with e | e
      · exact h.own k (by rw [← e]; exact hk1)
      · rw [hk1] at e
        simp only [Option.some.injEq] at e
        have := h.size
        omega
    below := h1.below.trans hbl
    size := Nat.le_trans h1.size hsz }
end
set_option maxRecDepth 100000 in
set_option maxHeartbeats 4000000 in
theorem plain_b {w : World} {oa : Option Addr} {n c : Nat} {l : List U0} (hn : l.length = n) (h : readAt w 2 (.slice oa n c) n (uCells l)) (hm : n ≤ 4096) (hsm : ∀ u ∈ l, u.more ≤ 16777216)
    {op : Option Addr} {np cp : Nat} {ps : List Int} (hnp : ps.length = np) (hp : readAt w 1 (.slice op np cp) np (intCells ps)) (hok : PicksOk ps) :
    Calls Try.prog 137 #[.slice oa n c, .slice op np cp] w fun e w' => ∃ o1 m1 c1 o2 m2 c2, e = .returned (.tuple #[.slice o1 m1 c1, .slice o2 m2 c2]) ∧ (plainT l ps).out.length = m1 ∧ (plainT l ps).ways.length = m2 ∧ readAt w' 1 (.slice o1 m1 c1) m1 (natCells (plainT l ps).out) ∧ readAt w' 1 (.slice o2 m2 c2) m2 (natCells (plainT l ps).ways) ∧ Below w.heap.size w w' := by
  have HR := Lib.hid h
  have HN := Lib.hid hn
  have HS := Lib.hid hsm
  have hone : ∀ (x : Int), ∀ v ∈ ([.int .i64 x] : List Value), v.oneCell' = true := fun x v hv => by
    rw [List.mem_singleton] at hv
    subst hv
    rfl
  have HONE := Lib.hid hone
  obtain ⟨w2, hw2⟩ : ∃ W : World, W = (w.alloc (.cells #[.slice op np cp] 32)).alloc (.cells #[.slice none 0 0] 32) := ⟨_, rfl⟩
  obtain ⟨b3, hb3⟩ : ∃ b, b = w.heap.size := ⟨_, rfl⟩
  obtain ⟨b4, hb4⟩ : ∃ b, b = w.heap.size + 1 := ⟨_, rfl⟩
  have hs2 : w2.heap.size = w.heap.size + 2 := by rw [hw2]; simp
  have hbl2 : Below w.heap.size w w2 := by rw [hw2]; exact ((Below.refl _ _).alloc (Nat.le_refl _) _).alloc (by simp) _
  have h3 : w2.heap[b3]? = some (.cells #[.slice op np cp] 32 (0, 0)) := by
    rw [hw2, hb3]
    exact (Below.heap_alloc _ _ _ (by simp)).trans (alloc_cells _ _ _)
  have h4 : w2.heap[b4]? = some (.cells #[.slice none 0 0] 32 (0, 0)) := by
    rw [hw2, hb4]
    have := alloc_cells (w.alloc (.cells #[.slice op np cp] 32)) #[.slice none 0 0] 32
    rwa [World.size_alloc] at this
  have hI0 : PlI w w2 b3 b4 (.slice none 0 0) ⟨[], [], ps⟩ :=
    { picks := ⟨op, cp, by rw [hnp]; exact h3, by rw [hnp]; exact hp.kept (fun k hk _ _ => hbl2.block k hk), fun h0 k hk => by
        rw [hnp] at hk h0
        have := hp.lt h0 k hk
        exact ⟨by omega, this⟩⟩
      out := ⟨none, 0, h4, ⟨rfl, .inl ⟨rfl, rfl⟩⟩, fun k hk => by simp [Value.ownBlock] at hk⟩
      ways := ⟨rfl, .inl ⟨rfl, rfl⟩⟩
      own := fun k hk => by simp [Value.ownBlock] at hk
      below := hbl2
      size := by omega
      ne := by omega
      b3 := by omega
      b4 := by omega }
  have HI0 := Lib.hid hI0
  have HOK := Lib.hid hok
  clear h hn hsm hone hnp hp hok hI0 h3 h4 hbl2 hs2
  go_enter Try.func137, Try.ntmps137
  go_upto_region 1 with fail
  rw [← hw2, ← hb4, ← hb3]
  clear hw2 hb3 hb4
  go_step3
  go_wp2_with fail
  go_step3
  go_wp2_with fail
  go_loopw [5, 13] (fun sv i wr => ∃ (j mw : Nat) (ow : Option Addr) (cw : Nat), j ≤ n ∧ i = .int .i64 j ∧ sv = .slice ow mw cw ∧ Hid ((plainT (l.take j) ps).ways.length = mw ∧ mw = j) ∧ Hid (PlI w wr b3 b4 (.slice ow mw cw) (plainT (l.take j) ps)) ∧ Hid (PicksOk (plainT (l.take j) ps).ps)) (fun _ i wr => n - (intOf i).toNat)
  case atStart => exact ⟨0, 0, none, 0, Nat.zero_le _, rfl, rfl, Lib.hid ⟨rfl, rfl⟩, HI0, HOK⟩
  case round =>
    obtain ⟨j, mw, ow, cw, hj, rfl, rfl, HM, HI, HP⟩ := hrel
    by_cases hlt : j < n
    · have hjl : j < l.length := by rw [HN.out]; exact hlt
      have hrw : readAt wr 2 (.slice oa n c) n (uCells l) := HR.out.kept (fun k hl _ _ => HI.out.below.block k hl)
      obtain ⟨g, off, rfl⟩ := hrw.addr (by omega)
      obtain ⟨u, hu⟩ : ∃ u, l[j] = u := ⟨_, rfl⟩
      have hum : u.more ≤ 16777216 := HS.out u (by rw [← hu]; exact List.getElem_mem _)
      obtain ⟨ub, hub⟩ : ∃ b, u.name = b := ⟨_, rfl⟩
      obtain ⟨um, humm⟩ : ∃ m, u.more = m := ⟨_, rfl⟩
      have k0 : wr.cell? ⟨g, off + j * 2, none⟩ = some (.bool ub) := us_cell (i := 0) hrw hjl (by omega) (by rw [hu, ← hub]; rfl)
      have k1 : wr.cell? ⟨g, off + j * 2 + 1, none⟩ = some (.int .i64 um) := us_cell (i := 1) hrw hjl (by omega) (by rw [hu, ← humm]; rfl)
      have hue : u = ⟨ub, um⟩ := by rw [← hub, ← humm]
      rw [humm] at hum
      obtain ⟨st, hst⟩ : ∃ st, plainT (l.take j) ps = st := ⟨_, rfl⟩
      have hol : st.out.length ≤ 8192 := by
        have h1 := (plainT_len (l.take j) ⟨[], [], ps⟩).2
        have h2 : plainT (l.take j) ps = (l.take j).foldl plainStep ⟨[], [], ps⟩ := rfl
        rw [← h2, hst, List.length_take] at h1
        simp at h1
        omega
      rw [hst] at HM HI HP
      have HCS : Hid (plainT (l.take (j + 1)) ps = plainStep st ⟨ub, um⟩) := Lib.hid (by rw [plainT_succ hjl, hst, hu, hue])
      have HNX : Hid (PicksOk (plainStep st ⟨ub, um⟩).ps ∧ (plainStep st ⟨ub, um⟩).ways.length = j + 1) := Lib.hid ⟨plainStep_ok HP.out, by rw [plainStep_len.1]; have := HM.out; omega⟩
      have hmw : mw = j := HM.out.2
      subst hmw
      clear hrw hu hue hub humm hst
      go_upto_region 5 with fail
      obtain ⟨w3, hw3⟩ : ∃ W : World, W = wr.alloc (.cells #[.bool ub, .int .i64 um] 213) := ⟨_, rfl⟩
      obtain ⟨b8, hb8⟩ : ∃ b, b = wr.heap.size := ⟨_, rfl⟩
      have h3 : w3.heap[b8]? = some (.cells #[.bool ub, .int .i64 um] 213 (0, 0)) := by rw [hw3, hb8]; exact alloc_cells _ _ _
      have hbl3 : Below wr.heap.size wr w3 := by rw [hw3]; exact (Below.refl _ _).alloc (Nat.le_refl _) _
      have HI3 := Lib.hid (HI.out.grown hbl3)
      have H3 := Lib.hid h3
      have y0 : w3.cell? ⟨b8, 0, none⟩ = some (.bool ub) := cell_of h3 rfl
      have y1 : w3.cell? ⟨b8, 1, none⟩ = some (.int .i64 um) := cell_of h3 rfl
      rw [← hw3, ← hb8]
      clear hw3 hb8 h3 hbl3 k0 k1
      have HEND : Hid (∀ (wx : World) (oy : Option Addr) (cy : Nat), PlI w wx b3 b4 (.slice oy (mw + 1) cy) (plainStep st ⟨ub, um⟩) → ∃ (j' mw' : Nat) (ow' : Option Addr) (cw' : Nat), j' ≤ n ∧ (Value.int .i64 ((mw : Int) + 1)) = .int .i64 j' ∧ (Value.slice oy (mw + 1) cy) = .slice ow' mw' cw' ∧ Hid ((plainT (l.take j') ps).ways.length = mw' ∧ mw' = j') ∧ Hid (PlI w wx b3 b4 (.slice ow' mw' cw') (plainT (l.take j') ps)) ∧ Hid (PicksOk (plainT (l.take j') ps).ps)) := Lib.hid (fun wx oy cy hpl => by
        refine ⟨mw + 1, mw + 1, oy, cy, by omega, by simp, rfl, Lib.hid ⟨by rw [HCS.out]; exact HNX.out.2, rfl⟩, Lib.hid (by rw [HCS.out]; exact hpl), Lib.hid (by rw [HCS.out]; exact HNX.out.1)⟩)
      have HOKP : Hid (AllGe st.ps ∧ ∀ x ∈ st.ps, x ≤ 9223372036854775807) := Lib.hid ⟨fun x hx => (HP.out x hx).1, fun x hx => (HP.out x hx).2⟩
      cases ub
      · by_cases hpos : 0 < um
        · have hd : decide ((0 : Int) < (um : Int)) = true := decide_eq_true (by omega)
          go_wp2_with fail
          refine (pnext_b HI3.out.picks HI3.out.out HI3.out.ne HI3.out.b3.1 HI3.out.b4.1 HI3.out.b3.2 HI3.out.b4.2 HI3.out.size (by omega) HOKP.out.1 (um + 1) (by omega) (by omega) HOKP.out.2 (by omega)).mono ?_
          rintro e w4 hpn
          obtain rfl := hpn.ret
          have hpi := HI3.out.pick rfl hpn
          have hplt := nextP_lt (um + 1) st.ps (by omega)
          obtain ⟨p, hp⟩ : ∃ p, (nextP (um + 1) st.ps).1 = p := ⟨_, rfl⟩
          rw [hp] at hpi hplt ⊢
          have HPI := Lib.hid hpi
          have HPP := Lib.hid hp
          clear hpn hpi hp
          have hwr : rowAt w4 2 1 (.slice ow mw cw) mw (natCells st.ways) := by have h9 := HPI.out.ways; have e9 := HM.out.1; (try dsimp only at h9); rw [e9] at h9; exact h9
          have HWR := Lib.hid hwr
          clear hwr
          go_wp2_with (at_builtin; refine wpList_append_one rfl (.tmp 35) (.tmp 37) 209 2 rfl Try.underlying209 info_i64 rfl (by omega) HWR.out (by omega) [.int .i64 ((p : Int))] rfl (HONE.out _) rfl rfl ?_; intro oa9 c9 w9 HRX HGX HOX)
          have hfin := PlI.way (x := p) HPI.out HM.out.1.symm (by have h9 := HRX.out; exact h9) (by have h9 := HGX.out; exact h9) HOX.out
          have hst : plainStep st ⟨false, um⟩ = ⟨st.out ++ [p], st.ways ++ [p], (nextP (um + 1) st.ps).2⟩ := by unfold plainStep; rw [if_neg (by simp), if_pos hpos, HPP.out]
          rw [← hst] at hfin
          exact ⟨HEND.out _ _ _ hfin, by simp [intOf]; omega⟩
        · have hd : decide ((0 : Int) < (um : Int)) = false := decide_eq_false (by omega)
          have hwr : rowAt w3 2 1 (.slice ow mw cw) mw (natCells st.ways) := by have h9 := HI3.out.ways; have e9 := HM.out.1; (try dsimp only at h9); rw [e9] at h9; exact h9
          have HWR := Lib.hid hwr
          clear hwr
          go_wp2_with (at_builtin; refine wpList_append_one rfl (.tmp 35) (.tmp 37) 209 2 rfl Try.underlying209 info_i64 rfl (by omega) HWR.out (by omega) [.int .i64 (0)] rfl (HONE.out _) rfl rfl ?_; intro oa9 c9 w9 HRX HGX HOX)
          have hfin := PlI.way (x := 0) HI3.out HM.out.1.symm (by have h9 := HRX.out; exact h9) (by have h9 := HGX.out; exact h9) HOX.out
          have hst : plainStep st ⟨false, um⟩ = ⟨st.out, st.ways ++ [0], st.ps⟩ := by unfold plainStep; rw [if_neg (by simp), if_neg hpos]
          rw [← hst] at hfin
          exact ⟨HEND.out _ _ _ hfin, by simp [intOf]; omega⟩
      · go_wp2_with fail
        refine (pnext_b HI3.out.picks HI3.out.out HI3.out.ne HI3.out.b3.1 HI3.out.b4.1 HI3.out.b3.2 HI3.out.b4.2 HI3.out.size (by omega) HOKP.out.1 2 (by omega) (by omega) HOKP.out.2 (by omega)).mono ?_
        rintro e w4 hpn
        obtain rfl := hpn.ret
        have hpi := HI3.out.pick rfl hpn
        have h84 : w4.heap[b8]? = some (.cells #[.bool true, .int .i64 um] 213 (0, 0)) := (hpn.keep b8 _ _ _ H3.out (by decide)).trans H3.out
        have y1' : w4.cell? ⟨b8, 1, none⟩ = some (.int .i64 um) := cell_of h84 rfl
        have hplt := nextP_lt 2 st.ps (by omega)
        have hok2 := nextP_ok 2 HP.out
        obtain ⟨p, hp⟩ : ∃ p, (nextP 2 st.ps).1 = p := ⟨_, rfl⟩
        obtain ⟨r2, hr2⟩ : ∃ r, (nextP 2 st.ps).2 = r := ⟨_, rfl⟩
        rw [hp, hr2] at hpi
        rw [hp] at hplt ⊢
        rw [hr2] at hok2
        have HPI := Lib.hid hpi
        have HPP := Lib.hid (And.intro hp hr2)
        have HOK2 : Hid (AllGe r2 ∧ ∀ x ∈ r2, x ≤ 9223372036854775807) := Lib.hid ⟨fun x hx => (hok2 x hx).1, fun x hx => (hok2 x hx).2⟩
        clear hpn hpi hp hr2 hok2 h84 y0 y1
        by_cases hp0 : p = 0
        · subst hp0
          have hwr : rowAt w4 2 1 (.slice ow mw cw) mw (natCells st.ways) := by have h9 := HPI.out.ways; have e9 := HM.out.1; (try dsimp only at h9); rw [e9] at h9; exact h9
          have HWR := Lib.hid hwr
          clear hwr
          go_wp2_with (at_builtin; refine wpList_append_one rfl (.tmp 22) (.tmp 23) 209 2 rfl Try.underlying209 info_i64 rfl (by omega) HWR.out (by omega) [.int .i64 (0)] rfl (HONE.out _) rfl rfl ?_; intro oa9 c9 w9 HRX HGX HOX)
          have hfin := PlI.way (x := 0) HPI.out HM.out.1.symm (by have h9 := HRX.out; exact h9) (by have h9 := HGX.out; exact h9) HOX.out
          have hst : plainStep st ⟨true, um⟩ = ⟨st.out ++ [0], st.ways ++ [0], r2⟩ := by unfold plainStep; rw [if_pos rfl, if_pos HPP.out.1, HPP.out.2]
          rw [← hst] at hfin
          exact ⟨HEND.out _ _ _ hfin, by simp [intOf]; omega⟩
        · have hpe : ((p : Int) == 0) = false := by simp; omega
          have hol2 : (st.out ++ [p]).length ≤ 1000000 := by simp; omega
          by_cases hpos : 0 < um
          · have hd : decide ((0 : Int) < (um : Int)) = true := decide_eq_true (by omega)
            go_wp2_with fail
            refine (pnext_b HPI.out.picks HPI.out.out HPI.out.ne HPI.out.b3.1 HPI.out.b4.1 HPI.out.b3.2 HPI.out.b4.2 HPI.out.size hol2 HOK2.out.1 (um + 1) (by omega) (by omega) HOK2.out.2 (by omega)).mono ?_
            rintro e w5 hpn
            obtain rfl := hpn.ret
            have hpi := HPI.out.pick rfl hpn
            have hplt2 := nextP_lt (um + 1) r2 (by omega)
            obtain ⟨p2, hp2⟩ : ∃ p, (nextP (um + 1) r2).1 = p := ⟨_, rfl⟩
            rw [hp2] at hpi hplt2 ⊢
            have HPI2 := Lib.hid hpi
            have HPP2 := Lib.hid hp2
            clear hpn hpi hp2
            have hwr : rowAt w5 2 1 (.slice ow mw cw) mw (natCells st.ways) := by have h9 := HPI2.out.ways; have e9 := HM.out.1; (try dsimp only at h9); rw [e9] at h9; exact h9
            have HWR := Lib.hid hwr
            clear hwr
            go_wp2_with (at_builtin; refine wpList_append_one rfl (.tmp 35) (.tmp 37) 209 2 rfl Try.underlying209 info_i64 rfl (by omega) HWR.out (by omega) [.int .i64 (1 + (p2 : Int))] rfl (HONE.out _) rfl rfl ?_; intro oa9 c9 w9 HRX HGX HOX)
            have hfin := PlI.way (x := (1 + p2)) HPI2.out HM.out.1.symm (by have h9 := HRX.out; rw [show (1 : Int) + (p2 : Int) = ((1 + p2 : Nat) : Int) by omega] at h9; exact h9) (by have h9 := HGX.out; rw [show (1 : Int) + (p2 : Int) = ((1 + p2 : Nat) : Int) by omega] at h9; exact h9) HOX.out
            have hst : plainStep st ⟨true, um⟩ = ⟨st.out ++ [p] ++ [p2], st.ways ++ [1 + p2], (nextP (um + 1) r2).2⟩ := by unfold plainStep; rw [if_pos rfl, if_neg (by rw [HPP.out.1]; exact hp0), if_pos hpos, HPP.out.2, HPP.out.1, HPP2.out]
            rw [← hst] at hfin
            exact ⟨HEND.out _ _ _ hfin, by simp [intOf]; omega⟩
          · have hd : decide ((0 : Int) < (um : Int)) = false := decide_eq_false (by omega)
            have hwr : rowAt w4 2 1 (.slice ow mw cw) mw (natCells st.ways) := by have h9 := HPI.out.ways; have e9 := HM.out.1; (try dsimp only at h9); rw [e9] at h9; exact h9
            have HWR := Lib.hid hwr
            clear hwr
            go_wp2_with (at_builtin; refine wpList_append_one rfl (.tmp 35) (.tmp 37) 209 2 rfl Try.underlying209 info_i64 rfl (by omega) HWR.out (by omega) [.int .i64 (1)] rfl (HONE.out _) rfl rfl ?_; intro oa9 c9 w9 HRX HGX HOX)
            have hfin := PlI.way (x := 1) HPI.out HM.out.1.symm (by have h9 := HRX.out; exact h9) (by have h9 := HGX.out; exact h9) HOX.out
            have hst : plainStep st ⟨true, um⟩ = ⟨st.out ++ [p], st.ways ++ [1], r2⟩ := by unfold plainStep; rw [if_pos rfl, if_neg (by rw [HPP.out.1]; exact hp0), if_neg hpos, HPP.out.2, HPP.out.1]
            rw [← hst] at hfin
            exact ⟨HEND.out _ _ _ hfin, by simp [intOf]; omega⟩
    · obtain rfl : j = n := by omega
      have hpl : plainT (l.take j) ps = plainT l ps := by rw [List.take_of_length_le (by rw [HN.out]; exact Nat.le_refl _)]
      rw [hpl] at HM HI
      obtain ⟨o4, c4, hq, hq2, _⟩ := HI.out.out
      obtain ⟨m4, hm4⟩ : ∃ m, (plainT l ps).out.length = m := ⟨_, rfl⟩
      rw [hm4] at hq hq2
      have d4 : wr.cell? ⟨b4, 0, none⟩ = some (.slice o4 m4 c4) := cell_of hq rfl
      have f4 : wr.frozen? ⟨b4, 0, none⟩ = false := free_of hq _
      have HQ := Lib.hid (And.intro hq (And.intro hq2 hm4))
      clear hq hq2 hm4 hpl
      go_wp2_with fail
      have hq4 : (wr.setCell ⟨b4, 0, none⟩ (.slice o4 m4 c4)).heap[b4]? = some (.cells #[.slice o4 m4 c4] 32 (0, 0)) := heap_setCell_here _ HQ.out.1
      have hrr := cell_of (i := 0) (v := .slice o4 m4 c4) hq4 rfl
      have hoth : ∀ k, k ≠ b4 → (wr.setCell ⟨b4, 0, none⟩ (.slice o4 m4 c4)).heap[k]? = wr.heap[k]? := fun k hk => Below.heap_setCell _ _ _ _ (fun e => hk e)
      rw [Exit.noGoto_ret]
      refine bodyPost_ret (v := .tuple #[.slice o4 m4 c4, .slice ow mw cw]) (by simp [results, Try.results137, go_sem, hrr]) rfl ?_
      have hwy := HI.out.ways
      rw [HM.out.1] at hwy
      refine ⟨o4, m4, c4, ow, mw, cw, rfl, HQ.out.2.2, HM.out.1, (HQ.out.2.1.kept (fun k hk => hoth k (fun e => ?_))).read, (hwy.kept (fun k hk => hoth k (fun e => ?_))).read, HI.out.below.setCell (p := ⟨b4, 0, none⟩) HI.out.b4.1 _⟩
      · rw [e] at hk
        exact absurd (row_type HQ.out.2.1 hk HQ.out.1) (by decide)
      · rw [e] at hk
        exact absurd (row_type hwy hk HQ.out.1) (by decide)
end Go.Proofs.Ytmkjejngnahpeaa
/- stops: Count, Number. -/
namespace Go.Proofs.Ytmkjejngnahpeaa
open Go Go.Maps Go.RowKit

def countV (d : Dk) : Value × Int := cntV (countT (unsT d.files))
set_option maxRecDepth 100000 in
set_option maxHeartbeats 1000000 in
theorem sCount_b {w : World} {S : Nat → Prop} {q : Nat} {d : Dk} (h : DiskAt w S q d) (hfm : d.fates.length ≤ 1000000000) :
    Calls Try.prog 74 #[.pointer (some ⟨q, 0, none⟩)] w fun e w' => e = .returned (.tuple #[(countV d).1, .int .i64 (countV d).2]) ∧ Below w.heap.size w w' := by
  have H := Lib.hid h
  have HZ := Lib.hid h.sizes
  clear h
  go_enter Try.func74, Try.ntmps74
  go_wp2_with fail
  refine (snone_b H.out hfm).mono ?_
  rintro e w1 ⟨rfl, hb1⟩
  have H1 := Lib.hid (And.intro (H.out.below hb1) hb1)
  clear hb1
  go_wp2_with fail
  refine (sall_b H1.out.1).mono ?_
  rintro e w2 ⟨oa, n, c, rfl, hn, hr, hb2⟩
  have hlen := unsT_len d.files
  have hz := HZ.out
  have HC := Lib.hid (count_b hn hr.read (by omega) (unsT_more (fun f hf => (hz.2 f hf).2)))
  have HB2 := Lib.hid (H1.out.2.trans (hb2.mono H1.out.2.size))
  clear hn hr hb2 hlen hz
  go_wp2_with fail
  refine (HC.out).mono ?_
  rintro e w3 ⟨rfl, hb3⟩
  have HB3 := Lib.hid (HB2.out.trans (hb3.mono HB2.out.size))
  clear hb3
  obtain ⟨v1, hv1⟩ : ∃ v, (cntV (countT (unsT d.files))).1 = v := ⟨_, rfl⟩
  obtain ⟨v2, hv2⟩ : ∃ v, (cntV (countT (unsT d.files))).2 = v := ⟨_, rfl⟩
  have HV : Hid ((countV d).1 = v1 ∧ (countV d).2 = v2) := Lib.hid ⟨hv1, hv2⟩
  obtain ⟨k, hk⟩ : ∃ k : Int, v1 = .int .i64 k := by
    rw [← hv1]
    unfold cntV
    split
    · exact ⟨_, rfl⟩
    · exact ⟨_, rfl⟩
  rw [hv1, hv2]
  clear hv1 hv2
  subst hk
  go_wp2_with fail
  go_ret2
  exact ⟨by rw [HV.out.1, HV.out.2]; rfl, HB3.out⟩
/-- each way is one of the ways -/
theorem plainStep_way (s : PlS) (u : U0) : ∃ x, (plainStep s u).ways = s.ways ++ [x] ∧ x < u.ways := by
  unfold plainStep U0.ways
  split
  · rename_i hn
    split
    · exact ⟨0, rfl, by omega⟩
    · split
      · refine ⟨_, rfl, ?_⟩
        have := nextP_lt (u.more + 1) (nextP 2 s.ps).2 (by omega)
        omega
      · exact ⟨1, rfl, by omega⟩
  · rename_i hn
    split
    · refine ⟨_, rfl, ?_⟩
      have := nextP_lt (u.more + 1) s.ps (by omega)
      omega
    · exact ⟨0, rfl, by omega⟩
theorem plainT_ways : ∀ (l : List U0) (s : PlS), ∃ ws, (l.foldl plainStep s).ways = s.ways ++ ws ∧ ws.length = l.length ∧ ∀ (j : Nat) (h : j < l.length) (h2 : j < ws.length), ws[j] < l[j].ways
  | [], s => ⟨[], by simp, rfl, fun j h => by cases h⟩
  | u :: r, s => by
    obtain ⟨x, hx, hlt⟩ := plainStep_way s u
    obtain ⟨ws, h1, h2, h3⟩ := plainT_ways r (plainStep s u)
    refine ⟨x :: ws, by rw [List.foldl_cons, h1, hx]; simp, by simp [h2], fun j h h4 => ?_⟩
    cases j with
    | zero => exact hlt
    | succ j => exact h3 j (by simpa using h) (by simpa using h4)
theorem plainT_way {l : List U0} {ps : List Int} {j : Nat} (h : j < l.length) (h2 : j < (plainT l ps).ways.length) : (plainT l ps).ways[j] < l[j].ways := by
  obtain ⟨ws, h1, h3, h4⟩ := plainT_ways l ⟨[], [], ps⟩
  have e : (plainT l ps).ways = ws := by
    have : (plainT l ps).ways = [] ++ ws := h1
    simpa using this
  simp only [e]
  exact h4 j h (by rw [h3]; exact h)
/-- a way's number -/
def numT : List U0 → List Nat → Nat → Nat
  | u :: l, x :: r, n => numT l r (n * u.ways + x)
  | _, _, n => n
theorem numT_succ : ∀ (l : List U0) (r : List Nat) (n j : Nat) (h : j < l.length) (h2 : j < r.length), numT (l.take (j + 1)) (r.take (j + 1)) n = numT (l.take j) (r.take j) n * l[j].ways + r[j]
  | u :: l, x :: r, n, 0, _, _ => by simp [numT]
  | u :: l, x :: r, n, j + 1, h, h2 => by
    show numT (l.take (j + 1)) (r.take (j + 1)) (n * u.ways + x) = _
    rw [numT_succ l r (n * u.ways + x) j (by simpa using h) (by simpa using h2)]
    rfl
/-- while all can be counted, the number so far is below the count so far -/
theorem numT_lt {l : List U0} {r : List Nat} (hw : ∀ (j : Nat) (h : j < l.length) (h2 : j < r.length), r[j] < l[j].ways) (hlr : l.length = r.length) {c : Nat} (hc : countT l = some c) : ∀ (j : Nat), j ≤ l.length → ∃ k, countT (l.take j) = some k ∧ numT (l.take j) (r.take j) 0 < k
  | 0, _ => ⟨1, rfl, by simp [numT]⟩
  | j + 1, hj => by
    obtain ⟨k, h1, h2⟩ := numT_lt hw hlr hc j (by omega)
    have hjl : j < l.length := by omega
    have h3 := countT_succ hjl
    rw [h1] at h3
    unfold countStep at h3
    rw [Option.bind_some] at h3
    split at h3
    · have := countT_none (l := l) h3
      rw [hc] at this
      cases this
    · refine ⟨_, h3, ?_⟩
      rw [numT_succ l r 0 j hjl (by omega)]
      have h4 := hw j hjl (by omega)
      calc numT (l.take j) (r.take j) 0 * l[j].ways + r[j] < numT (l.take j) (r.take j) 0 * l[j].ways + l[j].ways := by omega
        _ = (numT (l.take j) (r.take j) 0 + 1) * l[j].ways := by rw [Nat.add_mul, Nat.one_mul]
        _ ≤ k * l[j].ways := Nat.mul_le_mul_right _ h2
/-- what Number answers -/
def numV (d : Dk) (ps : List Int) : Int × Int := match countT (unsT d.files) with
  | some _ => (numT (unsT d.files) (plainT (unsT d.files) ps).ways 0, 0)
  | none => (0, 3)
end Go.Proofs.Ytmkjejngnahpeaa
/- stops: Number. -/
namespace Go.Proofs.Ytmkjejngnahpeaa
open Go Go.Maps Go.RowKit

theorem wrapS (n : Nat) (h : n ≤ 4611686018427387904) : IntKind.i64.wrap (n : Int) = (n : Int) := by
  rw [IntKind.wrap_i64]
  omega
/-- what a region that draws holds of the world -/
theorem hold3 {w W W' : World} {b g : Nat} {o : Nat} {x y z : Value} (h : W.cell? ⟨b, 0, none⟩ = some x ∧ W.cell? ⟨b, 1, none⟩ = some y ∧ W.cell? ⟨g, o, none⟩ = some z ∧ Below w.heap.size w W ∧ b < W.heap.size ∧ g < W.heap.size) (hb : Below W.heap.size W W') :
    W'.cell? ⟨b, 0, none⟩ = some x ∧ W'.cell? ⟨b, 1, none⟩ = some y ∧ W'.cell? ⟨g, o, none⟩ = some z ∧ Below w.heap.size w W' ∧ b < W'.heap.size ∧ g < W'.heap.size :=
  ⟨(hb.cell (p := ⟨b, 0, none⟩) h.2.2.2.2.1).trans h.1, (hb.cell (p := ⟨b, 1, none⟩) h.2.2.2.2.1).trans h.2.1, (hb.cell (p := ⟨g, o, none⟩) h.2.2.2.2.2).trans h.2.2.1, h.2.2.2.1.trans (hb.mono h.2.2.2.1.size), Nat.lt_of_lt_of_le h.2.2.2.2.1 hb.size, Nat.lt_of_lt_of_le h.2.2.2.2.2 hb.size⟩
theorem hold3_drew {w W : World} {b g : Nat} {o : Nat} {x y z : Value} (h : W.cell? ⟨b, 0, none⟩ = some x ∧ W.cell? ⟨b, 1, none⟩ = some y ∧ W.cell? ⟨g, o, none⟩ = some z ∧ Below w.heap.size w W ∧ b < W.heap.size ∧ g < W.heap.size) :
    W.drew.cell? ⟨b, 0, none⟩ = some x ∧ W.drew.cell? ⟨b, 1, none⟩ = some y ∧ W.drew.cell? ⟨g, o, none⟩ = some z ∧ Below w.heap.size w W.drew ∧ b < W.drew.heap.size ∧ g < W.drew.heap.size := hold3 h ⟨rfl, rfl, rfl, Nat.le_refl _, fun _ _ => rfl⟩
theorem hold3_below {w W : World} {b g : Nat} {o : Nat} {x y z : Value} (h : W.cell? ⟨b, 0, none⟩ = some x ∧ W.cell? ⟨b, 1, none⟩ = some y ∧ W.cell? ⟨g, o, none⟩ = some z ∧ Below w.heap.size w W ∧ b < W.heap.size ∧ g < W.heap.size) : Below w.heap.size w W := h.2.2.2.1
set_option maxRecDepth 100000 in
set_option maxHeartbeats 4000000 in
theorem sNumber_b {w : World} {S : Nat → Prop} {q : Nat} {d : Dk} (h : DiskAt w S q d) (hfm : d.fates.length ≤ 1000000000) {oa : Option Addr} {n c : Nat} {ps : List Int} (hn : ps.length = n) (hp : readAt w 1 (.slice oa n c) n (intCells ps)) (hm : n ≤ 1000000000) (hmx : ∀ x ∈ ps, x ≤ 9223372036854775807) (hge : AllGe ps) :
    Calls Try.prog 76 #[.pointer (some ⟨q, 0, none⟩), .agg #[.slice oa n c]] w fun e w' => e = .returned (.tuple #[.int .i64 (numV d ps).1, .int .i64 (numV d ps).2]) ∧ Below w.heap.size w w' := by
  have HOK : Hid (PicksOk ps) := Lib.hid (fun x hx => ⟨hge x hx, hmx x hx⟩)
  have HGE := Lib.hid hge
  have HNN := Lib.hid hn
  obtain ⟨w1, hw1⟩ : ∃ W : World, W = w.alloc (.cells #[.slice oa n c] 72) := ⟨_, rfl⟩
  obtain ⟨b3, hb3⟩ : ∃ b, b = w.heap.size := ⟨_, rfl⟩
  have h1 : w1.heap[b3]? = some (.cells #[.slice oa n c] 72 (0, 0)) := by rw [hw1, hb3]; exact alloc_cells _ _ _
  have hb1 : Below w.heap.size w w1 := by rw [hw1]; exact (Below.refl _ _).alloc (Nat.le_refl _) _
  have H := Lib.hid (And.intro (h.below hb1) (And.intro h1 hb1))
  have HP := Lib.hid (hp.kept (fun k hk _ _ => hb1.block k hk))
  have HZ := Lib.hid h.sizes
  have c0 : w1.cell? ⟨b3, 0, none⟩ = some (.slice oa n c) := cell_of h1 rfl
  clear h hp hb1 h1 hge hmx hn
  go_enter Try.func76, Try.ntmps76
  go_upto_region 1 with fail
  rw [← hw1, ← hb3]
  clear hw1 hb3
  go_wp2_with fail
  refine (sright_b H.out.1 hfm HNN.out HP.out hm).mono ?_
  rintro e w2 ⟨er, rfl, her, -, hb2⟩
  obtain rfl := her HGE.out
  have H2 := Lib.hid (And.intro (H.out.1.below hb2) (And.intro ((hb2.block b3 (Array.getElem?_eq_some_iff.1 H.out.2.1).1).trans H.out.2.1) (H.out.2.2.trans (hb2.mono H.out.2.2.size))))
  have HP2 := Lib.hid (HP.out.kept (fun k hk _ _ => hb2.block k hk))
  clear her hb2 c0 HP H
  go_wp2_with fail
  refine (sall_b H2.out.1).mono ?_
  rintro e w3 ⟨ol, m, cl, rfl, hml, hr, hb3'⟩
  have hlen := unsT_len d.files
  have hz := HZ.out
  have hm4 : m ≤ 4096 := by omega
  obtain ⟨l, hl⟩ : ∃ l, unsT d.files = l := ⟨_, rfl⟩
  have hmore := unsT_more (l := d.files) (fun f hf => (hz.2 f hf).2)
  rw [hl] at hml hr hmore
  have hr := hr.read
  have HC := Lib.hid (count_b hml hr (by omega) hmore)
  have H3 := Lib.hid (And.intro ((hb3'.block b3 (Array.getElem?_eq_some_iff.1 H2.out.2.1).1).trans H2.out.2.1) (H2.out.2.2.trans (hb3'.mono H2.out.2.2.size)))
  have HP3 := Lib.hid (HP2.out.kept (fun k hk _ _ => hb3'.block k hk))
  have HR := Lib.hid (And.intro hml (And.intro hr hmore))
  have HL := Lib.hid hl
  clear hml hr hmore hb3' hlen hz H2 HP2 hl
  go_wp2_with fail
  refine (HC.out).mono ?_
  rintro e w4 ⟨rfl, hb4⟩
  have H4 := Lib.hid (And.intro ((hb4.block b3 (Array.getElem?_eq_some_iff.1 H3.out.1).1).trans H3.out.1) (H3.out.2.trans (hb4.mono H3.out.2.size)))
  have HP4 := Lib.hid (HP3.out.kept (fun k hk _ _ => hb4.block k hk))
  have HR4 := Lib.hid (HR.out.2.1.kept (fun k hk _ _ => hb4.block k hk))
  clear hb4 HP3 H3 HC
  cases hc : countT l with
  | none =>
    have HV : Hid (numV d ps = (0, 3)) := Lib.hid (by unfold numV; rw [HL.out, hc])
    clear hc
    show _
    go_wp2_with fail
    go_ret2
    exact ⟨by rw [HV.out]; rfl, H4.out.2⟩
  | some k =>
    have HCT := Lib.hid hc
    have HV : Hid (numV d ps = (((numT l (plainT l ps).ways 0 : Nat) : Int), 0)) := Lib.hid (by unfold numV; rw [HL.out, hc])
    clear hc
    have c04 : w4.cell? ⟨b3, 0, none⟩ = some (.slice oa n c) := cell_of H4.out.1 rfl
    go_wp2_with fail
    refine (plain_b HR.out.1 HR4.out hm4 HR.out.2.2 HNN.out HP4.out HOK.out).mono ?_
    rintro e w5 ⟨o1, m1, c1, o2, m2, c2, rfl, -, hm2, -, hway, hb5⟩
    obtain ⟨ws, hws⟩ : ∃ ws, (plainT l ps).ways = ws := ⟨_, rfl⟩
    have hwl : ∀ (j : Nat) (h : j < l.length) (h2 : j < ws.length), ws[j] < l[j].ways := fun j h h2 => by
      have h3 := plainT_way (l := l) (ps := ps) (j := j) h (by rw [hws]; exact h2)
      simp only [hws] at h3
      exact h3
    have hwn : l.length = ws.length := by
      have h3 := (plainT_len l ⟨[], [], ps⟩).1
      have h4 : plainT l ps = l.foldl plainStep ⟨[], [], ps⟩ := rfl
      rw [← h4, hws] at h3
      simpa using h3.symm
    rw [hws] at HV hm2 hway
    have hmm : m2 = m := by have := HR.out.1; omega
    subst hmm
    have HW := Lib.hid (And.intro hwl (And.intro hwn hway))
    have HB5 := Lib.hid (H4.out.2.trans (hb5.mono H4.out.2.size))
    have HR5 := Lib.hid (HR4.out.kept (fun k hk _ _ => hb5.block k hk))
    clear hwl hwn hway hb5 hws c04 HR4 H4 HP4
    go_wp2_with fail
    go_loopw [10, 40] (fun sn i wr => ∃ (j x : Nat), j ≤ m2 ∧ i = .int .i64 j ∧ sn = .int .i64 x ∧ Hid (numT (l.take j) (ws.take j) 0 = x) ∧ Hid (Below w5.heap.size w5 wr)) (fun _ i wr => m2 - (intOf i).toNat)
    case atStart => exact ⟨0, 0, Nat.zero_le _, rfl, rfl, Lib.hid (by simp [numT]), Lib.hid (Below.refl _ _)⟩
    case round =>
      obtain ⟨j, x, hj, rfl, rfl, HX, HB⟩ := hrel
      by_cases hlt : j < m2
      · have hjl : j < l.length := by rw [HR.out.1]; exact hlt
        have hjw : j < ws.length := by rw [← HW.out.2.1]; exact hjl
        have hrw := HR5.out.kept (w' := wr) (fun k hk _ _ => HB.out.block k hk)
        have hrv := HW.out.2.2.kept (w' := wr) (fun k hk _ _ => HB.out.block k hk)
        obtain ⟨g, off, rfl⟩ := hrw.addr (by omega)
        obtain ⟨g2, off2, rfl⟩ := hrv.addr (by omega)
        obtain ⟨u, hu⟩ : ∃ u, l[j] = u := ⟨_, rfl⟩
        obtain ⟨y, hy⟩ : ∃ y, ws[j] = y := ⟨_, rfl⟩
        have hum : u.more ≤ 16777216 := HR.out.2.2 u (by rw [← hu]; exact List.getElem_mem _)
        obtain ⟨ub, hub⟩ : ∃ b, u.name = b := ⟨_, rfl⟩
        obtain ⟨um, humm⟩ : ∃ m, u.more = m := ⟨_, rfl⟩
        have k0 : wr.cell? ⟨g, off + j * 2, none⟩ = some (.bool ub) := us_cell (i := 0) hrw hjl (by omega) (by rw [hu, ← hub]; rfl)
        have k1 : wr.cell? ⟨g, off + j * 2 + 1, none⟩ = some (.int .i64 um) := us_cell (i := 1) hrw hjl (by omega) (by rw [hu, ← humm]; rfl)
        have k2 : wr.cell? ⟨g2, off2 + j, none⟩ = some (.int .i64 y) := hrv.cellAt (i := j) (by unfold natCells; rw [List.getElem?_map, List.getElem?_eq_getElem hjw, hy]; rfl)
        have hg2 : g2 < wr.heap.size := hrv.lt (by omega) g2 rfl
        have hue : u = ⟨ub, um⟩ := by rw [← hub, ← humm]
        rw [humm] at hum
        obtain ⟨W, hW⟩ : ∃ W, (U0.mk ub um).ways = W := ⟨_, rfl⟩
        obtain ⟨kk, hk1, hk2⟩ := numT_lt HW.out.1 HW.out.2.1 HCT.out (j + 1) (by omega)
        have hkm := countT_most hk1
        have hns := numT_succ l ws 0 j hjl hjw
        rw [HX.out, hu, hue, hW, hy] at hns
        obtain ⟨z, hz⟩ : ∃ z, x * W + y = z := ⟨_, rfl⟩
        rw [hz] at hns
        have hzm : z ≤ 4611686018427387904 := by
          rw [hns] at hk2
          unfold most62 at hkm
          omega
        have hxw : x * W ≤ z := by omega
        have HNS := Lib.hid hns
        have hzi : (x : Int) * (W : Int) + (y : Int) = (z : Int) := by rw [← hz]; simp
        obtain ⟨xw, hxwe⟩ : ∃ a, x * W = a := ⟨_, rfl⟩
        have hxi : (x : Int) * (W : Int) = (xw : Int) := by rw [← hxwe]; simp
        have HWAY := Lib.hid (fun W' : World => ways_b ub um (by omega) W')
        rw [hxwe] at hxw
        rw [hxi] at hzi
        clear hrw hrv hu hy hue hub humm hk1 hk2 hkm hns hz hxwe
        go_upto_region 13 with fail
        obtain ⟨w6, hw6⟩ : ∃ W : World, W = wr.alloc (.cells #[.bool ub, .int .i64 um] 213) := ⟨_, rfl⟩
        obtain ⟨b14, hb14⟩ : ∃ b, b = wr.heap.size := ⟨_, rfl⟩
        have h6 : w6.heap[b14]? = some (.cells #[.bool ub, .int .i64 um] 213 (0, 0)) := by rw [hw6, hb14]; exact alloc_cells _ _ _
        have hb6 : Below wr.heap.size wr w6 := by rw [hw6]; exact (Below.refl _ _).alloc (Nat.le_refl _) _
        have hS : w6.cell? ⟨b14, 0, none⟩ = some (.bool ub) ∧ w6.cell? ⟨b14, 1, none⟩ = some (.int .i64 um) ∧ w6.cell? ⟨g2, off2 + j, none⟩ = some (.int .i64 y) ∧ Below w5.heap.size w5 w6 ∧ b14 < w6.heap.size ∧ g2 < w6.heap.size :=
          ⟨cell_of h6 rfl, cell_of h6 rfl, (hb6.cell (p := ⟨g2, off2 + j, none⟩) hg2).trans k2, HB.out.trans (hb6.mono HB.out.size), (Array.getElem?_eq_some_iff.1 h6).1, Nat.lt_of_lt_of_le hg2 hb6.size⟩
        rw [← hw6, ← hb14]
        clear hw6 hb14 h6 hb6 k0 k1 k2
        go_region_held3 (fun W => W.cell? ⟨b14, 0, none⟩ = some (.bool ub) ∧ W.cell? ⟨b14, 1, none⟩ = some (.int .i64 um) ∧ W.cell? ⟨g2, off2 + j, none⟩ = some (.int .i64 y) ∧ Below w5.heap.size w5 W ∧ b14 < W.heap.size ∧ g2 < W.heap.size)
          (first | assumption | exact hold3_drew (by assumption) | exact hold3 (by assumption) (by assumption))
          (first | (go_at_call 138; refine (HWAY.out _).mono ?_; rintro e wa ⟨rfl, hba⟩; rw [hW]))
        all_goals
          have hbw := (hold3_drew hS).2.2.2.1.trans (hba.mono (hold3_drew hS).2.2.2.1.size)
          have HBW := Lib.hid hbw
          clear hbw hba hS
          go_wp2_with fail
          exact ⟨⟨j + 1, z, by omega, by simp, by rw [wrapS xw (by omega), hzi, wrapS z hzm], HNS, HBW⟩, by simp [intOf]; omega⟩
      · obtain rfl : j = m2 := by omega
        have HE : Hid (numT l ws 0 = x) := Lib.hid (by
          have h1 := HX.out
          rwa [List.take_of_length_le (by rw [HR.out.1]; exact Nat.le_refl _), List.take_of_length_le (by rw [hm2]; exact Nat.le_refl _)] at h1)
        go_wp2_with fail
        go_ret2
        exact ⟨by rw [HV.out, HE.out]; rfl, HB5.out.trans (HB.out.mono HB5.out.size)⟩
end Go.Proofs.Ytmkjejngnahpeaa
/- stops: of: the plain picks of files' ways. -/
namespace Go.Proofs.Ytmkjejngnahpeaa
open Go Go.Maps Go.RowKit

/-- a row in blocks that are new since w0 -/
structure NewR (e : TypeId) (size : Nat) (w0 W : World) (v : Value) (n : Nat) (xs : List Value) : Prop where
  row : rowAt W e size v n xs
  own : ∀ k, v.ownBlock = some k → w0.heap.size ≤ k
  below : Below w0.heap.size w0 W
theorem NewR.nil {e : TypeId} {size : Nat} {w0 W : World} (h : Below w0.heap.size w0 W) : NewR e size w0 W (.slice none 0 0) 0 [] := ⟨⟨by simp, .inl ⟨rfl, rfl⟩⟩, fun k hk => by simp [Value.ownBlock] at hk, h⟩
theorem NewR.kept {e : TypeId} {size : Nat} {w0 W W' : World} {v : Value} {n : Nat} {xs : List Value} (h : NewR e size w0 W v n xs) (hb : Below W.heap.size W W') : NewR e size w0 W' v n xs :=
  ⟨h.row.kept (fun k hk => hb.block k (h.row.lt k hk)), h.own, h.below.trans (hb.mono h.below.size)⟩
theorem wpList_append_new {w0 w2 : World} {ops : Array Oper} {rest : List Oper} {o : Oper} {a : Act} {Q : Exit → Act → World → Prop} (hgd : o.guard = none) (s x : Operand) (t e : TypeId)
    (ho : o.op = .call { callee := .builtin .append, args := #[s, x], argTypes := #[t, t] }) {z : Value} {size bytes : Nat} (ht : Try.prog.underlying t = some (.slice e)) (hinfo : (Try.prog.info? e).map (fun i => (i.zero, i.size, i.bytes)) = some (some z, size, bytes)) (hzs : z.cells.size = size) (hby : bytes ≤ 1000)
    {oa : Option Addr} {m c : Nat} {xs : List Value} (h : NewR e size w0 w2 (.slice oa m c) m xs) (hm : m ≤ 1000000) (ys : List Value) (hy : ys.length = size) (h1 : ∀ v ∈ ys, v.oneCell' = true)
    (hs : a.eval s = .slice oa m c) (hx : a.eval x = .slice (some ⟨w2.heap.size, 0, none⟩) 1 1)
    (hK : ∀ oa3 c3 w3, Hid (NewR e size w0 w3 (.slice oa3 (m + 1) c3) (m + 1) (xs ++ ys)) → Hid (KeepT [e] w2 w3) → wpList Try.prog ops Q rest (a.put o.dst (.slice oa3 (m + 1) c3)) w3) :
    wpList Try.prog ops Q (o :: rest) a (w2.alloc (.cells ys.toArray e)) := by
  refine wpList_append_one hgd s x t e ho ht hinfo hzs hby h.row hm ys hy h1 hs hx fun oa3 c3 w3 hr hg hw => hK oa3 c3 w3 (Lib.hid ⟨hr.out, fun k hk => ?_, ?_⟩) (Lib.hid ?_)
  · rcases hw.out with h2 | h2
    · exact h.own k (by rw [← h2]; exact hk)
    · rw [hk] at h2
      simp only [Option.some.injEq] at h2
      have := h.below.size
      omega
  · have hal := (h.below.alloc (by have := h.below.size; omega) (.cells ys.toArray e))
    exact hal.grown hg.out hal.size (fun k hk => h.own k hk)
  · have hal : Below w2.heap.size w2 (w2.alloc (.cells ys.toArray e)) := (Below.refl _ _).alloc (Nat.le_refl _) _
    exact (KeepT.of hal).trans (KeepT.grown (h.row.kept (fun k hk => hal.block k (h.row.lt k hk))) (by simp) hg.out)
def ofStep (out : List Nat) (u : U0) (x : Nat) : List Nat :=
  if u.name = true then
    if x = 0 then out ++ [0]
    else if 0 < u.more then out ++ [1] ++ [x - 1] else out ++ [1]
  else if 0 < u.more then out ++ [x] else out
/-- the plain picks of files' ways -/
def ofT : List U0 → List Nat → List Nat → List Nat
  | u :: l, x :: r, out => ofT l r (ofStep out u x)
  | _, _, out => out
theorem ofT_succ : ∀ (l : List U0) (r out : List Nat) (j : Nat) (h : j < l.length) (h2 : j < r.length), ofT (l.take (j + 1)) (r.take (j + 1)) out = ofStep (ofT (l.take j) (r.take j) out) l[j] r[j]
  | u :: l, x :: r, out, 0, _, _ => by simp [ofT]
  | u :: l, x :: r, out, j + 1, h, h2 => by
    show ofT (l.take (j + 1)) (r.take (j + 1)) (ofStep out u x) = _
    rw [ofT_succ l r (ofStep out u x) j (by simpa using h) (by simpa using h2)]
    rfl
theorem ofStep_len (out : List Nat) (u : U0) (x : Nat) : (ofStep out u x).length ≤ out.length + 2 := by
  unfold ofStep
  split
  · split
    · simp
    · split <;> simp
  · split <;> simp
set_option maxRecDepth 100000 in
set_option maxHeartbeats 4000000 in
theorem of_b {w : World} {oa : Option Addr} {n c : Nat} {l : List U0} (hn : l.length = n) (h : readAt w 2 (.slice oa n c) n (uCells l)) (hm : n ≤ 4096) (hsm : ∀ u ∈ l, u.more ≤ 16777216)
    {op : Option Addr} {cp : Nat} {ws : List Nat} (hnw : ws.length = n) (hw : readAt w 1 (.slice op n cp) n (natCells ws)) (hws : ∀ x ∈ ws, x ≤ 4611686018427387904) :
    Calls Try.prog 140 #[.slice oa n c, .slice op n cp] w fun e w' => ∃ o1 m1 c1, e = .returned (.slice o1 m1 c1) ∧ (ofT l ws []).length = m1 ∧ NewR 3 1 w w' (.slice o1 m1 c1) m1 (natCells (ofT l ws [])) := by
  have HR := Lib.hid (And.intro hn (And.intro h hsm))
  have HW := Lib.hid (And.intro hnw (And.intro hw hws))
  have hone : ∀ (x : Int), ∀ v ∈ ([.int .i64 x] : List Value), v.oneCell' = true := fun x v hv => by
    rw [List.mem_singleton] at hv
    subst hv
    rfl
  have HONE := Lib.hid hone
  clear h hn hsm hone hnw hw hws
  go_enter Try.func140, Try.ntmps140
  go_wp2_with fail
  go_loopw [5, 11] (fun so i wr => ∃ (j mo : Nat) (oo : Option Addr) (co : Nat), j ≤ n ∧ i = .int .i64 j ∧ so = .slice oo mo co ∧ Hid ((ofT (l.take j) (ws.take j) []).length = mo ∧ mo ≤ 2 * j) ∧ Hid (NewR 3 1 w wr (.slice oo mo co) mo (natCells (ofT (l.take j) (ws.take j) [])))) (fun _ i wr => n - (intOf i).toNat)
  case atStart => exact ⟨0, 0, none, 0, Nat.zero_le _, rfl, rfl, Lib.hid ⟨by simp [ofT], Nat.le_refl _⟩, Lib.hid (by simpa [ofT, natCells] using NewR.nil (e := 3) (size := 1) (Below.refl _ w))⟩
  case round =>
    obtain ⟨j, mo, oo, co, hj, rfl, rfl, HM, HI⟩ := hrel
    by_cases hlt : j < n
    · have hjl : j < l.length := by rw [HR.out.1]; exact hlt
      have hjw : j < ws.length := by rw [HW.out.1]; exact hlt
      have hrw : readAt wr 2 (.slice oa n c) n (uCells l) := HR.out.2.1.kept (fun k hl _ _ => HI.out.below.block k hl)
      have hrv : readAt wr 1 (.slice op n cp) n (natCells ws) := HW.out.2.1.kept (fun k hl _ _ => HI.out.below.block k hl)
      obtain ⟨g, off, rfl⟩ := hrw.addr (by omega)
      obtain ⟨g2, off2, rfl⟩ := hrv.addr (by omega)
      obtain ⟨u, hu⟩ : ∃ u, l[j] = u := ⟨_, rfl⟩
      obtain ⟨y, hy⟩ : ∃ y, ws[j] = y := ⟨_, rfl⟩
      have hum : u.more ≤ 16777216 := HR.out.2.2 u (by rw [← hu]; exact List.getElem_mem _)
      have hym : y ≤ 4611686018427387904 := HW.out.2.2 y (by rw [← hy]; exact List.getElem_mem _)
      obtain ⟨ub, hub⟩ : ∃ b, u.name = b := ⟨_, rfl⟩
      obtain ⟨um, humm⟩ : ∃ m, u.more = m := ⟨_, rfl⟩
      have k0 : wr.cell? ⟨g, off + j * 2, none⟩ = some (.bool ub) := us_cell (i := 0) hrw hjl (by omega) (by rw [hu, ← hub]; rfl)
      have k1 : wr.cell? ⟨g, off + j * 2 + 1, none⟩ = some (.int .i64 um) := us_cell (i := 1) hrw hjl (by omega) (by rw [hu, ← humm]; rfl)
      have k2 : wr.cell? ⟨g2, off2 + j, none⟩ = some (.int .i64 y) := hrv.cellAt (i := j) (by unfold natCells; rw [List.getElem?_map, List.getElem?_eq_getElem hjw, hy]; rfl)
      have hg2 : g2 < wr.heap.size := hrv.lt (by omega) g2 rfl
      have hue : u = ⟨ub, um⟩ := by rw [← hub, ← humm]
      rw [humm] at hum
      obtain ⟨st, hst⟩ : ∃ st, ofT (l.take j) (ws.take j) [] = st := ⟨_, rfl⟩
      rw [hst] at HM HI
      have HCS : Hid (ofT (l.take (j + 1)) (ws.take (j + 1)) [] = ofStep st ⟨ub, um⟩ y) := Lib.hid (by rw [ofT_succ l ws [] j hjl hjw, hst, hu, hue, hy])
      have hmo := HM.out.2
      clear hrw hrv hu hy hue hub humm hst
      go_upto_region 5 with fail
      obtain ⟨w3, hw3⟩ : ∃ W : World, W = wr.alloc (.cells #[.bool ub, .int .i64 um] 213) := ⟨_, rfl⟩
      obtain ⟨b7, hb7⟩ : ∃ b, b = wr.heap.size := ⟨_, rfl⟩
      have h3 : w3.heap[b7]? = some (.cells #[.bool ub, .int .i64 um] 213 (0, 0)) := by rw [hw3, hb7]; exact alloc_cells _ _ _
      have hbl3 : Below wr.heap.size wr w3 := by rw [hw3]; exact (Below.refl _ _).alloc (Nat.le_refl _) _
      have HI3 := Lib.hid (HI.out.kept hbl3)
      have H3 := Lib.hid h3
      have y0 : w3.cell? ⟨b7, 0, none⟩ = some (.bool ub) := cell_of h3 rfl
      have y1 : w3.cell? ⟨b7, 1, none⟩ = some (.int .i64 um) := cell_of h3 rfl
      have k2' : w3.cell? ⟨g2, off2 + j, none⟩ = some (.int .i64 y) := (hbl3.cell (p := ⟨g2, off2 + j, none⟩) hg2).trans k2
      rw [← hw3, ← hb7]
      clear hw3 hb7 h3 hbl3 k0 k1 k2
      have HEND : Hid (∀ (wx : World) (oy : Option Addr) (my cy : Nat), my = (ofStep st ⟨ub, um⟩ y).length → NewR 3 1 w wx (.slice oy my cy) my (natCells (ofStep st ⟨ub, um⟩ y)) → ∃ (j' mo' : Nat) (oo' : Option Addr) (co' : Nat), j' ≤ n ∧ (Value.int .i64 ((j : Int) + 1)) = .int .i64 j' ∧ (Value.slice oy my cy) = .slice oo' mo' co' ∧ Hid ((ofT (l.take j') (ws.take j') []).length = mo' ∧ mo' ≤ 2 * j') ∧ Hid (NewR 3 1 w wx (.slice oo' mo' co') mo' (natCells (ofT (l.take j') (ws.take j') [])))) := Lib.hid (fun wx oy my cy hmy hpl => by
        have := ofStep_len st ⟨ub, um⟩ y
        have := HM.out
        exact ⟨j + 1, my, oy, cy, by omega, by simp, rfl, Lib.hid ⟨by rw [HCS.out]; exact hmy.symm, by omega⟩, Lib.hid (by rw [HCS.out]; exact hpl)⟩)
      cases ub
      · by_cases hpos : 0 < um
        · have hd : decide ((0 : Int) < (um : Int)) = true := decide_eq_true (by omega)
          have hs : ofStep st ⟨false, um⟩ y = st ++ [y] := by unfold ofStep; rw [if_neg (by simp), if_pos hpos]
          have HS := Lib.hid hs
          clear hs
          go_wp2_with (at_builtin; refine wpList_append_new rfl (.tmp 34) (.tmp 36) 32 3 rfl Try.underlying32 info_int rfl (by omega) HI3.out (by omega) [.int .i64 (y : Int)] rfl (HONE.out _) rfl rfl ?_; intro oa9 c9 w9 HN9 HK9)
          exact ⟨HEND.out _ _ _ _ (by rw [HS.out, List.length_append, HM.out.1]; rfl) (by rw [HS.out, natCells_append]; exact HN9.out), by simp [intOf]; omega⟩
        · have hd : decide ((0 : Int) < (um : Int)) = false := decide_eq_false (by omega)
          have hs : ofStep st ⟨false, um⟩ y = st := by unfold ofStep; rw [if_neg (by simp), if_neg hpos]
          have HS := Lib.hid hs
          clear hs
          go_wp2_with fail
          exact ⟨HEND.out _ _ _ _ (by rw [HS.out, HM.out.1]) (by rw [HS.out]; exact HI3.out), by simp [intOf]; omega⟩
      · by_cases hy0 : y = 0
        · subst hy0
          have hs : ofStep st ⟨true, um⟩ 0 = st ++ [0] := by unfold ofStep; rw [if_pos rfl, if_pos rfl]
          have HS := Lib.hid hs
          clear hs
          go_wp2_with (at_builtin; refine wpList_append_new rfl (.tmp 22) (.tmp 25) 32 3 rfl Try.underlying32 info_int rfl (by omega) HI3.out (by omega) [.int .i64 0] rfl (HONE.out _) rfl rfl ?_; intro oa9 c9 w9 HN9 HK9)
          exact ⟨HEND.out _ _ _ _ (by rw [HS.out, List.length_append, HM.out.1]; rfl) (by rw [HS.out, natCells_append]; exact HN9.out), by simp [intOf]; omega⟩
        · have hye : ((y : Int) == 0) = false := by simp; omega
          have hmin : min (y : Int) 1 = 1 := by omega
          obtain ⟨z, hz⟩ : ∃ z, y = z + 1 := ⟨y - 1, by omega⟩
          have hsub : (y : Int) - 1 = (z : Int) := by omega
          have HZ := Lib.hid hz
          clear hz
          by_cases hpos : 0 < um
          · have hd : decide ((0 : Int) < (um : Int)) = true := decide_eq_true (by omega)
            have hs : ofStep st ⟨true, um⟩ y = st ++ [1] ++ [z] := by unfold ofStep; rw [if_pos rfl, if_neg hy0, if_pos hpos, show y - 1 = z by have := HZ.out; omega]
            have HS := Lib.hid hs
            clear hs
            go_wp2_with (at_builtin; first | (refine wpList_append_new rfl (.tmp 22) (.tmp 25) 32 3 rfl Try.underlying32 info_int rfl (by omega) HI3.out (by omega) [.int .i64 1] rfl (HONE.out _) rfl rfl ?_; intro oa9 c9 w9 HN9 HK9; have h79 := (HK9.out b7 _ _ _ H3.out (by decide)).trans H3.out; have y19 : w9.cell? ⟨b7, 1, none⟩ = some (.int .i64 um) := cell_of h79 rfl; clear h79) | (refine wpList_append_new rfl (.tmp 34) (.tmp 36) 32 3 rfl Try.underlying32 info_int rfl (by omega) HN9.out (by omega) [.int .i64 (z : Int)] rfl (HONE.out _) rfl rfl ?_; intro oa8 c8 w8 HN8 HK8))
            exact ⟨HEND.out _ _ _ _ (by rw [HS.out]; simp only [List.length_append, HM.out.1]; rfl) (by rw [HS.out, natCells_append, natCells_append]; exact HN8.out), by simp [intOf]; omega⟩
          · have hd : decide ((0 : Int) < (um : Int)) = false := decide_eq_false (by omega)
            have hs : ofStep st ⟨true, um⟩ y = st ++ [1] := by unfold ofStep; rw [if_pos rfl, if_neg hy0, if_neg hpos]
            have HS := Lib.hid hs
            clear hs
            go_wp2_with (at_builtin; refine wpList_append_new rfl (.tmp 22) (.tmp 25) 32 3 rfl Try.underlying32 info_int rfl (by omega) HI3.out (by omega) [.int .i64 1] rfl (HONE.out _) rfl rfl ?_; intro oa9 c9 w9 HN9 HK9; have h79 := (HK9.out b7 _ _ _ H3.out (by decide)).trans H3.out; have y19 : w9.cell? ⟨b7, 1, none⟩ = some (.int .i64 um) := cell_of h79 rfl; clear h79)
            exact ⟨HEND.out _ _ _ _ (by rw [HS.out, List.length_append, HM.out.1]; rfl) (by rw [HS.out, natCells_append]; exact HN9.out), by simp [intOf]; omega⟩
    · obtain rfl : j = n := by omega
      have hpl : ofT (l.take j) (ws.take j) [] = ofT l ws [] := by rw [List.take_of_length_le (by rw [HR.out.1]; exact Nat.le_refl _), List.take_of_length_le (by rw [HW.out.1]; exact Nat.le_refl _)]
      rw [hpl] at HM HI
      go_wp2_with fail
      go_ret
      exact ⟨oo, mo, co, rfl, HM.out.1, HI.out⟩
end Go.Proofs.Ytmkjejngnahpeaa
/- stops: going over the unsure files from the last one on. -/
namespace Go.Proofs.Ytmkjejngnahpeaa
open Go Go.Maps Go.RowKit Go.Shelf
attribute [local go_sem] Oper.semAt_some

abbrev Ix (N : Nat) := { i : Nat // i < N }
def backL (N : Nat) : List (Ix N) := List.ofFn fun j : Fin N => ⟨N - 1 - j.1, by omega⟩
def encU (l : List U0) (x : Ix l.length) : Array Value := #[.int .i64 (x.1 : Int), .agg #[.bool (l[x.1]'x.2).name, .int .i64 ((l[x.1]'x.2).more : Int)]]
/-- all stands but what is of type int64 -/
def K64 (W W' : World) : Prop := KeepT [2] W W' ∧ W.heap.size ≤ W'.heap.size
theorem K64.join {A B C : World} (h : K64 A B) (k : K64 B C) : K64 A C := ⟨h.1.trans k.1, Nat.le_trans h.2 k.2⟩
theorem K64.of {A B : World} (h : Below A.heap.size A B) : K64 A B := ⟨KeepT.of h, h.size⟩
theorem K64.put (W : World) (l : Nat) (o o' : Obj) (h : W.heap[l]? = some o) (hc : o.isCells = false) : K64 W (W.putObj l o') := by
  refine ⟨fun j cs t fr hj _ => ?_, (grownBy_putObj' W l o').size⟩
  refine (grownBy_putObj' W l o').block j (Array.getElem?_eq_some_iff.1 hj).1 (fun e => ?_)
  simp only [Option.some.injEq] at e
  subst e
  rw [h] at hj
  simp only [Option.some.injEq] at hj
  subst hj
  cases hc
theorem K64.row {W W' : World} {e : TypeId} {size n : Nat} {v : Value} {xs : List Value} (h : K64 W W') (hr : rowAt W e size v n xs) (he : e ≠ 2) : rowAt W' e size v n xs := by
  refine hr.kept (fun k hk => ?_)
  rcases hr.2 with ⟨hv, _⟩ | ⟨g, off, cap, cur, fr, hv, hgg, _⟩
  · rw [hv] at hk
    simp [Value.ownBlock] at hk
  · rw [hv] at hk
    simp only [Value.ownBlock, Option.some.injEq] at hk
    subst hk
    exact h.1 g _ _ _ hgg (by simpa using he)
/-- block b holds the unsure files -/
def UsBox (w : World) (b : Nat) (l : List U0) : Prop := ∃ v, w.heap[b]? = some (.cells #[v] 206 (0, 0)) ∧ rowAt w 213 2 v l.length (uCells l)
set_option maxHeartbeats 400000 in
theorem backward_b (w : World) (oa : Option Addr) (n c : Nat) : Calls Try.prog 139 #[.slice oa n c] w fun e w' => e = .returned (.func (.func 167) #[] #[.pointer (some ⟨w.heap.size, 0, none⟩)]) ∧ w' = w.alloc (.cells #[.slice oa n c] 206) := by
  go_enter Try.func139, Try.ntmps139
  go_wp2_with fail
  go_ret
  exact ⟨rfl, rfl⟩
set_option maxRecDepth 100000 in
set_option maxHeartbeats 1000000 in
theorem backIn (F : Fence) (n : Nat) (h7 : F.fn 167) (hro : F.round = none) (hn : 1 ≤ n) (l vb : Nat) (w : World) (us : List U0) (hsq : UsBox w vb us) (hfs : us.length ≤ 1000000) (J Jx : Nat → World → Prop) (W : World) (hW : Below w.heap.size w W)
    (hY : ∀ j (hj : j < us.length) W1, J j W1 → YieldAt F (n - 1) Try.prog l #[.int .i64 (us.length - 1 - j : Nat), .agg #[.bool (us[us.length - 1 - j]'(by omega)).name, .int .i64 ((us[us.length - 1 - j]'(by omega)).more : Int)]] W1 fun e W' =>
      (e = .returned (.bool true) ∧ J (j + 1) W' ∧ K64 W1 W') ∨ (e = .returned (.bool false) ∧ Jx (j + 1) W')) (h0 : J 0 W) :
    CallsIn F n Try.prog 167 #[.func (.yield l) #[] #[], .pointer (some ⟨vb, 0, none⟩)] W fun e W' => (∃ v, e = .returned v) ∧ (J us.length W' ∨ ∃ j, Jx j W') := by
  obtain ⟨v, hv, hrow⟩ := hsq
  obtain ⟨oa, c, rfl, hnc⟩ := hrow.shape
  obtain ⟨N, hN⟩ : ∃ N, us.length = N := ⟨_, rfl⟩
  rw [hN] at hv hrow hnc hfs
  have HV := Lib.hid hv
  have HR := Lib.hid hrow
  have HN := Lib.hid hN
  have HY := Lib.hid hY
  have HW := Lib.hid hW
  have cv : W.cell? ⟨vb, 0, none⟩ = some (.slice oa N c) := cell_of ((hW.block vb (Array.getElem?_eq_some_iff.1 hv).1).trans hv) rfl
  clear hv hrow hN hY hW
  refine callsIn_of_wp Try.func167 rfl h7 ?_ hro
  simp only [Try.ntmps167, List.size_toArray, List.length_cons, List.length_nil, Nat.reduceAdd, Nat.reduceSub, Array.replicate_succ, Array.replicate_zero, List.push_toArray, List.append_toArray, List.nil_append, List.cons_append]
  gi_wp2
  gi_loopw [3] (fun i wr => ∃ j : Nat, j ≤ N ∧ i = .int .i64 ((N : Int) - 1 - j) ∧ J j wr ∧ K64 w wr) (fun i wr => (intOf i + 1).toNat)
  case atStart => exact ⟨0, Nat.zero_le _, by simp, h0, K64.of HW.out⟩
  case round =>
    obtain ⟨j, hj, rfl, hJs, hbw⟩ := hrel
    by_cases hlt : j < N
    · have hjf : j < us.length := by rw [HN.out]; exact hlt
      obtain ⟨i, hi⟩ : ∃ i : Nat, us.length - 1 - j = i := ⟨_, rfl⟩
      have hiN : i < us.length := by omega
      have hii : (N : Int) - 1 - (j : Int) = (i : Int) := by rw [← hi, HN.out]; omega
      have hd : decide ((0 : Int) ≤ (i : Int)) = true := decide_eq_true (by omega)
      have hi2 : (i : Int) < (N : Int) := by rw [HN.out] at hiN; omega
      have hrw := hbw.row HR.out (by decide)
      obtain ⟨g, off, rfl⟩ := hrw.addr (by omega)
      obtain ⟨u, hu⟩ : ∃ u, us[i] = u := ⟨_, rfl⟩
      obtain ⟨ub, hub⟩ : ∃ b, u.name = b := ⟨_, rfl⟩
      obtain ⟨um, humm⟩ : ∃ m, u.more = m := ⟨_, rfl⟩
      have k0 : wr.cell? ⟨g, off + i * 2, none⟩ = some (.bool ub) := us_cell (i := 0) hrw.read hiN (by omega) (by rw [hu, ← hub]; rfl)
      have k1 : wr.cell? ⟨g, off + i * 2 + 1, none⟩ = some (.int .i64 um) := us_cell (i := 1) hrw.read hiN (by omega) (by rw [hu, ← humm]; rfl)
      have cv' : wr.cell? ⟨vb, 0, none⟩ = some (.slice (some ⟨g, off, none⟩) N c) := cell_of ((hbw.1 vb _ _ _ HV.out (by decide)).trans HV.out) rfl
      have hyy := HY.out j hjf wr hJs
      have hye : (#[.int .i64 (us.length - 1 - j : Nat), .agg #[.bool (us[us.length - 1 - j]'(by omega)).name, .int .i64 ((us[us.length - 1 - j]'(by omega)).more : Int)]] : Array Value) = #[.int .i64 (i : Int), .agg #[.bool ub, .int .i64 (um : Int)]] := by
        subst hi
        subst hu
        rw [hub, humm]
      rw [hye] at hyy
      obtain ⟨fn, tmps, assign, body, hy, hR⟩ := hyy
      have HRD := Lib.hid hR
      have HBW := Lib.hid hbw
      rw [hii]
      have HIJ : Hid ((i : Int) - 1 = (N : Int) - 1 - ((j + 1 : Nat) : Int)) := Lib.hid (by omega)
      clear hrw hu hub humm hR hye hJs hbw hii hi cv
      gi_wp2
      refine HRD.out.mono ?_
      rintro e W3 (⟨rfl, hJ3, hk3⟩ | ⟨rfl, hJx3⟩)
      · have HJ3 : Hid (J (j + 1) W3) := Lib.hid hJ3
        have HB3 : Hid (K64 w W3) := Lib.hid (HBW.out.join hk3)
        clear hJ3 hk3
        gi_wp2
        exact ⟨⟨j + 1, by omega, by rw [HIJ.out], HJ3.out, HB3.out⟩, by first | (simp [intOf]; done) | (simp [intOf]; omega)⟩
      · have HX3 : Hid (Jx (j + 1) W3) := Lib.hid hJx3
        clear hJx3
        gi_wp2
        refine bodyPost_ret (results_none rfl _ _ _) rfl ?_
        exact ⟨⟨_, rfl⟩, .inr ⟨j + 1, HX3.out⟩⟩
    · obtain rfl : j = N := by omega
      have HE : Hid (J us.length wr) := Lib.hid (by rw [HN.out]; exact hJs)
      have hneg : (j : Int) - 1 - (j : Int) = -1 := by omega
      rw [hneg]
      clear hJs
      gi_wp2
      go_end0
      exact ⟨⟨_, rfl⟩, .inl HE.out⟩
/-- **going over the unsure files, the last one first** -/
theorem back_stops (F : Fence) (n : Nat) (h7 : F.fn 167) (hro : F.round = none) (hn : 1 ≤ n) (vb : Nat) (w : World) (us : List U0) (hsq : UsBox w vb us) (hfs : us.length ≤ 1000000) :
    SeqStopsK F n Try.prog 167 #[.pointer (some ⟨vb, 0, none⟩)] (encU us) K64 (fun ys => ys = backL us.length) (fun _ => True) us.length w := fun l J Jx W hW hJ _ hY h0 => by
  have hlen : (backL us.length).length = us.length := by simp [backL]
  refine (backIn F n h7 hro hn l vb w us hsq hfs (fun j W => J ((backL us.length).take j) W) (fun j W => Jx ((backL us.length).take j) W) W hW (fun j hj W1 h1 => ?_) (by simpa using h0)).mono ?_
  · have hj' : j < (backL us.length).length := by rw [hlen]; exact hj
    have hx : (backL us.length)[j] = ⟨us.length - 1 - j, by omega⟩ := by simp [backL]
    have h2 := hY ((backL us.length).take j) (⟨us.length - 1 - j, by omega⟩ : Ix us.length) W1 h1 (by rw [List.length_take]; omega)
    rw [← hx, ← List.take_succ_eq_append_getElem hj', hx] at h2
    exact h2
  · rintro e W' ⟨he, h | ⟨j, h⟩⟩
    · refine ⟨he, .inl ⟨backL us.length, rfl, ?_⟩⟩
      rwa [List.take_of_length_le (Nat.le_of_eq hlen)] at h
    · exact ⟨he, .inr ⟨_, trivial, h⟩⟩
end Go.Proofs.Ytmkjejngnahpeaa
/- stops: At: the stop of a number. -/
namespace Go.Proofs.Ytmkjejngnahpeaa
open Go Go.Maps Go.RowKit Go.Shelf
attribute [local go_sem] Oper.semAt_some

theorem wpListIn_make_zeros {F : Fence} {n : Nat} (w : World) {ops : Array Oper} {rest : List Oper} {o : Oper} {a : Act} {Q : Exit → Act → World → Prop}
    (hg : o.guard = none) (l c : Operand) (hop : o.op = Op.makeSlice 209 l c) {m : Nat} (hm : m ≤ 1000000) (hl : a.eval l = .int .i64 m) (hc : a.eval c = .int .i64 m)
    (hK : ∀ w', Hid (NewR 2 1 w w' (.slice (some ⟨w.heap.size, 0, none⟩) m m) m (natCells (List.replicate m 0))) → Hid (Below w.heap.size w w') → wpListIn F n Try.prog ops Q rest (a.put o.dst (.slice (some ⟨w.heap.size, 0, none⟩) m m)) w') :
    wpListIn F n Try.prog ops Q (o :: rest) a w := by
  refine wpListIn_plain hg fun K hK' => ?_
  obtain ⟨i, hi, hz, hsz, hby⟩ := info_parts info_i64
  obtain ⟨w', hrun, r1, r2⟩ := run_make_full (P := Try.prog) w w.heap.size 209 2 i (.int .i64 0) 1 Try.underlying209 hi hz hsz .i64 .i64 m (by rw [hby]; omega) (by unfold maxLen; omega) (Nat.le_refl _)
  have hxs : (madeCells (Value.int .i64 0).cells (m * 1)).toList = natCells (List.replicate m 0) := by
    unfold natCells madeCells
    simp [Value.cells]
    exact List.ext_getElem (by simp) fun j h1 h2 => by simp [Nat.mod_one]
  rw [hxs] at r1
  have hb : Below w.heap.size w w' := (Below.refl _ _).grown r2 (Nat.le_refl _) (fun k e => by cases e)
  have hro := rowAt.of_row (hasRow.of_own r1)
  unfold Oper.wpIn
  refine ⟨?_, ?_⟩
  · simp [Oper.about, hop]
  · rw [Oper.semAt_plain F _ _ (by rw [hop]; intro c hc'; cases hc')]
    simp [execOp, hop, hl, hc, hrun, Result.andThen]
    exact hK' _ _ (hK w' (Lib.hid ⟨hro, fun k hk => by simp only [Value.ownBlock, Option.some.injEq] at hk; omega, hb⟩) (Lib.hid hb))
/-- a file's ways, by its place -/
def waysAt (l : List U0) (i : Nat) : Nat := match l[i]? with
  | some u => u.ways
  | none => 1
/-- one digit -/
def backStep (l : List U0) (s : List Nat × Nat) (i : Nat) : List Nat × Nat := (s.1.set i (s.2 % waysAt l i), s.2 / waysAt l i)
def backT (l : List U0) (s : List Nat × Nat) (is : List Nat) : List Nat × Nat := is.foldl (backStep l) s
theorem backT_len (l : List U0) : ∀ (is : List Nat) (s : List Nat × Nat), (backT l s is).1.length = s.1.length
  | [], _ => rfl
  | i :: r, s => by
    show (backT l (backStep l s i) r).1.length = _
    rw [backT_len l r]
    simp [backStep]
theorem backT_le (l : List U0) : ∀ (is : List Nat) (s : List Nat × Nat), (backT l s is).2 ≤ s.2
  | [], _ => Nat.le_refl _
  | i :: r, s => by
    show (backT l (backStep l s i) r).2 ≤ _
    exact Nat.le_trans (backT_le l r _) (Nat.div_le_self _ _)
theorem backT_all {l : List U0} {M : Nat} : ∀ (is : List Nat) (s : List Nat × Nat), s.2 ≤ M → (∀ x ∈ s.1, x ≤ M) → ∀ x ∈ (backT l s is).1, x ≤ M
  | [], _, _, h => h
  | i :: r, s, h1, h2 => by
    refine backT_all (l := l) r (backStep l s i) (Nat.le_trans (Nat.div_le_self _ _) h1) fun x hx => ?_
    rcases List.mem_or_eq_of_mem_set hx with h3 | h3
    · exact h2 x h3
    · rw [h3]
      exact Nat.le_trans (Nat.mod_le _ _) h1
def descL (N : Nat) : List Nat := (backL N).map (·.1)
/-- the ways of a number -/
def atWays (l : List U0) (n : Nat) : List Nat := (backT l (List.replicate l.length 0, n) (descL l.length)).1
/-- what At answers -/
def atV (d : Dk) (n : Int) : List Nat × Int :=
  if n < 0 then ([], 2)
  else match countT (unsT d.files) with
    | none => ([], 3)
    | some c => if c ≤ n.toNat then ([], 4) else (ofT (unsT d.files) (atWays (unsT d.files) n.toNat) [], 0)
def ixs {N : Nat} (pre : List (Ix N)) : List Nat := pre.map (·.1)
theorem ixs_snoc {N : Nat} (pre : List (Ix N)) (x : Ix N) : ixs (pre ++ [x]) = ixs pre ++ [x.1] := by simp [ixs]
/-- what stands at a round's head -/
structure AtI (w W : World) (b3 b4 b9 : Nat) (ow : Option Addr) (cw N : Nat) (ol : Value) (l : List U0) (s : List Nat × Nat) : Prop where
  num : W.heap[b3]? = some (.cells #[.int .i64 s.2] 2 (0, 0))
  res : W.heap[b4]? = some (.cells #[.slice none 0 0] 72 (0, 0))
  box : W.heap[b9]? = some (.cells #[.slice ow N cw] 209 (0, 0))
  row : rowAt W 2 1 (.slice ow N cw) N (natCells s.1)
  us : rowAt W 213 2 ol N (uCells l)
  below : Below w.heap.size w W
  new : w.heap.size ≤ b3 ∧ w.heap.size ≤ b4 ∧ ∀ k, (Value.slice ow N cw).ownBlock = some k → w.heap.size ≤ k ∧ k ≠ b3
theorem AtI.grown {w W W' : World} {b3 b4 b9 N cw : Nat} {ow : Option Addr} {ol : Value} {l : List U0} {s : List Nat × Nat} {row : Option Nat} (h : AtI w W b3 b4 b9 ow cw N ol l s) (hg : W.grownBy W' row) (hr : ∀ r, row = some r → w.heap.size ≤ r ∧ ∃ o : Obj, W.heap[r]? = some o ∧ o.isCells = false) : AtI w W' b3 b4 b9 ow cw N ol l s := by
  have hcell : ∀ (k : Nat) (cs : Array Value) (t : TypeId) (fr : Nat × Nat), W.heap[k]? = some (.cells cs t fr) → W'.heap[k]? = W.heap[k]? := fun k cs t fr hk =>
    hg.block k (Array.getElem?_eq_some_iff.1 hk).1 (fun e => by
      obtain ⟨_, o, ho, hc⟩ := hr k e.symm
      rw [hk] at ho
      simp only [Option.some.injEq] at ho
      subst ho
      cases hc)
  have hrow : ∀ {e : TypeId} {size n : Nat} {v : Value} {xs : List Value}, rowAt W e size v n xs → rowAt W' e size v n xs := fun {e size n v xs} hx => hx.kept (fun k hk => by
    rcases hx.2 with ⟨hv, _⟩ | ⟨g, off, cap, cur, fr, hv, hgg, _⟩
    · rw [hv] at hk
      simp [Value.ownBlock] at hk
    · rw [hv] at hk
      simp only [Value.ownBlock, Option.some.injEq] at hk
      subst hk
      exact hcell g _ _ _ hgg)
  exact ⟨(hcell _ _ _ _ h.num).trans h.num, (hcell _ _ _ _ h.res).trans h.res, (hcell _ _ _ _ h.box).trans h.box, hrow h.row, hrow h.us, h.below.grown hg h.below.size (fun k e => (hr k e).1), h.new⟩
theorem AtI.kept {w W W' : World} {b3 b4 b9 N cw : Nat} {ow : Option Addr} {ol : Value} {l : List U0} {s : List Nat × Nat} (h : AtI w W b3 b4 b9 ow cw N ol l s) (hb : Below W.heap.size W W') : AtI w W' b3 b4 b9 ow cw N ol l s := by
  have hcell : ∀ (k : Nat) (cs : Array Value) (t : TypeId) (fr : Nat × Nat), W.heap[k]? = some (.cells cs t fr) → W'.heap[k]? = W.heap[k]? := fun k cs t fr hk => hb.block k (Array.getElem?_eq_some_iff.1 hk).1
  exact ⟨(hcell _ _ _ _ h.num).trans h.num, (hcell _ _ _ _ h.res).trans h.res, (hcell _ _ _ _ h.box).trans h.box, h.row.kept (fun k hk => hb.block k (h.row.lt k hk)), h.us.kept (fun k hk => hb.block k (h.us.lt k hk)), h.below.trans (hb.mono h.below.size), h.new⟩
theorem AtI.drew {w W : World} {b3 b4 b9 N cw : Nat} {ow : Option Addr} {ol : Value} {l : List U0} {s : List Nat × Nat} (h : AtI w W b3 b4 b9 ow cw N ol l s) : AtI w W.drew b3 b4 b9 ow cw N ol l s := h.kept ⟨rfl, rfl, rfl, Nat.le_refl _, fun _ _ => rfl⟩
theorem row_block {w : World} {e : TypeId} {size n g off c : Nat} {m : Nat} {xs : List Value} (h : rowAt w e size (.slice (some ⟨g, off, none⟩) m c) n xs) : ∃ cur fr, w.heap[g]? = some (.cells cur e fr) := by
  rcases h.2 with ⟨hv, _⟩ | ⟨g', off', cap, cur, fr, hv, hgg, _⟩
  · cases hv
  · simp only [Value.slice.injEq, Option.some.injEq, Addr.mk.injEq] at hv
    obtain ⟨⟨rfl, rfl, -⟩, -, -⟩ := hv
    exact ⟨cur, fr, hgg⟩
/-- what holds behind the first of a round's two statements -/
structure AtR (w w9 W1 W : World) (b3 b4 b9 g B N : Nat) (ol : Value) (l : List U0) (s : List Nat × Nat) (ub : Bool) (um : Nat) : Prop where
  at_ : AtI w W b3 b4 b9 (some ⟨g, 0, none⟩) N N ol l s
  ubox : W.heap[B]? = some (.cells #[.bool ub, .int .i64 um] 213 (0, 0))
  keep : K64 W1 W
  from_ : KeepsFrom w9.heap.size W1 W
  size : w9.heap.size ≤ W.heap.size
theorem AtR.start {w w9 W1 : World} {b3 b4 b9 g B N : Nat} {ol : Value} {l : List U0} {s : List Nat × Nat} {ub : Bool} {um : Nat} (h : AtI w W1 b3 b4 b9 (some ⟨g, 0, none⟩) N N ol l s) (hu : W1.heap[B]? = some (.cells #[.bool ub, .int .i64 um] 213 (0, 0))) (hs : w9.heap.size ≤ W1.heap.size) : AtR w w9 W1 W1 b3 b4 b9 g B N ol l s ub um :=
  ⟨h, hu, ⟨KeepT.refl _ _, Nat.le_refl _⟩, KeepsFrom.refl _ _, hs⟩
theorem AtR.kept {w w9 W1 W W' : World} {b3 b4 b9 g B N : Nat} {ol : Value} {l : List U0} {s : List Nat × Nat} {ub : Bool} {um : Nat} (h : AtR w w9 W1 W b3 b4 b9 g B N ol l s ub um) (hb : Below W.heap.size W W') : AtR w w9 W1 W' b3 b4 b9 g B N ol l s ub um :=
  ⟨h.at_.kept hb, (hb.block B (Array.getElem?_eq_some_iff.1 h.ubox).1).trans h.ubox, h.keep.join (K64.of hb), h.from_.trans (keepsFrom_below2 hb), Nat.le_trans h.size hb.size⟩
theorem AtR.drew {w w9 W1 W : World} {b3 b4 b9 g B N : Nat} {ol : Value} {l : List U0} {s : List Nat × Nat} {ub : Bool} {um : Nat} (h : AtR w w9 W1 W b3 b4 b9 g B N ol l s ub um) : AtR w w9 W1 W.drew b3 b4 b9 g B N ol l s ub um := h.kept ⟨rfl, rfl, rfl, Nat.le_refl _, fun _ _ => rfl⟩
/-- a digit is stored -/
theorem AtR.digit {w w9 W1 W : World} {b3 b4 b9 g B N i r : Nat} {ol : Value} {l : List U0} {s : List Nat × Nat} {ub : Bool} {um : Nat} (h : AtR w w9 W1 W b3 b4 b9 g B N ol l s ub um) (hi : i < N) : AtR w w9 W1 (W.setCell ⟨g, i, none⟩ (.int .i64 r)) b3 b4 b9 g B N ol l (s.1.set i r, s.2) ub um := by
  obtain ⟨cur, fr, hg⟩ := row_block h.at_.row
  have hk : KeepT [2] W (W.setCell ⟨g, i, none⟩ (.int .i64 r)) := KeepT.set hg (by simp) _
  have hsz : W.heap.size ≤ (W.setCell ⟨g, i, none⟩ (.int .i64 r)).heap.size := (only_setCell (fun _ => True) W g i (.int .i64 r) trivial).size
  have hnew := h.at_.new
  have hgn := hnew.2.2 g rfl
  refine ⟨⟨?_, ?_, ?_, ?_, ?_, ?_, hnew⟩, ?_, h.keep.join ⟨hk, hsz⟩, h.from_.trans ((KeepsOthers.setCell _ _ _).from _), Nat.le_trans h.size hsz⟩
  · exact (Below.heap_setCell _ _ _ _ (fun e => hgn.2 e.symm)).trans h.at_.num
  · exact (hk b4 _ _ _ h.at_.res (by decide)).trans h.at_.res
  · exact (hk b9 _ _ _ h.at_.box (by decide)).trans h.at_.box
  · have := h.at_.row.setAt (j := i) (by omega) (.int .i64 r)
    rw [Nat.zero_add] at this
    have e : natCells (s.1.set i r) = (natCells s.1).set i (.int .i64 r) := by unfold natCells; rw [List.map_set]
    rw [e]
    exact this
  · exact K64.row ⟨hk, hsz⟩ h.at_.us (by decide)
  · exact h.at_.below.setCell (p := ⟨g, i, none⟩) hgn.1 _
  · exact (hk B _ _ _ h.ubox (by decide)).trans h.ubox
/-- what is left of the number is stored -/
theorem AtR.rest {w w9 W1 W : World} {b3 b4 b9 g B N q : Nat} {ol : Value} {l : List U0} {s : List Nat × Nat} {ub : Bool} {um : Nat} (h : AtR w w9 W1 W b3 b4 b9 g B N ol l s ub um) : AtR w w9 W1 (W.setCell ⟨b3, 0, none⟩ (.int .i64 q)) b3 b4 b9 g B N ol l (s.1, q) ub um := by
  have hk : KeepT [2] W (W.setCell ⟨b3, 0, none⟩ (.int .i64 q)) := KeepT.set h.at_.num (by simp) _
  have hsz : W.heap.size ≤ (W.setCell ⟨b3, 0, none⟩ (.int .i64 q)).heap.size := (only_setCell (fun _ => True) W b3 0 (.int .i64 q) trivial).size
  have hnew := h.at_.new
  refine ⟨⟨heap_setCell_here _ h.at_.num, ?_, ?_, ?_, ?_, ?_, hnew⟩, ?_, h.keep.join ⟨hk, hsz⟩, h.from_.trans ((KeepsOthers.setCell _ _ _).from _), Nat.le_trans h.size hsz⟩
  · exact (hk b4 _ _ _ h.at_.res (by decide)).trans h.at_.res
  · exact (hk b9 _ _ _ h.at_.box (by decide)).trans h.at_.box
  · exact h.at_.row.kept (fun k hk1 => Below.heap_setCell _ _ _ _ (fun e => (hnew.2.2 k hk1).2 e))
  · exact K64.row ⟨hk, hsz⟩ h.at_.us (by decide)
  · exact h.at_.below.setCell (p := ⟨b3, 0, none⟩) hnew.1 _
  · exact (hk B _ _ _ h.ubox (by decide)).trans h.ubox
end Go.Proofs.Ytmkjejngnahpeaa
