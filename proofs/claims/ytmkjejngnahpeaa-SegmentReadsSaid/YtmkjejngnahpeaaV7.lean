/- The texts Mj, Dx, Dy, Dz in one. -/
import Derived.Test.YtmkjejngnahpeaaV6
import Derived.Test.YtmkjejngnahpeaaV4
import Derived.Deep.RegionLaw
/- record: batch, where nothing or a torn batch stands. -/
namespace Go.Proofs.Ytmkjejngnahpeaa
open Go Go.RowKit
attribute [local go_sem] Oper.semAt_some

/-- batch's three result variables -/
structure BtI (w W : World) (b2 b3 b4 : Nat) (x0 x1 x3 x4 : Value) : Prop where
  two : W.heap[b2]? = some (.cells #[x0, x1] 46 (0, 0))
  three : W.heap[b3]? = some (.cells #[x3] 3 (0, 0))
  four : W.heap[b4]? = some (.cells #[x4] 22 (0, 0))
  low : w.heap.size ≤ b2
  b23 : b3 = b2 + 1
  b24 : b4 = b2 + 2
  below : Below w.heap.size w W
theorem BtI.later {w W W' : World} {b2 b3 b4 : Nat} {x0 x1 x3 x4 : Value} (h : BtI w W b2 b3 b4 x0 x1 x3 x4) (hb : Below W.heap.size W W') : BtI w W' b2 b3 b4 x0 x1 x3 x4 :=
  ⟨(hb.block _ (Array.getElem?_eq_some_iff.1 h.two).1).trans h.two, (hb.block _ (Array.getElem?_eq_some_iff.1 h.three).1).trans h.three, (hb.block _ (Array.getElem?_eq_some_iff.1 h.four).1).trans h.four, h.low, h.b23, h.b24, h.below.trans (hb.mono h.below.size)⟩
/-- the closure takes an error of batch's -/
theorem BtI.catch {w W : World} {b2 b3 b4 : Nat} {x0 x1 x3 x4 : Value} {er : Int} {older : List PanicEntry} (h : BtI w W b2 b3 b4 x0 x1 x3 x4) :
    CallsD Try.prog 184 #[.pointer (some ⟨b2, 0, none⟩), .pointer (some ⟨b3, 0, none⟩), .pointer (some ⟨b4, 0, none⟩)] (.panicking ({ v := .iface 264 (.agg #[.int .i64 er]), recovered := false } :: older)) W fun e u' w' =>
      e = .returned (.tuple #[]) ∧ u' = .panicking ({ v := .iface 264 (.agg #[.int .i64 er]), recovered := true } :: older) ∧ BtI w w' b2 b3 b4 (.int .i64 0) (.slice none 0 0) (.int .i64 0) (.int .i64 er) := by
  have e1 := h.b23
  have e2 := h.b24
  have e0 := h.low
  refine (batchCatch_b h.two h.three h.four (by omega) (by omega) (by omega)).mono ?_
  rintro e u' w' ⟨he, hu, h2, h3, h4, ho⟩
  exact ⟨he, hu, h2, h3, h4, h.low, h.b23, h.b24, h.below.trans (ho.below (fun i hi e => by rcases e with e | e | e <;> omega) h.below.size)⟩
theorem BtI.put3 {w W : World} {b2 b3 b4 : Nat} {x0 x1 x3 x4 : Value} (h : BtI w W b2 b3 b4 x0 x1 x3 x4) (v : Value) : BtI w (W.setCell ⟨b3, 0, none⟩ v) b2 b3 b4 x0 x1 v x4 := by
  have e1 := h.b23
  have e2 := h.b24
  have e0 := h.low
  exact ⟨(Below.heap_setCell _ _ _ _ (by show b2 ≠ b3; omega)).trans h.two, heap_setCell_here _ h.three, (Below.heap_setCell _ _ _ _ (by show b4 ≠ b3; omega)).trans h.four, h.low, h.b23, h.b24, h.below.setCell (p := ⟨b3, 0, none⟩) (by show w.heap.size ≤ b3; omega) _⟩
theorem BtI.put20 {w W : World} {b2 b3 b4 : Nat} {x0 x1 x3 x4 : Value} (h : BtI w W b2 b3 b4 x0 x1 x3 x4) (v : Value) : BtI w (W.setCell ⟨b2, 0, none⟩ v) b2 b3 b4 v x1 x3 x4 := by
  have e1 := h.b23
  have e2 := h.b24
  exact ⟨heap_setCell_here _ h.two, (Below.heap_setCell _ _ _ _ (by show b3 ≠ b2; omega)).trans h.three, (Below.heap_setCell _ _ _ _ (by show b4 ≠ b2; omega)).trans h.four, h.low, h.b23, h.b24, h.below.setCell (p := ⟨b2, 0, none⟩) h.low _⟩
theorem BtI.put21 {w W : World} {b2 b3 b4 : Nat} {x0 x1 x3 x4 : Value} (h : BtI w W b2 b3 b4 x0 x1 x3 x4) (v : Value) : BtI w (W.setCell ⟨b2, 1, none⟩ v) b2 b3 b4 x0 v x3 x4 := by
  have e1 := h.b23
  have e2 := h.b24
  exact ⟨heap_setCell_here _ h.two, (Below.heap_setCell _ _ _ _ (by show b3 ≠ b2; omega)).trans h.three, (Below.heap_setCell _ _ _ _ (by show b4 ≠ b2; omega)).trans h.four, h.low, h.b23, h.b24, h.below.setCell (p := ⟨b2, 1, none⟩) h.low _⟩
theorem BtI.put4 {w W : World} {b2 b3 b4 : Nat} {x0 x1 x3 x4 : Value} (h : BtI w W b2 b3 b4 x0 x1 x3 x4) (v : Value) : BtI w (W.setCell ⟨b4, 0, none⟩ v) b2 b3 b4 x0 x1 x3 v := by
  have e1 := h.b23
  have e2 := h.b24
  have e0 := h.low
  exact ⟨(Below.heap_setCell _ _ _ _ (by show b2 ≠ b4; omega)).trans h.two, (Below.heap_setCell _ _ _ _ (by show b3 ≠ b4; omega)).trans h.three, heap_setCell_here _ h.four, h.low, h.b23, h.b24, h.below.setCell (p := ⟨b4, 0, none⟩) (by show w.heap.size ≤ b4; omega) _⟩
/-- a block of the statement's own, made behind the results -/
theorem BtI.other {w W : World} {b2 b3 b4 b : Nat} {x0 x1 x3 x4 : Value} (h : BtI w W b2 b3 b4 x0 x1 x3 x4) (hb : b4 < b) (i : Nat) (v : Value) : BtI w (W.setCell ⟨b, i, none⟩ v) b2 b3 b4 x0 x1 x3 x4 := by
  have e1 := h.b23
  have e2 := h.b24
  have e0 := h.low
  exact ⟨(Below.heap_setCell _ _ _ _ (by show b2 ≠ b; omega)).trans h.two, (Below.heap_setCell _ _ _ _ (by show b3 ≠ b; omega)).trans h.three, (Below.heap_setCell _ _ _ _ (by show b4 ≠ b; omega)).trans h.four, h.low, h.b23, h.b24, h.below.setCell (p := ⟨b, i, none⟩) (by show w.heap.size ≤ b; omega) _⟩
theorem BtI.start (w : World) : BtI w (((w.alloc (.cells #[.int .i64 0, .slice none 0 0] 46)).alloc (.cells #[.int .i64 0] 3)).alloc (.cells #[.int .i64 0] 22)) w.heap.size (w.heap.size + 1) (w.heap.size + 1 + 1) (.int .i64 0) (.slice none 0 0) (.int .i64 0) (.int .i64 0) := by
  refine ⟨?_, ?_, ?_, Nat.le_refl _, rfl, rfl, (((Below.refl _ _).alloc (Nat.le_refl _) _).alloc (by simp) _).alloc (by simp; omega) _⟩
  · exact (Below.heap_alloc _ _ _ (by simp; omega)).trans ((Below.heap_alloc _ _ _ (by simp)).trans (alloc_cells _ _ _))
  · have := alloc_cells (w.alloc (.cells #[.int .i64 0, .slice none 0 0] 46)) #[.int .i64 0] 3
    rw [World.size_alloc] at this
    exact (Below.heap_alloc _ _ _ (by simp)).trans this
  · have := alloc_cells ((w.alloc (.cells #[.int .i64 0, .slice none 0 0] 46)).alloc (.cells #[.int .i64 0] 3)) #[.int .i64 0] 22
    rwa [World.size_alloc, World.size_alloc] at this
def batchNo (er : Int) : Value := .tuple #[.agg #[.int .i64 0, .slice none 0 0], .int .i64 0, .int .i64 er]
set_option maxRecDepth 100000 in
set_option maxHeartbeats 2000000 in
/-- nothing stands there -/
theorem batchEnd_b {w : World} {oa : Option Addr} {c : Nat} :
    Calls Try.prog 173 #[.slice oa 0 c] w fun e w' => e = .returned (batchNo 150) ∧ Below w.heap.size w w' := by
  have hmf : ∀ (fn : Fn) (first cap : Array Value) (W : World), (Instr.makeFunc fn first cap).run Try.prog W = .ok (.func fn first cap) W := fun _ _ _ _ => rfl
  have HS := Lib.hid (BtI.start w)
  go_enter_defers Try.func173, Try.ntmps173
  go_wp2_with fail
  refine leaves_cons (f := 184) (args := #[.pointer (some ⟨w.heap.size, 0, none⟩), .pointer (some ⟨w.heap.size + 1, 0, none⟩), .pointer (some ⟨w.heap.size + 1 + 1, 0, none⟩)]) (by simp) (by simp [go_sem]) ?_
  refine (HS.out.catch).mono ?_
  rintro e u' w2 ⟨rfl, rfl, hb⟩
  have c20 := cell_of (i := 0) hb.two rfl
  have c21 := cell_of (i := 1) hb.two rfl
  have c3 := cell_of (i := 0) hb.three rfl
  have c4 := cell_of (i := 0) hb.four rfl
  have HB := Lib.hid hb.below
  clear hb
  refine ⟨batchNo 150, ?_, rfl, HB.out⟩
  simp [results, Try.results173, go_sem, c20, c21, c3, c4, batchNo]
set_option maxRecDepth 100000 in
set_option maxHeartbeats 2000000 in
/-- a torn batch stands there -/
theorem batchTorn_b {w : World} {oa : Option Addr} {n c : Nat} {l : List UInt8} (hn : l.length = n) (h : readAt w 1 (.slice oa n c) n (byteCells l)) (h0 : 0 < n) (ht : n < 4 ∨ (4 ≤ n ∧ 28 ≤ getT (l.take 4) ∧ getT (l.take 4) ≤ 65532 ∧ n < getT (l.take 4) + 4)) :
    Calls Try.prog 173 #[.slice oa n c] w fun e w' => e = .returned (batchNo 151) ∧ Below w.heap.size w w' := by
  have hmf : ∀ (fn : Fn) (first cap : Array Value) (W : World), (Instr.makeFunc fn first cap).run Try.prog W = .ok (.func fn first cap) W := fun _ _ _ _ => rfl
  have HS := BtI.start w
  obtain ⟨w1, hw1⟩ : ∃ W : World, W = ((w.alloc (.cells #[.int .i64 0, .slice none 0 0] 46)).alloc (.cells #[.int .i64 0] 3)).alloc (.cells #[.int .i64 0] 22) := ⟨_, rfl⟩
  obtain ⟨b2, hb2⟩ : ∃ b, b = w.heap.size := ⟨_, rfl⟩
  obtain ⟨b3, hb3⟩ : ∃ b, b = w.heap.size + 1 := ⟨_, rfl⟩
  obtain ⟨b4, hb4⟩ : ∃ b, b = w.heap.size + 1 + 1 := ⟨_, rfl⟩
  rw [← hw1, ← hb4, ← hb3, ← hb2] at HS
  have HS := Lib.hid HS
  have hn0 : ((n : Int) == 0) = false := by rw [beq_eq_false_iff_ne]; omega
  have HR := Lib.hid (And.intro hn (h.kept (fun k hk _ _ => HS.out.below.block k hk)))
  clear hn h
  go_enter_defers Try.func173, Try.ntmps173
  go_upto_region 1 with fail
  rw [← hw1, ← hb4, ← hb3, ← hb2]
  clear hw1 hb4 hb3 hb2
  by_cases h4 : n < 4
  · have d4 : decide ((n : Int) < 4) = true := decide_eq_true (by omega)
    go_wp2_with fail
    refine leaves_cons (f := 184) (args := #[.pointer (some ⟨b2, 0, none⟩), .pointer (some ⟨b3, 0, none⟩), .pointer (some ⟨b4, 0, none⟩)]) (by simp) (by simp [go_sem]) ?_
    refine (HS.out.catch).mono ?_
    rintro e u' w2 ⟨rfl, rfl, hb⟩
    have c20 := cell_of (i := 0) hb.two rfl
    have c21 := cell_of (i := 1) hb.two rfl
    have c3 := cell_of (i := 0) hb.three rfl
    have c4 := cell_of (i := 0) hb.four rfl
    have HB := Lib.hid hb.below
    clear hb
    refine ⟨batchNo 151, ?_, rfl, HB.out⟩
    simp [results, Try.results173, go_sem, c20, c21, c3, c4, batchNo]
  · have d4 : decide ((n : Int) < 4) = false := decide_eq_false (by omega)
    have ht := ht.resolve_left h4
    have hg := get_b HR.out.1 HR.out.2 (k := 4) (by omega) (by omega)
    obtain ⟨lg, hlg⟩ : ∃ x, getT (l.take 4) = x := ⟨_, rfl⟩
    rw [hlg] at hg ht
    have HG := Lib.hid hg
    clear hg hlg
    have e1 : decide ((lg : Int) < 28) = false := decide_eq_false (by omega)
    have e2 : decide ((65532 : Int) < (lg : Int)) = false := decide_eq_false (by omega)
    have e3 : decide ((n : Int) < (lg : Int) + 4) = true := decide_eq_true (by omega)
    have hlb : lg ≤ 65532 := by omega
    have k3 : w1.cell? ⟨b3, 0, none⟩ = some (.int .i64 0) := cell_of HS.out.three rfl
    have z3 : w1.frozen? ⟨b3, 0, none⟩ = false := free_of HS.out.three _
    go_wp2_with fail
    refine HG.out.mono ?_
    rintro e w2 ⟨rfl, hw2⟩
    obtain rfl := hw2.symm
    clear hw2
    go_wp2_with fail
    refine leaves_cons (f := 184) (args := #[.pointer (some ⟨b2, 0, none⟩), .pointer (some ⟨b3, 0, none⟩), .pointer (some ⟨b4, 0, none⟩)]) (by simp) (by simp [go_sem]) ?_
    refine ((HS.out.put3 _).catch).mono ?_
    rintro e u' w2 ⟨rfl, rfl, hb⟩
    have c20 := cell_of (i := 0) hb.two rfl
    have c21 := cell_of (i := 1) hb.two rfl
    have c3 := cell_of (i := 0) hb.three rfl
    have c4 := cell_of (i := 0) hb.four rfl
    have HB := Lib.hid hb.below
    clear hb
    refine ⟨batchNo 151, ?_, rfl, HB.out⟩
    simp [results, Try.results173, go_sem, c20, c21, c3, c4, batchNo]
end Go.Proofs.Ytmkjejngnahpeaa
/- Disk: Create. -/
namespace Go.Proofs.Ytmkjejngnahpeaa
open Go Go.Maps Go.RowKit

theorem OpIs.next {w w2 : World} {S : Nat → Prop} {q mb : Nat} {fv' : Value} {L : List Fl} {d1 : Dk} (ho : Only (fun k => k = q) w w2) (h2 : DiskIs w2 S q mb fv' L d1) (n : Int) : OpIs w S q (n, d1) (.returned (.int .i64 n)) w2 :=
  ⟨rfl, ⟨mb, fv', L, h2.wider (fun k hk => .inl hk) (fun k hk => by
    rcases hk with hk | hk
    · exact h2.low k hk
    · exact hk.2)⟩, ho.mono (fun i _ hi => by rw [hi]; exact h2.q_mem)⟩
def newF (s : List UInt8) : F0 := ⟨s, [], 0, true, false⟩
set_option maxRecDepth 100000 in
/-- a new file is put into the map -/
theorem set_new {w w2 w3 w4 : World} {S : Nat → Prop} {q mb n' : Nat} {fv' : Value} {L : List Fl} {d d1 : Dk} {D : DataW Unit} {s : List UInt8} (ho : Only (fun k => k = q) w w2) (h2 : DiskIs w2 S q mb fv' L d1) (hd : Dic D (L.map fun x => (x.f.name, x.blk)))
    (hw3 : w3 = w2.alloc (.cells #[.slice none 0 0, .int .i64 0, .bool true, .bool false] 178)) (hg : w3.grownBy w4 (some mb))
    (hm : w4.ownsMap Try.prog 9 ptrElem mb n' (D.put (.string s) (.lit (.int .i64 w2.heap.size)))) (hne : ∀ x ∈ L, x.f.name ≠ s) (hnm : nameOk s = true) (hfew : d1.files.length < 4096) (hf : d.files = d1.files) :
    OpIs w S q (0, { d1 with files := insF (newF s) d.files }) (.returned (.int .i64 0)) w4 := by
  obtain ⟨A, B, rfl, hi⟩ := insF_split (newF s) L
  have hi' : insF (newF s) d.files = A.map (·.f) ++ newF s :: B.map (·.f) := by rw [hf, ← h2.files]; exact hi
  have hmb : mb < w2.heap.size := h2.low _ (h2.foot _ (by simp [diskBlocks]))
  have hb3 : w3.heap[w2.heap.size]? = some (.cells #[.slice none 0 0, .int .i64 0, .bool true, .bool false] 178 (0, 0)) := by rw [hw3]; exact alloc_cells _ _ _
  have hs3 : w2.heap.size < w3.heap.size := by rw [hw3]; simp
  have ho4 : Only (fun k => k = mb) w2 w4 := by
    have h5 : Only (fun k => k = mb) w2 w3 := by rw [hw3]; exact only_alloc _ _ _
    exact h5.trans (Only.of_grown (S := fun k => k = mb) hg (fun k hk => by simp at hk; exact hk.symm)) (fun _ _ h => h)
  have hb4 : w4.heap[w2.heap.size]? = w3.heap[w2.heap.size]? := hg.block _ hs3 (by simp; omega)
  have h6 := h2.file_add (x' := ⟨newF s, w2.heap.size, .slice none 0 0⟩) (fs := insF (newF s) d.files) ho4
    ⟨hb4.trans hb3, ⟨by simp [byteCells, newF], .inl ⟨rfl, by simp [newF]⟩⟩, by simp [newF], by simp [newF]⟩ hm
    (hd.put s w2.heap.size (fun f => by
      simp only [List.map_append, List.map_cons, List.mem_append, List.mem_cons, newF]
      constructor
      · rintro (h | h | h) <;> simp [h]
      · rintro (h | h | h) <;> simp [h]) (fun f hf' => by
      obtain ⟨x, hx, rfl⟩ := List.mem_map.1 hf'
      exact hne x hx))
    (fun k hk => by
      simp only [Fl.blocks, Value.ownBlock, Option.toList_none, List.mem_singleton] at hk
      have := hg.size
      rw [hk]
      exact ⟨Nat.le_refl _, by omega⟩) (by simp [Fl.blocks, Value.ownBlock]) hi' (insF_sorted _ _ (by rw [hf]; exact h2.sorted) (fun g hg' => by
      have : g ∈ (A ++ B).map (·.f) := by rw [h2.files, ← hf]; exact hg'
      obtain ⟨x, hx, rfl⟩ := List.mem_map.1 this
      exact hne x hx)) hnm hfew
  refine ⟨rfl, ⟨mb, fv', _, h6.wider (fun k hk => ?_) (fun k hk => ?_)⟩, ?_⟩
  · rcases hk with hk | hk
    · exact .inl hk
    · exact .inr ⟨Nat.le_trans ho.size hk.1, hk.2⟩
  · rcases hk with hk | hk
    · exact Nat.lt_of_lt_of_le (h2.low k hk) ho4.size
    · exact hk.2
  · exact (ho.mono (fun i _ hi => by rw [hi]; exact h2.q_mem)).trans ho4 (fun i _ hi => by rw [hi]; exact h2.foot _ (by simp [diskBlocks]))
set_option maxRecDepth 100000 in
set_option maxHeartbeats 1000000 in
theorem create_b {w : World} {S : Nat → Prop} {q : Nat} {d : Dk} (h : DiskAt w S q d) (nm : ByteArray) (hs : nm.size ≤ maxLen) :
    Calls Try.prog 45 #[.pointer (some ⟨q, 0, none⟩), .string nm] w fun e w' => OpIs w S q (d.create nm.data.toList) e w' := by
  obtain ⟨mb, fv, L, h⟩ := h
  have c0 : w.cell? ⟨q, 0, none⟩ = some (.map (some mb)) := cell_of h.head rfl
  go_enter Try.func45, Try.ntmps45
  go_wp2_with fail
  refine (asked_b h nm hs).mono ?_
  rintro e w' ⟨rfl, rfl⟩
  cases hn : nameOk nm.data.toList with
  | false =>
    have HO : Hid (OpIs w' S q (d.create nm.data.toList) (.returned (.int .i64 2)) w') := Lib.hid (by
      rw [show d.create nm.data.toList = (2, d) by simp [Dk.create, hn]]
      exact OpIs.same h 2)
    rw [show askE nm.data.toList = 2 by simp [askE, hn]]
    clear h hn
    go_wp2_with fail
    go_ret
    exact HO.out
  | true =>
    rw [show askE nm.data.toList = 0 by simp [askE, hn]]
    cases ha : d.at nm.data.toList with
    | some f =>
      obtain ⟨A, x, B, hL, rfl, hxn⟩ := h.at_some ha
      have hl := h.lookup_some (x := x) (by rw [hL]; simp) hs hxn
      have HO : Hid (OpIs w' S q (d.create nm.data.toList) (.returned (.int .i64 170)) w') := Lib.hid (by
        rw [show d.create nm.data.toList = (170, d) by simp [Dk.create, hn, ha]]
        exact OpIs.same h 170)
      clear h hn ha hL hxn
      go_wp2_with fail
      go_ret
      exact HO.out
    | none =>
      have hne := h.at_none ha
      have hl := h.lookup_none hs hne
      obtain ⟨D, hown, hsz, hd⟩ := h.look
      have hlen : (Builtin.len_ #[120] 3 #[.map (some mb)]).run Try.prog w' = .ok (.int .i64 (L.length : Int)) w' := by
        have := hown.len (t := 120) Try.underlying120 3
        rw [hsz] at this
        exact this
      have hfl : d.files.length = L.length := by rw [← h.files, List.length_map]
      obtain ⟨n, hln⟩ : ∃ n, L.length = n := ⟨_, rfl⟩
      rw [hln] at hlen hfl
      have HC : Hid (nameOk nm.data.toList = true ∧ d.at nm.data.toList = none ∧ d.files.length = n) := Lib.hid ⟨hn, ha, hfl⟩
      have HNE := Lib.hid hne
      have H := Lib.hid h
      have HD := Lib.hid hd
      clear h hn ha hne hfl hd hsz hown
      by_cases hf : 4096 ≤ n
      · have hb : decide ((4096 : Int) ≤ (n : Int)) = true := by simp; omega
        have HO : Hid (OpIs w' S q (d.create nm.data.toList) (.returned (.int .i64 6)) w') := Lib.hid (by
          rw [show d.create nm.data.toList = (6, d) by simp [Dk.create, HC.out.1, HC.out.2.1, HC.out.2.2, hf]]
          exact OpIs.same H.out 6)
        go_wp2_with fail
        go_ret
        exact HO.out
      · have hb : decide ((4096 : Int) ≤ (n : Int)) = false := by simp; omega
        go_wp2_with fail
        refine (step_b H.out).mono ?_
        rintro e w1 ⟨kd, kp, fv', rfl, hkp, h1, ho1⟩
        obtain ⟨er, her⟩ : ∃ er, d.fate.1 = er := ⟨_, rfl⟩
        rw [her]
        have H1 := Lib.hid h1
        have HO1 := Lib.hid ho1
        have HE := Lib.hid her
        clear h1 ho1 hkp her hl hlen hb H HD c0
        go_upto_region 10 with fail
        obtain ⟨w2, hw2⟩ : ∃ w2 : World, w2 = w1.alloc (.cells #[.int .i64 kd, .int .i64 kp] 99) := ⟨_, rfl⟩
        obtain ⟨r, hr⟩ : ∃ r, r = w1.heap.size := ⟨_, rfl⟩
        have h2 : DiskIs w2 S q mb fv' L d.next := by rw [hw2]; exact H1.out.below ((Below.refl _ _).alloc (Nat.le_refl _) _)
        have ho2 : Only (fun k => k = q) w' w2 := by rw [hw2]; exact HO1.out.trans (only_alloc (fun k => k = q) _ _) (fun _ _ h => h)
        rw [← hw2, ← hr]
        clear hw2 hr H1 HO1
        have c0 : w2.cell? ⟨q, 0, none⟩ = some (.map (some mb)) := cell_of h2.head rfl
        have H2 := Lib.hid h2
        have HO2 := Lib.hid ho2
        clear h2 ho2
        by_cases h0 : er = 0
        · subst h0
          obtain ⟨D2, hown, hsz, hd⟩ := H2.out.look
          obtain ⟨w3, hw3⟩ : ∃ w3 : World, w3 = w2.alloc (.cells #[.slice none 0 0, .int .i64 0, .bool true, .bool false] 178) := ⟨_, rfl⟩
          have HOWN : Hid (w3.ownsMap Try.prog 9 ptrElem mb n D2) := Lib.hid (by rw [hw3, ← hln]; exact hown.alloc _)
          have HW3 := Lib.hid hw3
          have HD2 := Lib.hid hd
          clear hown hsz hd
          have hkey : keyOf Try.prog 9 (.string nm) = some (.string nm.data.toList) := WideMaps.keyOf_string_mk (P := Try.prog) Try.underlying9 hs
          have HKEY := Lib.hid hkey
          clear hkey
          go_wp2_with (at_mapUpdate; rw [← hw3]; refine wpList_mapUpdate_own _ rfl _ _ _ 120 rfl 9 176 (string_keyed Try.underlying9) Try.underlying120 ptrElem mb n D2 rfl HOWN.out (by unfold maxLen; omega) _ _ _ rfl rfl HKEY.out _ [] (ptrElem_mk _) ?_; intro w4 hown4 hg4; have HOWN4 := Lib.hid hown4; have HG4 := Lib.hid hg4; clear hown4 hg4)
          go_ret
          have := set_new HO2.out H2.out HD2.out HW3.out HG4.out HOWN4.out HNE.out HC.out.1 (by show d.files.length < 4096; rw [HC.out.2.2]; omega) (d := d) rfl
          simpa [Dk.create, HC.out.1, HC.out.2.1, HC.out.2.2, hf, HE.out, newF] using this
        · have hb0 : (er != 0) = true := by simpa using h0
          have HO : Hid (OpIs w' S q (d.create nm.data.toList) (.returned (.int .i64 er)) w2) := Lib.hid (by
            rw [show d.create nm.data.toList = (er, d.next) by simp [Dk.create, HC.out.1, HC.out.2.1, HC.out.2.2, hf, HE.out, h0]]
            exact OpIs.next HO2.out H2.out er)
          clear h0
          go_wp2_with fail
          go_ret
          exact HO.out
end Go.Proofs.Ytmkjejngnahpeaa
/- Disk: File, Read. -/
namespace Go.Proofs.Ytmkjejngnahpeaa
open Go Go.Maps Go.RowKit

def tellV (nm : ByteArray) (f : F0) : Value := .agg #[.string nm, .int .i64 f.bytes.length, .int .i64 f.lasts, .bool f.there, .bool f.named]
set_option maxRecDepth 100000 in
set_option maxHeartbeats 1000000 in
theorem tell_b {w : World} {x : Fl} (hx : FlAt w x) (nm : ByteArray) :
    Calls Try.prog 114 #[.string nm, .pointer (some ⟨x.blk, 0, none⟩)] w fun e w' => e = .returned (tellV nm x.f) ∧ Below w.heap.size w w' := by
  obtain ⟨oa, c, hbv, hnc⟩ := hx.row.shape
  have hxc := hx.cells
  have hlt : x.blk < w.heap.size := (Array.getElem?_eq_some_iff.1 hxc).1
  obtain ⟨n, hn⟩ : ∃ n, x.f.bytes.length = n := ⟨_, rfl⟩
  obtain ⟨l, hl⟩ : ∃ l, x.f.lasts = l := ⟨_, rfl⟩
  obtain ⟨th, hth⟩ : ∃ th, x.f.there = th := ⟨_, rfl⟩
  obtain ⟨nd, hnd⟩ : ∃ nd, x.f.named = nd := ⟨_, rfl⟩
  rw [hbv, hn, hl, hth, hnd] at hxc
  have HV : Hid (tellV nm x.f = .agg #[.string nm, .int .i64 n, .int .i64 l, .bool th, .bool nd]) := Lib.hid (by rw [tellV, hn, hl, hth, hnd])
  clear hn hl hth hnd hbv hnc hx
  go_enter Try.func114, Try.ntmps114
  go_upto_region 1 with fail
  obtain ⟨w1, hw1⟩ : ∃ w1 : World, w1 = w.alloc (.cells #[.string ⟨#[]⟩, .int .i64 0, .int .i64 0, .bool false, .bool false] 78) := ⟨_, rfl⟩
  obtain ⟨r, hr⟩ : ∃ r, r = w.heap.size := ⟨_, rfl⟩
  have hr1 : w1.heap[r]? = some (.cells #[.string ⟨#[]⟩, .int .i64 0, .int .i64 0, .bool false, .bool false] 78 (0, 0)) := by rw [hw1, hr]; exact alloc_cells _ _ _
  have hx1 : w1.heap[x.blk]? = some (.cells #[.slice oa n c, .int .i64 l, .bool th, .bool nd] 178 (0, 0)) := by rw [hw1]; exact (Below.heap_alloc _ _ _ hlt).trans hxc
  have HB1 : Hid (Below r w w1) := Lib.hid (by rw [hw1, hr]; exact (Below.refl _ _).alloc (Nat.le_refl _) _)
  rw [← hr]
  rw [← hw1]
  have HRR := Lib.hid hr
  clear hw1 hxc hr
  have k0 : w1.cell? ⟨x.blk, 0, none⟩ = some (.slice oa n c) := cell_of (w := w1) hx1 rfl
  have k1 : w1.cell? ⟨x.blk, 1, none⟩ = some (.int .i64 l) := cell_of (w := w1) hx1 rfl
  have k2 : w1.cell? ⟨x.blk, 2, none⟩ = some (.bool th) := cell_of (w := w1) hx1 rfl
  have k3 : w1.cell? ⟨x.blk, 3, none⟩ = some (.bool nd) := cell_of (w := w1) hx1 rfl
  have r0 : w1.cell? ⟨r, 0, none⟩ = some (.string ⟨#[]⟩) := cell_of (w := w1) hr1 rfl
  have z0 : w1.frozen? ⟨r, 0, none⟩ = false := free_of (w := w1) hr1 _
  have r1 : w1.cell? ⟨r, 1, none⟩ = some (.int .i64 0) := cell_of (w := w1) hr1 rfl
  have z1 : w1.frozen? ⟨r, 1, none⟩ = false := free_of (w := w1) hr1 _
  have r2 : w1.cell? ⟨r, 2, none⟩ = some (.int .i64 0) := cell_of (w := w1) hr1 rfl
  have z2 : w1.frozen? ⟨r, 2, none⟩ = false := free_of (w := w1) hr1 _
  have r3 : w1.cell? ⟨r, 3, none⟩ = some (.bool false) := cell_of (w := w1) hr1 rfl
  have z3 : w1.frozen? ⟨r, 3, none⟩ = false := free_of (w := w1) hr1 _
  have r4 : w1.cell? ⟨r, 4, none⟩ = some (.bool false) := cell_of (w := w1) hr1 rfl
  have z4 : w1.frozen? ⟨r, 4, none⟩ = false := free_of (w := w1) hr1 _
  have HR1 := Lib.hid hr1
  clear hr1 hx1
  go_region
  obtain ⟨w2, hw2⟩ : ∃ w2 : World, w2 = (((((w1.setCell ⟨r, 0, none⟩ (.string nm)).setCell ⟨r, 1, none⟩ (.int .i64 n)).setCell ⟨r, 2, none⟩ (.int .i64 l)).setCell ⟨r, 3, none⟩ (.bool th)).setCell ⟨r, 4, none⟩ (.bool nd)) := ⟨_, rfl⟩
  have hr2 : w2.heap[r]? = some (.cells #[.string nm, .int .i64 n, .int .i64 l, .bool th, .bool nd] 78 (0, 0)) := by
    rw [hw2]; exact heap_setCell_here _ (heap_setCell_here _ (heap_setCell_here _ (heap_setCell_here _ (heap_setCell_here _ HR1.out))))
  have hb2 : Below r w w2 := by
    rw [hw2]
    exact ((((HB1.out.setCell (p := ⟨r, 0, none⟩) (Nat.le_refl _) _).setCell (p := ⟨r, 1, none⟩) (Nat.le_refl _) _).setCell (p := ⟨r, 2, none⟩) (Nat.le_refl _) _).setCell (p := ⟨r, 3, none⟩) (Nat.le_refl _) _).setCell (p := ⟨r, 4, none⟩) (Nat.le_refl _) _
  try rw [← hw2]
  have HR2 := Lib.hid hr2
  have HB2 := Lib.hid hb2
  clear hw2 hr2 hb2 r0 r1 r2 r3 r4 z0 z1 z2 z3 z4 k0 k1 k2 k3
  go_wp2_with fail
  have s0 : w2.cell? ⟨r, 0, none⟩ = some (.string nm) := cell_of HR2.out rfl
  have s1 : w2.cell? ⟨r, 1, none⟩ = some (.int .i64 n) := cell_of HR2.out rfl
  have s2 : w2.cell? ⟨r, 2, none⟩ = some (.int .i64 l) := cell_of HR2.out rfl
  have s3 : w2.cell? ⟨r, 3, none⟩ = some (.bool th) := cell_of HR2.out rfl
  have s4 : w2.cell? ⟨r, 4, none⟩ = some (.bool nd) := cell_of HR2.out rfl
  refine bodyPost_ret (v := .agg #[.string nm, .int .i64 n, .int .i64 l, .bool th, .bool nd]) (by simp [results, Try.results114, go_sem, s0, s1, s2, s3, s4]) rfl ⟨by rw [HV.out], ?_⟩
  rw [← HRR.out]
  exact ⟨HB2.out.os, HB2.out.tape, HB2.out.output, HB2.out.size, HB2.out.block⟩
/-- how a file stands -/
def Dk.fileV (d : Dk) (nm : ByteArray) : Value × Int :=
  if nameOk nm.data.toList = false then (.agg #[.string ⟨#[]⟩, .int .i64 0, .int .i64 0, .bool false, .bool false], 2)
  else match d.at nm.data.toList with
    | none => (.agg #[.string ⟨#[]⟩, .int .i64 0, .int .i64 0, .bool false, .bool false], 171)
    | some f => (tellV nm f, 0)
set_option maxRecDepth 100000 in
set_option maxHeartbeats 1000000 in
theorem file_b {w : World} {S : Nat → Prop} {q : Nat} {d : Dk} (h : DiskAt w S q d) (nm : ByteArray) (hs : nm.size ≤ maxLen) :
    Calls Try.prog 62 #[.pointer (some ⟨q, 0, none⟩), .string nm] w fun e w' => e = .returned (.tuple #[(d.fileV nm).1, .int .i64 (d.fileV nm).2]) ∧ Below w.heap.size w w' := by
  obtain ⟨mb, fv, L, h⟩ := h
  go_enter Try.func62, Try.ntmps62
  go_upto_region 1 with fail
  obtain ⟨w1, hw1⟩ : ∃ w1 : World, w1 = w.alloc (.cells #[.string ⟨#[]⟩, .int .i64 0, .int .i64 0, .bool false, .bool false] 78) := ⟨_, rfl⟩
  obtain ⟨r, hr⟩ : ∃ r, r = w.heap.size := ⟨_, rfl⟩
  have hr1 : w1.heap[r]? = some (.cells #[.string ⟨#[]⟩, .int .i64 0, .int .i64 0, .bool false, .bool false] 78 (0, 0)) := by rw [hw1, hr]; exact alloc_cells _ _ _
  have HB1 : Hid (Below r w w1) := Lib.hid (by rw [hw1, hr]; exact (Below.refl _ _).alloc (Nat.le_refl _) _)
  have h1 : DiskIs w1 S q mb fv L d := h.below (by rw [← hr]; exact HB1.out)
  rw [← hr, ← hw1]
  have HRR := Lib.hid hr
  clear hw1 hr h
  have c0 : w1.cell? ⟨q, 0, none⟩ = some (.map (some mb)) := cell_of h1.head rfl
  go_wp2_with fail
  refine (asked_b h1 nm hs).mono ?_
  rintro e w' ⟨rfl, rfl⟩
  have r0 : w'.cell? ⟨r, 0, none⟩ = some (.string ⟨#[]⟩) := cell_of hr1 rfl
  have z0 : w'.frozen? ⟨r, 0, none⟩ = false := free_of hr1 _
  have r1 : w'.cell? ⟨r, 1, none⟩ = some (.int .i64 0) := cell_of hr1 rfl
  have z1 : w'.frozen? ⟨r, 1, none⟩ = false := free_of hr1 _
  have r2 : w'.cell? ⟨r, 2, none⟩ = some (.int .i64 0) := cell_of hr1 rfl
  have z2 : w'.frozen? ⟨r, 2, none⟩ = false := free_of hr1 _
  have r3 : w'.cell? ⟨r, 3, none⟩ = some (.bool false) := cell_of hr1 rfl
  have z3 : w'.frozen? ⟨r, 3, none⟩ = false := free_of hr1 _
  have r4 : w'.cell? ⟨r, 4, none⟩ = some (.bool false) := cell_of hr1 rfl
  have z4 : w'.frozen? ⟨r, 4, none⟩ = false := free_of hr1 _
  have HR1 := Lib.hid hr1
  clear hr1
  cases hn : nameOk nm.data.toList with
  | false =>
    have HV : Hid (d.fileV nm = (.agg #[.string ⟨#[]⟩, .int .i64 0, .int .i64 0, .bool false, .bool false], 2)) := Lib.hid (by simp [Dk.fileV, hn])
    rw [show askE nm.data.toList = 2 by simp [askE, hn]]
    clear h1 hn
    go_wp2_with fail
    obtain ⟨w2, hw2⟩ : ∃ w2 : World, w2 = (((((w'.setCell ⟨r, 0, none⟩ (.string ⟨#[]⟩)).setCell ⟨r, 1, none⟩ (.int .i64 0)).setCell ⟨r, 2, none⟩ (.int .i64 0)).setCell ⟨r, 3, none⟩ (.bool false)).setCell ⟨r, 4, none⟩ (.bool false)) := ⟨_, rfl⟩
    have hr2 : w2.heap[r]? = some (.cells #[.string ⟨#[]⟩, .int .i64 0, .int .i64 0, .bool false, .bool false] 78 (0, 0)) := by
      rw [hw2]; exact heap_setCell_here _ (heap_setCell_here _ (heap_setCell_here _ (heap_setCell_here _ (heap_setCell_here _ HR1.out))))
    have hb2 : Below r w w2 := by
      rw [hw2]
      exact (((((HB1.out.setCell (p := ⟨r, 0, none⟩) (Nat.le_refl _) _).setCell (p := ⟨r, 1, none⟩) (Nat.le_refl _) _).setCell (p := ⟨r, 2, none⟩) (Nat.le_refl _) _).setCell (p := ⟨r, 3, none⟩) (Nat.le_refl _) _).setCell (p := ⟨r, 4, none⟩) (Nat.le_refl _) _)
    rw [← hw2]
    have s0 : w2.cell? ⟨r, 0, none⟩ = some (.string ⟨#[]⟩) := cell_of hr2 rfl
    have s1 : w2.cell? ⟨r, 1, none⟩ = some (.int .i64 0) := cell_of hr2 rfl
    have s2 : w2.cell? ⟨r, 2, none⟩ = some (.int .i64 0) := cell_of hr2 rfl
    have s3 : w2.cell? ⟨r, 3, none⟩ = some (.bool false) := cell_of hr2 rfl
    have s4 : w2.cell? ⟨r, 4, none⟩ = some (.bool false) := cell_of hr2 rfl
    refine bodyPost_ret (v := .tuple #[.agg #[.string ⟨#[]⟩, .int .i64 0, .int .i64 0, .bool false, .bool false], .int .i64 2]) (by simp [results, Try.results62, go_sem, s0, s1, s2, s3, s4]) rfl ⟨by rw [HV.out], ?_⟩
    rw [← HRR.out]
    exact hb2
  | true =>
    rw [show askE nm.data.toList = 0 by simp [askE, hn]]
    cases ha : d.at nm.data.toList with
    | none =>
      have HV : Hid (d.fileV nm = (.agg #[.string ⟨#[]⟩, .int .i64 0, .int .i64 0, .bool false, .bool false], 171)) := Lib.hid (by simp [Dk.fileV, hn, ha])
      have hl := h1.lookup_none hs (h1.at_none ha)
      clear h1 hn ha
      go_wp2_with fail
      obtain ⟨w2, hw2⟩ : ∃ w2 : World, w2 = (((((w'.setCell ⟨r, 0, none⟩ (.string ⟨#[]⟩)).setCell ⟨r, 1, none⟩ (.int .i64 0)).setCell ⟨r, 2, none⟩ (.int .i64 0)).setCell ⟨r, 3, none⟩ (.bool false)).setCell ⟨r, 4, none⟩ (.bool false)) := ⟨_, rfl⟩
      have hr2 : w2.heap[r]? = some (.cells #[.string ⟨#[]⟩, .int .i64 0, .int .i64 0, .bool false, .bool false] 78 (0, 0)) := by
        rw [hw2]; exact heap_setCell_here _ (heap_setCell_here _ (heap_setCell_here _ (heap_setCell_here _ (heap_setCell_here _ HR1.out))))
      have hb2 : Below r w w2 := by
        rw [hw2]
        exact (((((HB1.out.setCell (p := ⟨r, 0, none⟩) (Nat.le_refl _) _).setCell (p := ⟨r, 1, none⟩) (Nat.le_refl _) _).setCell (p := ⟨r, 2, none⟩) (Nat.le_refl _) _).setCell (p := ⟨r, 3, none⟩) (Nat.le_refl _) _).setCell (p := ⟨r, 4, none⟩) (Nat.le_refl _) _)
      rw [← hw2]
      have s0 : w2.cell? ⟨r, 0, none⟩ = some (.string ⟨#[]⟩) := cell_of hr2 rfl
      have s1 : w2.cell? ⟨r, 1, none⟩ = some (.int .i64 0) := cell_of hr2 rfl
      have s2 : w2.cell? ⟨r, 2, none⟩ = some (.int .i64 0) := cell_of hr2 rfl
      have s3 : w2.cell? ⟨r, 3, none⟩ = some (.bool false) := cell_of hr2 rfl
      have s4 : w2.cell? ⟨r, 4, none⟩ = some (.bool false) := cell_of hr2 rfl
      refine bodyPost_ret (v := .tuple #[.agg #[.string ⟨#[]⟩, .int .i64 0, .int .i64 0, .bool false, .bool false], .int .i64 171]) (by simp [results, Try.results62, go_sem, s0, s1, s2, s3, s4]) rfl ⟨by rw [HV.out], ?_⟩
      rw [← HRR.out]
      exact hb2
    | some f =>
      obtain ⟨A, x, B, hL, rfl, hxn⟩ := h1.at_some ha
      have HV : Hid (d.fileV nm = (tellV nm x.f, 0)) := Lib.hid (by simp [Dk.fileV, hn, ha])
      have hl := h1.lookup_some (x := x) (by rw [hL]; simp) hs hxn
      have HX := Lib.hid (h1.each x (by rw [hL]; simp))
      clear h1 hn ha hL hxn
      go_wp2_with fail
      refine (tell_b HX.out nm).mono ?_
      rintro e w3 ⟨rfl, hb3⟩
      have hr3 : w3.heap[r]? = some (.cells #[.string ⟨#[]⟩, .int .i64 0, .int .i64 0, .bool false, .bool false] 78 (0, 0)) := (hb3.block r (Array.getElem?_eq_some_iff.1 HR1.out).1).trans HR1.out
      have HB3 : Hid (Below r w w3) := Lib.hid (HB1.out.trans (hb3.mono (Nat.le_of_lt (Array.getElem?_eq_some_iff.1 HR1.out).1)))
      obtain ⟨n, hn⟩ : ∃ n, x.f.bytes.length = n := ⟨_, rfl⟩
      obtain ⟨l, hl⟩ : ∃ l, x.f.lasts = l := ⟨_, rfl⟩
      obtain ⟨th, hth⟩ : ∃ th, x.f.there = th := ⟨_, rfl⟩
      obtain ⟨nd, hnd⟩ : ∃ nd, x.f.named = nd := ⟨_, rfl⟩
      have hT : tellV nm x.f = .agg #[.string nm, .int .i64 n, .int .i64 l, .bool th, .bool nd] := by rw [tellV, hn, hl, hth, hnd]
      rw [hT]
      have HT := Lib.hid hT
      clear hT hn hl hth hnd r0 r1 r2 r3 r4 z0 z1 z2 z3 z4 hb3
      have r0 : w3.cell? ⟨r, 0, none⟩ = some (.string ⟨#[]⟩) := cell_of hr3 rfl
      have z0 : w3.frozen? ⟨r, 0, none⟩ = false := free_of hr3 _
      have r1 : w3.cell? ⟨r, 1, none⟩ = some (.int .i64 0) := cell_of hr3 rfl
      have z1 : w3.frozen? ⟨r, 1, none⟩ = false := free_of hr3 _
      have r2 : w3.cell? ⟨r, 2, none⟩ = some (.int .i64 0) := cell_of hr3 rfl
      have z2 : w3.frozen? ⟨r, 2, none⟩ = false := free_of hr3 _
      have r3 : w3.cell? ⟨r, 3, none⟩ = some (.bool false) := cell_of hr3 rfl
      have z3 : w3.frozen? ⟨r, 3, none⟩ = false := free_of hr3 _
      have r4 : w3.cell? ⟨r, 4, none⟩ = some (.bool false) := cell_of hr3 rfl
      have z4 : w3.frozen? ⟨r, 4, none⟩ = false := free_of hr3 _
      go_wp2_with fail
      obtain ⟨w2, hw2⟩ : ∃ w2 : World, w2 = (((((w3.setCell ⟨r, 0, none⟩ (.string nm)).setCell ⟨r, 1, none⟩ (.int .i64 n)).setCell ⟨r, 2, none⟩ (.int .i64 l)).setCell ⟨r, 3, none⟩ (.bool th)).setCell ⟨r, 4, none⟩ (.bool nd)) := ⟨_, rfl⟩
      have hr2 : w2.heap[r]? = some (.cells #[.string nm, .int .i64 n, .int .i64 l, .bool th, .bool nd] 78 (0, 0)) := by
        rw [hw2]; exact heap_setCell_here _ (heap_setCell_here _ (heap_setCell_here _ (heap_setCell_here _ (heap_setCell_here _ hr3))))
      have hb2 : Below r w w2 := by
        rw [hw2]
        exact (((((HB3.out.setCell (p := ⟨r, 0, none⟩) (Nat.le_refl _) _).setCell (p := ⟨r, 1, none⟩) (Nat.le_refl _) _).setCell (p := ⟨r, 2, none⟩) (Nat.le_refl _) _).setCell (p := ⟨r, 3, none⟩) (Nat.le_refl _) _).setCell (p := ⟨r, 4, none⟩) (Nat.le_refl _) _)
      rw [← hw2]
      have s0 : w2.cell? ⟨r, 0, none⟩ = some (.string nm) := cell_of hr2 rfl
      have s1 : w2.cell? ⟨r, 1, none⟩ = some (.int .i64 n) := cell_of hr2 rfl
      have s2 : w2.cell? ⟨r, 2, none⟩ = some (.int .i64 l) := cell_of hr2 rfl
      have s3 : w2.cell? ⟨r, 3, none⟩ = some (.bool th) := cell_of hr2 rfl
      have s4 : w2.cell? ⟨r, 4, none⟩ = some (.bool nd) := cell_of hr2 rfl
      refine bodyPost_ret (v := .tuple #[.agg #[.string nm, .int .i64 n, .int .i64 l, .bool th, .bool nd], .int .i64 0]) (by simp [results, Try.results62, go_sem, s0, s1, s2, s3, s4]) rfl ⟨by rw [HV.out, HT.out], ?_⟩
      rw [← HRR.out]
      exact hb2
end Go.Proofs.Ytmkjejngnahpeaa
/- Disk: a copy of bytes; Read. -/
namespace Go.Proofs.Ytmkjejngnahpeaa
open Go Go.Maps Go.RowKit

theorem emptyRowU (w : World) (T : TypeId) (size : Nat) : hasRow (w.alloc (.cells #[] T)) w.heap.size T size (.slice (some ⟨w.heap.size, 0, none⟩) 0 0) 0 [] :=
  ⟨by simp, .inr ⟨_, 0, #[], (0, 0), rfl, Nat.le_refl _, heap_alloc_new _ _, Nat.le_refl _, Nat.zero_le _, by simp, fun j hj => by simp at hj, by simp⟩⟩
/-- v holds the bytes l, in a block that is new -/
def NewBytes (w w' : World) (v : Value) (l : List UInt8) : Prop := bytesAt w' v l ∧ (∀ k, v.ownBlock = some k → w.heap.size ≤ k) ∧ Below w.heap.size w w'
set_option maxRecDepth 100000 in
set_option maxHeartbeats 400000 in
theorem clone_b {w : World} {oa : Option Addr} {n c : Nat} {l : List UInt8} (hn : l.length = n) (h : rowAt w 5 1 (.slice oa n c) n (byteCells l)) (hm : n ≤ 1000000000) :
    Calls Try.prog 113 #[.slice oa n c] w fun e w' => ∃ v, e = .returned v ∧ NewBytes w w' v l := by
  cases oa with
  | none =>
    rcases h.2 with ⟨hv, h0⟩ | ⟨g, off, c, cur, fr, hv, _⟩
    · simp only [Value.slice.injEq] at hv
      obtain ⟨-, -, rfl⟩ := hv
      subst h0
      have hl : l = [] := List.eq_nil_of_length_eq_zero hn
      subst hl
      have hnil : ∀ W : World, (binOp .eql 79 (.slice none 0 0) (.slice none 0 0)).run Try.prog W = .ok (.bool true) W := fun W => by kernel_rfl
      have H := Lib.hid h
      clear h
      go_enter Try.func113, Try.ntmps113
      go_wp2_with fail
      go_ret
      exact ⟨_, rfl, H.out, fun k hk => by simp [Value.ownBlock] at hk, Below.refl _ _⟩
    · simp at hv
  | some ad =>
    have hnil : ∀ W : World, (binOp .eql 79 (.slice (some ad) n c) (.slice none 0 0)).run Try.prog W = .ok (.bool false) W := fun W => by kernel_rfl
    have HS : Hid (Src Try.prog (w.alloc (.cells #[] 5)) 1 79 (.slice (some ad) n c) n (byteCells l)) := Lib.hid (Src.of_row Try.underlying79 (h.kept (fun k hk => Below.heap_alloc _ _ k (h.lt k hk))) (byteCells_one _))
    clear h
    go_enter Try.func113, Try.ntmps113
    go_wp2_with (at_builtin; refine wpList_append_at _ rfl (.tmp 5) (.tmp 6) 79 79 rfl 5 (.int .u8 0) 1 1 Try.underlying79 info_u8 rfl _ 0 _ rfl (rowAt.of_row (emptyRowU w _ _)) _ n _ rfl HS.out (by unfold maxLen; omega) (by omega) ?_; intro v' w3 hr hg hown _; have HR := Lib.hid hr; have HG : Hid ((w.alloc (.cells #[] 5)).grownBy w3 (some w.heap.size)) := Lib.hid hg; have HOWN : Hid (v'.ownBlock = some w.heap.size ∨ v'.ownBlock = some (w.alloc (.cells #[] 5)).heap.size) := Lib.hid hown; clear hr hg hown)
    go_ret
    refine ⟨v', rfl, ?_, fun k hk => ?_, ?_⟩
    · have := HR.out
      rw [Nat.zero_add, List.nil_append, ← hn] at this
      exact this
    · have h1 := HOWN.out
      rw [hk] at h1
      simp at h1
      omega
    · exact ((Below.refl _ _).alloc (Nat.le_refl _) _).grown HG.out (by simp) (fun k hk => by simp at hk; omega)
theorem run_part (oa : Option Addr) (N c α E : Nat) (h1 : α ≤ E) (h2 : E ≤ c) (W : World) : (Instr.slice 79 (.slice oa N c) (some (.int .i64 (α : Int))) (some (.int .i64 (E : Int))) none).run Try.prog W = .ok (.slice (if c = α then oa else oa.map (·.add (α * 1))) (E - α) (c - α)) W := by
  have hs : (sizeOf 5).run Try.prog W = .ok 1 W := by kernel_rfl
  have he : Try.prog.elem 79 = 5 := by kernel_rfl
  rw [run_slice_lh (P := Try.prog) (w := W) 79 oa N c (by rw [he]; exact Try.underlying79) .i64 .i64 α E (by omega) (by omega) (by omega), he, hs]
  simp [Result.andThen, sliced]
theorem wrap_nat (x : Int) (n : Nat) (h : x = (n : Int)) (hn : n ≤ 1000000000) : IntKind.i64.wrap x = (n : Int) := by
  subst h
  simp [IntKind.wrap, IntKind.signed, IntKind.bits]
  omega
/-- what is read of a disk -/
def Dk.read (d : Dk) (s : List UInt8) (a n : Int) : List UInt8 × Int :=
  if nameOk s = false then ([], 2)
  else match d.find s with
    | none => ([], 171)
    | some f => if a < 0 ∨ (f.bytes.length : Int) < a ∨ n < 0 then ([], 4) else ((f.bytes.drop a.toNat).take (min n.toNat (f.bytes.length - a.toNat)), 0)
def ReadIs (w : World) (r : List UInt8 × Int) (e : Ending) (w' : World) : Prop := ∃ v, e = .returned (.tuple #[v, .int .i64 r.2]) ∧ NewBytes w w' v r.1
theorem ReadIs.none (w : World) (n : Int) : ReadIs w ([], n) (.returned (.tuple #[.slice none 0 0, .int .i64 n])) w :=
  ⟨_, rfl, ⟨by simp [byteCells], .inl ⟨rfl, rfl⟩⟩, fun k hk => by simp [Value.ownBlock] at hk, Below.refl _ _⟩
set_option maxRecDepth 100000 in
set_option maxHeartbeats 1000000 in
theorem read_b {w : World} {S : Nat → Prop} {q : Nat} {d : Dk} (h : DiskAt w S q d) (nm : ByteArray) (hs : nm.size ≤ maxLen) (a n : Int) (ha : a ≤ 9223372036854775807) (hn63 : n ≤ 9223372036854775807) :
    Calls Try.prog 42 #[.pointer (some ⟨q, 0, none⟩), .string nm, .int .i64 a, .int .i64 n] w fun e w' => ReadIs w (d.read nm.data.toList a n) e w' := by
  obtain ⟨mb, fv, L, h⟩ := h
  go_enter Try.func42, Try.ntmps42
  go_wp2_with fail
  refine (find_b h nm hs).mono ?_
  rintro e w' ⟨hF, rfl⟩
  rcases hF with ⟨hn, rfl⟩ | ⟨hn, hf, rfl⟩ | ⟨hn, A, x, B, rfl, hxn, hxt, hf, rfl⟩
  · have HO : Hid (ReadIs w' (d.read nm.data.toList a n) (.returned (.tuple #[.slice none 0 0, .int .i64 2])) w') := Lib.hid (by
      rw [show d.read nm.data.toList a n = ([], 2) by simp [Dk.read, hn]]
      exact ReadIs.none w' 2)
    clear h hn
    go_wp2_with fail
    go_ret2
    exact HO.out
  · have HO : Hid (ReadIs w' (d.read nm.data.toList a n) (.returned (.tuple #[.slice none 0 0, .int .i64 171])) w') := Lib.hid (by
      rw [show d.read nm.data.toList a n = ([], 171) by simp [Dk.read, hn, hf]]
      exact ReadIs.none w' 171)
    clear h hn hf
    go_wp2_with fail
    go_ret2
    exact HO.out
  · have hx := h.each x (by simp)
    obtain ⟨oa, c, hbv, hnc⟩ := hx.row.shape
    obtain ⟨N, hnn⟩ : ∃ N, x.f.bytes.length = N := ⟨_, rfl⟩
    have hsz : N ≤ 16777216 := by rw [← hnn]; exact hx.size
    have hxc := hx.cells
    have hxr := hx.row
    rw [hbv, hnn] at hxc hxr
    rw [hnn] at hnc
    have k0 : w'.cell? ⟨x.blk, 0, none⟩ = some (.slice oa N c) := cell_of hxc rfl
    by_cases hbad : a < 0 ∨ (N : Int) < a ∨ n < 0
    · have HO : Hid (ReadIs w' (d.read nm.data.toList a n) (.returned (.tuple #[.slice none 0 0, .int .i64 4])) w') := Lib.hid (by
        rw [show d.read nm.data.toList a n = ([], 4) by simp [Dk.read, hn, hf, hnn, hbad]]
        exact ReadIs.none w' 4)
      clear h hn hf hx hxc hxr hbv
      by_cases e1 : a < 0
      · go_wp2_with fail
        go_ret2
        exact HO.out
      · by_cases e2 : (N : Int) < a
        · go_wp2_with fail
          go_ret2
          exact HO.out
        · have e3 : n < 0 := by omega
          go_wp2_with fail
          go_ret2
          exact HO.out
    · obtain ⟨α, rfl⟩ : ∃ α : Nat, a = (α : Int) := ⟨a.toNat, by omega⟩
      obtain ⟨ν, rfl⟩ : ∃ ν : Nat, n = (ν : Int) := ⟨n.toNat, by omega⟩
      have hαN : α ≤ N := by omega
      have HRD : Hid (d.read nm.data.toList α ν = ((x.f.bytes.drop α).take (min ν (N - α)), 0)) := Lib.hid (by simp [Dk.read, hn, hf, hnn]; omega)
      have d1 : decide ((α : Int) < 0) = false := by simp
      have d2 : decide ((N : Int) < (α : Int)) = false := by simp; omega
      have d3 : decide ((ν : Int) < 0) = false := by simp
      have HXR := Lib.hid hxr
      have HNN := Lib.hid hnn
      clear h hn hf hx hxc hxr hbv hnn hbad
      go_upto_region 6 with fail
      obtain ⟨M, hM⟩ : ∃ M, M = N - α := ⟨_, rfl⟩
      have hw1 : IntKind.i64.wrap ((N : Int) - (α : Int)) = (M : Int) := wrap_nat _ _ (by omega) (by omega)
      obtain ⟨K, hK⟩ : ∃ K, K = min ν M := ⟨_, rfl⟩
      obtain ⟨E, hE⟩ : ∃ E, E = α + K := ⟨_, rfl⟩
      have hw2 : IntKind.i64.wrap ((α : Int) + (K : Int)) = (E : Int) := wrap_nat _ _ (by omega) (by omega)
      obtain ⟨oa1, hoa1⟩ : ∃ o : Option Addr, o = if c = α then oa else oa.map (·.add (α * 1)) := ⟨_, rfl⟩
      obtain ⟨c1, hc1⟩ : ∃ c1, c1 = c - α := ⟨_, rfl⟩
      have hsl : ∀ W : World, (Instr.slice 79 (.slice oa N c) (some (.int .i64 (α : Int))) (some (.int .i64 (E : Int))) none).run Try.prog W = .ok (.slice oa1 K c1) W := fun W => by
        rw [run_part oa N c α E (by omega) (by omega) W, hoa1, hc1, show E - α = K by omega]
      have hrow : rowAt w' 5 1 (.slice oa1 K c1) K (byteCells ((x.f.bytes.drop α).take K)) := by
        have h1 := HXR.out.sub α E c (by omega) (by omega) (by omega) (Nat.le_refl _)
        rw [show E - α = K by omega, ← hoa1, ← hc1] at h1
        have e : ((byteCells x.f.bytes).drop (α * 1)).take (K * 1) = byteCells ((x.f.bytes.drop α).take K) := by simp [byteCells, List.map_drop, List.map_take]
        rw [e] at h1
        exact h1
      have hKl : ((x.f.bytes.drop α).take K).length = K := by rw [List.length_take, List.length_drop, HNN.out]; omega
      have HROW := Lib.hid hrow
      have HKL := Lib.hid hKl
      have HRK : Hid (d.read nm.data.toList α ν = ((x.f.bytes.drop α).take K, 0)) := Lib.hid (by rw [HRD.out, ← hM, hK])
      have hKb : K ≤ 1000000000 := by omega
      have hcl : Calls Try.prog 113 #[.slice oa1 K c1] w'.drew fun e w'' => ∃ v, e = .returned v ∧ NewBytes w' w'' v ((x.f.bytes.drop α).take K) := by
        refine (clone_b (w := w'.drew) hKl hrow hKb).mono ?_
        rintro e w'' ⟨v, rfl, h1, h2, h3⟩
        exact ⟨v, rfl, h1, h2, ⟨h3.os, h3.tape, h3.output, h3.size, h3.block⟩⟩
      have HCL := Lib.hid hcl
      clear hoa1 hc1 hrow hKl hE hcl
      by_cases hk : M < ν
      · have hk1 : (K : Int) = (M : Int) := by omega
        rw [hk1] at hw2
        clear hM hK hk1
        go_region_law (go_simp; go_at_call 113; refine HCL.out.mono ?_; rintro e w2 ⟨v, rfl, hnb⟩; have HNB := Lib.hid hnb; clear hnb)
        all_goals go_wp2_with fail
        all_goals go_ret2
        all_goals exact ⟨v, by rw [HRK.out]; rfl, by rw [HRK.out]; exact HNB.out⟩
      · have hk1 : (K : Int) = (ν : Int) := by omega
        rw [hk1] at hw2
        clear hM hK hk1
        go_region_law (go_simp; go_at_call 113; refine HCL.out.mono ?_; rintro e w2 ⟨v, rfl, hnb⟩; have HNB := Lib.hid hnb; clear hnb)
        all_goals go_wp2_with fail
        all_goals go_ret2
        all_goals exact ⟨v, by rw [HRK.out]; rfl, by rw [HRK.out]; exact HNB.out⟩
end Go.Proofs.Ytmkjejngnahpeaa
