/- General laws of my own: great structs and arrays taken whole: alloc, load, store. No program in sight. -/
import Derived.Test.YtbpnhpjcepgiiaaKit
namespace Go.Proofs.Ytbpnhpjcepgiiaa
open Go Go.RowKit

theorem run_storeVar_at {P : Program} (w : World) (ty t : TypeId) (g off : Nat) (v : Value) (cur : Array Value) (fr : Nat × Nat) (hg : w.heap[g]? = some (.cells cur t fr)) (hfr : freeRow fr cur.size)
    (hi : (P.info? ty).map (·.size) = some v.cells.size) (hfit : off + v.cells.size ≤ cur.size) (h1 : ∀ u ∈ v.cells.toList, u.oneCell' = true) :
    (storeVar ty ⟨g, off, none⟩ v).run P w = .ok () (w.setRow g (cur.toList.take off ++ v.cells.toList ++ cur.toList.drop (off + v.cells.size)).toArray) := by
  have hst := run_storeCells_fr P g off t fr v.cells.toList 0 cur w hg hfr (by simpa using hfit) h1
  simp only [Nat.add_zero, Array.length_toList] at hst
  cases hq : P.info? ty with
  | none => simp [hq] at hi
  | some i =>
    have hs : i.size = v.cells.size := by simpa [hq] using hi
    simp only [storeVar, sizeOf, typeInfo, program, Sem.bind, bind]
    simp [Sem.run, hq, hs, hst, Sem.bind, pure]

theorem wpList_alloc_row {P : Program} (w : World) {ops : Array Oper} {rest : List Oper} {o : Oper} {a : Act} {Q : Exit → Act → World → Prop} (hgd : o.guard = none) (ty : TypeId) (ho : o.op = .alloc ty)
    (Z : Array Value) (hz : (P.info? ty).map (fun i => i.zero.map Value.cells) = some (some Z))
    (h : wpList P ops Q rest (a.put o.dst (.pointer (some ⟨w.heap.size, 0, none⟩))) (w.alloc (.cells Z ty))) : wpList P ops Q (o :: rest) a w := by
  refine wpList_plain hgd fun K hK' => ?_
  cases hq : P.info? ty with
  | none => simp [hq] at hz
  | some i =>
    obtain ⟨z, hs, rfl⟩ : ∃ z, i.zero = some z ∧ z.cells = Z := by simpa [hq] using hz
    unfold Oper.wp
    simp [execOp, ho, Instr.alloc, zeroValue, typeInfo, hq, hs, newVar, newRow, Result.andThen]
    exact hK' _ _ h

theorem wpList_store_row {P : Program} (w : World) {ops : Array Oper} {rest : List Oper} {o : Oper} {a : Act} {Q : Exit → Act → World → Prop} (hgd : o.guard = none) (ty : TypeId) (x y : Operand) (ho : o.op = .store ty x y)
    (g off : Nat) (hx : a.eval x = .pointer (some ⟨g, off, none⟩)) (v : Value) (hy : a.eval y = v) (t : TypeId) (cur : Array Value) (fr : Nat × Nat) (hg : w.heap[g]? = some (.cells cur t fr)) (hfr : freeRow fr cur.size)
    (hi : (P.info? ty).map (·.size) = some v.cells.size) (hfit : off + v.cells.size ≤ cur.size) (h1 : ∀ u ∈ v.cells.toList, u.oneCell' = true)
    (h : wpList P ops Q rest (a.put o.dst undef) (w.setRow g (cur.toList.take off ++ v.cells.toList ++ cur.toList.drop (off + v.cells.size)).toArray)) : wpList P ops Q (o :: rest) a w := by
  refine wpList_plain hgd fun K hK' => ?_
  have hr := run_storeVar_at (P := P) w ty t g off v cur fr hg hfr hi hfit h1
  unfold Oper.wp
  simp [execOp, ho, hx, hy, Instr.storeAt, Instr.sureAddr, hr, Result.andThen]
  exact hK' _ _ (by simpa only [List.append_assoc] using h)

theorem setRow_alloc_new (w : World) (z c : Array Value) (t : TypeId) : (w.alloc (.cells z t)).setRow w.heap.size c = w.alloc (.cells c t) := by
  unfold World.setRow
  have hm : ∀ (a : Array Obj) (x : Obj) (f : Obj → Obj), (a.push x).modify a.size f = a.push (f x) := by
    intro a x f
    apply Array.ext
    · simp
    · intro i h1 h2
      simp only [Array.getElem_modify, Array.getElem_push]
      by_cases h : a.size = i
      · subst h
        simp
      · have hi : i < a.size := by simp at h1; omega
        simp [h, hi]
  show ({ w.alloc (.cells z t) with heap := (w.heap.push (.cells z t)).modify w.heap.size _ } : World) = _
  rw [hm]
  rfl
end Go.Proofs.Ytbpnhpjcepgiiaa
