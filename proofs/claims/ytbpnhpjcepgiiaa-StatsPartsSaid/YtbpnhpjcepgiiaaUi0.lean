/- Stats: what is told: cells of six. -/
import Derived.Test.YtbpnhpjcepgiiaaUh
namespace Go.Proofs.Ytbpnhpjcepgiiaa
open Go.RowKit Fl
/-- what is told, as a value -/
def Ta.told (t : Ta) (sp : Nat) : Value := .agg #[.int .i64 t.n, .float .f64 t.sum, .float .f64 t.mean, .float .f64 sp, .float .f64 t.least, .float .f64 t.greatest]

theorem _root_.Go.RowKit.Below.set1 {n : Nat} {w w' : World} (h : Below n w w') (a : Addr) (v : Value) (ha : n ≤ a.block) : Below n w (w'.setCell a v) :=
  ⟨h.os, h.tape, h.output, by simpa [World.setCell] using h.size, fun k hk => by
    show (w'.heap.modify a.block _)[k]? = _
    rw [Array.getElem?_modify, if_neg (by omega)]
    exact h.block k hk⟩
theorem _root_.Go.RowKit.Below.set6 {n : Nat} {w w' : World} (h : Below n w w') {A : Nat} {a b c d e f : Value} (ha : n ≤ A) :
    Below n w ((((((w'.setCell ⟨A, 0, none⟩ a).setCell ⟨A, 1, none⟩ b).setCell ⟨A, 2, none⟩ c).setCell ⟨A, 3, none⟩ d).setCell ⟨A, 4, none⟩ e).setCell ⟨A, 5, none⟩ f) :=
  ((((((h.set1 _ _ ha).set1 _ _ ha).set1 _ _ ha).set1 _ _ ha).set1 _ _ ha).set1 _ _ ha)
theorem setc0 {W : World} {A : Nat} {a b c d e f : Value} {T : TypeId} (h : W.heap[A]? = some (.cells #[a, b, c, d, e, f] T (0, 0))) (x : Value) : (W.setCell ⟨A, 0, none⟩ x).heap[A]? = some (.cells #[x, b, c, d, e, f] T (0, 0)) := by
  show (W.heap.modify A _)[A]? = _
  rw [Array.getElem?_modify, if_pos rfl, h]
  rfl
theorem setc1 {W : World} {A : Nat} {a b c d e f : Value} {T : TypeId} (h : W.heap[A]? = some (.cells #[a, b, c, d, e, f] T (0, 0))) (x : Value) : (W.setCell ⟨A, 1, none⟩ x).heap[A]? = some (.cells #[a, x, c, d, e, f] T (0, 0)) := by
  show (W.heap.modify A _)[A]? = _
  rw [Array.getElem?_modify, if_pos rfl, h]
  rfl
theorem setc2 {W : World} {A : Nat} {a b c d e f : Value} {T : TypeId} (h : W.heap[A]? = some (.cells #[a, b, c, d, e, f] T (0, 0))) (x : Value) : (W.setCell ⟨A, 2, none⟩ x).heap[A]? = some (.cells #[a, b, x, d, e, f] T (0, 0)) := by
  show (W.heap.modify A _)[A]? = _
  rw [Array.getElem?_modify, if_pos rfl, h]
  rfl
theorem setc3 {W : World} {A : Nat} {a b c d e f : Value} {T : TypeId} (h : W.heap[A]? = some (.cells #[a, b, c, d, e, f] T (0, 0))) (x : Value) : (W.setCell ⟨A, 3, none⟩ x).heap[A]? = some (.cells #[a, b, c, x, e, f] T (0, 0)) := by
  show (W.heap.modify A _)[A]? = _
  rw [Array.getElem?_modify, if_pos rfl, h]
  rfl
theorem setc4 {W : World} {A : Nat} {a b c d e f : Value} {T : TypeId} (h : W.heap[A]? = some (.cells #[a, b, c, d, e, f] T (0, 0))) (x : Value) : (W.setCell ⟨A, 4, none⟩ x).heap[A]? = some (.cells #[a, b, c, d, x, f] T (0, 0)) := by
  show (W.heap.modify A _)[A]? = _
  rw [Array.getElem?_modify, if_pos rfl, h]
  rfl
theorem setc5 {W : World} {A : Nat} {a b c d e f : Value} {T : TypeId} (h : W.heap[A]? = some (.cells #[a, b, c, d, e, f] T (0, 0))) (x : Value) : (W.setCell ⟨A, 5, none⟩ x).heap[A]? = some (.cells #[a, b, c, d, e, x] T (0, 0)) := by
  show (W.heap.modify A _)[A]? = _
  rw [Array.getElem?_modify, if_pos rfl, h]
  rfl
theorem set6_at {W : World} {A : Nat} {a b c d e f a' b' c' d' e' f' : Value} {T : TypeId} (h : W.heap[A]? = some (.cells #[a, b, c, d, e, f] T (0, 0))) :
    ((((((W.setCell ⟨A, 0, none⟩ a').setCell ⟨A, 1, none⟩ b').setCell ⟨A, 2, none⟩ c').setCell ⟨A, 3, none⟩ d').setCell ⟨A, 4, none⟩ e').setCell ⟨A, 5, none⟩ f').heap[A]? = some (.cells #[a', b', c', d', e', f'] T (0, 0)) :=
  setc5 (setc4 (setc3 (setc2 (setc1 (setc0 h a') b') c') d') e') f'
theorem cells6 {W : World} {A : Nat} {a b c d e f : Value} {T : TypeId} (h : W.heap[A]? = some (.cells #[a, b, c, d, e, f] T (0, 0))) :
    W.cell? ⟨A, 0, none⟩ = some a ∧ W.cell? ⟨A, 1, none⟩ = some b ∧ W.cell? ⟨A, 2, none⟩ = some c ∧ W.cell? ⟨A, 3, none⟩ = some d ∧ W.cell? ⟨A, 4, none⟩ = some e ∧ W.cell? ⟨A, 5, none⟩ = some f ∧ ∀ k, W.frozen? ⟨A, k, none⟩ = false := by
  refine ⟨?_, ?_, ?_, ?_, ?_, ?_, fun k => ?_⟩ <;> simp [World.cell?, World.frozen?, h]
end Go.Proofs.Ytbpnhpjcepgiiaa
