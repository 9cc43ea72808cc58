/- Rows: laws of rows by their types. -/
import Derived.Test.YtbpnhpjcepgiiaaKit
import Derived.Test.YtbpnhpjcepgiiaaQs
namespace Go.Proofs.Ytbpnhpjcepgiiaa
open Go.RowKit
theorem hasRow.neT {w : World} {base : Nat} {e : TypeId} {size : Nat} {v : Value} {n : Nat} {xs : List Value} {q : Nat} {c : Array Value} {T : TypeId} {fr : Nat × Nat} (h : hasRow w base e size v n xs) (hq : w.heap[q]? = some (.cells c T fr)) (hne : e ≠ T) : v.ownBlock ≠ some q := by
  obtain ⟨_, ⟨rfl, _⟩ | ⟨g, cap, cur, fr', rfl, _, hg, _⟩⟩ := h
  · intro h; cases h
  · intro h
    obtain rfl : g = q := by simpa [Value.ownBlock] using h
    rw [hg] at hq
    simp only [Option.some.injEq, Obj.cells.injEq] at hq
    exact hne hq.2.1

theorem rows_ne {w : World} {B B' : Nat} {e e' : TypeId} {size size' : Nat} {v v' : Value} {n n' : Nat} {xs xs' : List Value} (h : hasRow w B e size v n xs) (h' : hasRow w B' e' size' v' n' xs') (hne : e ≠ e') : v.ownBlock = none ∨ v.ownBlock ≠ v'.ownBlock := by
  obtain ⟨_, ⟨rfl, _⟩ | ⟨ga, ca, cua, fra, rfl, _, hga, _⟩⟩ := h'
  · by_cases hn : v.ownBlock = none
    · exact .inl hn
    · exact .inr hn
  · exact .inr (h.neT hga hne)
theorem one_of_row {w : World} {B : Nat} {e : TypeId} {size : Nat} {v : Value} {n : Nat} {xs : List Value} (h : hasRow w B e size v n xs) : v.oneCell' = true := by
  obtain ⟨_, ⟨rfl, _⟩ | ⟨g, c, cu, fr, rfl, _⟩⟩ := h <;> rfl
theorem row_form {w : World} {B : Nat} {e : TypeId} {size : Nat} {v : Value} {n : Nat} {xs : List Value} (h : hasRow w B e size v n xs) (hn : n ≠ 0) : ∃ g cap, v = .slice (some ⟨g, 0, none⟩) n cap := by
  obtain ⟨_, ⟨_, h0⟩ | ⟨g, c, cu, fr, rfl, _⟩⟩ := h
  · exact absurd h0 hn
  · exact ⟨g, c, rfl⟩
theorem emptyRow (w : World) (T : TypeId) (size : Nat) : hasRow (w.alloc (.cells #[] T)) w.heap.size T size (.slice (some ⟨w.heap.size, 0, none⟩) 0 0) 0 [] :=
  ⟨by simp, .inr ⟨_, 0, #[], (0, 0), rfl, Nat.le_refl _, heap_alloc_new _ _, Nat.le_refl _, Nat.zero_le _, by simp, fun j hj => by simp at hj, by simp⟩⟩
theorem row_any {w : World} {B : Nat} {e : TypeId} {size : Nat} {v : Value} {n : Nat} {xs : List Value} (h : hasRow w B e size v n xs) : ∃ oa cap, v = .slice oa n cap := by
  obtain ⟨_, ⟨rfl, rfl⟩ | ⟨g, c, cu, fr, rfl, _⟩⟩ := h
  · exact ⟨_, _, rfl⟩
  · exact ⟨_, _, rfl⟩
theorem row_some {w : World} {B : Nat} {e : TypeId} {size : Nat} {oa : Option Addr} {cap n : Nat} {xs : List Value} (h : hasRow w B e size (.slice oa n cap) n xs) (hn : 0 < n) : ∃ g, oa = some ⟨g, 0, none⟩ ∧ n ≤ cap ∧ ∀ j u, xs[j]? = some u → w.cell? ⟨g, j, none⟩ = some u := by
  obtain ⟨_, ⟨_, h0⟩ | ⟨g, c, cu, fr, hv, _, hg, hc, _, hs, _, ht⟩⟩ := h
  · omega
  · simp only [Value.slice.injEq] at hv
    obtain ⟨rfl, -, rfl⟩ := hv
    refine ⟨g, rfl, hc, fun j u hj => ?_⟩
    rw [cell_of_row w g j _ _ _ hg]
    rw [← ht] at hj
    rw [List.getElem?_take] at hj
    split at hj
    · simpa using hj
    · cases hj
end Go.Proofs.Ytbpnhpjcepgiiaa
