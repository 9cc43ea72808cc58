/- Real: three floats in order. -/
import Derived.Test.YthfgjibhpenfkaaDoorRc
namespace Go.Proofs.YthfgjibhpenfkaaDoor
open Go.RowKit Fl Go.Shelf

def d3 : Array W64 := #[⟨4613937818241073152, by decide⟩, ⟨4607182418800017408, by decide⟩, ⟨4611686018427387904, by decide⟩]
theorem d3_sorted : ((Sort.pdq (ltOf cmpW) d3 0 d3.size (Lib.bitLen d3.size) true true)[0]!).1 = 4607182418800017408 ∧ ((Sort.pdq (ltOf cmpW) d3 0 d3.size (Lib.bitLen d3.size) true true)[2]!).1 = 4613937818241073152 := by decide +kernel
theorem sort_3 (g : Nat) (w : World) (h : w.heap[g]? = some (.cells #[.float .f64 4613937818241073152, .float .f64 4607182418800017408, .float .f64 4611686018427387904] 26 (0, 0))) :
    Calls Tryd.prog 8 #[.slice (some ⟨g, 0, none⟩) 3 3] w fun e w' => ∃ g' cap, e = .returned (.tuple #[.slice (some ⟨g', 0, none⟩) 3 cap, .int .i64 0]) ∧ w'.cell? ⟨g', 0, none⟩ = some (.float .f64 4607182418800017408) ∧ w'.cell? ⟨g', 2, none⟩ = some (.float .f64 4613937818241073152) ∧ Below w.heap.size w w' := by
  have hr : RowF w ⟨g, 0, none⟩ d3 := ⟨fun j v hv => by
    have h3 : j < 3 := (List.getElem?_eq_some_iff.1 hv).1
    have : j = 0 ∨ j = 1 ∨ j = 2 := by omega
    rcases this with rfl | rfl | rfl <;> (obtain rfl : v = _ := (Option.some.inj hv).symm; simp [Addr.add, World.cell?, h]; try rfl)⟩
  refine (sort_b ⟨g, 0, none⟩ 3 d3 w hr (by decide) (by decide)).mono ?_
  rintro e w' ⟨g', cap, d', _, rfl, hs, hh, _, hb⟩
  have hsz : d'.size = 3 := hs.1.1
  have e0 := (hh 0 (by omega)).1
  have e2 := (hh 2 (by omega)).1
  rw [Nat.zero_add] at e0 e2
  unfold encW at e0 e2
  rw [hs.2.2, d3_sorted.1] at e0
  rw [hs.2.2, d3_sorted.2] at e2
  exact ⟨g', cap, rfl, e0, e2, hb⟩
end Go.Proofs.YthfgjibhpenfkaaDoor
