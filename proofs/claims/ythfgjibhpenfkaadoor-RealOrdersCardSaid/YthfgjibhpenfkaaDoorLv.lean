/- Real: works() of law03. -/
import Derived.Test.YthfgjibhpenfkaaDoorRg
import Derived.Test.YthfgjibhpenfkaaDoorRi
import Derived.Test.YthfgjibhpenfkaaDoorRk
import Derived.Test.YthfgjibhpenfkaaDoorLu
namespace Go.Proofs.YthfgjibhpenfkaaDoor
open Go.RowKit Fl

theorem cell_lt {w : World} {a : Addr} {v : Value} (h : w.cell? a = some v) : a.block < w.heap.size := by
  rcases Nat.lt_or_ge a.block w.heap.size with h' | h'
  · exact h'
  · simp [World.cell?, Array.getElem?_eq_none h'] at h
theorem alloc_here (w : World) (o : Obj) : (w.alloc o).heap[w.heap.size]? = some o := by
  show (w.heap.push o)[w.heap.size]? = some o
  exact Array.getElem?_push_size
theorem below_alloc (w : World) (o : Obj) : Below w.heap.size w (w.alloc o) := (Below.refl _ w).alloc (Nat.le_refl _) o
set_option maxRecDepth 100000 in
set_option maxHeartbeats 1000000 in
theorem works_any (w : World) (ht : Pow10 w) : Calls Tryd.prog 11 #[] w fun e w' => e = .returned (.bool true) ∧ Below w.heap.size w w' := by
  have o1 : (FloatKind.f64.format.order 4607182418800017408 4607182418800017408 == some .eq) = true := by decide +kernel
  have o3 : (FloatKind.f64.format.order 4613937818241073152 4613937818241073152 == some .eq) = true := by decide +kernel
  have o6 : (FloatKind.f64.format.order 4618441417868443648 4618441417868443648 == some .eq) = true := by decide +kernel
  have hk : ∀ W : World, (Op.equalIn 10000 31 (.agg #[.int .u8 191, .int .u8 240, .int .u8 0, .int .u8 0, .int .u8 0, .int .u8 0, .int .u8 0, .int .u8 0]) (.agg #[.int .u8 191, .int .u8 240, .int .u8 0, .int .u8 0, .int .u8 0, .int .u8 0, .int .u8 0, .int .u8 0])).run Tryd.prog W = .ok true W := fun W => by kernel_rfl
  go_enter Tryd.func11, Tryd.ntmps11
  go_wp2_with fail
  obtain ⟨w0, hw0⟩ : ∃ w0 : World, w0 = w.alloc (.cells #[.float .f64 4613937818241073152, .float .f64 4607182418800017408, .float .f64 4611686018427387904] 26) := ⟨_, rfl⟩
  have hb0 : Below w.heap.size w w0 := by rw [hw0]; exact below_alloc _ _
  have hh0 : w0.heap[w.heap.size]? = some (.cells #[.float .f64 4613937818241073152, .float .f64 4607182418800017408, .float .f64 4611686018427387904] 26 (0, 0)) := by rw [hw0]; exact alloc_here _ _
  rw [← hw0]
  clear hw0
  refine (sort_3 w.heap.size w0 hh0).mono ?_
  rintro e w1 ⟨g', cap, rfl, c0, c2, hb1⟩
  have hb1' : Below w.heap.size w w1 := hb0.trans (hb1.mono hb0.size)
  go_wp2_with fail
  refine (read_3 _).mono ?_
  rintro e w' ⟨rfl, rfl⟩
  go_wp2_with fail
  have ht1 := pow10_stays ht hb1'
  have g1 : g' < w1.heap.size := cell_lt c0
  have z1 := hb1'.size
  refine (key_1 w1).mono ?_
  rintro e w2 ⟨rfl, hb2⟩
  have ht2 := pow10_stays ht1 hb2
  have hb2' : Below w.heap.size w w2 := hb1'.trans (hb2.mono hb1'.size)
  have d0 : w2.cell? ⟨g', 0, none⟩ = _ := (hb2.cell (p := ⟨g', 0, none⟩) g1).trans c0
  have d2 : w2.cell? ⟨g', 2, none⟩ = _ := (hb2.cell (p := ⟨g', 2, none⟩) g1).trans c2
  clear c0 c2 hb1 hh0 hb0 hb1' ht ht1
  go_wp2_with fail
  refine (num_any _ _).mono ?_
  rintro e w' ⟨rfl, rfl⟩
  go_wp2_with fail
  refine (num_any _ _).mono ?_
  rintro e w' ⟨rfl, rfl⟩
  go_wp2_with fail
  refine (text_34 _ ht2).mono ?_
  rintro e w3 ⟨rfl, hb3⟩
  have hb3' : Below w.heap.size w w3 := hb2'.trans (hb3.mono hb2'.size)
  clear d0 d2 hb3 hb2
  go_wp2_with fail
  go_ret
  exact ⟨rfl, hb3'⟩
end Go.Proofs.YthfgjibhpenfkaaDoor
