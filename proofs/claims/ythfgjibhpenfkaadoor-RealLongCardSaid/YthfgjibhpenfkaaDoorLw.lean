/- RealLong: its walk. -/
import Derived.Test.YthfgjibhpenfkaaDoorLv
import Derived.Deep.OwnRows
namespace Go.Proofs.YthfgjibhpenfkaaDoor
open Go.RowKit Fl

theorem made_at (z : Value) (n j : Nat) (hj : j < n) : (madeCells #[z] n)[j]? = some z := by
  simp [madeCells, hj, Nat.mod_one]
theorem cell_row {W : World} {g : Nat} {cs : Array Value} {T : TypeId} (h : W.heap[g]? = some (.cells cs T (0, 0))) (j : Nat) : W.cell? ⟨g, j, none⟩ = cs[j]? := by
  simp [World.cell?, h]
set_option maxRecDepth 100000 in
set_option maxHeartbeats 1000000 in
theorem realLong_walk (w : World) (ht : Pow10 w) : Calls Tryd.prog 3 #[] w fun e w' => e = .returned (.bool true) ∧ Below w.heap.size w w' := by
  obtain ⟨cs, hcs⟩ : ∃ cs, cs = madeCells #[Value.float .f64 0] 65537 := ⟨_, rfl⟩
  have hmk : ∀ W : World, (Instr.makeSlice 22 (.int .i64 65537) (.int .i64 65537)).run Tryd.prog W = .ok (.slice (some ⟨W.heap.size, 0, none⟩) 65537 65537) (W.alloc (.cells cs 26)) := fun W => by
    rw [hcs]
    exact run_make_row' (P := Tryd.prog) 22 26 (.float .f64 0) 8 Tryd.underlying22 info_fl rfl .i64 .i64 65537 (by decide) (by decide) W
  obtain ⟨w0, hw0⟩ : ∃ w0 : World, w0 = w.alloc (.cells cs 26) := ⟨_, rfl⟩
  have hb0 : Below w.heap.size w w0 := by rw [hw0]; exact below_alloc _ _
  obtain ⟨d, hd⟩ : ∃ d : Array W64, d = Array.replicate 65536 ⟨0, by decide⟩ := ⟨_, rfl⟩
  have hsz : d.size = 65536 := by rw [hd]; simp
  have hr : RowF w0 ⟨w.heap.size, 0, none⟩ d := ⟨fun j v hv => by
    have hj : j < 65536 := by
      have := (List.getElem?_eq_some_iff.1 hv).1
      rw [flC_len, hsz] at this
      exact this
    have hv' : v = .float .f64 0 := by
      rw [hd] at hv
      simp only [flC, Array.toList_replicate, List.map_replicate, List.getElem?_replicate, hj, if_true, Option.some.injEq] at hv
      exact hv.symm
    rw [hv']
    have h1 : w0.heap[w.heap.size]? = some (.cells cs 26 (0, 0)) := by rw [hw0]; exact alloc_here _ _
    have h2 : cs[j]? = some (.float .f64 0) := by rw [hcs]; exact made_at _ _ _ (by omega)
    rw [Go.WideShapes.add_plain, cell_row h1, Nat.zero_add, h2]⟩
  have hH := Lib.hid (And.intro hsz hr)
  clear hcs hd hsz hr
  go_enter Tryd.func3, Tryd.ntmps3
  go_wp2_with fail
  rw [← hw0]
  rw [← hH.out.1]
  refine (sort_b ⟨w.heap.size, 0, none⟩ 65537 d w0 hH.out.2 (by rw [hH.out.1]; decide) (by rw [hH.out.1]; decide)).mono ?_
  rintro e w1 ⟨g', cap, d', _, rfl, _, _, _, hb1⟩
  rw [hH.out.1]
  have hb1' : Below w.heap.size w w1 := hb0.trans (hb1.mono hb0.size)
  have ht1 := pow10_stays ht hb1'
  clear hH ht hmk hw0 hb0 hb1
  go_wp2_with fail
  refine (sort_long _ 65537 _ _ (by decide)).mono ?_
  rintro e w' ⟨rfl, rfl⟩
  go_wp2_with fail
  refine (nth_long _ _ 65537 _ _ (by decide)).mono ?_
  rintro e w' ⟨rfl, rfl⟩
  go_wp2_with fail
  refine (num_any _ _).mono ?_
  rintro e w' ⟨rfl, rfl⟩
  go_wp2_with fail
  refine (num_any _ _).mono ?_
  rintro e w' ⟨rfl, rfl⟩
  go_wp2_with fail
  refine (num_any _ _).mono ?_
  rintro e w' ⟨rfl, rfl⟩
  go_wp2_with fail
  refine (works_any _ ht1).mono ?_
  rintro e w2 ⟨rfl, hb2⟩
  have hb2' : Below w.heap.size w w2 := hb1'.trans (hb2.mono hb1'.size)
  go_wp2_with fail
  go_ret
  exact ⟨rfl, hb2'⟩
end Go.Proofs.YthfgjibhpenfkaaDoor
