/- Stats: works. -/
import Derived.Test.YtbpnhpjcepgiiaaSg
namespace Go.Proofs.Ytbpnhpjcepgiiaa
open Go.RowKit Fl Go.Shelf

theorem floats4 {w : World} {g : Nat} {T : TypeId} (h : w.heap[g]? = some (.cells #[.float .f64 4607182418800017408, .float .f64 4611686018427387904, .float .f64 4613937818241073152, .float .f64 4616189618054758400] T (0, 0))) :
    FloatsAt w (some ⟨g, 0, none⟩) 4 wf := fun i hi => by
  have hg := (Array.getElem?_eq_some_iff.1 h).1
  have h4 : i = 0 ∨ i = 1 ∨ i = 2 ∨ i = 3 := by omega
  rcases h4 with rfl | rfl | rfl | rfl
  all_goals exact ⟨_, rfl, by simp [Addr.add, World.cell?, h, wf], hg, by decide⟩

set_option maxRecDepth 100000 in
set_option maxHeartbeats 1000000 in
theorem lworks_any (w : World) : Calls Try.prog 31 #[] w fun e w' => e = .returned (.bool true) ∧ Below w.heap.size w w' := by
  have hsf := run_store_float
  have heq0 : ∀ W : World, Sem.run Try.prog (Op.equalIn 9999 22 (.float .f64 4621819117588971520) (.float .f64 4621819117588971520)) W = .ok true W := fun W => by kernel_rfl
  have heq1 : ∀ W : World, Sem.run Try.prog (Op.equalIn 9999 22 (.float .f64 4612811918334230528) (.float .f64 4612811918334230528)) W = .ok true W := fun W => by kernel_rfl
  have heq2 : ∀ W : World, Sem.run Try.prog (Op.equalIn 9999 22 (.float .f64 4608308318706860032) (.float .f64 4608308318706860032)) W = .ok true W := fun W => by kernel_rfl
  have heq3 : ∀ W : World, Sem.run Try.prog (Op.equalIn 9999 22 (.float .f64 4607182418800017408) (.float .f64 4607182418800017408)) W = .ok true W := fun W => by kernel_rfl
  have heq4 : ∀ W : World, Sem.run Try.prog (Op.equalIn 9999 22 (.float .f64 4616189618054758400) (.float .f64 4616189618054758400)) W = .ok true W := fun W => by kernel_rfl
  have h3 : (FloatKind.f64.format.order 4613937818241073152 4613937818241073152 == some .eq) = true := by decide +kernel
  go_enter Try.func31, Try.ntmps31
  go_wp2_with fail
  refine (tnew_b _).mono ?_
  rintro e w1 ⟨rfl, ht1, hb1⟩
  have T1 := Lib.hid ht1
  have B1 := Lib.hid hb1
  clear ht1 hb1
  go_wp2_with fail
  refine (add_b w.heap.size ⟨w1.heap.size, 0, none⟩ 4 4 wf wts _ (T1.out.of (Below.heap_alloc _ _ _ T1.out.lt)) (floats4 (heap_alloc_new w1 _)) (Nat.ne_of_gt T1.out.lt) (by decide) wts_ok).mono ?_
  rintro e w2 ⟨rfl, ht2, hg2⟩
  have T2 := Lib.hid ht2
  have B2 : Hid (Below w.heap.size w w2) := Lib.hid ((B1.out.alloc B1.out.size _).grown hg2 (by simp; have := B1.out.size; omega) (fun k hk => by simp at hk; omega))
  clear ht2 hg2
  go_wp2_with fail
  refine (told_t w.heap.size (wts 4) 4608308318706860032 _ T2.out (by decide) (by decide) (by decide +kernel)).mono ?_
  rintro e w3 ⟨rfl, hb3⟩
  have B3 : Hid (Below w.heap.size w w3) := Lib.hid (B2.out.trans (hb3.mono B2.out.size))
  clear hb3
  rw [show (wts 4).n = 4 from rfl, show (wts 4).sum = 4621819117588971520 from rfl, show (wts 4).mean = 4612811918334230528 from rfl, show (wts 4).least = 4607182418800017408 from rfl, show (wts 4).greatest = 4616189618054758400 from rfl]
  go_wp2_with fail
  have hsz : (w3.alloc (.cells #[.int .i64 4, .float .f64 4621819117588971520, .float .f64 4612811918334230528, .float .f64 4608308318706860032, .float .f64 4607182418800017408, .float .f64 4616189618054758400] 92)).heap.size = w3.heap.size + 1 := by simp
  refine (quantile_w (w3.heap.size + 1) _ (by rw [← hsz]; exact heap_alloc_new _ _)).mono ?_
  rintro e w4 ⟨rfl, hb4⟩
  have B4 : Hid (Below w.heap.size w w4) := Lib.hid (((B3.out.alloc B3.out.size (.cells #[.int .i64 4, .float .f64 4621819117588971520, .float .f64 4612811918334230528, .float .f64 4608308318706860032, .float .f64 4607182418800017408, .float .f64 4616189618054758400] 92)).alloc (by simp; have := B3.out.size; omega) _).trans (hb4.mono (by simp; have := B3.out.size; omega)))
  have hx : Hid (w4.heap[w3.heap.size]? = some (.cells #[.int .i64 4, .float .f64 4621819117588971520, .float .f64 4612811918334230528, .float .f64 4608308318706860032, .float .f64 4607182418800017408, .float .f64 4616189618054758400] 92 (0, 0))) := Lib.hid (by
    rw [hb4.block _ (by simp; omega), Below.heap_alloc _ _ _ (by simp)]
    exact heap_alloc_new _ _)
  have x0 : w4.cell? ⟨w3.heap.size, 0, none⟩ = some (.int .i64 4) := by simp [World.cell?, hx.out]
  have x1 : w4.cell? ⟨w3.heap.size, 1, none⟩ = some (.float .f64 4621819117588971520) := by simp [World.cell?, hx.out]
  have x2 : w4.cell? ⟨w3.heap.size, 2, none⟩ = some (.float .f64 4612811918334230528) := by simp [World.cell?, hx.out]
  have x3 : w4.cell? ⟨w3.heap.size, 3, none⟩ = some (.float .f64 4608308318706860032) := by simp [World.cell?, hx.out]
  have x4 : w4.cell? ⟨w3.heap.size, 4, none⟩ = some (.float .f64 4607182418800017408) := by simp [World.cell?, hx.out]
  have x5 : w4.cell? ⟨w3.heap.size, 5, none⟩ = some (.float .f64 4616189618054758400) := by simp [World.cell?, hx.out]
  clear hb4 hsz
  go_wp2_with fail
  refine (lnum_any 0 _).mono ?_
  rintro e w' ⟨rfl, rfl⟩
  go_wp2_with fail
  refine (lnum_any 0 _).mono ?_
  rintro e w' ⟨rfl, rfl⟩
  go_wp2_with fail
  refine (lnum_any 0 _).mono ?_
  rintro e w' ⟨rfl, rfl⟩
  go_wp2_with fail
  go_ret
  exact ⟨rfl, B4.out⟩
end Go.Proofs.Ytbpnhpjcepgiiaa
