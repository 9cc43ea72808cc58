/- QuotaPlays: nobody, told. -/
import Derived.Test.YtbpnhpjcepgiiaaQz
namespace Go.Proofs.Ytbpnhpjcepgiiaa
open Go.RowKit Fl

theorem OfNone.mono {w w' : World} {q : Value} {c : Int} {ok : Bool} {code : Int} (h : OfNone w q c ok code) (b : Below w.heap.size w w') : OfNone w' q c ok code :=
  fun wx hx => h wx (b.trans (hx.mono b.size))

set_option maxRecDepth 100000 in
set_option maxHeartbeats 1000000 in
theorem nobody_b (q : Value) (c code : Int) (w : World) (h : ∀ ok, OfNone w q c ok code) (hc : (code == 0) = false) :
    Calls Try.prog 28 #[q, .int .i64 c, .int .i64 code] w fun e w' => e = .returned (.bool true) ∧ Below w.heap.size w w' := by
  have H := Lib.hid h
  have hz : (FloatKind.f64.format.order 0 0 == some .eq) = true := by decide +kernel
  have hcc : (code == code) = true := by simp
  have HCC := Lib.hid hc
  have heq : ∀ W : World, Sem.run Try.prog (Op.equalIn 9999 22 (.float .f64 0) (.float .f64 0)) W = .ok true W := fun W => by kernel_rfl
  clear h
  have hsf := run_store_float
  go_enter Try.func28, Try.ntmps28
  go_wp2_with fail
  refine (of_none (H.out true) HCC.out).mono ?_
  rintro e w1 ⟨rfl, hb1⟩
  have B1 : Hid (Below w.heap.size w (w1.alloc (.cells #[.float .f64 0, .float .f64 0] 24))) := Lib.hid (hb1.alloc hb1.size _)
  clear hb1
  go_wp2_with fail
  refine (level_none 0 ((H.out (timeB 0)).mono B1.out) HCC.out).mono ?_
  rintro e w' ⟨rfl, rfl⟩
  go_wp2_with fail
  refine (when_none 4607182418800017408 0 (by decide) ((H.out _).mono B1.out) HCC.out).mono ?_
  rintro e w' ⟨rfl, rfl⟩
  go_wp2_with fail
  refine (paid_none ((H.out _).mono B1.out) HCC.out).mono ?_
  rintro e w' ⟨rfl, rfl⟩
  go_wp2_with fail
  refine (set_none 0 4607182418800017408 (by decide) (by decide) ((H.out _).mono B1.out) HCC.out).mono ?_
  rintro e w2 ⟨rfl, hb2⟩
  have B2 : Hid (Below w.heap.size w w2) := Lib.hid (B1.out.trans (hb2.mono B1.out.size))
  have hx : w2.cell? ⟨w1.heap.size, 0, none⟩ = some (.float .f64 0) := by rw [hb2.cell (by simp)]; simp [go_sem]
  have hy : w2.cell? ⟨w1.heap.size, 1, none⟩ = some (.float .f64 0) := by rw [hb2.cell (by simp)]; simp [go_sem]
  clear hb2
  go_wp2_with fail
  refine (num_any code _).mono ?_
  rintro e w' ⟨rfl, rfl⟩
  go_wp2_with fail
  refine (num_any code _).mono ?_
  rintro e w' ⟨rfl, rfl⟩
  go_wp2_with fail
  refine (num_any code _).mono ?_
  rintro e w' ⟨rfl, rfl⟩
  go_wp2_with fail
  refine (pay_none 4607182418800017408 0 (by decide) ((H.out _).mono B2.out) HCC.out).mono ?_
  rintro e w' ⟨rfl, rfl⟩
  go_wp2_with fail
  refine (num_any code _).mono ?_
  rintro e w' ⟨rfl, rfl⟩
  go_wp2_with fail
  refine (num_any code _).mono ?_
  rintro e w' ⟨rfl, rfl⟩
  go_wp2_with fail
  refine (back_none 4607182418800017408 (by decide) ((H.out _).mono B2.out) HCC.out).mono ?_
  rintro e w' ⟨rfl, rfl⟩
  go_wp2_with fail
  refine (num_any code _).mono ?_
  rintro e w' ⟨rfl, rfl⟩
  go_wp2_with fail
  refine (num_any code _).mono ?_
  rintro e w' ⟨rfl, rfl⟩
  go_wp2_with fail
  refine (reset_none 0 ((H.out _).mono B2.out) HCC.out).mono ?_
  rintro e w' ⟨rfl, rfl⟩
  go_wp2_with fail
  refine (num_any code _).mono ?_
  rintro e w' ⟨rfl, rfl⟩
  go_wp2_with fail
  go_ret
  exact ⟨rfl, B2.out⟩

set_option maxRecDepth 100000 in
set_option maxHeartbeats 1000000 in
theorem told_b (q c : Nat) (bs : List Bk) (b : Bk) (w : World) (h : HasQ w q bs) (hb : bs[c]? = some b) (hok : BkOk b) :
    Calls Try.prog 30 #[.pointer (some ⟨q, 0, none⟩), .agg #[.float .f64 b.rate, .float .f64 b.burst, .float .f64 b.level, .int .i64 b.time, .float .f64 b.paid, .int .i64 b.times], .int .i64 c] w
      fun e w' => e = .returned (.bool true) ∧ HasQ w' q bs ∧ w.grownBy w' (some q) := by
  have hl : atL b 0 = b.level := by unfold atL; rw [if_pos hok.time0]
  have ho : onB b 0 = b := onB_old b 0 hok.time0
  have hll : b.level < 18446744073709551616 := by have := hok.level; have := hok.burst1; have : inf < 18446744073709551616 := by decide
                                                  omega
  have hpl : b.paid < 18446744073709551616 := by have := hok.paid; have : inf < 18446744073709551616 := by decide
                                                 omega
  have H := Lib.hid h
  have HB := Lib.hid hb
  have HOK := Lib.hid hok
  have HL := Lib.hid hl
  have HO := Lib.hid ho
  have HLL := Lib.hid hll
  have HPL := Lib.hid hpl
  clear h hb hok hl ho hll hpl
  go_enter Try.func30, Try.ntmps30
  go_wp2_with fail
  refine (level_b (H.out.below ((Below.refl _ _).alloc (Nat.le_refl _) _)) HB.out HOK.out 0 (by decide) (by decide)).mono ?_
  rintro e w1 ⟨rfl, hq1, hg1⟩
  rw [HL.out]
  rw [HO.out, set_same HB.out] at hq1
  have HQ1 := Lib.hid hq1
  have hne : w.heap.size ≠ q := fun e => Nat.lt_irrefl _ (e ▸ H.out.lt)
  have BX : Hid (w1.heap[w.heap.size]? = some (.cells #[.float .f64 b.rate, .float .f64 b.burst, .float .f64 b.level, .int .i64 b.time, .float .f64 b.paid, .int .i64 b.times] 56 (0, 0))) := Lib.hid (by
    rw [hg1.block _ (by simp) (by simp; exact hne)]; exact heap_alloc_new _ _)
  have x2 : w1.cell? ⟨w.heap.size, 2, none⟩ = some (.float .f64 b.level) := by simp [World.cell?, BX.out, go_sem]
  have x4 : w1.cell? ⟨w.heap.size, 4, none⟩ = some (.float .f64 b.paid) := by simp [World.cell?, BX.out, go_sem]
  have x5 : w1.cell? ⟨w.heap.size, 5, none⟩ = some (.int .i64 b.times) := by simp [World.cell?, BX.out, go_sem]
  have G1 : Hid (w.grownBy w1 (some q)) := Lib.hid (grown_trans (grown_below ((Below.refl _ _).alloc (Nat.le_refl _) _) _) hg1)
  clear hq1 hg1
  go_wp2_with fail
  refine (paid_b HQ1.out HB.out).mono ?_
  rintro e w2 ⟨rfl, n, rfl⟩
  go_wp2_with fail
  refine (like_same b.level _ HLL.out).mono ?_
  rintro e w' ⟨rfl, rfl⟩
  go_wp2_with fail
  refine (num_any 0 _).mono ?_
  rintro e w' ⟨rfl, rfl⟩
  go_wp2_with fail
  refine (like_same b.paid _ HPL.out).mono ?_
  rintro e w' ⟨rfl, rfl⟩
  go_wp2_with fail
  refine (num_any 0 _).mono ?_
  rintro e w' ⟨rfl, rfl⟩
  go_wp2_with fail
  go_ret
  exact ⟨rfl, HQ1.out.of rfl, grown_trans G1.out (grown_drewN _ _ _)⟩
end Go.Proofs.Ytbpnhpjcepgiiaa
