/- Stats: works: four numbers' tally; a quantile. -/
import Derived.Test.YtbpnhpjcepgiiaaSe
import Derived.Test.YtbpnhpjcepgiiaaSf
namespace Go.Proofs.Ytbpnhpjcepgiiaa
open Go.RowKit Fl Go.Shelf

def wf (i : Nat) : Nat := if i = 0 then 4607182418800017408 else if i = 1 then 4611686018427387904 else if i = 2 then 4613937818241073152 else 4616189618054758400
def wts (i : Nat) : Ta := if i = 0 then ⟨0, 0, 0, 0, 0, 0⟩ else if i = 1 then ⟨1, 4607182418800017408, 4607182418800017408, 0, 4607182418800017408, 4607182418800017408⟩ else if i = 2 then ⟨2, 4613937818241073152, 4609434218613702656, 4602678819172646912, 4607182418800017408, 4611686018427387904⟩ else if i = 3 then ⟨3, 4618441417868443648, 4611686018427387904, 4611686018427387904, 4607182418800017408, 4613937818241073152⟩ else ⟨4, 4621819117588971520, 4612811918334230528, 4617315517961601024, 4607182418800017408, 4616189618054758400⟩
theorem wts0 : InOk (wts 0) (wf 0) (wts (0 + 1)) where
  n0 := by decide
  n1 := by decide
  n := by decide
  sum := by decide +kernel
  d := ⟨4607182418800017408, 4607182418800017408, 0, 0, by decide +kernel, by decide +kernel, by decide +kernel, by decide +kernel, by decide +kernel, by decide +kernel⟩
  least := by decide +kernel
  greatest := by decide +kernel
  b1 := by decide +kernel
  b2 := by decide +kernel
  b3 := by decide +kernel
theorem wts1 : InOk (wts 1) (wf 1) (wts (1 + 1)) where
  n0 := by decide
  n1 := by decide
  n := by decide
  sum := by decide +kernel
  d := ⟨4607182418800017408, 4602678819172646912, 4602678819172646912, 4602678819172646912, by decide +kernel, by decide +kernel, by decide +kernel, by decide +kernel, by decide +kernel, by decide +kernel⟩
  least := by decide +kernel
  greatest := by decide +kernel
  b1 := by decide +kernel
  b2 := by decide +kernel
  b3 := by decide +kernel
theorem wts2 : InOk (wts 2) (wf 2) (wts (2 + 1)) where
  n0 := by decide
  n1 := by decide
  n := by decide
  sum := by decide +kernel
  d := ⟨4609434218613702656, 4602678819172646912, 4607182418800017408, 4609434218613702656, by decide +kernel, by decide +kernel, by decide +kernel, by decide +kernel, by decide +kernel, by decide +kernel⟩
  least := by decide +kernel
  greatest := by decide +kernel
  b1 := by decide +kernel
  b2 := by decide +kernel
  b3 := by decide +kernel
theorem wts3 : InOk (wts 3) (wf 3) (wts (3 + 1)) where
  n0 := by decide
  n1 := by decide
  n := by decide
  sum := by decide +kernel
  d := ⟨4611686018427387904, 4602678819172646912, 4609434218613702656, 4613937818241073152, by decide +kernel, by decide +kernel, by decide +kernel, by decide +kernel, by decide +kernel, by decide +kernel⟩
  least := by decide +kernel
  greatest := by decide +kernel
  b1 := by decide +kernel
  b2 := by decide +kernel
  b3 := by decide +kernel
theorem wts_ok (i : Nat) (hi : i < 4) : InOk (wts i) (wf i) (wts (i + 1)) := by
  have h : i = 0 ∨ i = 1 ∨ i = 2 ∨ i = 3 := by omega
  rcases h with rfl | rfl | rfl | rfl
  · exact wts0
  · exact wts1
  · exact wts2
  · exact wts3
def wd : Array W64 := #[⟨4616189618054758400, by decide⟩, ⟨4607182418800017408, by decide⟩, ⟨4613937818241073152, by decide⟩]
theorem wd_sorted : ((Sort.pdq (ltOf cmpW) wd 0 wd.size (Lib.bitLen wd.size) true true)[1]!).1 = 4613937818241073152 := by decide +kernel
theorem list_ok (ad : Addr) (n c : Nat) (w : World) (hn : 1 ≤ n) (hm : n ≤ 65536) :
    Calls Try.prog 77 #[.bool true, .slice (some ad) n c] w fun e w' => e = .returned (.int .i64 0) ∧ w = w' := by
  have hd1 : decide ((65536 : Int) < (n : Int)) = false := by simp; omega
  have hd2 : ((n : Int) == 0) = false := by simp; omega
  clear hn hm
  go_enter Try.func77, Try.ntmps77
  go_wp2_with fail
  go_ret
  exact ⟨rfl, rfl⟩
theorem lnum_any (n : Int) (w : World) : Calls Try.prog 35 #[.int .i64 n] w fun e w' => e = .returned (.int .i64 n) ∧ w = w' := by
  go_enter Try.func35, Try.ntmps35
  go_wp2
  go_ret
  exact ⟨rfl, rfl⟩
theorem llike_any (x y : Nat) (w : World) (hx : x < 18446744073709551616) (hy : y < 18446744073709551616) :
    Calls Try.prog 34 #[.float .f64 x, .float .f64 y] w fun e w' => e = .returned (.bool (placeW x == placeW y)) ∧ w = w' := by
  have HX := Lib.hid hx
  have HY := Lib.hid hy
  clear hx hy
  go_enter Try.func34, Try.ntmps34
  go_wp2_with fail
  refine (reflike_any x y _ HX.out HY.out).mono ?_
  rintro e w' ⟨rfl, rfl⟩
  go_wp2_with fail
  go_ret
  exact ⟨rfl, rfl⟩

set_option maxHeartbeats 400000 in
theorem quantile_w (g : Nat) (w : World) (h : w.heap[g]? = some (.cells #[.float .f64 4616189618054758400, .float .f64 4607182418800017408, .float .f64 4613937818241073152] 22 (0, 0))) :
    Calls Try.prog 47 #[.float .f64 4602678819172646912, .slice (some ⟨g, 0, none⟩) 3 3] w fun e w' => e = .returned (.tuple #[.float .f64 4613937818241073152, .int .i64 0]) ∧ Below w.heap.size w w' := by
  have hr : RowF w ⟨g, 0, none⟩ wd := ⟨fun j v hv => by
    have h3 : j < 3 := (List.getElem?_eq_some_iff.1 hv).1
    have : j = 0 ∨ j = 1 ∨ j = 2 := by omega
    rcases this with rfl | rfl | rfl <;> (obtain rfl : v = _ := (Option.some.inj hv).symm; simp [Addr.add, World.cell?, h]; try rfl)⟩
  have HR := Lib.hid hr
  have hge : (FloatKind.f64.format.order 4602678819172646912 0 == some .gt || FloatKind.f64.format.order 4602678819172646912 0 == some .eq) = true := by decide +kernel
  have hle : (FloatKind.f64.format.order 4602678819172646912 4607182418800017408 == some .lt || FloatKind.f64.format.order 4602678819172646912 4607182418800017408 == some .eq) = true := by decide +kernel
  have hcv : floatOfInt .f64 2 = 4611686018427387904 := by decide +kernel
  have hmul := fun (T : TypeId) (W : World) => run_float_arith (P := Try.prog) W .mul T .f64 4602678819172646912 4611686018427387904 4607182418800017408 (by decide +kernel)
  have hci := fun (W : World) => run_convert_float_int (P := Try.prog) (w := W) 22 3 .f64 .i64 4607182418800017408 1 (by rw [Try.underlying22]; rfl) Try.underlying3 (by decide +kernel)
  clear hr h
  go_enter Try.func47, Try.ntmps47
  go_wp2_with fail
  refine (list_ok ⟨g, 0, none⟩ 3 3 _ (by decide) (by decide)).mono ?_
  rintro e w' ⟨rfl, rfl⟩
  go_wp2_with fail
  refine (nth_b 1 ⟨g, 0, none⟩ 3 wd _ HR.out (by decide) (by decide)).mono ?_
  rintro e w1 ⟨d', rfl, hs, hb⟩
  rw [hs.2.2, wd_sorted]
  have HB := Lib.hid hb
  clear hs hb
  go_wp2_with fail
  go_ret2
  exact ⟨rfl, HB.out⟩
end Go.Proofs.Ytbpnhpjcepgiiaa
