/- QuotaWaits: the law's walk. -/
import Derived.Test.YtbpnhpjcepgiiaaQz1
namespace Go.Proofs.Ytbpnhpjcepgiiaa
open Go.RowKit Fl

structure BoxW (w : World) (X r b cost : Nat) (soon later A B : Int) : Prop where
  x0 : w.cell? ⟨X, 0, none⟩ = some (.float .f64 r)
  x1 : w.cell? ⟨X, 1, none⟩ = some (.float .f64 b)
  x2 : w.cell? ⟨X, 2, none⟩ = some (.float .f64 cost)
  x3 : w.cell? ⟨X, 3, none⟩ = some (.int .i64 soon)
  x4 : w.cell? ⟨X, 4, none⟩ = some (.int .i64 later)
  x5 : w.cell? ⟨X, 5, none⟩ = some (.int .i64 A)
  x6 : w.cell? ⟨X, 6, none⟩ = some (.int .i64 B)

theorem BoxW.of {w w' : World} {X r b cost : Nat} {soon later A B : Int} (h : BoxW w X r b cost soon later A B) (e : w'.heap[X]? = w.heap[X]?) : BoxW w' X r b cost soon later A B := by
  have hc : ∀ o, w'.cell? ⟨X, o, none⟩ = w.cell? ⟨X, o, none⟩ := fun o => World.cell?_of_block e
  exact ⟨by rw [hc]; exact h.x0, by rw [hc]; exact h.x1, by rw [hc]; exact h.x2, by rw [hc]; exact h.x3, by rw [hc]; exact h.x4, by rw [hc]; exact h.x5, by rw [hc]; exact h.x6⟩

theorem copy_b {q : Nat} {bs : List Bk} {w : World} (h : HasQ w q bs) :
    Calls Try.prog 18 #[.pointer (some ⟨q, 0, none⟩)] w fun e w' => e = .returned (.pointer (some ⟨w.heap.size, 0, none⟩)) ∧
      HasQ w' w.heap.size bs ∧ Below w.heap.size w w' ∧ w'.heap.size = w.heap.size + 1 := by
  refine (copy_ok q bs w h).mono fun e w' ⟨he, hw⟩ => ⟨he, ?_, ?_, ?_⟩
  · rw [hw]; exact ⟨h.1, heap_alloc_new _ _⟩
  · rw [hw]; exact (Below.refl _ _).alloc (Nat.le_refl _) _
  · rw [hw]; simp

/-- may the law's input be played? -/
def waitsB (r b cost : Nat) (soon later A B : Int) : Bool :=
  quotaB r b && (nnW cost && (timeB soon && (timeB later && (!decide (later < soon) && (clientB A && (clientB B && (!(A == B) && !(FloatKind.f64.format.order cost b == some .gt))))))))


set_option maxRecDepth 100000 in
set_option maxHeartbeats 1000000 in
theorem waits_no0 (r b cost : Nat) (soon later A B : Int) (w : World) (hr : r < 18446744073709551616) (hb : b < 18446744073709551616) (hc : cost < 18446744073709551616)  (H0 : Hid ((quotaB r b) = false)) :
    Calls Try.prog 4 #[.agg #[.float .f64 r, .float .f64 b, .float .f64 cost, .int .i64 soon, .int .i64 later, .int .i64 A, .int .i64 B]] w fun e w' => e = .returned (.bool true) ∧ Below w.heap.size w w' := by
  have HR := Lib.hid hr
  have HB := Lib.hid hb
  have HC := Lib.hid hc
  clear hr hb hc
  go_enter Try.func4, Try.ntmps4
  go_wp2_with fail
  refine (may_any r b _ HR.out HB.out).mono ?_
  rintro e w1 ⟨rfl, hb1⟩
  rw [H0.out]
  have BX : Hid (BoxW w1 w.heap.size r b cost soon later A B) := by
    refine Lib.hid (BoxW.of (w := (w.alloc (.cells #[.float .f64 r, .float .f64 b, .float .f64 cost, .int .i64 soon, .int .i64 later, .int .i64 A, .int .i64 B] 46))) ⟨?_, ?_, ?_, ?_, ?_, ?_, ?_⟩ (hb1.block _ (by simp))) <;> simp [go_sem]
  have W1 : Hid (Below w.heap.size w w1) := Lib.hid (((Below.refl _ _).alloc (Nat.le_refl _) _).trans (hb1.mono (by simp)))
  have hsz1 : w.heap.size < w1.heap.size := by have := hb1.size; simp at this; omega
  clear hb1
  obtain ⟨x0, x1, x2, x3, x4, x5, x6⟩ := BX.out

  go_wp2_with fail
  refine (works_any _).mono ?_
  rintro e w9 ⟨rfl, hb9⟩
  go_wp2_with fail
  go_ret
  exact ⟨rfl, W1.out.trans (hb9.mono W1.out.size)⟩

set_option maxRecDepth 100000 in
set_option maxHeartbeats 1000000 in
theorem waits_no1 (r b cost : Nat) (soon later A B : Int) (w : World) (hr : r < 18446744073709551616) (hb : b < 18446744073709551616) (hc : cost < 18446744073709551616) (H0 : Hid ((quotaB r b) = true)) (H1 : Hid ((nnW cost) = false)) :
    Calls Try.prog 4 #[.agg #[.float .f64 r, .float .f64 b, .float .f64 cost, .int .i64 soon, .int .i64 later, .int .i64 A, .int .i64 B]] w fun e w' => e = .returned (.bool true) ∧ Below w.heap.size w w' := by
  have HR := Lib.hid hr
  have HB := Lib.hid hb
  have HC := Lib.hid hc
  clear hr hb hc
  go_enter Try.func4, Try.ntmps4
  go_wp2_with fail
  refine (may_any r b _ HR.out HB.out).mono ?_
  rintro e w1 ⟨rfl, hb1⟩
  rw [H0.out]
  have BX : Hid (BoxW w1 w.heap.size r b cost soon later A B) := by
    refine Lib.hid (BoxW.of (w := (w.alloc (.cells #[.float .f64 r, .float .f64 b, .float .f64 cost, .int .i64 soon, .int .i64 later, .int .i64 A, .int .i64 B] 46))) ⟨?_, ?_, ?_, ?_, ?_, ?_, ?_⟩ (hb1.block _ (by simp))) <;> simp [go_sem]
  have W1 : Hid (Below w.heap.size w w1) := Lib.hid (((Below.refl _ _).alloc (Nat.le_refl _) _).trans (hb1.mono (by simp)))
  have hsz1 : w.heap.size < w1.heap.size := by have := hb1.size; simp at this; omega
  clear hb1
  obtain ⟨x0, x1, x2, x3, x4, x5, x6⟩ := BX.out

  go_wp2_with fail
  refine (refcost_any cost _ HC.out).mono ?_
  rintro e w' ⟨rfl, n, rfl⟩
  rw [H1.out]

  go_wp2_with fail
  refine (works_any _).mono ?_
  rintro e w9 ⟨rfl, hb9⟩
  go_wp2_with fail
  go_ret
  exact ⟨rfl, (below_drewN W1.out _).trans (hb9.mono W1.out.size)⟩

set_option maxRecDepth 100000 in
set_option maxHeartbeats 1000000 in
theorem waits_no2 (r b cost : Nat) (soon later A B : Int) (w : World) (hr : r < 18446744073709551616) (hb : b < 18446744073709551616) (hc : cost < 18446744073709551616) (H0 : Hid ((quotaB r b) = true)) (H1 : Hid ((nnW cost) = true)) (H2 : Hid ((timeB soon) = false)) :
    Calls Try.prog 4 #[.agg #[.float .f64 r, .float .f64 b, .float .f64 cost, .int .i64 soon, .int .i64 later, .int .i64 A, .int .i64 B]] w fun e w' => e = .returned (.bool true) ∧ Below w.heap.size w w' := by
  have HR := Lib.hid hr
  have HB := Lib.hid hb
  have HC := Lib.hid hc
  clear hr hb hc
  go_enter Try.func4, Try.ntmps4
  go_wp2_with fail
  refine (may_any r b _ HR.out HB.out).mono ?_
  rintro e w1 ⟨rfl, hb1⟩
  rw [H0.out]
  have BX : Hid (BoxW w1 w.heap.size r b cost soon later A B) := by
    refine Lib.hid (BoxW.of (w := (w.alloc (.cells #[.float .f64 r, .float .f64 b, .float .f64 cost, .int .i64 soon, .int .i64 later, .int .i64 A, .int .i64 B] 46))) ⟨?_, ?_, ?_, ?_, ?_, ?_, ?_⟩ (hb1.block _ (by simp))) <;> simp [go_sem]
  have W1 : Hid (Below w.heap.size w w1) := Lib.hid (((Below.refl _ _).alloc (Nat.le_refl _) _).trans (hb1.mono (by simp)))
  have hsz1 : w.heap.size < w1.heap.size := by have := hb1.size; simp at this; omega
  clear hb1
  obtain ⟨x0, x1, x2, x3, x4, x5, x6⟩ := BX.out

  go_wp2_with fail
  refine (refcost_any cost _ HC.out).mono ?_
  rintro e w' ⟨rfl, n, rfl⟩
  rw [H1.out]

  go_wp2_with fail
  refine (reftime_any soon _).mono ?_
  rintro e w' ⟨rfl, rfl⟩
  rw [H2.out]

  go_wp2_with fail
  refine (works_any _).mono ?_
  rintro e w9 ⟨rfl, hb9⟩
  go_wp2_with fail
  go_ret
  exact ⟨rfl, (below_drewN W1.out _).trans (hb9.mono W1.out.size)⟩

set_option maxRecDepth 100000 in
set_option maxHeartbeats 1000000 in
theorem waits_no3 (r b cost : Nat) (soon later A B : Int) (w : World) (hr : r < 18446744073709551616) (hb : b < 18446744073709551616) (hc : cost < 18446744073709551616) (H0 : Hid ((quotaB r b) = true)) (H1 : Hid ((nnW cost) = true)) (H2 : Hid ((timeB soon) = true)) (H3 : Hid ((timeB later) = false)) :
    Calls Try.prog 4 #[.agg #[.float .f64 r, .float .f64 b, .float .f64 cost, .int .i64 soon, .int .i64 later, .int .i64 A, .int .i64 B]] w fun e w' => e = .returned (.bool true) ∧ Below w.heap.size w w' := by
  have HR := Lib.hid hr
  have HB := Lib.hid hb
  have HC := Lib.hid hc
  clear hr hb hc
  go_enter Try.func4, Try.ntmps4
  go_wp2_with fail
  refine (may_any r b _ HR.out HB.out).mono ?_
  rintro e w1 ⟨rfl, hb1⟩
  rw [H0.out]
  have BX : Hid (BoxW w1 w.heap.size r b cost soon later A B) := by
    refine Lib.hid (BoxW.of (w := (w.alloc (.cells #[.float .f64 r, .float .f64 b, .float .f64 cost, .int .i64 soon, .int .i64 later, .int .i64 A, .int .i64 B] 46))) ⟨?_, ?_, ?_, ?_, ?_, ?_, ?_⟩ (hb1.block _ (by simp))) <;> simp [go_sem]
  have W1 : Hid (Below w.heap.size w w1) := Lib.hid (((Below.refl _ _).alloc (Nat.le_refl _) _).trans (hb1.mono (by simp)))
  have hsz1 : w.heap.size < w1.heap.size := by have := hb1.size; simp at this; omega
  clear hb1
  obtain ⟨x0, x1, x2, x3, x4, x5, x6⟩ := BX.out

  go_wp2_with fail
  refine (refcost_any cost _ HC.out).mono ?_
  rintro e w' ⟨rfl, n, rfl⟩
  rw [H1.out]

  go_wp2_with fail
  refine (reftime_any soon _).mono ?_
  rintro e w' ⟨rfl, rfl⟩
  rw [H2.out]

  go_wp2_with fail
  refine (reftime_any later _).mono ?_
  rintro e w' ⟨rfl, rfl⟩
  rw [H3.out]

  go_wp2_with fail
  refine (works_any _).mono ?_
  rintro e w9 ⟨rfl, hb9⟩
  go_wp2_with fail
  go_ret
  exact ⟨rfl, (below_drewN W1.out _).trans (hb9.mono W1.out.size)⟩

set_option maxRecDepth 100000 in
set_option maxHeartbeats 1000000 in
theorem waits_no4 (r b cost : Nat) (soon later A B : Int) (w : World) (hr : r < 18446744073709551616) (hb : b < 18446744073709551616) (hc : cost < 18446744073709551616) (H0 : Hid ((quotaB r b) = true)) (H1 : Hid ((nnW cost) = true)) (H2 : Hid ((timeB soon) = true)) (H3 : Hid ((timeB later) = true)) (H4 : Hid ((!decide (later < soon)) = false)) :
    Calls Try.prog 4 #[.agg #[.float .f64 r, .float .f64 b, .float .f64 cost, .int .i64 soon, .int .i64 later, .int .i64 A, .int .i64 B]] w fun e w' => e = .returned (.bool true) ∧ Below w.heap.size w w' := by
  have HR := Lib.hid hr
  have HB := Lib.hid hb
  have HC := Lib.hid hc
  clear hr hb hc
  have h4 : decide (later < soon) = true := by have := H4.out; simpa using this
  go_enter Try.func4, Try.ntmps4
  go_wp2_with fail
  refine (may_any r b _ HR.out HB.out).mono ?_
  rintro e w1 ⟨rfl, hb1⟩
  rw [H0.out]
  have BX : Hid (BoxW w1 w.heap.size r b cost soon later A B) := by
    refine Lib.hid (BoxW.of (w := (w.alloc (.cells #[.float .f64 r, .float .f64 b, .float .f64 cost, .int .i64 soon, .int .i64 later, .int .i64 A, .int .i64 B] 46))) ⟨?_, ?_, ?_, ?_, ?_, ?_, ?_⟩ (hb1.block _ (by simp))) <;> simp [go_sem]
  have W1 : Hid (Below w.heap.size w w1) := Lib.hid (((Below.refl _ _).alloc (Nat.le_refl _) _).trans (hb1.mono (by simp)))
  have hsz1 : w.heap.size < w1.heap.size := by have := hb1.size; simp at this; omega
  clear hb1
  obtain ⟨x0, x1, x2, x3, x4, x5, x6⟩ := BX.out

  go_wp2_with fail
  refine (refcost_any cost _ HC.out).mono ?_
  rintro e w' ⟨rfl, n, rfl⟩
  rw [H1.out]

  go_wp2_with fail
  refine (reftime_any soon _).mono ?_
  rintro e w' ⟨rfl, rfl⟩
  rw [H2.out]

  go_wp2_with fail
  refine (reftime_any later _).mono ?_
  rintro e w' ⟨rfl, rfl⟩
  rw [H3.out]

  go_wp2_with fail
  refine (works_any _).mono ?_
  rintro e w9 ⟨rfl, hb9⟩
  go_wp2_with fail
  go_ret
  exact ⟨rfl, (below_drewN W1.out _).trans (hb9.mono W1.out.size)⟩

set_option maxRecDepth 100000 in
set_option maxHeartbeats 1000000 in
theorem waits_no5 (r b cost : Nat) (soon later A B : Int) (w : World) (hr : r < 18446744073709551616) (hb : b < 18446744073709551616) (hc : cost < 18446744073709551616) (H0 : Hid ((quotaB r b) = true)) (H1 : Hid ((nnW cost) = true)) (H2 : Hid ((timeB soon) = true)) (H3 : Hid ((timeB later) = true)) (H4 : Hid ((!decide (later < soon)) = true)) (H5 : Hid ((clientB A) = false)) :
    Calls Try.prog 4 #[.agg #[.float .f64 r, .float .f64 b, .float .f64 cost, .int .i64 soon, .int .i64 later, .int .i64 A, .int .i64 B]] w fun e w' => e = .returned (.bool true) ∧ Below w.heap.size w w' := by
  have HR := Lib.hid hr
  have HB := Lib.hid hb
  have HC := Lib.hid hc
  clear hr hb hc
  have h4 : decide (later < soon) = false := by have := H4.out; simpa using this
  go_enter Try.func4, Try.ntmps4
  go_wp2_with fail
  refine (may_any r b _ HR.out HB.out).mono ?_
  rintro e w1 ⟨rfl, hb1⟩
  rw [H0.out]
  have BX : Hid (BoxW w1 w.heap.size r b cost soon later A B) := by
    refine Lib.hid (BoxW.of (w := (w.alloc (.cells #[.float .f64 r, .float .f64 b, .float .f64 cost, .int .i64 soon, .int .i64 later, .int .i64 A, .int .i64 B] 46))) ⟨?_, ?_, ?_, ?_, ?_, ?_, ?_⟩ (hb1.block _ (by simp))) <;> simp [go_sem]
  have W1 : Hid (Below w.heap.size w w1) := Lib.hid (((Below.refl _ _).alloc (Nat.le_refl _) _).trans (hb1.mono (by simp)))
  have hsz1 : w.heap.size < w1.heap.size := by have := hb1.size; simp at this; omega
  clear hb1
  obtain ⟨x0, x1, x2, x3, x4, x5, x6⟩ := BX.out

  go_wp2_with fail
  refine (refcost_any cost _ HC.out).mono ?_
  rintro e w' ⟨rfl, n, rfl⟩
  rw [H1.out]

  go_wp2_with fail
  refine (reftime_any soon _).mono ?_
  rintro e w' ⟨rfl, rfl⟩
  rw [H2.out]

  go_wp2_with fail
  refine (reftime_any later _).mono ?_
  rintro e w' ⟨rfl, rfl⟩
  rw [H3.out]

  go_wp2_with fail
  refine (client_any A _).mono ?_
  rintro e w' ⟨rfl, rfl⟩
  rw [H5.out]

  go_wp2_with fail
  refine (works_any _).mono ?_
  rintro e w9 ⟨rfl, hb9⟩
  go_wp2_with fail
  go_ret
  exact ⟨rfl, (below_drewN W1.out _).trans (hb9.mono W1.out.size)⟩

set_option maxRecDepth 100000 in
set_option maxHeartbeats 1000000 in
theorem waits_no6 (r b cost : Nat) (soon later A B : Int) (w : World) (hr : r < 18446744073709551616) (hb : b < 18446744073709551616) (hc : cost < 18446744073709551616) (H0 : Hid ((quotaB r b) = true)) (H1 : Hid ((nnW cost) = true)) (H2 : Hid ((timeB soon) = true)) (H3 : Hid ((timeB later) = true)) (H4 : Hid ((!decide (later < soon)) = true)) (H5 : Hid ((clientB A) = true)) (H6 : Hid ((clientB B) = false)) :
    Calls Try.prog 4 #[.agg #[.float .f64 r, .float .f64 b, .float .f64 cost, .int .i64 soon, .int .i64 later, .int .i64 A, .int .i64 B]] w fun e w' => e = .returned (.bool true) ∧ Below w.heap.size w w' := by
  have HR := Lib.hid hr
  have HB := Lib.hid hb
  have HC := Lib.hid hc
  clear hr hb hc
  have h4 : decide (later < soon) = false := by have := H4.out; simpa using this
  go_enter Try.func4, Try.ntmps4
  go_wp2_with fail
  refine (may_any r b _ HR.out HB.out).mono ?_
  rintro e w1 ⟨rfl, hb1⟩
  rw [H0.out]
  have BX : Hid (BoxW w1 w.heap.size r b cost soon later A B) := by
    refine Lib.hid (BoxW.of (w := (w.alloc (.cells #[.float .f64 r, .float .f64 b, .float .f64 cost, .int .i64 soon, .int .i64 later, .int .i64 A, .int .i64 B] 46))) ⟨?_, ?_, ?_, ?_, ?_, ?_, ?_⟩ (hb1.block _ (by simp))) <;> simp [go_sem]
  have W1 : Hid (Below w.heap.size w w1) := Lib.hid (((Below.refl _ _).alloc (Nat.le_refl _) _).trans (hb1.mono (by simp)))
  have hsz1 : w.heap.size < w1.heap.size := by have := hb1.size; simp at this; omega
  clear hb1
  obtain ⟨x0, x1, x2, x3, x4, x5, x6⟩ := BX.out

  go_wp2_with fail
  refine (refcost_any cost _ HC.out).mono ?_
  rintro e w' ⟨rfl, n, rfl⟩
  rw [H1.out]

  go_wp2_with fail
  refine (reftime_any soon _).mono ?_
  rintro e w' ⟨rfl, rfl⟩
  rw [H2.out]

  go_wp2_with fail
  refine (reftime_any later _).mono ?_
  rintro e w' ⟨rfl, rfl⟩
  rw [H3.out]

  go_wp2_with fail
  refine (client_any A _).mono ?_
  rintro e w' ⟨rfl, rfl⟩
  rw [H5.out]

  go_wp2_with fail
  refine (client_any B _).mono ?_
  rintro e w' ⟨rfl, rfl⟩
  rw [H6.out]

  go_wp2_with fail
  refine (works_any _).mono ?_
  rintro e w9 ⟨rfl, hb9⟩
  go_wp2_with fail
  go_ret
  exact ⟨rfl, (below_drewN W1.out _).trans (hb9.mono W1.out.size)⟩

set_option maxRecDepth 100000 in
set_option maxHeartbeats 1000000 in
theorem waits_no7 (r b cost : Nat) (soon later A B : Int) (w : World) (hr : r < 18446744073709551616) (hb : b < 18446744073709551616) (hc : cost < 18446744073709551616) (H0 : Hid ((quotaB r b) = true)) (H1 : Hid ((nnW cost) = true)) (H2 : Hid ((timeB soon) = true)) (H3 : Hid ((timeB later) = true)) (H4 : Hid ((!decide (later < soon)) = true)) (H5 : Hid ((clientB A) = true)) (H6 : Hid ((clientB B) = true)) (H7 : Hid ((!(A == B)) = false)) :
    Calls Try.prog 4 #[.agg #[.float .f64 r, .float .f64 b, .float .f64 cost, .int .i64 soon, .int .i64 later, .int .i64 A, .int .i64 B]] w fun e w' => e = .returned (.bool true) ∧ Below w.heap.size w w' := by
  have HR := Lib.hid hr
  have HB := Lib.hid hb
  have HC := Lib.hid hc
  clear hr hb hc
  have h4 : decide (later < soon) = false := by have := H4.out; simpa using this
  have h7 : (A == B) = true := by have := H7.out; simpa using this
  go_enter Try.func4, Try.ntmps4
  go_wp2_with fail
  refine (may_any r b _ HR.out HB.out).mono ?_
  rintro e w1 ⟨rfl, hb1⟩
  rw [H0.out]
  have BX : Hid (BoxW w1 w.heap.size r b cost soon later A B) := by
    refine Lib.hid (BoxW.of (w := (w.alloc (.cells #[.float .f64 r, .float .f64 b, .float .f64 cost, .int .i64 soon, .int .i64 later, .int .i64 A, .int .i64 B] 46))) ⟨?_, ?_, ?_, ?_, ?_, ?_, ?_⟩ (hb1.block _ (by simp))) <;> simp [go_sem]
  have W1 : Hid (Below w.heap.size w w1) := Lib.hid (((Below.refl _ _).alloc (Nat.le_refl _) _).trans (hb1.mono (by simp)))
  have hsz1 : w.heap.size < w1.heap.size := by have := hb1.size; simp at this; omega
  clear hb1
  obtain ⟨x0, x1, x2, x3, x4, x5, x6⟩ := BX.out

  go_wp2_with fail
  refine (refcost_any cost _ HC.out).mono ?_
  rintro e w' ⟨rfl, n, rfl⟩
  rw [H1.out]

  go_wp2_with fail
  refine (reftime_any soon _).mono ?_
  rintro e w' ⟨rfl, rfl⟩
  rw [H2.out]

  go_wp2_with fail
  refine (reftime_any later _).mono ?_
  rintro e w' ⟨rfl, rfl⟩
  rw [H3.out]

  go_wp2_with fail
  refine (client_any A _).mono ?_
  rintro e w' ⟨rfl, rfl⟩
  rw [H5.out]

  go_wp2_with fail
  refine (client_any B _).mono ?_
  rintro e w' ⟨rfl, rfl⟩
  rw [H6.out]

  go_wp2_with fail
  refine (works_any _).mono ?_
  rintro e w9 ⟨rfl, hb9⟩
  go_wp2_with fail
  go_ret
  exact ⟨rfl, (below_drewN W1.out _).trans (hb9.mono W1.out.size)⟩

set_option maxRecDepth 100000 in
set_option maxHeartbeats 1000000 in
theorem waits_no8 (r b cost : Nat) (soon later A B : Int) (w : World) (hr : r < 18446744073709551616) (hb : b < 18446744073709551616) (hc : cost < 18446744073709551616) (H0 : Hid ((quotaB r b) = true)) (H1 : Hid ((nnW cost) = true)) (H2 : Hid ((timeB soon) = true)) (H3 : Hid ((timeB later) = true)) (H4 : Hid ((!decide (later < soon)) = true)) (H5 : Hid ((clientB A) = true)) (H6 : Hid ((clientB B) = true)) (H7 : Hid ((!(A == B)) = true)) (H8 : Hid ((!(FloatKind.f64.format.order cost b == some .gt)) = false)) :
    Calls Try.prog 4 #[.agg #[.float .f64 r, .float .f64 b, .float .f64 cost, .int .i64 soon, .int .i64 later, .int .i64 A, .int .i64 B]] w fun e w' => e = .returned (.bool true) ∧ Below w.heap.size w w' := by
  have HR := Lib.hid hr
  have HB := Lib.hid hb
  have HC := Lib.hid hc
  clear hr hb hc
  have h4 : decide (later < soon) = false := by have := H4.out; simpa using this
  have h7 : (A == B) = false := by have := H7.out; simpa using this
  have h8 : (FloatKind.f64.format.order cost b == some .gt) = true := by have := H8.out; simpa using this
  go_enter Try.func4, Try.ntmps4
  go_wp2_with fail
  refine (may_any r b _ HR.out HB.out).mono ?_
  rintro e w1 ⟨rfl, hb1⟩
  rw [H0.out]
  have BX : Hid (BoxW w1 w.heap.size r b cost soon later A B) := by
    refine Lib.hid (BoxW.of (w := (w.alloc (.cells #[.float .f64 r, .float .f64 b, .float .f64 cost, .int .i64 soon, .int .i64 later, .int .i64 A, .int .i64 B] 46))) ⟨?_, ?_, ?_, ?_, ?_, ?_, ?_⟩ (hb1.block _ (by simp))) <;> simp [go_sem]
  have W1 : Hid (Below w.heap.size w w1) := Lib.hid (((Below.refl _ _).alloc (Nat.le_refl _) _).trans (hb1.mono (by simp)))
  have hsz1 : w.heap.size < w1.heap.size := by have := hb1.size; simp at this; omega
  clear hb1
  obtain ⟨x0, x1, x2, x3, x4, x5, x6⟩ := BX.out

  go_wp2_with fail
  refine (refcost_any cost _ HC.out).mono ?_
  rintro e w' ⟨rfl, n, rfl⟩
  rw [H1.out]

  go_wp2_with fail
  refine (reftime_any soon _).mono ?_
  rintro e w' ⟨rfl, rfl⟩
  rw [H2.out]

  go_wp2_with fail
  refine (reftime_any later _).mono ?_
  rintro e w' ⟨rfl, rfl⟩
  rw [H3.out]

  go_wp2_with fail
  refine (client_any A _).mono ?_
  rintro e w' ⟨rfl, rfl⟩
  rw [H5.out]

  go_wp2_with fail
  refine (client_any B _).mono ?_
  rintro e w' ⟨rfl, rfl⟩
  rw [H6.out]

  go_wp2_with fail
  refine (works_any _).mono ?_
  rintro e w9 ⟨rfl, hb9⟩
  go_wp2_with fail
  go_ret
  exact ⟨rfl, (below_drewN W1.out _).trans (hb9.mono W1.out.size)⟩

end Go.Proofs.Ytbpnhpjcepgiiaa
