/- QuotaPlays: ask, kinds 6 to 9. -/
import Derived.Test.YtbpnhpjcepgiiaaPb
import Derived.Deep.RegionWith
namespace Go.Proofs.Ytbpnhpjcepgiiaa
open Go.RowKit Fl

section
variable {w : World} {q s c : Nat} {T : TypeId} {bs rs : List Bk} {b : Bk} {r u cost : Nat} {now : Int}

set_option maxRecDepth 100000 in
set_option maxHeartbeats 400000 in
theorem ask6_noT (A : Hid (AskH w q s c T bs rs b r u cost)) (HT : Hid (timeB now = false)) :
    Calls Try.prog 29 #[.pointer (some ⟨q, 0, none⟩), .pointer (some ⟨s, c * 6, none⟩), .agg #[.int .i64 6, .int .i64 c, .float .f64 r, .float .f64 u, .float .f64 cost, .int .i64 now]] w (AskPost w q s c T bs rs b) := by
  have hz : (FloatKind.f64.format.order 0 0 == some .eq) = true := by decide +kernel
  have B0 : Hid (Below w.heap.size w (w.alloc (.cells #[.int .i64 6, .int .i64 c, .float .f64 r, .float .f64 u, .float .f64 cost, .int .i64 now] 61))) := Lib.hid ((Below.refl _ _).alloc (Nat.le_refl _) _)
  have Q0 := Lib.hid (A.out.hq.below B0.out)
  have R0 := Lib.hid (A.out.hr.below B0.out)
  go_enter Try.func29, Try.ntmps29
  go_wp2_with fail
  refine (when_none cost now A.out.c64 (of_bad_none q c _ bs _ Q0.out (.inr (.inr (by rw [HT.out, Bool.and_false])))) (by rfl)).mono ?_
  rintro e w' ⟨rfl, rfl⟩
  go_wp2_with fail
  refine (reftime_any now _).mono ?_
  rintro e w' ⟨rfl, rfl⟩
  rw [HT.out]
  go_wp2_with fail
  refine (num_any 2 _).mono ?_
  rintro e w' ⟨rfl, rfl⟩
  go_wp2_with fail
  go_ret
  exact ⟨rfl, ⟨b, by rw [set_same A.out.hb]; exact Q0.out, by rw [set_same A.out.hrb]; exact R0.out, A.out.ok, A.out.n0, by omega, .ofBelow B0.out⟩⟩

set_option maxRecDepth 100000 in
set_option maxHeartbeats 400000 in
theorem ask6_noC (A : Hid (AskH w q s c T bs rs b r u cost)) (HT : Hid (timeB now = true)) (HC : Hid (nnW cost = false)) :
    Calls Try.prog 29 #[.pointer (some ⟨q, 0, none⟩), .pointer (some ⟨s, c * 6, none⟩), .agg #[.int .i64 6, .int .i64 c, .float .f64 r, .float .f64 u, .float .f64 cost, .int .i64 now]] w (AskPost w q s c T bs rs b) := by
  have hz : (FloatKind.f64.format.order 0 0 == some .eq) = true := by decide +kernel
  have B0 : Hid (Below w.heap.size w (w.alloc (.cells #[.int .i64 6, .int .i64 c, .float .f64 r, .float .f64 u, .float .f64 cost, .int .i64 now] 61))) := Lib.hid ((Below.refl _ _).alloc (Nat.le_refl _) _)
  have Q0 := Lib.hid (A.out.hq.below B0.out)
  have R0 := Lib.hid (A.out.hr.below B0.out)
  go_enter Try.func29, Try.ntmps29
  go_wp2_with fail
  refine (when_none cost now A.out.c64 (of_bad_none q c _ bs _ Q0.out (.inr (.inr (by rw [HC.out, Bool.false_and])))) (by rfl)).mono ?_
  rintro e w' ⟨rfl, rfl⟩
  go_wp2_with fail
  refine (reftime_any now _).mono ?_
  rintro e w' ⟨rfl, rfl⟩
  rw [HT.out]
  go_wp2_with fail
  refine (refcost_any cost _ A.out.c64).mono ?_
  rintro e w' ⟨rfl, n9, rfl⟩
  rw [HC.out]
  go_wp2_with fail
  refine (num_any 2 _).mono ?_
  rintro e w' ⟨rfl, rfl⟩
  go_wp2_with fail
  go_ret
  exact ⟨rfl, ⟨b, by rw [set_same A.out.hb]; exact Q0.out.of rfl, by rw [set_same A.out.hrb]; exact R0.out.of rfl, A.out.ok, A.out.n0, by omega, (Kept.ofBelow B0.out).drewN _⟩⟩

set_option maxRecDepth 100000 in
set_option maxHeartbeats 400000 in
theorem ask6_yes (A : Hid (AskH w q s c T bs rs b r u cost)) (HT : Hid (timeB now = true)) (HC : Hid (nnW cost = true)) :
    Calls Try.prog 29 #[.pointer (some ⟨q, 0, none⟩), .pointer (some ⟨s, c * 6, none⟩), .agg #[.int .i64 6, .int .i64 c, .float .f64 r, .float .f64 u, .float .f64 cost, .int .i64 now]] w (AskPost w q s c T bs rs b) := by
  have hz : (FloatKind.f64.format.order 0 0 == some .eq) = true := by decide +kernel
  have B0 : Hid (Below w.heap.size w (w.alloc (.cells #[.int .i64 6, .int .i64 c, .float .f64 r, .float .f64 u, .float .f64 cost, .int .i64 now] 61))) := Lib.hid ((Below.refl _ _).alloc (Nat.le_refl _) _)
  have Q0 := Lib.hid (A.out.hq.below B0.out)
  have R0 := Lib.hid (A.out.hr.below B0.out)
  have htt : 0 ≤ now ∧ now ≤ 9007199254740992 := by have := HT.out; simpa [timeB] using this
  have HTT := Lib.hid htt
  clear htt
  go_enter Try.func29, Try.ntmps29
  go_wp2_with fail
  refine (when_b Q0.out A.out.hb A.out.ok cost now ((nnW_iff _).1 HC.out) A.out.c64 HTT.out.1 HTT.out.2).mono ?_
  rintro e w1 ⟨tt, f, rfl, hwi, hq1, hg1⟩
  have BX := Lib.hid (AskBox.cells (w := w1) (X := w.heap.size) (k := 6) (c := c) (r := r) (u := u) (cost := cost) (now := now) (by rw [hg1.block _ (by simp) (by simp; exact A.out.nX1)]; exact heap_alloc_new _ _))
  obtain ⟨x0, x1, x2, x3, x4, x5⟩ := BX.out
  have Q1 := Lib.hid hq1
  have R1 := Lib.hid (R0.out.grown hg1 (fun e => A.out.ne e.symm))
  have K1 : Hid (Kept w w1 q s) := Lib.hid ((Kept.ofBelow B0.out).trans (.ofQ hg1))
  have HWI := Lib.hid hwi
  clear hq1 hg1 hwi
  go_wp2_with fail
  refine (reftime_any now _).mono ?_
  rintro e w' ⟨rfl, rfl⟩
  rw [HT.out]
  go_wp2_with fail
  refine (refcost_any cost _ A.out.c64).mono ?_
  rintro e w' ⟨rfl, n9, rfl⟩
  rw [HC.out]
  go_wp2_with fail
  refine (rwhen_b (R1.out.of (w' := w1.drewN n9) rfl) A.out.hrb A.out.ok cost now ((nnW_iff _).1 HC.out) HTT.out.2).mono ?_
  rintro e w3 ⟨tt2, f2, rfl, hwi2, hr3, hg3⟩
  obtain ⟨rfl, rfl⟩ := WhenIs.same (onB_ok b now A.out.ok HTT.out.2) HWI.out hwi2
  have Q3 : Hid (HasQ w3 q (bs.set c (whenB b cost now))) := Lib.hid (HasQ.grown (Q1.out.of (w' := w1.drewN n9) rfl) hg3 A.out.ne)
  have R3 := Lib.hid hr3
  have K3 : Hid (Kept w w3 q s) := Lib.hid ((K1.out.drewN n9).trans (.ofS hg3))
  have htt1 : (tt == tt) = true := by simp
  have hff1 : (f == f) = true := by simp
  clear hr3 hg3 hwi2
  go_wp2_with fail
  refine (num_any f _).mono ?_
  rintro e w' ⟨rfl, rfl⟩
  go_wp2_with fail
  go_ret
  exact ⟨rfl, _, Q3.out, R3.out, (whenB_ok b cost now A.out.ok HTT.out.2).1, by rw [(whenB_ok b cost now A.out.ok HTT.out.2).2]; exact A.out.n0, by rw [(whenB_ok b cost now A.out.ok HTT.out.2).2]; omega, K3.out⟩

set_option maxRecDepth 100000 in
set_option maxHeartbeats 400000 in
theorem ask7_no (A : Hid (AskH w q s c T bs rs b r u cost)) (HC : Hid (nnW cost = false)) :
    Calls Try.prog 29 #[.pointer (some ⟨q, 0, none⟩), .pointer (some ⟨s, c * 6, none⟩), .agg #[.int .i64 7, .int .i64 c, .float .f64 r, .float .f64 u, .float .f64 cost, .int .i64 now]] w (AskPost w q s c T bs rs b) := by
  have hz : (FloatKind.f64.format.order 0 0 == some .eq) = true := by decide +kernel
  have B0 : Hid (Below w.heap.size w (w.alloc (.cells #[.int .i64 7, .int .i64 c, .float .f64 r, .float .f64 u, .float .f64 cost, .int .i64 now] 61))) := Lib.hid ((Below.refl _ _).alloc (Nat.le_refl _) _)
  have Q0 := Lib.hid (A.out.hq.below B0.out)
  have R0 := Lib.hid (A.out.hr.below B0.out)
  go_enter Try.func29, Try.ntmps29
  go_wp2_with fail
  refine (back_none cost A.out.c64 (of_bad_none q c _ bs _ Q0.out (.inr (.inr HC.out))) (by rfl)).mono ?_
  rintro e w' ⟨rfl, rfl⟩
  go_wp2_with fail
  refine (refcost_any cost _ A.out.c64).mono ?_
  rintro e w' ⟨rfl, n9, rfl⟩
  rw [HC.out]
  go_wp2_with fail
  refine (num_any 2 _).mono ?_
  rintro e w' ⟨rfl, rfl⟩
  go_wp2_with fail
  go_ret
  exact ⟨rfl, ⟨b, by rw [set_same A.out.hb]; exact Q0.out.of rfl, by rw [set_same A.out.hrb]; exact R0.out.of rfl, A.out.ok, A.out.n0, by omega, (Kept.ofBelow B0.out).drewN _⟩⟩

set_option maxRecDepth 100000 in
set_option maxHeartbeats 400000 in
theorem ask7_yes (A : Hid (AskH w q s c T bs rs b r u cost)) (HC : Hid (nnW cost = true)) :
    Calls Try.prog 29 #[.pointer (some ⟨q, 0, none⟩), .pointer (some ⟨s, c * 6, none⟩), .agg #[.int .i64 7, .int .i64 c, .float .f64 r, .float .f64 u, .float .f64 cost, .int .i64 now]] w (AskPost w q s c T bs rs b) := by
  have hz : (FloatKind.f64.format.order 0 0 == some .eq) = true := by decide +kernel
  have B0 : Hid (Below w.heap.size w (w.alloc (.cells #[.int .i64 7, .int .i64 c, .float .f64 r, .float .f64 u, .float .f64 cost, .int .i64 now] 61))) := Lib.hid ((Below.refl _ _).alloc (Nat.le_refl _) _)
  have Q0 := Lib.hid (A.out.hq.below B0.out)
  have R0 := Lib.hid (A.out.hr.below B0.out)
  go_enter Try.func29, Try.ntmps29
  go_wp2_with fail
  refine (back_b Q0.out A.out.hb A.out.ok cost ((nnW_iff _).1 HC.out) A.out.c64).mono ?_
  rintro e w1 ⟨rfl, hq1, hg1⟩
  have BX := Lib.hid (AskBox.cells (w := w1) (X := w.heap.size) (k := 7) (c := c) (r := r) (u := u) (cost := cost) (now := now) (by rw [hg1.block _ (by simp) (by simp; exact A.out.nX1)]; exact heap_alloc_new _ _))
  obtain ⟨x0, x1, x2, x3, x4, x5⟩ := BX.out
  have Q1 := Lib.hid hq1
  have R1 := Lib.hid (R0.out.grown hg1 (fun e => A.out.ne e.symm))
  have K1 : Hid (Kept w w1 q s) := Lib.hid ((Kept.ofBelow B0.out).trans (.ofQ hg1))
  clear hq1 hg1
  go_wp2_with fail
  refine (refcost_any cost _ A.out.c64).mono ?_
  rintro e w' ⟨rfl, n9, rfl⟩
  rw [HC.out]
  go_wp2_with fail
  refine (rback_b (R1.out.of (w' := w1.drewN n9) rfl) A.out.hrb A.out.ok cost ((nnW_iff _).1 HC.out)).mono ?_
  rintro e w3 ⟨rfl, hr3, hg3⟩
  have Q3 : Hid (HasQ w3 q (bs.set c (backB b cost))) := Lib.hid (HasQ.grown (Q1.out.of (w' := w1.drewN n9) rfl) hg3 A.out.ne)
  have R3 := Lib.hid hr3
  have K3 : Hid (Kept w w3 q s) := Lib.hid ((K1.out.drewN n9).trans (.ofS hg3))
  clear hr3 hg3
  go_wp2_with fail
  refine (num_any 0 _).mono ?_
  rintro e w' ⟨rfl, rfl⟩
  go_wp2_with fail
  go_ret
  exact ⟨rfl, _, Q3.out, R3.out, backB_ok b cost A.out.ok, A.out.n0, by show b.times ≤ _; omega, K3.out⟩

set_option maxRecDepth 100000 in
set_option maxHeartbeats 400000 in
theorem ask8 (A : Hid (AskH w q s c T bs rs b r u cost)) :
    Calls Try.prog 29 #[.pointer (some ⟨q, 0, none⟩), .pointer (some ⟨s, c * 6, none⟩), .agg #[.int .i64 8, .int .i64 c, .float .f64 r, .float .f64 u, .float .f64 cost, .int .i64 now]] w (AskPost w q s c T bs rs b) := by
  have hz : (FloatKind.f64.format.order 0 0 == some .eq) = true := by decide +kernel
  have B0 : Hid (Below w.heap.size w (w.alloc (.cells #[.int .i64 8, .int .i64 c, .float .f64 r, .float .f64 u, .float .f64 cost, .int .i64 now] 61))) := Lib.hid ((Below.refl _ _).alloc (Nat.le_refl _) _)
  have Q0 := Lib.hid (A.out.hq.below B0.out)
  have R0 := Lib.hid (A.out.hr.below B0.out)
  have hnn : (b.times == b.times) = true := by simp
  go_enter Try.func29, Try.ntmps29
  go_wp2_with fail
  refine (paid_b Q0.out A.out.hb).mono ?_
  rintro e w1 ⟨rfl, n9, rfl⟩
  have R1 : Hid (HasR ((w.alloc (.cells #[.int .i64 8, .int .i64 c, .float .f64 r, .float .f64 u, .float .f64 cost, .int .i64 now] 61)).drewN n9) s T rs) := Lib.hid (R0.out.of rfl)
  have hbk := R1.out.bk c (List.getElem?_eq_some_iff.1 A.out.hrb).1
  rw [(List.getElem?_eq_some_iff.1 A.out.hrb).2] at hbk
  have r4 := hbk.paid
  have r5 := hbk.times
  clear hbk
  go_wp2_with fail
  refine (like_same b.paid _ (u64_of A.out.ok).2).mono ?_
  rintro e w' ⟨rfl, rfl⟩
  go_wp2_with fail
  refine (num_any 0 _).mono ?_
  rintro e w' ⟨rfl, rfl⟩
  go_wp2_with fail
  go_ret
  exact ⟨rfl, ⟨b, by rw [set_same A.out.hb]; exact Q0.out.of rfl, by rw [set_same A.out.hrb]; exact R0.out.of rfl, A.out.ok, A.out.n0, by omega, (Kept.ofBelow B0.out).drewN _⟩⟩

set_option maxRecDepth 100000 in
set_option maxHeartbeats 400000 in
theorem ask9_no (A : Hid (AskH w q s c T bs rs b r u cost)) (HT : Hid (timeB now = false)) :
    Calls Try.prog 29 #[.pointer (some ⟨q, 0, none⟩), .pointer (some ⟨s, c * 6, none⟩), .agg #[.int .i64 9, .int .i64 c, .float .f64 r, .float .f64 u, .float .f64 cost, .int .i64 now]] w (AskPost w q s c T bs rs b) := by
  have hz : (FloatKind.f64.format.order 0 0 == some .eq) = true := by decide +kernel
  have B0 : Hid (Below w.heap.size w (w.alloc (.cells #[.int .i64 9, .int .i64 c, .float .f64 r, .float .f64 u, .float .f64 cost, .int .i64 now] 61))) := Lib.hid ((Below.refl _ _).alloc (Nat.le_refl _) _)
  have Q0 := Lib.hid (A.out.hq.below B0.out)
  have R0 := Lib.hid (A.out.hr.below B0.out)
  go_enter Try.func29, Try.ntmps29
  go_wp2_with fail
  refine (reset_none now (of_bad_none q c _ bs _ Q0.out (.inr (.inr HT.out))) (by rfl)).mono ?_
  rintro e w' ⟨rfl, rfl⟩
  go_wp2_with fail
  refine (reftime_any now _).mono ?_
  rintro e w' ⟨rfl, rfl⟩
  rw [HT.out]
  go_wp2_with fail
  refine (num_any 2 _).mono ?_
  rintro e w' ⟨rfl, rfl⟩
  go_wp2_with fail
  go_ret
  exact ⟨rfl, ⟨b, by rw [set_same A.out.hb]; exact Q0.out, by rw [set_same A.out.hrb]; exact R0.out, A.out.ok, A.out.n0, by omega, .ofBelow B0.out⟩⟩

set_option maxRecDepth 100000 in
set_option maxHeartbeats 400000 in
theorem ask9_yes (A : Hid (AskH w q s c T bs rs b r u cost)) (HT : Hid (timeB now = true)) :
    Calls Try.prog 29 #[.pointer (some ⟨q, 0, none⟩), .pointer (some ⟨s, c * 6, none⟩), .agg #[.int .i64 9, .int .i64 c, .float .f64 r, .float .f64 u, .float .f64 cost, .int .i64 now]] w (AskPost w q s c T bs rs b) := by
  have hz : (FloatKind.f64.format.order 0 0 == some .eq) = true := by decide +kernel
  have B0 : Hid (Below w.heap.size w (w.alloc (.cells #[.int .i64 9, .int .i64 c, .float .f64 r, .float .f64 u, .float .f64 cost, .int .i64 now] 61))) := Lib.hid ((Below.refl _ _).alloc (Nat.le_refl _) _)
  have Q0 := Lib.hid (A.out.hq.below B0.out)
  have R0 := Lib.hid (A.out.hr.below B0.out)
  have htt : 0 ≤ now ∧ now ≤ 9007199254740992 := by have := HT.out; simpa [timeB] using this
  have HTT := Lib.hid htt
  clear htt
  have hsf := run_store_float
  go_enter Try.func29, Try.ntmps29
  go_wp2_with fail
  refine (reset_b Q0.out A.out.hb now HTT.out.1 HTT.out.2).mono ?_
  rintro e w1 ⟨rfl, hq1, hg1⟩
  have BX := Lib.hid (AskBox.cells (w := w1) (X := w.heap.size) (k := 9) (c := c) (r := r) (u := u) (cost := cost) (now := now) (by rw [hg1.block _ (by simp) (by simp; exact A.out.nX1)]; exact heap_alloc_new _ _))
  obtain ⟨x0, x1, x2, x3, x4, x5⟩ := BX.out
  have Q1 := Lib.hid hq1
  have R1 := Lib.hid (R0.out.grown hg1 (fun e => A.out.ne e.symm))
  have K1 : Hid (Kept w w1 q s) := Lib.hid ((Kept.ofBelow B0.out).trans (.ofQ hg1))
  clear hq1 hg1
  go_wp2_with fail
  refine (reftime_any now _).mono ?_
  rintro e w' ⟨rfl, rfl⟩
  rw [HT.out]
  have hi : Hid (c < rs.length) := Lib.hid (List.getElem?_eq_some_iff.1 A.out.hrb).1
  have hbk := R1.out.bk c hi.out
  have hrr : rs[c]'hi.out = b := (List.getElem?_eq_some_iff.1 A.out.hrb).2
  rw [hrr] at hbk
  have r1 := hbk.burst
  have r2 := hbk.level
  have r3 := hbk.time
  have f1 := hbk.free (c * 6 + 1)
  have f2 := hbk.free (c * 6 + 2)
  have f3 := hbk.free (c * 6 + 3)
  have HRR := Lib.hid hrr
  have hnX2 := A.out.nX2
  have hnX3 : ¬ s = w.heap.size := fun e => hnX2 e.symm
  clear hbk hrr
  go_wp2_with fail
  refine (num_any 0 _).mono ?_
  rintro e w' ⟨rfl, rfl⟩
  go_wp2_with fail
  go_ret
  have s1 := R1.out.store c 2 (.float .f64 b.burst) { b with level := b.burst } hi.out (by omega) (by rw [HRR.out]; rfl)
  have s2 := s1.store c 3 (.int .i64 now) (resetB b now) (by rw [List.length_set]; exact hi.out) (by omega) (by rw [List.getElem_set_self]; rfl)
  rw [List.set_set] at s2
  have G2 : w1.grownBy ((w1.setCell ⟨s, c * 6 + 2, none⟩ (.float .f64 b.burst)).setCell ⟨s, c * 6 + 3, none⟩ (.int .i64 now)) (some s) := grown_trans (grown_setCell _ _ _ _) (grown_setCell _ _ _ _)
  exact ⟨rfl, _, (Q1.out.grown G2 A.out.ne).of rfl, s2.of rfl, resetB_ok b now A.out.ok HTT.out.1 HTT.out.2, A.out.n0, by show b.times ≤ _; omega, Kept.alike (K1.out.trans (.ofS G2)) rfl rfl rfl rfl⟩

set_option maxRecDepth 100000 in
set_option maxHeartbeats 400000 in
theorem ask_other (k : Int) (A : Hid (AskH w q s c T bs rs b r u cost)) (hk : k < 0 ∨ 9 < k) :
    Calls Try.prog 29 #[.pointer (some ⟨q, 0, none⟩), .pointer (some ⟨s, c * 6, none⟩), .agg #[.int .i64 k, .int .i64 c, .float .f64 r, .float .f64 u, .float .f64 cost, .int .i64 now]] w (AskPost w q s c T bs rs b) := by
  have B0 : Hid (Below w.heap.size w (w.alloc (.cells #[.int .i64 k, .int .i64 c, .float .f64 r, .float .f64 u, .float .f64 cost, .int .i64 now] 61))) := Lib.hid ((Below.refl _ _).alloc (Nat.le_refl _) _)
  have Q0 := Lib.hid (A.out.hq.below B0.out)
  have R0 := Lib.hid (A.out.hr.below B0.out)
  have h0 : (k == 0) = false := by simp; omega
  have h1 : (k == 1) = false := by simp; omega
  have h2 : (k == 2) = false := by simp; omega
  have h3 : (k == 3) = false := by simp; omega
  have h4 : (k == 4) = false := by simp; omega
  have h5 : (k == 5) = false := by simp; omega
  have h6 : (k == 6) = false := by simp; omega
  have h7 : (k == 7) = false := by simp; omega
  have h8 : (k == 8) = false := by simp; omega
  have h9 : (k == 9) = false := by simp; omega
  clear hk
  go_enter Try.func29, Try.ntmps29
  go_wp2_with fail
  go_ret
  exact ⟨rfl, ⟨b, by rw [set_same A.out.hb]; exact Q0.out, by rw [set_same A.out.hrb]; exact R0.out, A.out.ok, A.out.n0, by omega, .ofBelow B0.out⟩⟩
end
end Go.Proofs.Ytbpnhpjcepgiiaa
