/- QuotaPlays: ask, kinds 3 to 5. -/
import Derived.Test.YtbpnhpjcepgiiaaPb
import Derived.Deep.RegionWith
namespace Go.Proofs.Ytbpnhpjcepgiiaa
open Go.RowKit Fl

section
variable {w : World} {q s c : Nat} {T : TypeId} {bs rs : List Bk} {b : Bk} {r u cost : Nat} {now : Int}

set_option maxRecDepth 100000 in
set_option maxHeartbeats 400000 in
theorem ask3_noT (A : Hid (AskH w q s c T bs rs b r u cost)) (HT : Hid (timeB now = false)) :
    Calls Try.prog 29 #[.pointer (some ⟨q, 0, none⟩), .pointer (some ⟨s, c * 6, none⟩), .agg #[.int .i64 3, .int .i64 c, .float .f64 r, .float .f64 u, .float .f64 cost, .int .i64 now]] w (AskPost w q s c T bs rs b) := by
  have hz : (FloatKind.f64.format.order 0 0 == some .eq) = true := by decide +kernel
  have B0 : Hid (Below w.heap.size w (w.alloc (.cells #[.int .i64 3, .int .i64 c, .float .f64 r, .float .f64 u, .float .f64 cost, .int .i64 now] 61))) := Lib.hid ((Below.refl _ _).alloc (Nat.le_refl _) _)
  have Q0 := Lib.hid (A.out.hq.below B0.out)
  have R0 := Lib.hid (A.out.hr.below B0.out)
  go_enter Try.func29, Try.ntmps29
  go_wp2_with fail
  refine (pay_none cost now A.out.c64 (of_bad_none q c _ bs _ Q0.out (.inr (.inr (by rw [HT.out, Bool.and_false])))) (by rfl)).mono ?_
  rintro e w' ⟨rfl, rfl⟩
  go_wp2_with fail
  refine (reftime_any now _).mono ?_
  rintro e w' ⟨rfl, rfl⟩
  rw [HT.out]
  go_wp2_with fail
  refine (num_any 2 _).mono ?_
  rintro e w' ⟨rfl, rfl⟩
  go_wp2_with fail
  go_ret
  exact ⟨rfl, ⟨b, by rw [set_same A.out.hb]; exact Q0.out, by rw [set_same A.out.hrb]; exact R0.out, A.out.ok, A.out.n0, by omega, .ofBelow B0.out⟩⟩

set_option maxRecDepth 100000 in
set_option maxHeartbeats 400000 in
theorem ask3_noC (A : Hid (AskH w q s c T bs rs b r u cost)) (HT : Hid (timeB now = true)) (HC : Hid (nnW cost = false)) :
    Calls Try.prog 29 #[.pointer (some ⟨q, 0, none⟩), .pointer (some ⟨s, c * 6, none⟩), .agg #[.int .i64 3, .int .i64 c, .float .f64 r, .float .f64 u, .float .f64 cost, .int .i64 now]] w (AskPost w q s c T bs rs b) := by
  have hz : (FloatKind.f64.format.order 0 0 == some .eq) = true := by decide +kernel
  have B0 : Hid (Below w.heap.size w (w.alloc (.cells #[.int .i64 3, .int .i64 c, .float .f64 r, .float .f64 u, .float .f64 cost, .int .i64 now] 61))) := Lib.hid ((Below.refl _ _).alloc (Nat.le_refl _) _)
  have Q0 := Lib.hid (A.out.hq.below B0.out)
  have R0 := Lib.hid (A.out.hr.below B0.out)
  go_enter Try.func29, Try.ntmps29
  go_wp2_with fail
  refine (pay_none cost now A.out.c64 (of_bad_none q c _ bs _ Q0.out (.inr (.inr (by rw [HC.out, Bool.false_and])))) (by rfl)).mono ?_
  rintro e w' ⟨rfl, rfl⟩
  go_wp2_with fail
  refine (reftime_any now _).mono ?_
  rintro e w' ⟨rfl, rfl⟩
  rw [HT.out]
  go_wp2_with fail
  refine (refcost_any cost _ A.out.c64).mono ?_
  rintro e w' ⟨rfl, n9, rfl⟩
  rw [HC.out]
  go_wp2_with fail
  refine (num_any 2 _).mono ?_
  rintro e w' ⟨rfl, rfl⟩
  go_wp2_with fail
  go_ret
  exact ⟨rfl, ⟨b, by rw [set_same A.out.hb]; exact Q0.out.of rfl, by rw [set_same A.out.hrb]; exact R0.out.of rfl, A.out.ok, A.out.n0, by omega, (Kept.ofBelow B0.out).drewN _⟩⟩

set_option maxRecDepth 100000 in
set_option maxHeartbeats 800000 in
theorem ask3_yes (A : Hid (AskH w q s c T bs rs b r u cost)) (HT : Hid (timeB now = true)) (HC : Hid (nnW cost = true)) :
    Calls Try.prog 29 #[.pointer (some ⟨q, 0, none⟩), .pointer (some ⟨s, c * 6, none⟩), .agg #[.int .i64 3, .int .i64 c, .float .f64 r, .float .f64 u, .float .f64 cost, .int .i64 now]] w (AskPost w q s c T bs rs b) := by
  have hz : (FloatKind.f64.format.order 0 0 == some .eq) = true := by decide +kernel
  have B0 : Hid (Below w.heap.size w (w.alloc (.cells #[.int .i64 3, .int .i64 c, .float .f64 r, .float .f64 u, .float .f64 cost, .int .i64 now] 61))) := Lib.hid ((Below.refl _ _).alloc (Nat.le_refl _) _)
  have Q0 := Lib.hid (A.out.hq.below B0.out)
  have R0 := Lib.hid (A.out.hr.below B0.out)
  have htt : 0 ≤ now ∧ now ≤ 9007199254740992 := by have := HT.out; simpa [timeB] using this
  have HTT := Lib.hid htt
  clear htt
  go_enter Try.func29, Try.ntmps29
  go_wp2_with fail
  refine (pay_b Q0.out A.out.hb A.out.ok cost now ((nnW_iff _).1 HC.out) A.out.c64 HTT.out.1 HTT.out.2 A.out.n0 A.out.n1).mono ?_
  rintro e w1 ⟨rfl, hq1, hg1⟩
  have BX := Lib.hid (AskBox.cells (w := w1) (X := w.heap.size) (k := 3) (c := c) (r := r) (u := u) (cost := cost) (now := now) (by rw [hg1.block _ (by simp) (by simp; exact A.out.nX1)]; exact heap_alloc_new _ _))
  obtain ⟨x0, x1, x2, x3, x4, x5⟩ := BX.out
  have Q1 := Lib.hid hq1
  have R1 := Lib.hid (R0.out.grown hg1 (fun e => A.out.ne e.symm))
  have K1 : Hid (Kept w w1 q s) := Lib.hid ((Kept.ofBelow B0.out).trans (.ofQ hg1))
  clear hq1 hg1
  have RP := fun W (hW : HasR W s T rs) => rpay_b hW A.out.hrb A.out.ok cost now ((nnW_iff _).1 HC.out) HTT.out.2 A.out.n0 A.out.n1
  obtain ⟨pn, hpn⟩ : ∃ pn, pn = payN b cost now := ⟨_, rfl⟩
  rw [← hpn] at RP ⊢
  have HRP := Lib.hid RP
  have hpp : (pn == pn) = true := by simp
  clear RP hpn
  go_wp2_with fail
  refine (reftime_any now _).mono ?_
  rintro e w' ⟨rfl, rfl⟩
  rw [HT.out]
  go_wp2_with fail
  refine (refcost_any cost _ A.out.c64).mono ?_
  rintro e w' ⟨rfl, n9, rfl⟩
  rw [HC.out]
  go_upto_region 23 with fail
  go_region_with (first | (go_at_call 13; refine (num_any pn _).mono ?_; rintro e w' ⟨rfl, rfl⟩) | (go_at_call 66; refine (HRP.out _ (R1.out.of (by rfl))).mono ?_; rintro e w' ⟨rfl, hr3, hg3⟩; have R3 := Lib.hid hr3; have G3 := Lib.hid hg3; clear hr3 hg3))
  all_goals (go_wp2_with fail; go_ret)
  all_goals exact ⟨rfl, _, (HasQ.grown (Q1.out.of (by rfl)) G3.out A.out.ne).of (by rfl), R3.out.of (by rfl), payB_ok b cost now A.out.ok HTT.out.2, by have := (payB_times b cost now).1; have := A.out.n0; omega, (payB_times b cost now).2, Kept.alike (Kept.trans (by exact Kept.alike K1.out rfl rfl rfl rfl) (.ofS G3.out)) rfl rfl rfl rfl⟩

set_option maxRecDepth 100000 in
set_option maxHeartbeats 400000 in
theorem ask4_noT (A : Hid (AskH w q s c T bs rs b r u cost)) (HT : Hid (timeB now = false)) :
    Calls Try.prog 29 #[.pointer (some ⟨q, 0, none⟩), .pointer (some ⟨s, c * 6, none⟩), .agg #[.int .i64 4, .int .i64 c, .float .f64 r, .float .f64 u, .float .f64 cost, .int .i64 now]] w (AskPost w q s c T bs rs b) := by
  have hz : (FloatKind.f64.format.order 0 0 == some .eq) = true := by decide +kernel
  have B0 : Hid (Below w.heap.size w (w.alloc (.cells #[.int .i64 4, .int .i64 c, .float .f64 r, .float .f64 u, .float .f64 cost, .int .i64 now] 61))) := Lib.hid ((Below.refl _ _).alloc (Nat.le_refl _) _)
  have Q0 := Lib.hid (A.out.hq.below B0.out)
  have R0 := Lib.hid (A.out.hr.below B0.out)
  go_enter Try.func29, Try.ntmps29
  go_wp2_with fail
  refine (pay_none cost now A.out.c64 (of_bad_none q c _ bs _ Q0.out (.inr (.inr (by rw [HT.out, Bool.and_false])))) (by rfl)).mono ?_
  rintro e w' ⟨rfl, rfl⟩
  go_wp2_with fail
  refine (reftime_any now _).mono ?_
  rintro e w' ⟨rfl, rfl⟩
  rw [HT.out]
  go_wp2_with fail
  refine (num_any 2 _).mono ?_
  rintro e w' ⟨rfl, rfl⟩
  go_wp2_with fail
  go_ret
  exact ⟨rfl, ⟨b, by rw [set_same A.out.hb]; exact Q0.out, by rw [set_same A.out.hrb]; exact R0.out, A.out.ok, A.out.n0, by omega, .ofBelow B0.out⟩⟩

set_option maxRecDepth 100000 in
set_option maxHeartbeats 400000 in
theorem ask4_noC (A : Hid (AskH w q s c T bs rs b r u cost)) (HT : Hid (timeB now = true)) (HC : Hid (nnW cost = false)) :
    Calls Try.prog 29 #[.pointer (some ⟨q, 0, none⟩), .pointer (some ⟨s, c * 6, none⟩), .agg #[.int .i64 4, .int .i64 c, .float .f64 r, .float .f64 u, .float .f64 cost, .int .i64 now]] w (AskPost w q s c T bs rs b) := by
  have hz : (FloatKind.f64.format.order 0 0 == some .eq) = true := by decide +kernel
  have B0 : Hid (Below w.heap.size w (w.alloc (.cells #[.int .i64 4, .int .i64 c, .float .f64 r, .float .f64 u, .float .f64 cost, .int .i64 now] 61))) := Lib.hid ((Below.refl _ _).alloc (Nat.le_refl _) _)
  have Q0 := Lib.hid (A.out.hq.below B0.out)
  have R0 := Lib.hid (A.out.hr.below B0.out)
  go_enter Try.func29, Try.ntmps29
  go_wp2_with fail
  refine (pay_none cost now A.out.c64 (of_bad_none q c _ bs _ Q0.out (.inr (.inr (by rw [HC.out, Bool.false_and])))) (by rfl)).mono ?_
  rintro e w' ⟨rfl, rfl⟩
  go_wp2_with fail
  refine (reftime_any now _).mono ?_
  rintro e w' ⟨rfl, rfl⟩
  rw [HT.out]
  go_wp2_with fail
  refine (refcost_any cost _ A.out.c64).mono ?_
  rintro e w' ⟨rfl, n9, rfl⟩
  rw [HC.out]
  go_wp2_with fail
  refine (num_any 2 _).mono ?_
  rintro e w' ⟨rfl, rfl⟩
  go_wp2_with fail
  go_ret
  exact ⟨rfl, ⟨b, by rw [set_same A.out.hb]; exact Q0.out.of rfl, by rw [set_same A.out.hrb]; exact R0.out.of rfl, A.out.ok, A.out.n0, by omega, (Kept.ofBelow B0.out).drewN _⟩⟩

set_option maxRecDepth 100000 in
set_option maxHeartbeats 800000 in
theorem ask4_yes (A : Hid (AskH w q s c T bs rs b r u cost)) (HT : Hid (timeB now = true)) (HC : Hid (nnW cost = true)) :
    Calls Try.prog 29 #[.pointer (some ⟨q, 0, none⟩), .pointer (some ⟨s, c * 6, none⟩), .agg #[.int .i64 4, .int .i64 c, .float .f64 r, .float .f64 u, .float .f64 cost, .int .i64 now]] w (AskPost w q s c T bs rs b) := by
  have hz : (FloatKind.f64.format.order 0 0 == some .eq) = true := by decide +kernel
  have B0 : Hid (Below w.heap.size w (w.alloc (.cells #[.int .i64 4, .int .i64 c, .float .f64 r, .float .f64 u, .float .f64 cost, .int .i64 now] 61))) := Lib.hid ((Below.refl _ _).alloc (Nat.le_refl _) _)
  have Q0 := Lib.hid (A.out.hq.below B0.out)
  have R0 := Lib.hid (A.out.hr.below B0.out)
  have htt : 0 ≤ now ∧ now ≤ 9007199254740992 := by have := HT.out; simpa [timeB] using this
  have HTT := Lib.hid htt
  clear htt
  go_enter Try.func29, Try.ntmps29
  go_wp2_with fail
  refine (pay_b Q0.out A.out.hb A.out.ok cost now ((nnW_iff _).1 HC.out) A.out.c64 HTT.out.1 HTT.out.2 A.out.n0 A.out.n1).mono ?_
  rintro e w1 ⟨rfl, hq1, hg1⟩
  have BX := Lib.hid (AskBox.cells (w := w1) (X := w.heap.size) (k := 4) (c := c) (r := r) (u := u) (cost := cost) (now := now) (by rw [hg1.block _ (by simp) (by simp; exact A.out.nX1)]; exact heap_alloc_new _ _))
  obtain ⟨x0, x1, x2, x3, x4, x5⟩ := BX.out
  have Q1 := Lib.hid hq1
  have R1 := Lib.hid (R0.out.grown hg1 (fun e => A.out.ne e.symm))
  have K1 : Hid (Kept w w1 q s) := Lib.hid ((Kept.ofBelow B0.out).trans (.ofQ hg1))
  clear hq1 hg1
  have RP := fun W (hW : HasR W s T rs) => rpay_b hW A.out.hrb A.out.ok cost now ((nnW_iff _).1 HC.out) HTT.out.2 A.out.n0 A.out.n1
  obtain ⟨pn, hpn⟩ : ∃ pn, pn = payN b cost now := ⟨_, rfl⟩
  rw [← hpn] at RP ⊢
  have HRP := Lib.hid RP
  have hpp : (pn == pn) = true := by simp
  clear RP hpn
  go_wp2_with fail
  refine (reftime_any now _).mono ?_
  rintro e w' ⟨rfl, rfl⟩
  rw [HT.out]
  go_wp2_with fail
  refine (refcost_any cost _ A.out.c64).mono ?_
  rintro e w' ⟨rfl, n9, rfl⟩
  rw [HC.out]
  go_upto_region 23 with fail
  go_region_with (first | (go_at_call 13; refine (num_any pn _).mono ?_; rintro e w' ⟨rfl, rfl⟩) | (go_at_call 66; refine (HRP.out _ (R1.out.of (by rfl))).mono ?_; rintro e w' ⟨rfl, hr3, hg3⟩; have R3 := Lib.hid hr3; have G3 := Lib.hid hg3; clear hr3 hg3))
  all_goals (go_wp2_with fail; go_ret)
  all_goals exact ⟨rfl, _, (HasQ.grown (Q1.out.of (by rfl)) G3.out A.out.ne).of (by rfl), R3.out.of (by rfl), payB_ok b cost now A.out.ok HTT.out.2, by have := (payB_times b cost now).1; have := A.out.n0; omega, (payB_times b cost now).2, Kept.alike (Kept.trans (by exact Kept.alike K1.out rfl rfl rfl rfl) (.ofS G3.out)) rfl rfl rfl rfl⟩

set_option maxRecDepth 100000 in
set_option maxHeartbeats 400000 in
theorem ask5_noT (A : Hid (AskH w q s c T bs rs b r u cost)) (HT : Hid (timeB now = false)) :
    Calls Try.prog 29 #[.pointer (some ⟨q, 0, none⟩), .pointer (some ⟨s, c * 6, none⟩), .agg #[.int .i64 5, .int .i64 c, .float .f64 r, .float .f64 u, .float .f64 cost, .int .i64 now]] w (AskPost w q s c T bs rs b) := by
  have hz : (FloatKind.f64.format.order 0 0 == some .eq) = true := by decide +kernel
  have B0 : Hid (Below w.heap.size w (w.alloc (.cells #[.int .i64 5, .int .i64 c, .float .f64 r, .float .f64 u, .float .f64 cost, .int .i64 now] 61))) := Lib.hid ((Below.refl _ _).alloc (Nat.le_refl _) _)
  have Q0 := Lib.hid (A.out.hq.below B0.out)
  have R0 := Lib.hid (A.out.hr.below B0.out)
  go_enter Try.func29, Try.ntmps29
  go_wp2_with fail
  refine (pay_none cost now A.out.c64 (of_bad_none q c _ bs _ Q0.out (.inr (.inr (by rw [HT.out, Bool.and_false])))) (by rfl)).mono ?_
  rintro e w' ⟨rfl, rfl⟩
  go_wp2_with fail
  refine (reftime_any now _).mono ?_
  rintro e w' ⟨rfl, rfl⟩
  rw [HT.out]
  go_wp2_with fail
  refine (num_any 2 _).mono ?_
  rintro e w' ⟨rfl, rfl⟩
  go_wp2_with fail
  go_ret
  exact ⟨rfl, ⟨b, by rw [set_same A.out.hb]; exact Q0.out, by rw [set_same A.out.hrb]; exact R0.out, A.out.ok, A.out.n0, by omega, .ofBelow B0.out⟩⟩

set_option maxRecDepth 100000 in
set_option maxHeartbeats 400000 in
theorem ask5_noC (A : Hid (AskH w q s c T bs rs b r u cost)) (HT : Hid (timeB now = true)) (HC : Hid (nnW cost = false)) :
    Calls Try.prog 29 #[.pointer (some ⟨q, 0, none⟩), .pointer (some ⟨s, c * 6, none⟩), .agg #[.int .i64 5, .int .i64 c, .float .f64 r, .float .f64 u, .float .f64 cost, .int .i64 now]] w (AskPost w q s c T bs rs b) := by
  have hz : (FloatKind.f64.format.order 0 0 == some .eq) = true := by decide +kernel
  have B0 : Hid (Below w.heap.size w (w.alloc (.cells #[.int .i64 5, .int .i64 c, .float .f64 r, .float .f64 u, .float .f64 cost, .int .i64 now] 61))) := Lib.hid ((Below.refl _ _).alloc (Nat.le_refl _) _)
  have Q0 := Lib.hid (A.out.hq.below B0.out)
  have R0 := Lib.hid (A.out.hr.below B0.out)
  go_enter Try.func29, Try.ntmps29
  go_wp2_with fail
  refine (pay_none cost now A.out.c64 (of_bad_none q c _ bs _ Q0.out (.inr (.inr (by rw [HC.out, Bool.false_and])))) (by rfl)).mono ?_
  rintro e w' ⟨rfl, rfl⟩
  go_wp2_with fail
  refine (reftime_any now _).mono ?_
  rintro e w' ⟨rfl, rfl⟩
  rw [HT.out]
  go_wp2_with fail
  refine (refcost_any cost _ A.out.c64).mono ?_
  rintro e w' ⟨rfl, n9, rfl⟩
  rw [HC.out]
  go_wp2_with fail
  refine (num_any 2 _).mono ?_
  rintro e w' ⟨rfl, rfl⟩
  go_wp2_with fail
  go_ret
  exact ⟨rfl, ⟨b, by rw [set_same A.out.hb]; exact Q0.out.of rfl, by rw [set_same A.out.hrb]; exact R0.out.of rfl, A.out.ok, A.out.n0, by omega, (Kept.ofBelow B0.out).drewN _⟩⟩

set_option maxRecDepth 100000 in
set_option maxHeartbeats 800000 in
theorem ask5_yes (A : Hid (AskH w q s c T bs rs b r u cost)) (HT : Hid (timeB now = true)) (HC : Hid (nnW cost = true)) :
    Calls Try.prog 29 #[.pointer (some ⟨q, 0, none⟩), .pointer (some ⟨s, c * 6, none⟩), .agg #[.int .i64 5, .int .i64 c, .float .f64 r, .float .f64 u, .float .f64 cost, .int .i64 now]] w (AskPost w q s c T bs rs b) := by
  have hz : (FloatKind.f64.format.order 0 0 == some .eq) = true := by decide +kernel
  have B0 : Hid (Below w.heap.size w (w.alloc (.cells #[.int .i64 5, .int .i64 c, .float .f64 r, .float .f64 u, .float .f64 cost, .int .i64 now] 61))) := Lib.hid ((Below.refl _ _).alloc (Nat.le_refl _) _)
  have Q0 := Lib.hid (A.out.hq.below B0.out)
  have R0 := Lib.hid (A.out.hr.below B0.out)
  have htt : 0 ≤ now ∧ now ≤ 9007199254740992 := by have := HT.out; simpa [timeB] using this
  have HTT := Lib.hid htt
  clear htt
  go_enter Try.func29, Try.ntmps29
  go_wp2_with fail
  refine (pay_b Q0.out A.out.hb A.out.ok cost now ((nnW_iff _).1 HC.out) A.out.c64 HTT.out.1 HTT.out.2 A.out.n0 A.out.n1).mono ?_
  rintro e w1 ⟨rfl, hq1, hg1⟩
  have BX := Lib.hid (AskBox.cells (w := w1) (X := w.heap.size) (k := 5) (c := c) (r := r) (u := u) (cost := cost) (now := now) (by rw [hg1.block _ (by simp) (by simp; exact A.out.nX1)]; exact heap_alloc_new _ _))
  obtain ⟨x0, x1, x2, x3, x4, x5⟩ := BX.out
  have Q1 := Lib.hid hq1
  have R1 := Lib.hid (R0.out.grown hg1 (fun e => A.out.ne e.symm))
  have K1 : Hid (Kept w w1 q s) := Lib.hid ((Kept.ofBelow B0.out).trans (.ofQ hg1))
  clear hq1 hg1
  have RP := fun W (hW : HasR W s T rs) => rpay_b hW A.out.hrb A.out.ok cost now ((nnW_iff _).1 HC.out) HTT.out.2 A.out.n0 A.out.n1
  obtain ⟨pn, hpn⟩ : ∃ pn, pn = payN b cost now := ⟨_, rfl⟩
  rw [← hpn] at RP ⊢
  have HRP := Lib.hid RP
  have hpp : (pn == pn) = true := by simp
  clear RP hpn
  go_wp2_with fail
  refine (reftime_any now _).mono ?_
  rintro e w' ⟨rfl, rfl⟩
  rw [HT.out]
  go_wp2_with fail
  refine (refcost_any cost _ A.out.c64).mono ?_
  rintro e w' ⟨rfl, n9, rfl⟩
  rw [HC.out]
  go_upto_region 23 with fail
  go_region_with (first | (go_at_call 13; refine (num_any pn _).mono ?_; rintro e w' ⟨rfl, rfl⟩) | (go_at_call 66; refine (HRP.out _ (R1.out.of (by rfl))).mono ?_; rintro e w' ⟨rfl, hr3, hg3⟩; have R3 := Lib.hid hr3; have G3 := Lib.hid hg3; clear hr3 hg3))
  all_goals (go_wp2_with fail; go_ret)
  all_goals exact ⟨rfl, _, (HasQ.grown (Q1.out.of (by rfl)) G3.out A.out.ne).of (by rfl), R3.out.of (by rfl), payB_ok b cost now A.out.ok HTT.out.2, by have := (payB_times b cost now).1; have := A.out.n0; omega, (payB_times b cost now).2, Kept.alike (Kept.trans (by exact Kept.alike K1.out rfl rfl rfl rfl) (.ofS G3.out)) rfl rfl rfl rfl⟩
end
end Go.Proofs.Ytbpnhpjcepgiiaa
