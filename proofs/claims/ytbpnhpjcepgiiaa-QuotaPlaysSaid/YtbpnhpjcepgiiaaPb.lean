/- QuotaPlays: ask, kind by kind. -/
import Derived.Test.YtbpnhpjcepgiiaaPa
import Derived.Deep.RegionWith
import Derived.Deep.QuietTactic
import Derived.Deep.Cut
import Derived.BigQuiet
namespace Go.Proofs.Ytbpnhpjcepgiiaa
open Go.RowKit Fl

/-- all but two blocks stand as they stood -/
structure Kept (w w' : World) (q s : Nat) : Prop where
  os : w'.os = w.os
  tape : w'.tape = w.tape
  output : w'.output = w.output
  size : w.heap.size ≤ w'.heap.size
  block : ∀ k, k < w.heap.size → k ≠ q → k ≠ s → w'.heap[k]? = w.heap[k]?
theorem Kept.ofBelow {w w' : World} {q s : Nat} (h : Below w.heap.size w w') : Kept w w' q s := ⟨h.os, h.tape, h.output, h.size, fun k hk _ _ => h.block k hk⟩
theorem Kept.ofQ {w w' : World} {q s : Nat} (h : w.grownBy w' (some q)) : Kept w w' q s := ⟨h.os, h.tape, h.output, h.size, fun k hk h1 _ => h.block k hk (by simp; exact h1)⟩
theorem Kept.ofS {w w' : World} {q s : Nat} (h : w.grownBy w' (some s)) : Kept w w' q s := ⟨h.os, h.tape, h.output, h.size, fun k hk _ h1 => h.block k hk (by simp; exact h1)⟩
theorem Kept.trans {w w1 w2 : World} {q s : Nat} (h : Kept w w1 q s) (g : Kept w1 w2 q s) : Kept w w2 q s :=
  ⟨g.os.trans h.os, g.tape.trans h.tape, g.output.trans h.output, Nat.le_trans h.size g.size, fun k hk h1 h2 => (g.block k (Nat.lt_of_lt_of_le hk h.size) h1 h2).trans (h.block k hk h1 h2)⟩
theorem Kept.alike {w w1 w2 : World} {q s : Nat} (h : Kept w w1 q s) (e1 : w2.os = w1.os) (e2 : w2.tape = w1.tape) (e3 : w2.output = w1.output) (e4 : w2.heap = w1.heap) : Kept w w2 q s :=
  ⟨by rw [e1]; exact h.os, by rw [e2]; exact h.tape, by rw [e3]; exact h.output, by rw [e4]; exact h.size, fun k hk h1 h2 => by rw [e4]; exact h.block k hk h1 h2⟩
theorem Kept.drewN {w w1 : World} {q s : Nat} (h : Kept w w1 q s) (n : Nat) : Kept w (w1.drewN n) q s := ⟨h.os, h.tape, h.output, h.size, h.block⟩

structure AskH (w : World) (q s c : Nat) (T : TypeId) (bs rs : List Bk) (b : Bk) (r u cost : Nat) : Prop where
  hq : HasQ w q bs
  hr : HasR w s T rs
  hb : bs[c]? = some b
  hrb : rs[c]? = some b
  ok : BkOk b
  ne : q ≠ s
  n0 : 0 ≤ b.times
  n1 : b.times ≤ 1000000
  r64 : r < 18446744073709551616
  u64 : u < 18446744073709551616
  c64 : cost < 18446744073709551616
theorem AskH.nX1 {w : World} {q s c : Nat} {T : TypeId} {bs rs : List Bk} {b : Bk} {r u cost : Nat} (A : AskH w q s c T bs rs b r u cost) : ¬ w.heap.size = q := fun e => Nat.lt_irrefl _ (e ▸ A.hq.lt)
theorem AskH.nX2 {w : World} {q s c : Nat} {T : TypeId} {bs rs : List Bk} {b : Bk} {r u cost : Nat} (A : AskH w q s c T bs rs b r u cost) : ¬ w.heap.size = s := fun e => Nat.lt_irrefl _ (e ▸ A.hr.lt)
def AskPost (w : World) (q s c : Nat) (T : TypeId) (bs rs : List Bk) (b : Bk) (e : Ending) (w' : World) : Prop :=
  e = .returned (.bool true) ∧ ∃ b', HasQ w' q (bs.set c b') ∧ HasR w' s T (rs.set c b') ∧ BkOk b' ∧ 0 ≤ b'.times ∧ b'.times ≤ b.times + 1 ∧ Kept w w' q s
theorem payB_ok (b : Bk) (cost : Nat) (t : Int) (h : BkOk b) (ht : t ≤ 9007199254740992) : BkOk (payB b cost t) := by
  unfold payB
  split
  · exact h
  · split
    · exact onB_ok b t h ht
    · exact outB_ok _ cost (onB_ok b t h ht) (by show rv cost ≤ atL b t; omega)
theorem payB_times (b : Bk) (cost : Nat) (t : Int) : b.times ≤ (payB b cost t).times ∧ (payB b cost t).times ≤ b.times + 1 := by
  unfold payB
  split
  · omega
  · split
    · show b.times ≤ b.times ∧ b.times ≤ b.times + 1; omega
    · show b.times ≤ b.times + 1 ∧ b.times + 1 ≤ b.times + 1; omega
theorem whenB_ok (b : Bk) (cost : Nat) (t : Int) (h : BkOk b) (ht : t ≤ 9007199254740992) : BkOk (whenB b cost t) ∧ (whenB b cost t).times = b.times := by
  unfold whenB
  split
  · exact ⟨h, rfl⟩
  · exact ⟨onB_ok b t h ht, rfl⟩
theorem u64_of {b : Bk} (h : BkOk b) : b.level < 18446744073709551616 ∧ b.paid < 18446744073709551616 := by
  have h1 := h.level; have h2 := h.burst1; have h3 := h.paid
  have : inf < 18446744073709551616 := by decide
  omega
theorem order_eq_nn (x : Nat) (hx : NN x) : (FloatKind.f64.format.order x x == some .eq) = true := by
  rcases hx with h | rfl
  · exact order_eq_same x (Nat.le_of_lt h)
  · decide +kernel

theorem num_quiet (n : Int) (w : World) : Calls Try.prog 13 #[.int .i64 n] w fun e w' => e = .returned (.int .i64 n) ∧ w' = w := (num_any n w).mono fun _ _ ⟨h1, h2⟩ => ⟨h1, h2.symm⟩

/-- the cells of a box that holds what is asked -/
theorem AskBox.cells {w : World} {X : Nat} {k c : Int} {r u cost : Nat} {now : Int} (h : w.heap[X]? = some (.cells #[.int .i64 k, .int .i64 c, .float .f64 r, .float .f64 u, .float .f64 cost, .int .i64 now] 61 (0, 0))) :
    w.cell? ⟨X, 0, none⟩ = some (.int .i64 k) ∧ w.cell? ⟨X, 1, none⟩ = some (.int .i64 c) ∧ w.cell? ⟨X, 2, none⟩ = some (.float .f64 r) ∧ w.cell? ⟨X, 3, none⟩ = some (.float .f64 u) ∧ w.cell? ⟨X, 4, none⟩ = some (.float .f64 cost) ∧ w.cell? ⟨X, 5, none⟩ = some (.int .i64 now) := by
  simp [World.cell?, h]

section
variable {w : World} {q s c : Nat} {T : TypeId} {bs rs : List Bk} {b : Bk} {r u cost : Nat} {now : Int}

set_option maxRecDepth 100000 in
set_option maxHeartbeats 400000 in
theorem ask0_no (A : Hid (AskH w q s c T bs rs b r u cost)) (HQB : Hid (quotaB r u = false)) :
    Calls Try.prog 29 #[.pointer (some ⟨q, 0, none⟩), .pointer (some ⟨s, c * 6, none⟩), .agg #[.int .i64 0, .int .i64 c, .float .f64 r, .float .f64 u, .float .f64 cost, .int .i64 now]] w (AskPost w q s c T bs rs b) := by
  have hz : (FloatKind.f64.format.order 0 0 == some .eq) = true := by decide +kernel
  have B0 : Hid (Below w.heap.size w (w.alloc (.cells #[.int .i64 0, .int .i64 c, .float .f64 r, .float .f64 u, .float .f64 cost, .int .i64 now] 61))) := Lib.hid ((Below.refl _ _).alloc (Nat.le_refl _) _)
  have Q0 := Lib.hid (A.out.hq.below B0.out)
  have R0 := Lib.hid (A.out.hr.below B0.out)
  go_enter Try.func29, Try.ntmps29
  go_wp2_with fail
  refine (set_none r u A.out.r64 A.out.u64 (of_bad_none q c _ bs _ Q0.out (.inr (.inr HQB.out))) (by rfl)).mono ?_
  rintro e w1 ⟨rfl, hb1⟩
  have BX := Lib.hid (AskBox.cells (w := w1) (X := w.heap.size) (k := 0) (c := c) (r := r) (u := u) (cost := cost) (now := now) (by rw [hb1.block _ (by simp)]; exact heap_alloc_new _ _))
  obtain ⟨x0, x1, x2, x3, x4, x5⟩ := BX.out
  have B1 := Lib.hid (B0.out.trans (hb1.mono B0.out.size))
  clear hb1
  go_wp2_with fail
  refine (may_any r u _ A.out.r64 A.out.u64).mono ?_
  rintro e w2 ⟨rfl, hb2⟩
  rw [HQB.out]
  have B2 := Lib.hid (B1.out.trans (hb2.mono B1.out.size))
  clear hb2
  go_wp2_with fail
  refine (num_any 2 _).mono ?_
  rintro e w' ⟨rfl, rfl⟩
  go_wp2_with fail
  go_ret
  exact ⟨rfl, ⟨b, by rw [set_same A.out.hb]; exact A.out.hq.below B2.out, by rw [set_same A.out.hrb]; exact A.out.hr.below B2.out, A.out.ok, A.out.n0, by omega, .ofBelow B2.out⟩⟩

set_option maxRecDepth 100000 in
set_option maxHeartbeats 400000 in
theorem ask0_yes (A : Hid (AskH w q s c T bs rs b r u cost)) (HQB : Hid (quotaB r u = true)) :
    Calls Try.prog 29 #[.pointer (some ⟨q, 0, none⟩), .pointer (some ⟨s, c * 6, none⟩), .agg #[.int .i64 0, .int .i64 c, .float .f64 r, .float .f64 u, .float .f64 cost, .int .i64 now]] w (AskPost w q s c T bs rs b) := by
  have hz : (FloatKind.f64.format.order 0 0 == some .eq) = true := by decide +kernel
  have B0 : Hid (Below w.heap.size w (w.alloc (.cells #[.int .i64 0, .int .i64 c, .float .f64 r, .float .f64 u, .float .f64 cost, .int .i64 now] 61))) := Lib.hid ((Below.refl _ _).alloc (Nat.le_refl _) _)
  have Q0 := Lib.hid (A.out.hq.below B0.out)
  have R0 := Lib.hid (A.out.hr.below B0.out)
  go_enter Try.func29, Try.ntmps29
  go_wp2_with fail
  refine (setq_b Q0.out A.out.hb A.out.ok r u A.out.r64 A.out.u64 HQB.out).mono ?_
  rintro e w1 ⟨rfl, hq1, hg1⟩
  have BXX : Hid (w1.heap[w.heap.size]? = some (.cells #[.int .i64 0, .int .i64 c, .float .f64 r, .float .f64 u, .float .f64 cost, .int .i64 now] 61 (0, 0))) := Lib.hid (by rw [hg1.block _ (by simp) (by simp; exact A.out.nX1)]; exact heap_alloc_new _ _)
  have BX := Lib.hid (AskBox.cells (w := w1) (X := w.heap.size) (k := 0) (c := c) (r := r) (u := u) (cost := cost) (now := now) (by rw [hg1.block _ (by simp) (by simp; exact A.out.nX1)]; exact heap_alloc_new _ _))
  obtain ⟨x0, x1, x2, x3, x4, x5⟩ := BX.out
  have Q1 := Lib.hid hq1
  have R1 := Lib.hid (R0.out.grown hg1 (fun e => A.out.ne e.symm))
  have K1 : Hid (Kept w w1 q s) := Lib.hid ((Kept.ofBelow B0.out).trans (.ofQ hg1))
  clear hq1 hg1
  go_wp2_with fail
  refine (may_any r u _ A.out.r64 A.out.u64).mono ?_
  rintro e w2 ⟨rfl, hb2⟩
  rw [HQB.out]
  have hX : w.heap.size < w1.heap.size := by
    have := World.block_lt_of_cell? w1 _ x0
    exact this
  have BX2 := Lib.hid (AskBox.cells (w := w2) (X := w.heap.size) (k := 0) (c := c) (r := r) (u := u) (cost := cost) (now := now) (by rw [hb2.block _ hX]; exact BXX.out))
  obtain ⟨y0, y1, y2, y3, y4, y5⟩ := BX2.out
  have Q2 := Lib.hid (Q1.out.below hb2)
  have R2 := Lib.hid (R1.out.below hb2)
  have K2 := Lib.hid (K1.out.trans (.ofBelow hb2))
  clear hb2
  go_wp2_with fail
  refine (rset_b R2.out A.out.hrb A.out.ok r u (by have h := HQB.out; simp only [quotaB, Bool.and_eq_true, decide_eq_true_eq] at h; exact h.2.2)).mono ?_
  rintro e w3 ⟨rfl, hr3, hg3⟩
  have Q3 := Lib.hid (Q2.out.grown hg3 A.out.ne)
  have R3 := Lib.hid hr3
  have K3 := Lib.hid (K2.out.trans (.ofS hg3))
  clear hr3 hg3
  go_wp2_with fail
  refine (num_any 0 _).mono ?_
  rintro e w' ⟨rfl, rfl⟩
  go_wp2_with fail
  go_ret
  exact ⟨rfl, _, Q3.out, R3.out, setB_ok b r u A.out.ok HQB.out, A.out.n0, by show b.times ≤ _; omega, K3.out⟩

set_option maxRecDepth 100000 in
set_option maxHeartbeats 400000 in
theorem ask1 (A : Hid (AskH w q s c T bs rs b r u cost)) :
    Calls Try.prog 29 #[.pointer (some ⟨q, 0, none⟩), .pointer (some ⟨s, c * 6, none⟩), .agg #[.int .i64 1, .int .i64 c, .float .f64 r, .float .f64 u, .float .f64 cost, .int .i64 now]] w (AskPost w q s c T bs rs b) := by
  have hz : (FloatKind.f64.format.order 0 0 == some .eq) = true := by decide +kernel
  have B0 : Hid (Below w.heap.size w (w.alloc (.cells #[.int .i64 1, .int .i64 c, .float .f64 r, .float .f64 u, .float .f64 cost, .int .i64 now] 61))) := Lib.hid ((Below.refl _ _).alloc (Nat.le_refl _) _)
  have Q0 := Lib.hid (A.out.hq.below B0.out)
  have R0 := Lib.hid (A.out.hr.below B0.out)
  have he1 := order_eq_nn b.rate A.out.ok.rate
  have he2 := order_eq_nn b.burst (.inl A.out.ok.burst1)
  have hsf := run_store_float
  go_enter Try.func29, Try.ntmps29
  go_wp2_with fail
  refine (ofq_b Q0.out A.out.hb).mono ?_
  rintro e w1 ⟨rfl, hb1⟩
  have B1 : Hid (Below w.heap.size w (w1.alloc (.cells #[.float .f64 b.rate, .float .f64 b.burst] 24))) := Lib.hid ((B0.out.trans (hb1.mono B0.out.size)).alloc (B0.out.trans (hb1.mono B0.out.size)).size _)
  have Q1 := Lib.hid (A.out.hq.below B1.out)
  have R1 := Lib.hid (A.out.hr.below B1.out)
  clear hb1
  have hbk := R1.out.bk c (List.getElem?_eq_some_iff.1 A.out.hrb).1
  rw [(List.getElem?_eq_some_iff.1 A.out.hrb).2] at hbk
  have r0 := hbk.rate
  have r1 := hbk.burst
  clear hbk
  go_upto_region 10 with fail
  go_quiet (first | (go_at_call 13; refine Calls.quiet_of_same (num_quiet 0 _)))
  go_wp2_with fail
  go_ret
  exact ⟨rfl, ⟨b, by rw [set_same A.out.hb]; exact Q1.out.of rfl, by rw [set_same A.out.hrb]; exact R1.out.of rfl, A.out.ok, A.out.n0, by omega, (Kept.ofBelow B1.out).drewN _⟩⟩

set_option maxRecDepth 100000 in
set_option maxHeartbeats 400000 in
theorem ask2_no (A : Hid (AskH w q s c T bs rs b r u cost)) (HT : Hid (timeB now = false)) :
    Calls Try.prog 29 #[.pointer (some ⟨q, 0, none⟩), .pointer (some ⟨s, c * 6, none⟩), .agg #[.int .i64 2, .int .i64 c, .float .f64 r, .float .f64 u, .float .f64 cost, .int .i64 now]] w (AskPost w q s c T bs rs b) := by
  have hz : (FloatKind.f64.format.order 0 0 == some .eq) = true := by decide +kernel
  have B0 : Hid (Below w.heap.size w (w.alloc (.cells #[.int .i64 2, .int .i64 c, .float .f64 r, .float .f64 u, .float .f64 cost, .int .i64 now] 61))) := Lib.hid ((Below.refl _ _).alloc (Nat.le_refl _) _)
  have Q0 := Lib.hid (A.out.hq.below B0.out)
  have R0 := Lib.hid (A.out.hr.below B0.out)
  go_enter Try.func29, Try.ntmps29
  go_wp2_with fail
  refine (level_none now (of_bad_none q c _ bs _ Q0.out (.inr (.inr HT.out))) (by rfl)).mono ?_
  rintro e w' ⟨rfl, rfl⟩
  go_wp2_with fail
  refine (reftime_any now _).mono ?_
  rintro e w' ⟨rfl, rfl⟩
  rw [HT.out]
  go_wp2_with fail
  refine (num_any 2 _).mono ?_
  rintro e w' ⟨rfl, rfl⟩
  go_wp2_with fail
  go_ret
  exact ⟨rfl, ⟨b, by rw [set_same A.out.hb]; exact Q0.out, by rw [set_same A.out.hrb]; exact R0.out, A.out.ok, A.out.n0, by omega, .ofBelow B0.out⟩⟩

set_option maxRecDepth 100000 in
set_option maxHeartbeats 400000 in
theorem ask2_yes (A : Hid (AskH w q s c T bs rs b r u cost)) (HT : Hid (timeB now = true)) :
    Calls Try.prog 29 #[.pointer (some ⟨q, 0, none⟩), .pointer (some ⟨s, c * 6, none⟩), .agg #[.int .i64 2, .int .i64 c, .float .f64 r, .float .f64 u, .float .f64 cost, .int .i64 now]] w (AskPost w q s c T bs rs b) := by
  have hz : (FloatKind.f64.format.order 0 0 == some .eq) = true := by decide +kernel
  have B0 : Hid (Below w.heap.size w (w.alloc (.cells #[.int .i64 2, .int .i64 c, .float .f64 r, .float .f64 u, .float .f64 cost, .int .i64 now] 61))) := Lib.hid ((Below.refl _ _).alloc (Nat.le_refl _) _)
  have Q0 := Lib.hid (A.out.hq.below B0.out)
  have R0 := Lib.hid (A.out.hr.below B0.out)
  have htt : 0 ≤ now ∧ now ≤ 9007199254740992 := by have := HT.out; simpa [timeB] using this
  have HTT := Lib.hid htt
  clear htt
  go_enter Try.func29, Try.ntmps29
  go_wp2_with fail
  refine (level_b Q0.out A.out.hb A.out.ok now HTT.out.1 HTT.out.2).mono ?_
  rintro e w1 ⟨rfl, hq1, hg1⟩
  have BX := Lib.hid (AskBox.cells (w := w1) (X := w.heap.size) (k := 2) (c := c) (r := r) (u := u) (cost := cost) (now := now) (by rw [hg1.block _ (by simp) (by simp; exact A.out.nX1)]; exact heap_alloc_new _ _))
  obtain ⟨x0, x1, x2, x3, x4, x5⟩ := BX.out
  have Q1 := Lib.hid hq1
  have R1 := Lib.hid (R0.out.grown hg1 (fun e => A.out.ne e.symm))
  have K1 : Hid (Kept w w1 q s) := Lib.hid ((Kept.ofBelow B0.out).trans (.ofQ hg1))
  clear hq1 hg1
  go_wp2_with fail
  refine (reftime_any now _).mono ?_
  rintro e w' ⟨rfl, rfl⟩
  rw [HT.out]
  go_wp2_with fail
  refine (ron_b R1.out A.out.hrb A.out.ok now HTT.out.2).mono ?_
  rintro e w3 ⟨rfl, hr3, hg3⟩
  have Q3 := Lib.hid (Q1.out.grown hg3 A.out.ne)
  have R3 := Lib.hid hr3
  have K3 := Lib.hid (K1.out.trans (.ofS hg3))
  clear hg3
  have hbk := hr3.bk c (by rw [List.length_set]; exact (List.getElem?_eq_some_iff.1 A.out.hrb).1)
  rw [List.getElem_set_self] at hbk
  have r2 := hbk.level
  rw [show (onB b now).level = atL b now from rfl] at r2
  clear hbk hr3
  go_wp2_with fail
  refine (like_same (atL b now) _ (u64_of (onB_ok b now A.out.ok HTT.out.2)).1).mono ?_
  rintro e w' ⟨rfl, rfl⟩
  go_wp2_with fail
  refine (num_any 0 _).mono ?_
  rintro e w' ⟨rfl, rfl⟩
  go_wp2_with fail
  go_ret
  exact ⟨rfl, _, Q3.out, R3.out, onB_ok b now A.out.ok HTT.out.2, A.out.n0, by show b.times ≤ _; omega, K3.out⟩
end
end Go.Proofs.Ytbpnhpjcepgiiaa
