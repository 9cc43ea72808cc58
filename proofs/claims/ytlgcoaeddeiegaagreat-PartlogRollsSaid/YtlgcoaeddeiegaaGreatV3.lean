/- The texts Me, Mf, Mg, Mq, Mh, Mi, Mj in one. -/
import Derived.Test.YtlgcoaeddeiegaaGreatV2
import Derived.Deep.RegionWith
import Derived.Deep.RegionHeldLaw
import Derived.BigQuiet
import Derived.Deep.RegionLaw
import Derived.Defers
import Derived.Recover
/- record: records that lie there; May, Size. -/
namespace Go.Proofs.YtlgcoaeddeiegaaGreat
open Go Go.RowKit
attribute [local go_sem] Oper.semAt_some

/-- a record with its two slices -/
structure RcV where
  r : Rc
  kv : Value
  vv : Value
def recCells (x : RcV) : List Value := [.int .i64 x.r.time, x.kv, x.vv]
def recsCells (xs : List RcV) : List Value := xs.flatMap recCells
/-- records that may be read -/
structure RecsIs (w : World) (v : Value) (xs : List RcV) : Prop where
  row : readAt w 3 v xs.length (recsCells xs)
  each : ∀ x ∈ xs, bytesRd w x.kv x.r.key ∧ bytesRd w x.vv x.r.val
def RecsAt (w : World) (v : Value) (l : List Rc) : Prop := ∃ xs : List RcV, xs.map (·.r) = l ∧ RecsIs w v xs
theorem flat_get {α : Type} {f : α → List Value} {m : Nat} (hf : ∀ x, (f x).length = m) : ∀ (l : List α) (i : Nat) (h : i < l.length) (j : Nat), j < m → (l.flatMap f)[i * m + j]? = (f l[i])[j]?
  | x :: l, 0, _, j, hj => by
    rw [List.flatMap_cons, List.getElem?_append_left (by rw [hf]; omega)]
    simp
  | x :: l, i + 1, h, j, hj => by
    rw [List.flatMap_cons, List.getElem?_append_right (by rw [hf, Nat.add_mul]; omega), hf, show (i + 1) * m + j - m = i * m + j by rw [Nat.add_mul]; omega]
    exact flat_get hf l i (by simpa using h) j hj
theorem recsCells_get {xs : List RcV} {i j : Nat} (h : i < xs.length) (hj : j < 3) : (recsCells xs)[i * 3 + j]? = (recCells xs[i])[j]? := flat_get (f := recCells) (m := 3) (fun _ => rfl) xs i h j hj
theorem bytesRd.kept' {w w' : World} {v : Value} {l : List UInt8} (h : bytesRd w v l) (hb : Below w.heap.size w w') : bytesRd w' v l := readAt.kept h (fun k hk _ _ => hb.block k hk)
theorem RecsIs.below {w w' : World} {v : Value} {xs : List RcV} (h : RecsIs w v xs) (hb : Below w.heap.size w w') : RecsIs w' v xs :=
  ⟨h.row.kept (fun k hk _ _ => hb.block k hk), fun x hx => ⟨(h.each x hx).1.kept' hb, (h.each x hx).2.kept' hb⟩⟩
theorem RecsAt.below {w w' : World} {v : Value} {l : List Rc} (h : RecsAt w v l) (hb : Below w.heap.size w w') : RecsAt w' v l := by
  obtain ⟨xs, h1, h2⟩ := h
  exact ⟨xs, h1, h2.below hb⟩
def mayV (t : Int) (n m : Nat) : Bool := decide (0 ≤ t) && decide (t ≤ 9007199254740992) && decide (n ≤ 256) && decide (m ≤ 4096)
theorem mayV_ok (r : Rc) : mayV r.time r.key.length r.val.length = r.ok := rfl
set_option maxRecDepth 100000 in
set_option maxHeartbeats 1000000 in
theorem may_b {w : World} {t : Int} {oa ob : Option Addr} {n c m d : Nat} :
    Calls Tryz.prog 144 #[.agg #[.int .i64 t, .slice oa n c, .slice ob m d]] w fun e w' => e = .returned (.bool (mayV t n m)) ∧ Below w.heap.size w w' := by
  have hbl : Below w.heap.size w (w.alloc (.cells #[.int .i64 t, .slice oa n c, .slice ob m d] 150)) := (Below.refl _ _).alloc (Nat.le_refl _) _
  have HB := Lib.hid hbl
  clear hbl
  obtain ⟨q, hq⟩ : ∃ q, mayV t n m = q := ⟨_, rfl⟩
  rw [hq]
  have HQ := Lib.hid hq
  clear hq
  unfold mayV at HQ
  by_cases h1 : 0 ≤ t
  · have d1 : decide (0 ≤ t) = true := decide_eq_true h1
    rw [d1] at HQ
    by_cases h2 : t ≤ 9007199254740992
    · have d2 : decide (t ≤ 9007199254740992) = true := decide_eq_true h2
      rw [d2] at HQ
      by_cases h3 : n ≤ 256
      · have d3 : decide ((n : Int) ≤ 256) = true := decide_eq_true (by omega)
        have d3' : decide (n ≤ 256) = true := decide_eq_true h3
        rw [d3'] at HQ
        by_cases h4 : m ≤ 4096
        · have d4 : decide ((m : Int) ≤ 4096) = true := decide_eq_true (by omega)
          have d4' : decide (m ≤ 4096) = true := decide_eq_true h4
          rw [d4'] at HQ
          go_enter Tryz.func144, Tryz.ntmps144
          go_wp2_with fail
          go_ret
          exact ⟨by rw [← HQ.out]; rfl, HB.out⟩
        · have d4 : decide ((m : Int) ≤ 4096) = false := decide_eq_false (by omega)
          have d4' : decide (m ≤ 4096) = false := decide_eq_false h4
          rw [d4'] at HQ
          go_enter Tryz.func144, Tryz.ntmps144
          go_wp2_with fail
          go_ret
          exact ⟨by rw [← HQ.out]; rfl, HB.out⟩
      · have d3 : decide ((n : Int) ≤ 256) = false := decide_eq_false (by omega)
        have d3' : decide (n ≤ 256) = false := decide_eq_false h3
        rw [d3'] at HQ
        go_enter Tryz.func144, Tryz.ntmps144
        go_wp2_with fail
        go_ret
        exact ⟨by rw [← HQ.out]; rfl, HB.out⟩
    · have d2 : decide (t ≤ 9007199254740992) = false := decide_eq_false h2
      rw [d2] at HQ
      go_enter Tryz.func144, Tryz.ntmps144
      go_wp2_with fail
      go_ret
      exact ⟨by rw [← HQ.out]; rfl, HB.out⟩
  · have d1 : decide (0 ≤ t) = false := decide_eq_false h1
    rw [d1] at HQ
    go_enter Tryz.func144, Tryz.ntmps144
    go_wp2_with fail
    go_ret
    exact ⟨by rw [← HQ.out]; rfl, HB.out⟩
set_option maxRecDepth 100000 in
set_option maxHeartbeats 1000000 in
theorem size_b {w : World} {t : Int} {oa ob : Option Addr} {n c m d : Nat} (hn : n ≤ 1000000000) (hm : m ≤ 1000000000) :
    Calls Tryz.prog 146 #[.agg #[.int .i64 t, .slice oa n c, .slice ob m d]] w fun e w' => e = .returned (.int .i64 ((12 + n + m : Nat) : Int)) ∧ Below w.heap.size w w' := by
  have hbl : Below w.heap.size w (w.alloc (.cells #[.int .i64 t, .slice oa n c, .slice ob m d] 150)) := (Below.refl _ _).alloc (Nat.le_refl _) _
  have HB := Lib.hid hbl
  clear hbl
  go_enter Tryz.func146, Tryz.ntmps146
  go_wp2_with fail
  go_ret
  exact ⟨by simp, HB.out⟩
end Go.Proofs.YtlgcoaeddeiegaaGreat
/- record: Fits. -/
namespace Go.Proofs.YtlgcoaeddeiegaaGreat
open Go Go.RowKit
attribute [local go_sem] Oper.semAt_some

set_option maxRecDepth 100000 in
set_option maxHeartbeats 1000000 in
/-- one record's size is added -/
theorem fits1_b {w : World} {b k : Nat} {t : Int} {oa ob : Option Addr} {n c m d : Nat} (hb : w.heap[b]? = some (.cells #[.int .i64 (k : Int)] 3 (0, 0))) (hk : k ≤ 1000000000) (hn : n ≤ 1000000000) (hm : m ≤ 1000000000) :
    Calls Tryz.prog 145 #[.agg #[.int .i64 t, .slice oa n c, .slice ob m d], .pointer (some ⟨b, 0, none⟩)] w fun e w' => e = .returned (.tuple #[]) ∧ w'.heap[b]? = some (.cells #[.int .i64 ((k + (12 + n + m) : Nat) : Int)] 3 (0, 0)) ∧ Only (fun i => i = b) w w' := by
  obtain ⟨w1, hw1⟩ : ∃ W : World, W = w.alloc (.cells #[.int .i64 t, .slice oa n c, .slice ob m d] 150) := ⟨_, rfl⟩
  obtain ⟨b2, hb2⟩ : ∃ b, b = w.heap.size := ⟨_, rfl⟩
  have h2 : w1.heap[b2]? = some (.cells #[.int .i64 t, .slice oa n c, .slice ob m d] 150 (0, 0)) := by rw [hw1, hb2]; exact alloc_cells _ _ _
  have hb1 : Below w.heap.size w w1 := by rw [hw1]; exact (Below.refl _ _).alloc (Nat.le_refl _) _
  have hbb : w1.heap[b]? = some (.cells #[.int .i64 (k : Int)] 3 (0, 0)) := (hb1.block b (Array.getElem?_eq_some_iff.1 hb).1).trans hb
  have HB := Lib.hid (And.intro hbb hb1)
  have k0 : w1.cell? ⟨b2, 0, none⟩ = some (.int .i64 t) := cell_of h2 rfl
  have k1 : w1.cell? ⟨b2, 1, none⟩ = some (.slice oa n c) := cell_of h2 rfl
  have k2 : w1.cell? ⟨b2, 2, none⟩ = some (.slice ob m d) := cell_of h2 rfl
  have kb : w1.cell? ⟨b, 0, none⟩ = some (.int .i64 (k : Int)) := cell_of hbb rfl
  have zb : w1.frozen? ⟨b, 0, none⟩ = false := free_of hbb _
  have HS := Lib.hid (fun (W : World) => size_b (w := W) (t := t) (oa := oa) (ob := ob) (n := n) (c := c) (m := m) (d := d) hn hm)
  have hw : IntKind.i64.wrap ((k : Int) + (12 + (n : Int) + (m : Int))) = ((k + (12 + n + m) : Nat) : Int) := by rw [IntKind.wrap_i64]; omega
  clear hb h2 hb1 hbb
  go_enter Tryz.func145, Tryz.ntmps145
  go_upto_region 1 with fail
  rw [← hw1, ← hb2]
  clear hw1 hb2
  go_region_with (go_at_call 146; refine (HS.out _).mono ?_; rintro e w2 ⟨rfl, hbz⟩; have hz := (hbz.block b (Array.getElem?_eq_some_iff.1 HB.out.1).1).trans HB.out.1; have kz : w2.cell? ⟨b, 0, none⟩ = some (.int .i64 (k : Int)) := cell_of hz rfl; have zz : w2.frozen? ⟨b, 0, none⟩ = false := free_of hz _; have HZ := Lib.hid (And.intro hz hbz); clear hz hbz)
  all_goals have he : (k : Int) + (12 + (n : Int) + (m : Int)) = ((k + (12 + n + m) : Nat) : Int) := by omega
  all_goals
    rw [he]
    refine ⟨rfl, _, results_none rfl _ _ _, rfl, heap_setCell_here _ HZ.out.1, ?_⟩
    have h0 := HB.out.2
    have h1 : Below w1.heap.size w1 w2 := (show Below w1.heap.size w1 w1.drew from ⟨rfl, rfl, rfl, Nat.le_refl _, fun _ _ => rfl⟩).trans HZ.out.2
    exact (Only.of_below (h0.trans (Below.mono h1 h0.size)) (Nat.le_refl _) _).trans (only_setCell _ _ _ _ _ rfl) (fun _ _ e => e.symm)
end Go.Proofs.YtlgcoaeddeiegaaGreat
/- record: Fits. -/
namespace Go.Proofs.YtlgcoaeddeiegaaGreat
open Go Go.RowKit
attribute [local go_sem] Oper.semAt_some

theorem rcsSize_take {l : List Rc} {i : Nat} (h : i < l.length) : rcsSize (l.take (i + 1)) = rcsSize (l.take i) + l[i].size := by
  unfold rcsSize
  rw [List.take_succ_eq_append_getElem h, List.map_append, List.sum_append]
  simp
  omega
theorem rcsSize_max : ∀ (l : List Rc), (∀ r ∈ l, r.ok = true) → rcsSize l ≤ 20 + 4364 * l.length
  | [], _ => by simp [rcsSize]
  | r :: l, h => by
    have h1 := rcsSize_max l (fun x hx => h x (List.mem_cons_of_mem _ hx))
    have h2 := h r (List.mem_cons_self ..)
    unfold Rc.ok at h2
    simp only [Bool.and_eq_true, decide_eq_true_eq] at h2
    unfold rcsSize at h1 ⊢
    rw [List.map_cons, List.sum_cons, List.length_cons]
    have h3 : r.size = 12 + r.key.length + r.val.length := rfl
    omega
/-- a record's cells -/
theorem RecsIs.cells {w : World} {oa : Option Addr} {n c i : Nat} {xs : List RcV} (h : RecsIs w (.slice oa n c) xs) (hn : xs.length = n) (hi : i < xs.length) : ∃ g off ka kc va vc, oa = some ⟨g, off, none⟩ ∧ xs[i].kv = .slice ka xs[i].r.key.length kc ∧ xs[i].vv = .slice va xs[i].r.val.length vc ∧
    w.cell? ⟨g, off + i * 3, none⟩ = some (.int .i64 xs[i].r.time) ∧ w.cell? ⟨g, off + i * 3 + 1, none⟩ = some (.slice ka xs[i].r.key.length kc) ∧ w.cell? ⟨g, off + i * 3 + 2, none⟩ = some (.slice va xs[i].r.val.length vc) := by
  subst hn
  obtain ⟨g, off, rfl⟩ := h.row.addr (by omega)
  have hm := h.each xs[i] (List.getElem_mem hi)
  obtain ⟨ka, kc, hk⟩ := hm.1.shape
  obtain ⟨va, vc, hv⟩ := hm.2.shape
  refine ⟨g, off, ka, kc, va, vc, rfl, hk, hv, ?_, ?_, ?_⟩
  · exact rdCell h.row (i := i * 3) (by have := recsCells_get hi (show 0 < 3 by omega); rw [Nat.add_zero] at this; rw [this]; rfl)
  · have := rdCell h.row (i := i * 3 + 1) (u := xs[i].kv) (by rw [recsCells_get hi (by omega)]; rfl)
    rw [hk, ← Nat.add_assoc] at this
    exact this
  · have := rdCell h.row (i := i * 3 + 2) (u := xs[i].vv) (by rw [recsCells_get hi (by omega)]; rfl)
    rw [hv, ← Nat.add_assoc] at this
    exact this
set_option maxRecDepth 100000 in
set_option maxHeartbeats 2000000 in
theorem fits_b {w : World} {oa : Option Addr} {n c : Nat} {xs : List RcV} {l : List Rc} (hl : xs.map (·.r) = l) (hn : xs.length = n) (h : RecsIs w (.slice oa n c) xs) (hnm : n ≤ 1000000000) :
    Calls Tryz.prog 72 #[.slice oa n c] w fun e w' => e = .returned (.tuple #[.int .i64 ((fitsT l).1 : Int), .int .i64 (fitsT l).2]) ∧ Below w.heap.size w w' := by
  have hln : l.length = n := by rw [← hl, List.length_map, hn]
  have HL := Lib.hid (And.intro hl (And.intro hn hln))
  have H := Lib.hid h
  obtain ⟨f1, hf1⟩ : ∃ x, (fitsT l).1 = x := ⟨_, rfl⟩
  obtain ⟨f2, hf2⟩ : ∃ x, (fitsT l).2 = x := ⟨_, rfl⟩
  rw [hf1, hf2]
  have HF := Lib.hid (And.intro hf1 hf2)
  clear hl hn h hln hf1 hf2
  by_cases h0 : n = 0
  · subst h0
    have hz : f1 = 0 ∧ f2 = 2 := by
      have h1 := HL.out.2.2
      have h2 := HF.out
      rw [List.eq_nil_of_length_eq_zero h1] at h2
      exact ⟨by rw [← h2.1]; rfl, by rw [← h2.2]; rfl⟩
    obtain ⟨rfl, rfl⟩ := hz
    go_enter Tryz.func72, Tryz.ntmps72
    go_wp2_with fail
    go_ret2
    exact ⟨rfl, Below.refl _ _⟩
  have hne : ((n : Int) == 0) = false := by rw [beq_eq_false_iff_ne]; omega
  go_enter Tryz.func72, Tryz.ntmps72
  go_wp2_with fail
  go_loopw [15] (fun i wr => ∃ k : Nat, i = .int .i64 (k : Int) ∧ k ≤ n ∧ Hid ((∀ r ∈ l.take k, r.ok = true) ∧ Below w.heap.size w wr)) (fun i _ => n - (intOf i).toNat)
  case atStart => exact ⟨0, rfl, by omega, Lib.hid ⟨fun r hr => by simp at hr, Below.refl _ _⟩⟩
  case round =>
    obtain ⟨k, rfl, hk, HR⟩ := hrel
    by_cases hlt : k < n
    · have hkx : k < xs.length := by rw [HL.out.2.1]; exact hlt
      have hkl : k < l.length := by rw [HL.out.2.2]; exact hlt
      obtain ⟨g, off, ka, kc, va, vc, rfl, -, -, c0, c1, c2⟩ := (H.out.below HR.out.2).cells HL.out.2.1 hkx
      have hrx : xs[k].r = l[k] := by simp [← HL.out.1]
      rw [hrx] at c0 c1 c2
      obtain ⟨r, hr⟩ : ∃ r, l[k] = r := ⟨_, rfl⟩
      rw [hr] at c0 c1 c2
      obtain ⟨rt, hrt⟩ : ∃ x, r.time = x := ⟨_, rfl⟩
      obtain ⟨rk, hrk⟩ : ∃ x, r.key.length = x := ⟨_, rfl⟩
      obtain ⟨rv, hrv⟩ : ∃ x, r.val.length = x := ⟨_, rfl⟩
      rw [hrt] at c0
      rw [hrk] at c1
      rw [hrv] at c2
      obtain ⟨q, hq⟩ : ∃ q, mayV rt rk rv = q := ⟨_, rfl⟩
      have HQ : Hid (r.ok = q ∧ l[k]? = some r) := Lib.hid ⟨by rw [← mayV_ok, hrt, hrk, hrv]; exact hq, by rw [List.getElem?_eq_getElem hkl, hr]⟩
      have HM := Lib.hid (fun (W : World) => may_b (w := W) (t := rt) (oa := ka) (ob := va) (n := rk) (c := kc) (m := rv) (d := vc))
      rw [hq] at HM
      obtain ⟨w1, hw1⟩ : ∃ W : World, W = wr.alloc (.cells #[.int .i64 rt, .slice ka rk kc, .slice va rv vc] 150) := ⟨_, rfl⟩
      obtain ⟨b5, hb5⟩ : ∃ b, b = wr.heap.size := ⟨_, rfl⟩
      have h5 : w1.heap[b5]? = some (.cells #[.int .i64 rt, .slice ka rk kc, .slice va rv vc] 150 (0, 0)) := by rw [hw1, hb5]; exact alloc_cells _ _ _
      have hb1 : Below wr.heap.size wr w1 := by rw [hw1]; exact (Below.refl _ _).alloc (Nat.le_refl _) _
      have d0 : w1.cell? ⟨b5, 0, none⟩ = some (.int .i64 rt) := cell_of h5 rfl
      have d1 : w1.cell? ⟨b5, 1, none⟩ = some (.slice ka rk kc) := cell_of h5 rfl
      have d2 : w1.cell? ⟨b5, 2, none⟩ = some (.slice va rv vc) := cell_of h5 rfl
      have HB := Lib.hid hb1
      clear hkx hkl hrx hr hrt hrk hrv hq h5 hb1
      go_upto_region 6 with fail
      rw [← hw1, ← hb5]
      clear hw1 hb5
      go_wp2_with fail
      refine (HM.out _).mono ?_
      rintro e w2 ⟨rfl, hb2⟩
      have HB2 := Lib.hid (HR.out.2.trans ((HB.out.trans (hb2.mono HB.out.size)).mono HR.out.2.size))
      clear hb2
      cases q with
      | false =>
        have hz : f1 = 0 ∧ f2 = 2 := by
          have hkl : k < l.length := by rw [HL.out.2.2]; exact hlt
          have h1 : l.any (fun r => !r.ok) = true := List.any_eq_true.2 ⟨r, List.mem_of_getElem? HQ.out.2, by rw [HQ.out.1]; rfl⟩
          have h2 : l ≠ [] := fun e => by rw [e] at hkl; simp at hkl
          have h3 := HF.out
          unfold fitsT at h3
          rw [if_neg h2, if_pos h1] at h3
          exact ⟨h3.1.symm, h3.2.symm⟩
        obtain ⟨rfl, rfl⟩ := hz
        go_wp2_with fail
        go_ret2
        exact ⟨rfl, HB2.out⟩
      | true =>
        go_wp2_with fail
        refine ⟨⟨k + 1, by simp, by omega, Lib.hid ⟨fun x hx => ?_, HB2.out⟩⟩, by simp [intOf]; omega⟩
        rw [List.take_add_one, HQ.out.2] at hx
        rcases List.mem_append.1 hx with hx | hx
        · exact HR.out.1 x hx
        · rw [Option.toList_some, List.mem_singleton] at hx
          rw [hx]
          exact HQ.out.1
    · obtain rfl : k = n := by omega
      have hall : ∀ r ∈ l, r.ok = true := fun r hr => HR.out.1 r (by rw [List.take_of_length_le (by rw [HL.out.2.2]; exact Nat.le_refl _)]; exact hr)
      have HA := Lib.hid hall
      clear hall
      have HBW := Lib.hid HR.out.2
      have hfit : fitsT l = if 256 < l.length then (0, 8) else if 65536 < rcsSize l then (0, 8) else (rcsSize l, 0) := by
        have h2 : l ≠ [] := fun e => by have := HL.out.2.2; rw [e] at this; simp at this; omega
        have h1 : l.any (fun r => !r.ok) = false := List.any_eq_false.2 (fun r hr => by rw [HA.out r hr]; simp)
        unfold fitsT
        rw [if_neg h2, if_neg (by rw [h1]; simp)]
      rw [hfit, HL.out.2.2] at HF
      clear hfit HR hlt hk
      by_cases h256 : 256 < k
      · have hz : f1 = 0 ∧ f2 = 8 := by
          have h3 := HF.out
          rw [if_pos h256] at h3
          exact ⟨h3.1.symm, h3.2.symm⟩
        obtain ⟨rfl, rfl⟩ := hz
        have hd : decide ((256 : Int) < (k : Int)) = true := decide_eq_true (by omega)
        go_wp2_with fail
        go_ret2
        exact ⟨rfl, HBW.out⟩
      · have hd : decide ((256 : Int) < (k : Int)) = false := decide_eq_false (by omega)
        have HF2 : Hid ((f1 : Int) = (if 65536 < rcsSize l then 0 else (rcsSize l : Int)) ∧ f2 = if 65536 < rcsSize l then 8 else 0) := Lib.hid (by
          have h3 := HF.out
          rw [if_neg h256] at h3
          split at h3
          · rename_i h4
            rw [if_pos h4, if_pos h4]
            exact ⟨by rw [← h3.1]; rfl, h3.2.symm⟩
          · rename_i h4
            rw [if_neg h4, if_neg h4]
            exact ⟨by rw [← h3.1], h3.2.symm⟩)
        obtain ⟨w6, hw6⟩ : ∃ W : World, W = wr.alloc (.cells #[.int .i64 20] 3) := ⟨_, rfl⟩
        obtain ⟨b6, hb6⟩ : ∃ b, b = wr.heap.size := ⟨_, rfl⟩
        have h66 : w6.heap[b6]? = some (.cells #[.int .i64 ((20 : Nat) : Int)] 3 (0, 0)) := by rw [hw6, hb6]; exact alloc_cells _ _ _
        have hbw6 : Below w.heap.size w w6 := HBW.out.trans ((by rw [hw6]; exact (Below.refl _ _).alloc (Nat.le_refl _) _ : Below wr.heap.size wr w6).mono HBW.out.size)
        have hb6w : w.heap.size ≤ b6 := by rw [hb6]; exact HBW.out.size
        have H6 := Lib.hid (And.intro h66 (And.intro hbw6 hb6w))
        go_upto_region 12 with fail
        rw [← hw6, ← hb6]
        clear hw6 hb6 h66 hbw6 hb6w HF HBW
        go_wp2_with fail
        go_loopw [29] (fun i wi => ∃ j : Nat, i = .int .i64 (j : Int) ∧ j ≤ k ∧ Hid (wi.heap[b6]? = some (.cells #[.int .i64 (rcsSize (l.take j) : Int)] 3 (0, 0)) ∧ Below w.heap.size w wi)) (fun i _ => k - (intOf i).toNat)
        case atStart => exact ⟨0, rfl, by omega, Lib.hid ⟨by simpa [rcsSize] using H6.out.1, H6.out.2.1⟩⟩
        case round =>
          obtain ⟨j, rfl, hj, HI⟩ := hrel
          by_cases hlt : j < k
          · have hkx : j < xs.length := by rw [HL.out.2.1]; exact hlt
            have hkl : j < l.length := by rw [HL.out.2.2]; exact hlt
            obtain ⟨g, off, ka, kc, va, vc, rfl, -, -, c0, c1, c2⟩ := (H.out.below HI.out.2).cells HL.out.2.1 hkx
            have hrx : xs[j].r = l[j] := by simp [← HL.out.1]
            rw [hrx] at c0 c1 c2
            have hrs := rcsSize_take hkl
            have hok := HA.out l[j] (List.getElem_mem hkl)
            obtain ⟨r, hr⟩ : ∃ r, l[j] = r := ⟨_, rfl⟩
            rw [hr] at c0 c1 c2 hrs hok
            unfold Rc.ok at hok
            simp only [Bool.and_eq_true, decide_eq_true_eq] at hok
            have hsz : r.size = 12 + r.key.length + r.val.length := rfl
            rw [hsz] at hrs
            obtain ⟨rt, hrt⟩ : ∃ x, r.time = x := ⟨_, rfl⟩
            obtain ⟨rk, hrk⟩ : ∃ x, r.key.length = x := ⟨_, rfl⟩
            obtain ⟨rv, hrv⟩ : ∃ x, r.val.length = x := ⟨_, rfl⟩
            rw [hrt] at c0
            rw [hrk] at c1 hrs
            rw [hrv] at c2 hrs
            have hsm := rcsSize_max (l.take j) (fun x hx => HA.out x (List.mem_of_mem_take hx))
            rw [List.length_take] at hsm
            obtain ⟨s, hs⟩ : ∃ s, rcsSize (l.take j) = s := ⟨_, rfl⟩
            rw [hs] at hrs hsm HI
            have hsm' : s ≤ 1000000000 := by omega
            have hrk' : rk ≤ 1000000000 := by omega
            have hrv' : rv ≤ 1000000000 := by omega
            obtain ⟨w1, hw1⟩ : ∃ W : World, W = wr.alloc (.cells #[.int .i64 rt, .slice ka rk kc, .slice va rv vc] 150) := ⟨_, rfl⟩
            obtain ⟨b5, hb5⟩ : ∃ b, b = wr.heap.size := ⟨_, rfl⟩
            have h5 : w1.heap[b5]? = some (.cells #[.int .i64 rt, .slice ka rk kc, .slice va rv vc] 150 (0, 0)) := by rw [hw1, hb5]; exact alloc_cells _ _ _
            have hb1 : Below wr.heap.size wr w1 := by rw [hw1]; exact (Below.refl _ _).alloc (Nat.le_refl _) _
            have hb61 := (hb1.block b6 (Array.getElem?_eq_some_iff.1 HI.out.1).1).trans HI.out.1
            have HC := Lib.hid (fits1_b (t := rt) (oa := ka) (ob := va) (n := rk) (c := kc) (m := rv) (d := vc) hb61 hsm' hrk' hrv')
            have d0 : w1.cell? ⟨b5, 0, none⟩ = some (.int .i64 rt) := cell_of h5 rfl
            have d1 : w1.cell? ⟨b5, 1, none⟩ = some (.slice ka rk kc) := cell_of h5 rfl
            have d2 : w1.cell? ⟨b5, 2, none⟩ = some (.slice va rv vc) := cell_of h5 rfl
            have HB := Lib.hid (And.intro hb1 hrs)
            clear hkx hkl hrx hr hrt hrk hrv h5 hb1 hsz hok hsm hsm' hrk' hrv' hb61 hs hrs
            go_upto_region 16 with fail
            rw [← hw1, ← hb5]
            clear hw1 hb5
            go_wp2_with fail
            refine HC.out.mono ?_
            rintro e w2 ⟨rfl, hc2, ho2⟩
            have HE := Lib.hid (And.intro hc2 (HI.out.2.trans (HB.out.1.mono HI.out.2.size) |>.trans (ho2.below (fun i hi e => by have := H6.out.2.2; omega) (HI.out.2.trans (HB.out.1.mono HI.out.2.size)).size)))
            clear hc2 ho2
            go_wp2_with fail
            refine ⟨⟨j + 1, by simp, by omega, Lib.hid ⟨by rw [HB.out.2]; exact HE.out.1, HE.out.2⟩⟩, by simp [intOf]; omega⟩
          · obtain rfl : j = k := by omega
            have htk : l.take j = l := List.take_of_length_le (by rw [HL.out.2.2]; exact Nat.le_refl _)
            have hi1 := HI.out.1
            rw [htk] at hi1
            obtain ⟨s, hs⟩ : ∃ s, rcsSize l = s := ⟨_, rfl⟩
            rw [hs] at hi1 HF2
            have c6 : wr.cell? ⟨b6, 0, none⟩ = some (.int .i64 (s : Int)) := cell_of hi1 rfl
            have HBI := Lib.hid HI.out.2
            clear htk hi1 hs HI hlt hj
            by_cases hbig : 65536 < s
            · have hdb : decide ((65536 : Int) < (s : Int)) = true := decide_eq_true (by omega)
              have hz : f1 = 0 ∧ f2 = 8 := by
                have h3 := HF2.out
                rw [if_pos hbig, if_pos hbig] at h3
                exact ⟨by have := h3.1; omega, h3.2⟩
              obtain ⟨rfl, rfl⟩ := hz
              go_wp2_with fail
              go_ret2
              exact ⟨rfl, HBI.out⟩
            · have hdb : decide ((65536 : Int) < (s : Int)) = false := decide_eq_false (by omega)
              have hz : f1 = s ∧ f2 = 0 := by
                have h3 := HF2.out
                rw [if_neg hbig, if_neg hbig] at h3
                exact ⟨by have := h3.1; omega, h3.2⟩
              obtain ⟨rfl, rfl⟩ := hz
              go_wp2_with fail
              go_ret2
              exact ⟨rfl, HBI.out⟩
end Go.Proofs.YtlgcoaeddeiegaaGreat
/- index: New, none, may, Add. -/
namespace Go.Proofs.YtlgcoaeddeiegaaGreat
open Go Go.RowKit
attribute [local go_sem] Oper.semAt_some

/-- a spot: an offset, a place -/
abbrev Sp := Nat × Nat
def spCells (x : Sp) : List Value := [.int .i64 (x.1 : Int), .int .i64 (x.2 : Int)]
def spsCells (l : List Sp) : List Value := l.flatMap spCells
/-- an index lies there -/
structure IdxI (w : World) (x step : Nat) (sv : Value) (l : List Sp) : Prop where
  head : w.heap[x]? = some (.cells #[.int .i64 (step : Int), sv] 311 (0, 0))
  row : rowAt w 262 2 sv l.length (spsCells l)
theorem spsCells_get {l : List Sp} {i j : Nat} (h : i < l.length) (hj : j < 2) : (spsCells l)[i * 2 + j]? = (spCells l[i])[j]? := flat_get (f := spCells) (m := 2) (fun _ => rfl) l i h j hj
theorem IdxI.later {w w' : World} {x step : Nat} {sv : Value} {l : List Sp} (h : IdxI w x step sv l) (hb : Below w.heap.size w w') : IdxI w' x step sv l :=
  ⟨(hb.block _ (Array.getElem?_eq_some_iff.1 h.head).1).trans h.head, h.row.kept (fun k hk => hb.block k (h.row.lt k hk))⟩
/-- the cells of one spot -/
theorem IdxI.cells {w : World} {x step n c i : Nat} {oa : Option Addr} {l : List Sp} (h : IdxI w x step (.slice oa n c) l) (hn : l.length = n) (hi : i < l.length) : ∃ g off, oa = some ⟨g, off, none⟩ ∧ w.cell? ⟨g, off + i * 2, none⟩ = some (.int .i64 (l[i].1 : Int)) ∧ w.cell? ⟨g, off + i * 2 + 1, none⟩ = some (.int .i64 (l[i].2 : Int)) := by
  have hr := h.row
  rw [hn] at hr
  obtain ⟨g, off, rfl⟩ := hr.addr (by omega)
  refine ⟨g, off, rfl, ?_, ?_⟩
  · exact rdCell hr.read (i := i * 2) (by have := spsCells_get hi (show 0 < 2 by omega); rw [Nat.add_zero] at this; rw [this]; rfl)
  · have := rdCell hr.read (i := i * 2 + 1) (u := .int .i64 (l[i].2 : Int)) (by rw [spsCells_get hi (by omega)]; rfl)
    rw [← Nat.add_assoc] at this
    exact this
def NewIdx (w : World) (st : Int) (e : Ending) (w' : World) : Prop :=
  ((st < 1 ∨ 16777216 < st) ∧ e = .returned (.tuple #[.pointer none, .int .i64 2]) ∧ w' = w) ∨
      (1 ≤ st ∧ st ≤ 16777216 ∧ e = .returned (.tuple #[.pointer (some ⟨w.heap.size, 0, none⟩), .int .i64 0]) ∧ w' = w.alloc (.cells #[.int .i64 st, .slice none 0 0] 311))
set_option maxRecDepth 100000 in
set_option maxHeartbeats 400000 in
theorem idxNew_b {w : World} {st : Int} :
    Calls Tryz.prog 133 #[.int .i64 st] w fun e w' => NewIdx w st e w' := by
  by_cases h1 : st < 1
  · have d1 : decide (st < 1) = true := decide_eq_true h1
    go_enter Tryz.func133, Tryz.ntmps133
    go_wp2_with fail
    go_ret2
    exact .inl ⟨.inl h1, rfl, rfl⟩
  · have d1 : decide (st < 1) = false := decide_eq_false h1
    by_cases h2 : 16777216 < st
    · have d2 : decide (16777216 < st) = true := decide_eq_true h2
      go_enter Tryz.func133, Tryz.ntmps133
      go_wp2_with fail
      go_ret2
      exact .inl ⟨.inr h2, rfl, rfl⟩
    · have d2 : decide (16777216 < st) = false := decide_eq_false h2
      go_enter Tryz.func133, Tryz.ntmps133
      go_wp2_with fail
      go_ret2
      exact .inr ⟨by omega, by omega, rfl, rfl⟩
set_option maxRecDepth 100000 in
set_option maxHeartbeats 400000 in
theorem idxNone_b {w : World} {x step : Nat} {sv : Value} {l : List Sp} (h : IdxI w x step sv l) (hs : 1 ≤ step) :
    Calls Tryz.prog 185 #[.pointer (some ⟨x, 0, none⟩)] w fun e w' => e = .returned (.bool false) ∧ w' = w := by
  have k0 : w.cell? ⟨x, 0, none⟩ = some (.int .i64 (step : Int)) := cell_of h.head rfl
  have hz : ((step : Int) == 0) = false := by rw [beq_eq_false_iff_ne]; omega
  have hz2 : (step == 0) = false := by rw [beq_eq_false_iff_ne]; omega
  clear h
  go_enter Tryz.func185, Tryz.ntmps185
  go_wp2_with fail
  go_ret
  exact ⟨rfl, rfl⟩
/-- a spot that may stand behind all others -/
def spMay (l : List Sp) (s : Sp) : Prop := s.1 ≤ 9007199254740992 ∧ s.2 ≤ 16777216 ∧ ∀ y, l.getLast? = some y → y.1 < s.1 ∧ y.2 < s.2
set_option maxRecDepth 100000 in
set_option maxHeartbeats 1000000 in
theorem idxMay_b {w : World} {x step : Nat} {sv : Value} {l : List Sp} {s : Sp} (h : IdxI w x step sv l) (hm : spMay l s) (hl : l.length ≤ 1000000) :
    Calls Tryz.prog 186 #[.pointer (some ⟨x, 0, none⟩), .agg #[.int .i64 (s.1 : Int), .int .i64 (s.2 : Int)]] w fun e w' => e = .returned (.bool true) ∧ Below w.heap.size w w' := by
  obtain ⟨n, hn⟩ : ∃ n, l.length = n := ⟨_, rfl⟩
  obtain ⟨oa, c, rfl, -⟩ := h.row.shape
  rw [hn] at h hl
  obtain ⟨so, sp⟩ := s
  obtain ⟨m1, m2, m3⟩ := hm
  dsimp only at m1 m2 m3 ⊢
  obtain ⟨w1, hw1⟩ : ∃ W : World, W = w.alloc (.cells #[.int .i64 (so : Int), .int .i64 (sp : Int)] 262) := ⟨_, rfl⟩
  obtain ⟨b3, hb3⟩ : ∃ b, b = w.heap.size := ⟨_, rfl⟩
  have h13 : w1.heap[b3]? = some (.cells #[.int .i64 (so : Int), .int .i64 (sp : Int)] 262 (0, 0)) := by rw [hw1, hb3]; exact alloc_cells _ _ _
  have hbl : Below w.heap.size w w1 := by rw [hw1]; exact (Below.refl _ _).alloc (Nat.le_refl _) _
  have hi := h.later hbl
  have q0 : w1.cell? ⟨b3, 0, none⟩ = some (.int .i64 (so : Int)) := cell_of h13 rfl
  have q1 : w1.cell? ⟨b3, 1, none⟩ = some (.int .i64 (sp : Int)) := cell_of h13 rfl
  have k1 : w1.cell? ⟨x, 1, none⟩ = some (.slice oa n c) := cell_of hi.head rfl
  have d1 : decide ((so : Int) < 0) = false := decide_eq_false (by omega)
  have d2 : decide ((9007199254740992 : Int) < (so : Int)) = false := decide_eq_false (by omega)
  have d2' : decide ((9007199254740992 : Nat) < so) = false := decide_eq_false (by omega)
  have d3 : decide ((sp : Int) < 0) = false := decide_eq_false (by omega)
  have d4 : decide ((16777216 : Int) < (sp : Int)) = false := decide_eq_false (by omega)
  have d4' : decide ((16777216 : Nat) < sp) = false := decide_eq_false (by omega)
  have HB := Lib.hid hbl
  by_cases h0 : n = 0
  · subst h0
    clear h hi h13 hbl m3
    go_enter Tryz.func186, Tryz.ntmps186
    go_upto_region 1 with fail
    rw [← hw1, ← hb3]
    clear hw1 hb3
    go_wp2_with fail
    go_quiet (fail)
    go_wp2_with fail
    go_ret
    exact ⟨rfl, ⟨HB.out.os, HB.out.tape, HB.out.output, HB.out.size, HB.out.block⟩⟩
  · have hz : ((n : Int) == 0) = false := by rw [beq_eq_false_iff_ne]; omega
    have hz2 : (n == 0) = false := by rw [beq_eq_false_iff_ne]; omega
    obtain ⟨g, off, rfl, c0, c1⟩ := hi.cells (i := n - 1) hn (by omega)
    have hgl : l.getLast? = some l[n - 1] := by
      rw [List.getLast?_eq_getElem?, show l.length - 1 = n - 1 by omega]
      exact List.getElem?_eq_getElem _
    obtain ⟨m31, m32⟩ := m3 _ hgl
    obtain ⟨y, hy⟩ : ∃ y, l[n - 1] = y := ⟨_, rfl⟩
    rw [hy] at c0 c1 m31 m32
    have d5 : decide (y.1 < so) = true := decide_eq_true m31
    have d6 : decide (y.2 < sp) = true := decide_eq_true m32
    obtain ⟨n1, hn1⟩ : ∃ n1, n = n1 + 1 := ⟨n - 1, by omega⟩
    have e1 : n - 1 = n1 := by omega
    rw [e1] at c0 c1
    have hcast : (n : Int) - 1 = (n1 : Int) := by omega
    have hn1l : n1 < n := by omega
    clear h hi h13 hbl m3 hgl hy hn e1 hn1 m31 m32
    go_enter Tryz.func186, Tryz.ntmps186
    go_upto_region 1 with fail
    rw [← hw1, ← hb3]
    clear hw1 hb3
    go_wp2_with fail
    go_quiet (fail)
    go_wp2_with fail
    go_ret
    exact ⟨rfl, ⟨HB.out.os, HB.out.tape, HB.out.output, HB.out.size, HB.out.block⟩⟩
/-- does a spot stand near the last one? -/
def spNear (step : Nat) (l : List Sp) (s : Sp) : Bool := match l.getLast? with
  | none => false
  | some y => decide (s.2 - y.2 < step)
theorem info_sp : (Tryz.prog.info? 262).map (fun i => (i.zero, i.size, i.bytes)) = some (some (.agg #[.int .i64 0, .int .i64 0]), 2, 16) := by kernel_rfl
/-- a spot is appended, within a region that draws its order -/
theorem step_spot {V : World} {ops : Array Oper} {o : Oper} {a : Act} {K : Act → World → Prop} {Q : Exit → Act → World → Prop} {E : Prop}
    (hg : o.guard = none) (s x : Operand) (ho : o.op = .call { callee := .builtin .append, args := #[s, x], argTypes := #[309, 309] })
    {oa : Option Addr} {m c : Nat} {l : List Sp} (hl : l.length = m) (h : rowAt V 262 2 (.slice oa m c) m (spsCells l)) {ob : Option Addr} {d : Nat} {y : Sp} (hy : readAt V 2 (.slice ob 1 d) 1 (spCells y)) (hm : m ≤ 1000000)
    (hs : a.eval s = .slice oa m c) (hx : a.eval x = .slice ob 1 d)
    (hK : ∀ oa3 c3 w3, Hid (rowAt w3 262 2 (.slice oa3 (m + 1) c3) (m + 1) (spsCells (l ++ [y])) ∧ V.grownBy w3 (Value.slice oa m c).ownBlock ∧ ((Value.slice oa3 (m + 1) c3).ownBlock = (Value.slice oa m c).ownBlock ∨ (Value.slice oa3 (m + 1) c3).ownBlock = some V.heap.size)) → K (a.put o.dst (.slice oa3 (m + 1) c3)) w3) :
    if Region.wanted o (yielded ops a.tmps) = true then Oper.wp Tryz.prog o a V K Q else E := by
  have hw : Region.wanted o (yielded ops a.tmps) = true := by simp [Region.wanted, hg]
  rw [if_pos hw]
  subst hl
  have hone : ∀ v ∈ spCells y, v.oneCell' = true := fun v hv => by
    simp only [spCells, List.mem_cons, List.not_mem_nil, or_false] at hv
    rcases hv with rfl | rfl <;> rfl
  obtain ⟨i, hi, hz, hsz, hby⟩ := info_parts info_sp
  obtain ⟨v', w', hrun, r1, r2, r3, r4⟩ := run_append_at (P := Tryz.prog) V 309 309 o.type 262 i _ 2 16 Tryz.underlying309 hi hz hsz hby rfl _ l.length _ h _ 1 _ (Src.of_read Tryz.underlying309 hy hone) (by unfold maxLen; omega) (by omega)
  obtain ⟨oa3, c3, rfl, _⟩ := r1.shape
  unfold Oper.wp
  simp [execOp, ho, resolve, invoke, builtin, hs, hx, hrun, Result.andThen]
  refine hK oa3 c3 w' (Lib.hid ⟨?_, r2, r3⟩)
  have e : spsCells (l ++ [y]) = spsCells l ++ spCells y := by unfold spsCells; simp
  rw [e]
  exact r1
theorem spot_row (W : World) (a b : Nat) : readAt (W.alloc (.cells #[.int .i64 (a : Int), .int .i64 (b : Int)] 262)) 2 (.slice (some ⟨W.heap.size, 0, none⟩) 1 1) 1 (spCells (a, b)) := by
  have h : rowAt (W.alloc (.cells #[.int .i64 (a : Int), .int .i64 (b : Int)] 262)) 262 2 (.slice (some ⟨W.heap.size, 0, none⟩) 1 1) 1 (spCells (a, b)) :=
    ⟨rfl, .inr ⟨_, 0, 1, _, _, rfl, alloc_cells _ _ _, Nat.le_refl _, by unfold maxLen; omega, by simp, freeRow_zero _, rfl⟩⟩
  exact h.read
theorem rowAt.notX {W : World} {T T' : TypeId} {s n b : Nat} {v : Value} {xs : List Value} {cs : Array Value} {fr : Nat × Nat} (h : rowAt W T s v n xs) (hb : W.heap[b]? = some (.cells cs T' fr)) (hT : T ≠ T') : v.ownBlock ≠ some b := fun hk => by
  rcases h.2 with ⟨rfl, _⟩ | ⟨g, off, cap, cur, fr2, rfl, hg, _⟩
  · simp [Value.ownBlock] at hk
  · simp only [Value.ownBlock, Option.some.injEq] at hk
    subst hk
    rw [hg] at hb
    simp only [Option.some.injEq, Obj.cells.injEq] at hb
    exact hT hb.2.1
def AddIs (w : World) (x step : Nat) (sv : Value) (l : List Sp) (s : Sp) (e : Ending) (w' : World) : Prop :=
  ∃ sv', e = .returned (.tuple #[.bool (!spNear step l s), .int .i64 0]) ∧ IdxI w' x step sv' (if spNear step l s = true then l else l ++ [s]) ∧ Only (fun k => k = x ∨ sv.ownBlock = some k) w w' ∧ (∀ k, sv'.ownBlock = some k → sv.ownBlock = some k ∨ w.heap.size ≤ k)
/-- what an Add that writes leaves -/
theorem add_end {w W V w3 : World} {x step m c c3 : Nat} {oa oa3 : Option Addr} {l : List Sp} {s : Sp} (hr : rowAt w3 262 2 (.slice oa3 (m + 1) c3) (m + 1) (spsCells (l ++ [s])) ∧ V.grownBy w3 (Value.slice oa m c).ownBlock ∧ ((Value.slice oa3 (m + 1) c3).ownBlock = (Value.slice oa m c).ownBlock ∨ (Value.slice oa3 (m + 1) c3).ownBlock = some V.heap.size))
    (h : IdxI w x step (.slice oa m c) l) (hW : Below w.heap.size w W) (hV : Below W.heap.size W V) (hn : l.length = m) (hns : spNear step l s = false) :
    (w3.heap[x]? = some (.cells #[.int .i64 (step : Int), .slice oa m c] 311 (0, 0))) ∧ AddIs w x step (.slice oa m c) l s (.returned (.tuple #[.bool true, .int .i64 0])) (w3.setCell ⟨x, 1, none⟩ (.slice oa3 (m + 1) c3)) := by
  subst hn
  obtain ⟨r1, r2, r3⟩ := hr
  have hwV := hW.trans (hV.mono hW.size)
  have hxl := (Array.getElem?_eq_some_iff.1 h.head).1
  have hnx := h.row.notX h.head (by decide)
  have hx3 : w3.heap[x]? = some (.cells #[.int .i64 (step : Int), .slice oa l.length c] 311 (0, 0)) := (r2.block x (Nat.lt_of_lt_of_le hxl hwV.size) (fun e => hnx e.symm)).trans ((hwV.block x hxl).trans h.head)
  have ho3 : Only (fun k => k = x ∨ (Value.slice oa l.length c).ownBlock = some k) w w3 := (Only.of_below hwV (Nat.le_refl _) _).trans (Only.of_grown (S := fun k => (Value.slice oa l.length c).ownBlock = some k) r2 (fun k e => e)) (fun _ _ e => .inr e)
  have hnx3 := r1.notX hx3 (by decide)
  have hoS : Only (fun k => k = x) w3 (w3.setCell ⟨x, 1, none⟩ (.slice oa3 (l.length + 1) c3)) := only_setCell (fun k => k = x) _ x 1 _ rfl
  refine ⟨hx3, .slice oa3 (l.length + 1) c3, by rw [hns]; rfl, ⟨heap_setCell_here _ hx3, ?_⟩, ho3.trans hoS (fun _ _ e => .inl e), fun k hk => ?_⟩
  · rw [if_neg (by rw [hns]; simp), List.length_append]
    exact r1.kept (fun k hk => hoS.block k (r1.lt k hk) (fun e => hnx3 (by rw [← e]; exact hk)))
  · rcases r3 with r3 | r3
    · exact .inl (by rw [← r3]; exact hk)
    · rw [r3] at hk
      simp only [Option.some.injEq] at hk
      have := hwV.size
      exact .inr (by omega)
set_option maxRecDepth 100000 in
set_option maxHeartbeats 2000000 in
theorem idxAdd_b {w : World} {x step : Nat} {sv : Value} {l : List Sp} {s : Sp} (h : IdxI w x step sv l) (hm : spMay l s) (hl : l.length ≤ 1000000) (hst : 1 ≤ step) :
    Calls Tryz.prog 143 #[.pointer (some ⟨x, 0, none⟩), .agg #[.int .i64 (s.1 : Int), .int .i64 (s.2 : Int)]] w fun e w' => AddIs w x step sv l s e w' := by
  obtain ⟨w1, hw1⟩ : ∃ W : World, W = w.alloc (.cells #[.int .i64 (s.1 : Int), .int .i64 (s.2 : Int)] 262) := ⟨_, rfl⟩
  obtain ⟨b3, hb3⟩ : ∃ b, b = w.heap.size := ⟨_, rfl⟩
  have h13 : w1.heap[b3]? = some (.cells #[.int .i64 (s.1 : Int), .int .i64 (s.2 : Int)] 262 (0, 0)) := by rw [hw1, hb3]; exact alloc_cells _ _ _
  have hbl : Below w.heap.size w w1 := by rw [hw1]; exact (Below.refl _ _).alloc (Nat.le_refl _) _
  have hi := h.later hbl
  have HN := Lib.hid (idxNone_b hi hst)
  have HM := Lib.hid (idxMay_b hi hm hl)
  have q0 : w1.cell? ⟨b3, 0, none⟩ = some (.int .i64 (s.1 : Int)) := cell_of h13 rfl
  have q1 : w1.cell? ⟨b3, 1, none⟩ = some (.int .i64 (s.2 : Int)) := cell_of h13 rfl
  have H1 := Lib.hid (And.intro h (And.intro h13 (And.intro hbl hb3)))
  have HS := Lib.hid hm
  clear h h13 hbl hi hm
  go_enter Tryz.func143, Tryz.ntmps143
  go_upto_region 1 with fail
  rw [← hw1, ← hb3]
  clear hw1 hb3
  go_wp2_with fail
  refine HN.out.mono ?_
  rintro e w1' ⟨rfl, hw⟩
  obtain rfl := hw.symm
  clear hw HN
  go_wp2_with fail
  refine HM.out.mono ?_
  rintro e w2 ⟨rfl, hb2⟩
  have h23 := (hb2.block b3 (Array.getElem?_eq_some_iff.1 H1.out.2.1).1).trans H1.out.2.1
  have hbw2 : Below w.heap.size w w2 := H1.out.2.2.1.trans (hb2.mono H1.out.2.2.1.size)
  have hi2 := H1.out.1.later hbw2
  obtain ⟨n, hn⟩ : ∃ n, l.length = n := ⟨_, rfl⟩
  have hi2' := hi2
  obtain ⟨oa, c, rfl, -⟩ := hi2.row.shape
  rw [hn] at hi2'
  rw [hn] at hl
  have j0 : w2.cell? ⟨b3, 0, none⟩ = some (.int .i64 (s.1 : Int)) := cell_of h23 rfl
  have j1 : w2.cell? ⟨b3, 1, none⟩ = some (.int .i64 (s.2 : Int)) := cell_of h23 rfl
  have k1 : w2.cell? ⟨x, 1, none⟩ = some (.slice oa n c) := cell_of hi2'.head rfl
  have k0 : w2.cell? ⟨x, 0, none⟩ = some (.int .i64 (step : Int)) := cell_of hi2'.head rfl
  have hi1 := H1.out.1
  rw [hn] at hi1
  have H2 := Lib.hid (And.intro hi2' (And.intro hbw2 (And.intro hn hi1)))
  clear hi1
  have HRR : Hid (∀ W : World, Below w2.heap.size w2 W → rowAt W 262 2 (.slice oa n c) n (spsCells l)) := Lib.hid (fun W hb => by
    have h1 := hi2'.row
    rw [hn] at h1
    exact h1.kept (fun k hk => hb.block k (h1.lt k hk)))
  have HXX : Hid (∀ W : World, Below w2.heap.size w2 W → W.heap[x]? = some (.cells #[.int .i64 (step : Int), .slice oa n c] 311 (0, 0))) := Lib.hid (fun W hb => (hb.block x (Array.getElem?_eq_some_iff.1 hi2'.head).1).trans hi2'.head)
  clear h23 hi2 hi2' hbw2 hb2 hn HM q0 q1
  by_cases h0 : n = 0
  · subst h0
    have hns : spNear step l s = false := by
      have := List.eq_nil_of_length_eq_zero H2.out.2.2.1
      subst this
      rfl
    have HNS := Lib.hid hns
    clear hns
    go_upto_region 6 with fail
    go_quiet (fail)
    generalize hW0 : w2.drewN _ = W0
    have hb0 : Below w2.heap.size w2 W0 := by rw [← hW0]; exact ⟨rfl, rfl, rfl, Nat.le_refl _, fun _ _ => rfl⟩
    have hc : ∀ a : Addr, W0.cell? a = w2.cell? a := fun a => by rw [← hW0]; rfl
    have i0 := (hc _).trans j0
    have i1 := (hc _).trans j1
    have l1 := (hc _).trans k1
    clear hc hW0 j0 j1 k0 k1
    go_upto_region 8 with fail
    have hv0 := hb0.alloc hb0.size (.cells #[.int .i64 (s.1 : Int), .int .i64 (s.2 : Int)] 262)
    have hxl : x < W0.heap.size := World.block_lt_of_cell? _ _ l1
    have l1a := (((Below.refl W0.heap.size W0).alloc (Nat.le_refl _) (.cells #[.int .i64 (s.1 : Int), .int .i64 (s.2 : Int)] 262)).cell (p := ⟨x, 1, none⟩) hxl).trans l1
    clear hxl
    go_region_law (refine step_spot (y := s) (by rfl) (.tmp 45) (.tmp 47) (by rfl) H2.out.2.2.1 (HRR.out _ ⟨hv0.os, hv0.tape, hv0.output, hv0.size, hv0.block⟩) (spot_row W0 s.1 s.2) (by omega) (by rfl) (by rfl) ?_; intro oa3 c3 w3 HR3; have hae := add_end (W := w2) HR3.out H2.out.2.2.2 H2.out.2.1 ⟨hv0.os, hv0.tape, hv0.output, hv0.size, hv0.block⟩ H2.out.2.2.1 HNS.out; have x3 := cell_of (i := 1) hae.1 rfl; have z3 : w3.frozen? ⟨x, 1, none⟩ = false := free_of hae.1 _; have HAE := Lib.hid hae.2; clear hae)
    all_goals
      go_wp2_with fail
      go_ret2
      rw [H2.out.2.2.1]
      exact HAE.out
  · have hz0 : decide (0 < n) = true := decide_eq_true (by omega)
    have hnl : n - 1 < l.length := by have := H2.out.2.2.1; omega
    obtain ⟨g, off, rfl, c0, c1⟩ := H2.out.1.cells (i := n - 1) H2.out.2.2.1 hnl
    have hgl : l.getLast? = some l[n - 1] := by
      rw [List.getLast?_eq_getElem?, show l.length - 1 = n - 1 by have := H2.out.2.2.1; omega]
      exact List.getElem?_eq_getElem _
    have hlt := HS.out.2.2 _ hgl
    obtain ⟨y, hy⟩ : ∃ y, l[n - 1] = y := ⟨_, rfl⟩
    rw [hy] at c0 c1 hgl hlt
    obtain ⟨n1, hn1⟩ : ∃ n1, n = n1 + 1 := ⟨n - 1, by omega⟩
    have e1 : n - 1 = n1 := by omega
    rw [e1] at c0 c1
    have hcast : (n : Int) - 1 = (n1 : Int) := by omega
    have hn1l : n1 < n := by omega
    have hlt2 := hlt.2
    have hs24 := HS.out.2.1
    have hnr : spNear step l s = decide (s.2 - y.2 < step) := by unfold spNear; rw [hgl]
    by_cases hnear : s.2 - y.2 < step
    · have hns : spNear step l s = true := by rw [hnr]; exact decide_eq_true hnear
      have HNS := Lib.hid hns
      have hd : decide ((s.2 : Int) - (y.2 : Int) < (step : Int)) = true := decide_eq_true (by omega)
      clear hns hnr hgl hlt hy hn1 e1 hnl
      go_upto_region 6 with fail
      go_quiet (fail)
      go_wp2_with fail
      go_ret2
      have hb0 : Below w.heap.size w (w2.drewN nq) := ⟨H2.out.2.1.os, H2.out.2.1.tape, H2.out.2.1.output, H2.out.2.1.size, H2.out.2.1.block⟩
      rw [H2.out.2.2.1]
      refine ⟨_, by rw [HNS.out]; rfl, by rw [if_pos HNS.out]; exact H2.out.2.2.2.later hb0, Only.of_below hb0 (Nat.le_refl _) _, fun k hk => .inl hk⟩
    · have hns : spNear step l s = false := by rw [hnr]; exact decide_eq_false hnear
      have HNS := Lib.hid hns
      have hd : decide ((s.2 : Int) - (y.2 : Int) < (step : Int)) = false := decide_eq_false (by omega)
      clear hns hnr hgl hlt hy hn1 e1 hnl
      go_upto_region 6 with fail
      go_quiet (fail)
      generalize hW0 : w2.drewN _ = W0
      have hb0 : Below w2.heap.size w2 W0 := by rw [← hW0]; exact ⟨rfl, rfl, rfl, Nat.le_refl _, fun _ _ => rfl⟩
      have hc : ∀ a : Addr, W0.cell? a = w2.cell? a := fun a => by rw [← hW0]; rfl
      have i0 := (hc _).trans j0
      have i1 := (hc _).trans j1
      have l1 := (hc _).trans k1
      clear hc hW0 j0 j1 k0 k1
      go_upto_region 8 with fail
      have hv0 := hb0.alloc hb0.size (.cells #[.int .i64 (s.1 : Int), .int .i64 (s.2 : Int)] 262)
      have hxl : x < W0.heap.size := World.block_lt_of_cell? _ _ l1
      have l1a := (((Below.refl W0.heap.size W0).alloc (Nat.le_refl _) (.cells #[.int .i64 (s.1 : Int), .int .i64 (s.2 : Int)] 262)).cell (p := ⟨x, 1, none⟩) hxl).trans l1
      clear hxl
      go_region_law (refine step_spot (y := s) (by rfl) (.tmp 45) (.tmp 47) (by rfl) H2.out.2.2.1 (HRR.out _ ⟨hv0.os, hv0.tape, hv0.output, hv0.size, hv0.block⟩) (spot_row W0 s.1 s.2) (by omega) (by rfl) (by rfl) ?_; intro oa3 c3 w3 HR3; have hae := add_end (W := w2) HR3.out H2.out.2.2.2 H2.out.2.1 ⟨hv0.os, hv0.tape, hv0.output, hv0.size, hv0.block⟩ H2.out.2.2.1 HNS.out; have x3 := cell_of (i := 1) hae.1 rfl; have z3 : w3.frozen? ⟨x, 1, none⟩ = false := free_of hae.1 _; have HAE := Lib.hid hae.2; clear hae)
      all_goals
        go_wp2_with fail
        go_ret2
        rw [H2.out.2.2.1]
        exact HAE.out
/-- so many spots stand at or ahead of an offset -/
def CutAt (l : List Sp) (off : Int) (r : Nat) : Prop := r ≤ l.length ∧ (∀ i (h : i < l.length), i < r → (l[i].1 : Int) ≤ off) ∧ (∀ i (h : i < l.length), r ≤ i → off < (l[i].1 : Int))
/-- the spot that Find tells -/
def spotAt (l : List Sp) (r : Nat) : Sp := if r = 0 then (0, 0) else l.getD (r - 1) (0, 0)
end Go.Proofs.YtlgcoaeddeiegaaGreat
/- record: Put. -/
namespace Go.Proofs.YtlgcoaeddeiegaaGreat
open Go Go.RowKit
attribute [local go_sem] Oper.semAt_some

def PutIs (w : World) (base : Int) (l : List Rc) (e : Ending) (w' : World) : Prop :=
  ∃ oa m c, e = .returned (.tuple #[.slice oa m c, .int .i64 (putT base l).2]) ∧ NewB w w' (.slice oa m c) (putT base l).1
theorem put_none {w w' : World} {base : Int} {l : List Rc} {er : Int} (h : putT base l = ([], er)) (hb : Below w.heap.size w w') : PutIs w base l (.returned (.tuple #[.slice none 0 0, .int .i64 er])) w' :=
  ⟨none, 0, 0, by rw [h], by rw [h]; exact NewB.nil hb⟩
theorem flat_take {l : List Rc} {i : Nat} (h : i < l.length) : (l.take (i + 1)).flatMap Rc.bytes = (l.take i).flatMap Rc.bytes ++ l[i].bytes := by
  rw [List.take_succ_eq_append_getElem h, List.flatMap_append]
  simp
theorem PutB.of_new {w0 W : World} {v : Value} {l : List UInt8} (h : NewB w0 W v l) : PutB w0 w0 (.slice none 0 0) W v l :=
  ⟨h, Only.of_below h.below (Nat.le_refl _) _, fun k hk => .inr (h.own k hk)⟩
/-- bytes are appended, within a region that draws its order -/
theorem step_putR {w0 V : World} {ops : Array Oper} {o : Oper} {a : Act} {K : Act → World → Prop} {Q : Exit → Act → World → Prop} {E : Prop}
    (hg : o.guard = none) (s x : Operand) (ho : o.op = .call { callee := .builtin .append, args := #[s, x], argTypes := #[39, 39] })
    {oa : Option Addr} {m c : Nat} {l : List UInt8} (h : NewB w0 V (.slice oa m c) l) {ob : Option Addr} {n d : Nat} {ys : List UInt8} (hn : ys.length = n) (hy : readAt V 1 (.slice ob n d) n (byteCells ys)) (hmn : m + n ≤ 1000000000)
    (hs : a.eval s = .slice oa m c) (hx : a.eval x = .slice ob n d)
    (hK : ∀ oa3 c3 w3, Hid (PutB w0 V (.slice oa m c) w3 (.slice oa3 (m + n) c3) (l ++ ys)) → K (a.put o.dst (.slice oa3 (m + n) c3)) w3) :
    if Region.wanted o (yielded ops a.tmps) = true then Oper.wp Tryz.prog o a V K Q else E := by
  have hw : Region.wanted o (yielded ops a.tmps) = true := by simp [Region.wanted, hg]
  rw [if_pos hw]
  have hlm := h.len
  subst hlm
  subst hn
  obtain ⟨i, hi, hz, hsz, hby⟩ := info_parts info_u8
  obtain ⟨v', w', hrun, r1, r2, r3, r4⟩ := run_append_at (P := Tryz.prog) V 39 39 o.type 5 i _ 1 1 Tryz.underlying39 hi hz hsz hby rfl _ l.length _ h.row _ ys.length _ (Src.of_read Tryz.underlying39 hy (byteCells_one _)) (by unfold maxLen; omega) (by omega)
  obtain ⟨oa3, c3, rfl, _⟩ := r1.shape
  unfold Oper.wp
  simp [execOp, ho, resolve, invoke, builtin, hs, hx, hrun, Result.andThen]
  exact hK oa3 c3 w' (Lib.hid (PutB.grown h (Below.refl _ _) r1 r2 r3))
set_option maxRecDepth 100000 in
set_option maxHeartbeats 4000000 in
theorem putR_b {w : World} {base : Int} {oa : Option Addr} {n c : Nat} {xs : List RcV} {l : List Rc} (hl : xs.map (·.r) = l) (hn : xs.length = n) (h : RecsIs w (.slice oa n c) xs) (hnm : n ≤ 1000000000) (hb9 : -9223372036854775808 ≤ base ∧ base ≤ 9223372036854775807) :
    Calls Tryz.prog 148 #[.agg #[.int .i64 base, .slice oa n c]] w fun e w' => PutIs w base l e w' := by
  have hln : l.length = n := by rw [← hl, List.length_map, hn]
  obtain ⟨w1, hw1⟩ : ∃ W : World, W = w.alloc (.cells #[.int .i64 base, .slice oa n c] 168) := ⟨_, rfl⟩
  obtain ⟨b1, hb1⟩ : ∃ b, b = w.heap.size := ⟨_, rfl⟩
  have h1 : w1.heap[b1]? = some (.cells #[.int .i64 base, .slice oa n c] 168 (0, 0)) := by rw [hw1, hb1]; exact alloc_cells _ _ _
  have hbl : Below w.heap.size w w1 := by rw [hw1]; exact (Below.refl _ _).alloc (Nat.le_refl _) _
  have k0 : w1.cell? ⟨b1, 0, none⟩ = some (.int .i64 base) := cell_of h1 rfl
  have k1 : w1.cell? ⟨b1, 1, none⟩ = some (.slice oa n c) := cell_of h1 rfl
  have HF := Lib.hid (fits_b hl hn (h.below hbl) hnm)
  obtain ⟨f1, hf1⟩ : ∃ x, (fitsT l).1 = x := ⟨_, rfl⟩
  obtain ⟨f2, hf2⟩ : ∃ x, (fitsT l).2 = x := ⟨_, rfl⟩
  rw [hf1, hf2] at HF
  have HFT := Lib.hid (And.intro hf1 hf2)
  have HL := Lib.hid (And.intro hl (And.intro hn hln))
  have H1 := Lib.hid (And.intro h1 (And.intro hbl hb1))
  have HR := Lib.hid h
  clear hl hn h hln h1 hbl hf1 hf2
  go_enter Tryz.func148, Tryz.ntmps148
  go_upto_region 1 with fail
  rw [← hw1, ← hb1]
  clear hw1 hb1
  go_wp2_with fail
  refine HF.out.mono ?_
  rintro e w2 ⟨rfl, hb2⟩
  have h12 := (hb2.block b1 (Array.getElem?_eq_some_iff.1 H1.out.1).1).trans H1.out.1
  have j0 : w2.cell? ⟨b1, 0, none⟩ = some (.int .i64 base) := cell_of h12 rfl
  have j1 : w2.cell? ⟨b1, 1, none⟩ = some (.slice oa n c) := cell_of h12 rfl
  have H2 := Lib.hid (And.intro h12 (H1.out.2.1.trans (hb2.mono H1.out.2.1.size)))
  clear hb2 h12 k0 k1 HF
  have hf2c : f2 = 2 ∨ f2 = 8 ∨ f2 = 0 := by
    rw [← HFT.out.2]
    unfold fitsT
    split
    · exact .inl rfl
    · split
      · exact .inl rfl
      · split
        · exact .inr (.inl rfl)
        · split
          · exact .inr (.inl rfl)
          · exact .inr (.inr rfl)
  by_cases he2 : f2 = 2
  · subst he2
    have hpt : putT base l = ([], 2) := by
      unfold putT putOk
      rw [HFT.out.2]
      simp
    have HP := Lib.hid hpt
    clear hpt hf2c
    go_wp2_with fail
    go_ret2
    exact put_none HP.out H2.out.2
  · have d2 : (f2 == 2) = false := by rw [beq_eq_false_iff_ne]; exact he2
    have hmin : min (n : Int) 9007199254740992 = (n : Int) := by omega
    by_cases hok : base < 0 ∨ 9007199254740992 < base ∨ 9007199254740992 < base + (n : Int) - 1
    · have hpt : putT base l = ([], 2) := by
        unfold putT putOk
        have hln := HL.out.2.2
        rw [hln, if_pos]
        rcases hok with h | h | h
        · rw [decide_eq_true h]; simp
        · rw [decide_eq_true h]; simp
        · rw [decide_eq_true h]; simp
      have HP := Lib.hid hpt
      clear hpt hf2c
      by_cases c1 : base < 0
      · have e1 : decide (base < 0) = true := decide_eq_true c1
        go_wp2_with fail
        go_ret2
        exact put_none HP.out H2.out.2
      · have e1 : decide (base < 0) = false := decide_eq_false c1
        by_cases c2 : 9007199254740992 < base
        · have e2 : decide (9007199254740992 < base) = true := decide_eq_true c2
          go_wp2_with fail
          go_ret2
          exact put_none HP.out H2.out.2
        · have e2 : decide (9007199254740992 < base) = false := decide_eq_false c2
          have c3 : 9007199254740992 < base + (n : Int) - 1 := by omega
          have e3 : decide (9007199254740992 < base + (n : Int) - 1) = true := decide_eq_true c3
          go_wp2_with fail
          go_ret2
          exact put_none HP.out H2.out.2
    · have e1 : decide (base < 0) = false := decide_eq_false (by omega)
      have e2 : decide (9007199254740992 < base) = false := decide_eq_false (by omega)
      have e3 : decide (9007199254740992 < base + (n : Int) - 1) = false := decide_eq_false (by omega)
      have hpok : putOk base l = true := by
        unfold putOk
        rw [HFT.out.2, HL.out.2.2, decide_eq_false he2, e1, e2, e3]
        rfl
      by_cases he8 : f2 = 0
      case neg =>
        have hf8 : f2 = 8 := by rcases hf2c with h | h | h; exact absurd h he2; exact h; exact absurd h he8
        subst hf8
        have hpt : putT base l = ([], 8) := by
          unfold putT
          rw [hpok, HFT.out.2]
          rfl
        have HP := Lib.hid hpt
        clear hpt hf2c hpok
        go_wp2_with fail
        go_ret2
        exact put_none HP.out H2.out.2
      case pos =>
        subst he8
        have hpt : putT base l = (batchT base l, 0) := by
          unfold putT
          rw [hpok, HFT.out.2]
          rfl
        have hnf : l ≠ [] ∧ (∀ r ∈ l, r.ok = true) ∧ l.length ≤ 256 ∧ rcsSize l ≤ 65536 ∧ f1 = rcsSize l := by
          have h1 := HFT.out
          unfold fitsT at h1
          by_cases g1 : l = []
          · rw [if_pos g1] at h1; cases h1.2
          · rw [if_neg g1] at h1
            by_cases g2 : (l.any fun r => !r.ok) = true
            · rw [if_pos g2] at h1; cases h1.2
            · rw [if_neg g2] at h1
              by_cases g3 : 256 < l.length
              · rw [if_pos g3] at h1; cases h1.2
              · rw [if_neg g3] at h1
                by_cases g4 : 65536 < rcsSize l
                · rw [if_pos g4] at h1; cases h1.2
                · rw [if_neg g4] at h1
                  refine ⟨g1, fun r hr => ?_, by omega, by omega, h1.1.symm⟩
                  have g5 : ∀ x ∈ l, x.ok = true := by simpa using g2
                  exact g5 r hr
        obtain ⟨bn, hbn⟩ : ∃ bn : Nat, base = (bn : Int) := ⟨base.toNat, by omega⟩
        subst hbn
        have HP := Lib.hid (And.intro hpt hnf)
        have hn256 : n ≤ 256 := by have := HL.out.2.2; have := hnf.2.2.1; omega
        have hbn53 : bn ≤ 9007199254740992 := by omega
        have hcv : IntKind.u64.wrap (bn : Int) = (bn : Int) := by rw [u64_wrap]; omega
        have hcn : IntKind.u64.wrap (n : Int) = (n : Int) := by rw [u64_wrap]; omega
        have HP1 := Lib.hid (put0_b (Below.refl w2.heap.size w2) bn 8 (by omega) (by omega))
        clear hpt hnf hf2c hpok hok he2 d2
        go_upto_region 6 with fail
        go_wp2_with fail
        refine HP1.out.mono ?_
        rintro e w3 ⟨oa3, c3, rfl, hp3⟩
        have hx3 := (hp3.box H2.out.1 (by simp [Value.ownBlock])).1
        have g0 : w3.cell? ⟨b1, 0, none⟩ = some (.int .i64 (bn : Int)) := cell_of hx3 rfl
        have g1 : w3.cell? ⟨b1, 1, none⟩ = some (.slice oa n c) := cell_of hx3 rfl
        have HP2 := Lib.hid (put_b hp3.new (by omega) n 4 (by omega) (by omega))
        have H3 := Lib.hid hp3
        clear hp3 hx3 j0 j1 HP1
        go_wp2_with fail
        refine HP2.out.mono ?_
        rintro e w4 ⟨oa4, c4, rfl, hp4⟩
        have hp4' := H3.out.trans hp4
        have hx4 := (hp4'.box H2.out.1 (by simp [Value.ownBlock])).1
        have g0' : w4.cell? ⟨b1, 0, none⟩ = some (.int .i64 (bn : Int)) := cell_of hx4 rfl
        have g1' : w4.cell? ⟨b1, 1, none⟩ = some (.slice oa n c) := cell_of hx4 rfl
        have H4 := Lib.hid hp4'
        clear hp4 hp4' hx4 g0 g1 HP2 H3
        go_wp2_with fail
        go_loopw [6, 57] (fun s i wr => ∃ (k m' : Nat) (oa' : Option Addr) (c' : Nat), s = .slice oa' m' c' ∧ i = .int .i64 (k : Int) ∧ k ≤ n ∧ m' ≤ 12 + 4364 * k ∧ Hid (PutB w2 w2 (.slice none 0 0) wr (.slice oa' m' c') (leT bn 8 ++ leT n 4 ++ (l.take k).flatMap Rc.bytes))) (fun _ i _ => n - (intOf i).toNat)
        case atStart => exact ⟨0, 12, oa4, c4, rfl, rfl, by omega, by omega, Lib.hid (by simpa using H4.out)⟩
        case round =>
          obtain ⟨k, m', oa', c', rfl, rfl, hk, hm', HI⟩ := hrel
          by_cases hlt : k < n
          · have hkx : k < xs.length := by rw [HL.out.2.1]; exact hlt
            have hkl : k < l.length := by rw [HL.out.2.2]; exact hlt
            have hbw : Below w.heap.size w wr := H2.out.2.trans (HI.out.new.below.mono H2.out.2.size)
            have hri := HR.out.below hbw
            have hrd := HR.out.each xs[k] (List.getElem_mem hkx)
            obtain ⟨g, off, ka, kc, va, vc, rfl, hkv, hvv, d0, d1, d2⟩ := hri.cells HL.out.2.1 hkx
            have hrx : xs[k].r = l[k] := by simp [← HL.out.1]
            rw [hkv, hvv, hrx] at hrd
            have hrd1 : readAt w 1 (.slice ka l[k].key.length kc) l[k].key.length (byteCells l[k].key) := hrd.1
            have hrd2 : readAt w 1 (.slice va l[k].val.length vc) l[k].val.length (byteCells l[k].val) := hrd.2
            clear hrd
            rw [hrx] at d0 d1 d2
            have hok := HP.out.2.2.1 l[k] (List.getElem_mem hkl)
            have hft := flat_take hkl
            obtain ⟨r, hr⟩ : ∃ r, l[k] = r := ⟨_, rfl⟩
            rw [hr] at d0 d1 d2 hok hft hrd1 hrd2
            unfold Rc.ok at hok
            simp only [Bool.and_eq_true, decide_eq_true_eq] at hok
            obtain ⟨tn, htn⟩ : ∃ tn : Nat, r.time = (tn : Int) := ⟨r.time.toNat, by omega⟩
            obtain ⟨rk, hrk⟩ : ∃ x, r.key.length = x := ⟨_, rfl⟩
            obtain ⟨rv, hrv⟩ : ∃ x, r.val.length = x := ⟨_, rfl⟩
            have hby : r.bytes = leT tn 8 ++ leT rk 2 ++ leT rv 2 ++ r.key ++ r.val := by unfold Rc.bytes; rw [htn, hrk, hrv]; rfl
            rw [htn] at d0 hok
            rw [hrk] at d1 hok hrd1
            rw [hrv] at d2 hok hrd2
            have htn53 : tn ≤ 9007199254740992 := by omega
            have hct : IntKind.u64.wrap (tn : Int) = (tn : Int) := by rw [u64_wrap]; omega
            have hck : IntKind.u64.wrap (rk : Int) = (rk : Int) := by rw [u64_wrap]; omega
            have hcv2 : IntKind.u64.wrap (rv : Int) = (rv : Int) := by rw [u64_wrap]; omega
            have hrkb : rk ≤ 256 := by omega
            have hrvb : rv ≤ 4096 := by omega
            obtain ⟨w5, hw5⟩ : ∃ W : World, W = wr.alloc (.cells #[.int .i64 (tn : Int), .slice ka rk kc, .slice va rv vc] 150) := ⟨_, rfl⟩
            obtain ⟨b8, hb8⟩ : ∃ b, b = wr.heap.size := ⟨_, rfl⟩
            have h58 : w5.heap[b8]? = some (.cells #[.int .i64 (tn : Int), .slice ka rk kc, .slice va rv vc] 150 (0, 0)) := by rw [hw5, hb8]; exact alloc_cells _ _ _
            have hb5 : Below wr.heap.size wr w5 := by rw [hw5]; exact (Below.refl _ _).alloc (Nat.le_refl _) _
            have hne5 : (Value.slice oa' m' c').ownBlock ≠ some b8 := fun e => by
              have := HI.out.new.row.lt b8 e
              omega
            have q0 : w5.cell? ⟨b8, 0, none⟩ = some (.int .i64 (tn : Int)) := cell_of h58 rfl
            have HPA := Lib.hid (put_b (HI.out.new.kept hb5) (by omega) tn 8 (by omega) (by omega))
            have H5 := Lib.hid (And.intro h58 (And.intro hne5 (And.intro hb5 (hbw.trans (hb5.mono hbw.size)))))
            have HRD := Lib.hid (And.intro hrd1 hrd2)
            have HBY := Lib.hid (And.intro hby (And.intro hft (And.intro hrk hrv)))
            clear hkx hkl hbw hri hrd1 hrd2 hkv hvv hrx hok hft hr htn hrk hrv hby h58 hb5 hne5
            go_upto_region 11 with fail
            rw [← hw5, ← hb8]
            clear hw5 hb8
            go_wp2_with fail
            refine HPA.out.mono ?_
            rintro e w6 ⟨oa6, c6, rfl, hp6⟩
            have hx6 := hp6.box H5.out.1 H5.out.2.1
            have q1 : w6.cell? ⟨b8, 1, none⟩ = some (.slice ka rk kc) := cell_of hx6.1 rfl
            have HPB := Lib.hid (put_b hp6.new (by omega) rk 2 (by omega) (by omega))
            have H6 := Lib.hid (And.intro hp6 hx6)
            clear hp6 hx6 q0 HPA
            go_wp2_with fail
            refine HPB.out.mono ?_
            rintro e w7 ⟨oa7, c7, rfl, hp7⟩
            have hx7 := hp7.box H6.out.2.1 H6.out.2.2
            have q2 : w7.cell? ⟨b8, 2, none⟩ = some (.slice va rv vc) := cell_of hx7.1 rfl
            have HPC := Lib.hid (put_b hp7.new (by omega) rv 2 (by omega) (by omega))
            have H7 := Lib.hid (And.intro (H6.out.1.trans hp7) hx7)
            clear hp7 hx7 q1 HPB H6
            go_wp2_with fail
            refine HPC.out.mono ?_
            rintro e w8 ⟨oa8, c8, rfl, hp8⟩
            have hx8 := hp8.box H7.out.2.1 H7.out.2.2
            have q3 : w8.cell? ⟨b8, 1, none⟩ = some (.slice ka rk kc) := cell_of hx8.1 rfl
            have q4 : w8.cell? ⟨b8, 2, none⟩ = some (.slice va rv vc) := cell_of hx8.1 rfl
            have H8 := Lib.hid (And.intro (H7.out.1.trans hp8) hx8)
            clear hp8 hx8 q2 HPC H7
            have hbw8 : Below w.heap.size w w8 := H2.out.2.trans (H8.out.1.new.below.mono H2.out.2.size)
            have HN8 := Lib.hid (fun (W : World) (hb : Below w8.heap.size w8 W) => H8.out.1.new.kept hb)
            have HK8 := Lib.hid (fun (W : World) (hb : Below w8.heap.size w8 W) => HRD.out.1.kept (fun k hk _ _ => (hbw8.trans (hb.mono hbw8.size)).block k hk))
            have HX8 := Lib.hid (And.intro H8.out.2 (And.intro hbw8 (And.intro HBY.out.2.2.1 HBY.out.2.2.2)))
            clear hbw8
            go_upto_region 14 with fail
            go_region_law (first | (refine step_putR (by rfl) (.tmp 78) (.tmp 80) (by rfl) (HN8.out _ (by first | exact Below.refl _ _ | exact ⟨rfl, rfl, rfl, Nat.le_refl _, fun _ _ => rfl⟩)) HX8.out.2.2.1 (HK8.out _ (by first | exact Below.refl _ _ | exact ⟨rfl, rfl, rfl, Nat.le_refl _, fun _ _ => rfl⟩)) (by omega) (by rfl) (by rfl) ?_; intro oa9 c9 w9 HR9; have hx9 := HR9.out.box HX8.out.1.1 HX8.out.1.2; have q5 : w9.cell? ⟨b8, 2, none⟩ = some (.slice va rv vc) := cell_of hx9.1 rfl; have HV9 := Lib.hid (fun (W : World) (hb : Below w9.heap.size w9 W) => And.intro (HR9.out.new.kept hb) (HRD.out.2.kept (fun k hk _ _ => ((H2.out.2.trans (HR9.out.new.below.mono H2.out.2.size)).trans (hb.mono (Nat.le_trans H2.out.2.size HR9.out.new.below.size))).block k hk))); clear hx9) | (refine step_putR (by rfl) (.tmp 81) (.tmp 83) (by rfl) (HV9.out _ (by first | exact Below.refl _ _ | exact ⟨rfl, rfl, rfl, Nat.le_refl _, fun _ _ => rfl⟩)).1 HX8.out.2.2.2 (HV9.out _ (by first | exact Below.refl _ _ | exact ⟨rfl, rfl, rfl, Nat.le_refl _, fun _ _ => rfl⟩)).2 (by omega) (by rfl) (by rfl) ?_; intro oa10 c10 w10 HR10))
            all_goals
              go_wp2_with fail
              refine ⟨⟨k + 1, m' + 8 + 2 + 2 + rk + rv, oa10, c10, rfl, by simp, by omega, by omega, Lib.hid ?_⟩, by simp [intOf]; omega⟩
              have h := PutB.of_new HR10.out.new
              rw [HBY.out.2.1, HBY.out.1]
              simpa only [List.append_assoc] using h
          · obtain rfl : k = n := by omega
            have htk : l.take k = l := List.take_of_length_le (by rw [HL.out.2.2]; exact Nat.le_refl _)
            have hbd : leT bn 8 ++ leT k 4 ++ l.flatMap Rc.bytes = bodyT (bn : Int) l := by
              unfold bodyT
              rw [HL.out.2.2]
              rfl
            have hi := HI.out
            rw [htk, hbd] at hi
            have hbt : batchT (bn : Int) l = leT (f1 - 4) 4 ++ leT (crcSum (bodyT (bn : Int) l)).toNat 4 ++ bodyT (bn : Int) l := by
              unfold batchT
              rw [HP.out.2.2.2.2.2]
            have hml := hi.new.len
            obtain ⟨B, hB⟩ : ∃ B, bodyT (bn : Int) l = B := ⟨_, rfl⟩
            rw [hB] at hi hbt hml
            have hf1 : 32 ≤ f1 ∧ f1 ≤ 65536 ∧ f1 = m' + 8 := by
              have h1 := bodyT_len (bn : Int) l
              rw [hB, hml] at h1
              have h2 := HP.out.2.2.2.2
              have h3 : 20 ≤ rcsSize l := by unfold rcsSize; omega
              have h4 : 32 ≤ rcsSize l := by
                have h5 := HP.out.2.1
                cases l with
                | nil => exact absurd rfl h5
                | cons r l =>
                  unfold rcsSize Rc.size
                  rw [List.map_cons, List.sum_cons]
                  omega
              omega
            obtain ⟨hf1a, hf1b, hf1c⟩ := hf1
            have hm65 : m' ≤ 65536 := by omega
            clear hf1c
            obtain ⟨s, hs⟩ : ∃ s : Nat, crcSum B = (s : Int) := ⟨(crcSum B).toNat, by have := crcSum_u32 B; omega⟩
            have hsb : s < 4294967296 := by have := crcSum_u32 B; omega
            have hst : (crcSum B).toNat = s := by omega
            rw [hst] at hbt
            have HI2 := Lib.hid (And.intro hi (And.intro hml hs))
            obtain ⟨f4, hf4⟩ : ∃ f4 : Nat, (f1 : Int) - 4 = (f4 : Int) := ⟨f1 - 4, by omega⟩
            have hf4n : f1 - 4 = f4 := by omega
            rw [hf4n] at hbt
            have HBT := Lib.hid hbt
            have hcf : IntKind.u64.wrap (f4 : Int) = (f4 : Int) := by rw [u64_wrap]; omega
            have hcs : IntKind.u64.wrap (s : Int) = (s : Int) := by rw [u64_wrap]; omega
            have HP5 := Lib.hid (put0_b (w0 := w2) hi.new.below f4 4 (by omega) (by omega))
            clear htk hbd hi hbt hml hs hst HI hB g0' g1' hf4n
            go_upto_region 16 with fail
            go_wp2_with fail
            refine HP5.out.mono ?_
            rintro e w5 ⟨oa5, c5, rfl, hp5⟩
            have hbr5 : Below wr.heap.size wr w5 := hp5.only.below (fun i _ e => by simp [Value.ownBlock] at e) (Nat.le_refl _)
            have hv5 : ∀ j, (Value.slice oa5 4 c5).ownBlock = some j → wr.heap.size ≤ j := fun j hj => (hp5.own j hj).resolve_left (by simp [Value.ownBlock])
            obtain ⟨w6, hw6⟩ : ∃ W : World, W = w5.alloc (.cells #[.slice oa' m' c'] 39) := ⟨_, rfl⟩
            obtain ⟨b6, hb6⟩ : ∃ b, b = w5.heap.size := ⟨_, rfl⟩
            have h66 : w6.heap[b6]? = some (.cells #[.slice oa' m' c'] 39 (0, 0)) := by rw [hw6, hb6]; exact alloc_cells _ _ _
            have hb56 : Below w5.heap.size w5 w6 := by rw [hw6]; exact (Below.refl _ _).alloc (Nat.le_refl _) _
            have hbr6 : Below wr.heap.size wr w6 := hbr5.trans (hb56.mono hbr5.size)
            have hrr := HI2.out.1.new.row
            rw [HI2.out.2.1] at hrr
            have hrl := hrr.lt
            have hcr := crcSum_b (cell_of (i := 0) h66 rfl) HI2.out.2.1 (hrr.read.kept (fun j hj _ _ => hbr6.block j hj)) (by omega)
            rw [HI2.out.2.2] at hcr
            have HCR := Lib.hid hcr
            have H6 := Lib.hid (And.intro hp5 (And.intro hbr6 (And.intro hb56 (And.intro hv5 (And.intro hrr.read hrl)))))
            clear hp5 hbr5 hv5 h66 hb56 hbr6 hrr hrl hcr HP5
            go_wp2_with fail
            rw [← hw6, ← hb6]
            clear hw6 hb6
            refine HCR.out.mono ?_
            rintro e w7 ⟨rfl, hb67⟩
            have hb57 : Below w5.heap.size w5 w7 := H6.out.2.2.1.trans (hb67.mono H6.out.2.2.1.size)
            have hbr7 : Below wr.heap.size wr w7 := H6.out.2.1.trans (hb67.mono H6.out.2.1.size)
            have HP7 := Lib.hid (put_b (H6.out.1.new.kept hb57) (by omega) s 4 (by omega) (by omega))
            have H7 := Lib.hid hbr7
            clear hb67 hb57 hbr7 HCR
            go_wp2_with fail
            refine HP7.out.mono ?_
            rintro e w8 ⟨oa8, c8, rfl, hp8⟩
            have hro : readAt w8 1 (.slice oa' m' c') m' (byteCells B) := (H6.out.2.2.2.2.1.kept (fun j hj _ _ => H7.out.block j hj)).kept (fun j hj ho _ => hp8.only.block j hj (fun e => by
              have h1 := H6.out.2.2.2.2.2 j ho
              have h2 := H6.out.2.2.2.1 j e
              omega))
            have H8 := Lib.hid (And.intro hp8 hro)
            clear hp8 hro HP7
            go_wp2_with (at_builtin; refine wpList_putR rfl (.tmp 96) (.tmp 97) rfl H8.out.1.new HI2.out.2.1 H8.out.2 (by omega) rfl rfl ?_; intro oa9 c9 w9 HR9)
            go_ret2
            refine ⟨oa9, 4 + 4 + m', c9, by rw [HP.out.1]; rfl, ?_⟩
            rw [HP.out.1, HBT.out]
            have h9 := HR9.out.new
            exact ⟨h9.row, fun j hj => Nat.le_trans H2.out.2.size (h9.own j hj), H2.out.2.trans (h9.below.mono H2.out.2.size)⟩
end Go.Proofs.YtlgcoaeddeiegaaGreat
/- record: what batch's deferred closure does. -/
namespace Go.Proofs.YtlgcoaeddeiegaaGreat
open Go Go.RowKit
attribute [local go_sem] Oper.semAt_some

set_option maxRecDepth 100000 in
set_option maxHeartbeats 1000000 in
/-- the frame returns: nothing is done -/
theorem batchIdle_b {w : World} {a b c : Value} :
    CallsD Tryz.prog 190 #[a, b, c] .returning w fun e u' w' => e = .returned (.tuple #[]) ∧ u' = .returning ∧ w' = w := by
  refine callsD_of_wpS Tryz.func190 rfl fun c₀ cs hu => ?_
  apply wpS_seq
  apply wpS_region
  simp [wpOpsS, go_sem, recoverD, hu, Tryz.ntmps190, Exit.thenS]
  refine wpS_of_wp ?_
  go_wp2_with fail
  cases c₀
  simp_all [bodyPostS, results, Tryz.results190]
set_option maxRecDepth 100000 in
set_option maxHeartbeats 1000000 in
/-- the frame panics with an error of batch's: the results are that error's -/
theorem batchCatch_b {w : World} {b2 b3 b4 : Nat} {x0 x1 x3 x4 : Value} {er : Int} {older : List PanicEntry} (h2 : w.heap[b2]? = some (.cells #[x0, x1] 168 (0, 0))) (h3 : w.heap[b3]? = some (.cells #[x3] 3 (0, 0))) (h4 : w.heap[b4]? = some (.cells #[x4] 28 (0, 0))) (n32 : b3 ≠ b2) (n42 : b4 ≠ b2) (n43 : b4 ≠ b3) :
    CallsD Tryz.prog 190 #[.pointer (some ⟨b2, 0, none⟩), .pointer (some ⟨b3, 0, none⟩), .pointer (some ⟨b4, 0, none⟩)] (.panicking ({ v := .iface 318 (.agg #[.int .i64 er]), recovered := false } :: older)) w fun e u' w' =>
      e = .returned (.tuple #[]) ∧ u' = .panicking ({ v := .iface 318 (.agg #[.int .i64 er]), recovered := true } :: older) ∧ w'.heap[b2]? = some (.cells #[.int .i64 0, .slice none 0 0] 168 (0, 0)) ∧ w'.heap[b3]? = some (.cells #[.int .i64 0] 3 (0, 0)) ∧ w'.heap[b4]? = some (.cells #[.int .i64 er] 28 (0, 0)) ∧ Only (fun k => k = b2 ∨ k = b3 ∨ k = b4) w w' := by
  refine callsD_of_wpS Tryz.func190 rfl fun c₀ cs hu => ?_
  apply wpS_seq
  apply wpS_region
  simp [wpOpsS, go_sem, recoverD, hu, Tryz.ntmps190, Exit.thenS]
  refine wpS_of_wp ?_
  simp only [Array.replicate_succ, Array.replicate_zero, List.push_toArray, List.nil_append, List.cons_append]
  have hta : ∀ W : World, (Instr.typeAssert (.iface 318 (.agg #[.int .i64 er])) 20 318 true).run Tryz.prog W = .ok (.tuple #[.agg #[.int .i64 er], .bool true]) W := fun W => by kernel_rfl
  go_upto_region 7 with fail
  obtain ⟨w1, hw1⟩ : ∃ W : World, W = w.alloc (.cells #[.int .i64 er] 318) := ⟨_, rfl⟩
  obtain ⟨b5, hb5⟩ : ∃ b, b = w.heap.size := ⟨_, rfl⟩
  have h5 : w1.heap[b5]? = some (.cells #[.int .i64 er] 318 (0, 0)) := by rw [hw1, hb5]; exact alloc_cells _ _ _
  have hb1 : Below w.heap.size w w1 := by rw [hw1]; exact (Below.refl _ _).alloc (Nat.le_refl _) _
  have g2 := (hb1.block b2 (Array.getElem?_eq_some_iff.1 h2).1).trans h2
  have g3 := (hb1.block b3 (Array.getElem?_eq_some_iff.1 h3).1).trans h3
  have g4 := (hb1.block b4 (Array.getElem?_eq_some_iff.1 h4).1).trans h4
  have H := Lib.hid (And.intro g2 (And.intro g3 (And.intro g4 hb1)))
  have HU := Lib.hid hu
  have k5 : w1.cell? ⟨b5, 0, none⟩ = some (.int .i64 er) := cell_of h5 rfl
  have k20 : w1.cell? ⟨b2, 0, none⟩ = some x0 := cell_of g2 rfl
  have k21 : w1.cell? ⟨b2, 1, none⟩ = some x1 := cell_of g2 rfl
  have z20 : w1.frozen? ⟨b2, 0, none⟩ = false := free_of g2 _
  have z21 : w1.frozen? ⟨b2, 1, none⟩ = false := free_of g2 _
  have k3 : w1.cell? ⟨b3, 0, none⟩ = some x3 := cell_of g3 rfl
  have z3 : w1.frozen? ⟨b3, 0, none⟩ = false := free_of g3 _
  have k4 : w1.cell? ⟨b4, 0, none⟩ = some x4 := cell_of g4 rfl
  have z4 : w1.frozen? ⟨b4, 0, none⟩ = false := free_of g4 _
  rw [← hw1, ← hb5]
  have n52 : b5 ≠ b2 := by have := (Array.getElem?_eq_some_iff.1 h2).1; omega
  have n53 : b5 ≠ b3 := by have := (Array.getElem?_eq_some_iff.1 h3).1; omega
  have n54 : b5 ≠ b4 := by have := (Array.getElem?_eq_some_iff.1 h4).1; omega
  clear hw1 hb5 h5 hb1 g2 g3 g4 h2 h3 h4 hta hu
  have n23 := n32.symm
  have n24 := n42.symm
  have n34 := n43.symm
  have n25 := n52.symm
  have n35 := n53.symm
  have n45 := n54.symm
  go_region
  refine ⟨rfl, _, rfl, _, results_none rfl _ _ _, rfl, rfl, ?_, ?_, ?_, ?_⟩
  · exact (Below.heap_setCell _ _ _ _ n24).trans ((Below.heap_setCell _ _ _ _ n23).trans (heap_setCell_here _ (heap_setCell_here _ H.out.1)))
  · exact (Below.heap_setCell _ _ _ _ n34).trans (heap_setCell_here _ ((Below.heap_setCell _ _ _ _ n32).trans ((Below.heap_setCell _ _ _ _ n32).trans H.out.2.1)))
  · exact heap_setCell_here _ ((Below.heap_setCell _ _ _ _ n43).trans ((Below.heap_setCell _ _ _ _ n42).trans ((Below.heap_setCell _ _ _ _ n42).trans H.out.2.2.1)))
  · have h1 := Only.of_below H.out.2.2.2 (Nat.le_refl _) (fun k => k = b2 ∨ k = b3 ∨ k = b4)
    have h2 := ((((h1.trans (only_setCell _ _ b2 0 (.int .i64 0) (.inl rfl)) (fun _ _ e => e)).trans (only_setCell _ _ b2 1 (.slice none 0 0) (.inl rfl)) (fun _ _ e => e)).trans (only_setCell _ _ b3 0 (.int .i64 0) (.inr (.inl rfl))) (fun _ _ e => e)).trans (only_setCell _ _ b4 0 (.int .i64 er) (.inr (.inr rfl))) (fun _ _ e => e))
    exact ⟨h2.os, h2.tape, h2.output, h2.size, h2.block⟩
end Go.Proofs.YtlgcoaeddeiegaaGreat
/- record: batch, where nothing or a torn batch stands. -/
namespace Go.Proofs.YtlgcoaeddeiegaaGreat
open Go Go.RowKit
attribute [local go_sem] Oper.semAt_some

/-- batch's three result variables -/
structure BtI (w W : World) (b2 b3 b4 : Nat) (x0 x1 x3 x4 : Value) : Prop where
  two : W.heap[b2]? = some (.cells #[x0, x1] 168 (0, 0))
  three : W.heap[b3]? = some (.cells #[x3] 3 (0, 0))
  four : W.heap[b4]? = some (.cells #[x4] 28 (0, 0))
  low : w.heap.size ≤ b2
  b23 : b3 = b2 + 1
  b24 : b4 = b2 + 2
  below : Below w.heap.size w W
theorem BtI.later {w W W' : World} {b2 b3 b4 : Nat} {x0 x1 x3 x4 : Value} (h : BtI w W b2 b3 b4 x0 x1 x3 x4) (hb : Below W.heap.size W W') : BtI w W' b2 b3 b4 x0 x1 x3 x4 :=
  ⟨(hb.block _ (Array.getElem?_eq_some_iff.1 h.two).1).trans h.two, (hb.block _ (Array.getElem?_eq_some_iff.1 h.three).1).trans h.three, (hb.block _ (Array.getElem?_eq_some_iff.1 h.four).1).trans h.four, h.low, h.b23, h.b24, h.below.trans (hb.mono h.below.size)⟩
/-- the closure takes an error of batch's -/
theorem BtI.catch {w W : World} {b2 b3 b4 : Nat} {x0 x1 x3 x4 : Value} {er : Int} {older : List PanicEntry} (h : BtI w W b2 b3 b4 x0 x1 x3 x4) :
    CallsD Tryz.prog 190 #[.pointer (some ⟨b2, 0, none⟩), .pointer (some ⟨b3, 0, none⟩), .pointer (some ⟨b4, 0, none⟩)] (.panicking ({ v := .iface 318 (.agg #[.int .i64 er]), recovered := false } :: older)) W fun e u' w' =>
      e = .returned (.tuple #[]) ∧ u' = .panicking ({ v := .iface 318 (.agg #[.int .i64 er]), recovered := true } :: older) ∧ BtI w w' b2 b3 b4 (.int .i64 0) (.slice none 0 0) (.int .i64 0) (.int .i64 er) := by
  have e1 := h.b23
  have e2 := h.b24
  have e0 := h.low
  refine (batchCatch_b h.two h.three h.four (by omega) (by omega) (by omega)).mono ?_
  rintro e u' w' ⟨he, hu, h2, h3, h4, ho⟩
  exact ⟨he, hu, h2, h3, h4, h.low, h.b23, h.b24, h.below.trans (ho.below (fun i hi e => by rcases e with e | e | e <;> omega) h.below.size)⟩
theorem BtI.put3 {w W : World} {b2 b3 b4 : Nat} {x0 x1 x3 x4 : Value} (h : BtI w W b2 b3 b4 x0 x1 x3 x4) (v : Value) : BtI w (W.setCell ⟨b3, 0, none⟩ v) b2 b3 b4 x0 x1 v x4 := by
  have e1 := h.b23
  have e2 := h.b24
  have e0 := h.low
  exact ⟨(Below.heap_setCell _ _ _ _ (by show b2 ≠ b3; omega)).trans h.two, heap_setCell_here _ h.three, (Below.heap_setCell _ _ _ _ (by show b4 ≠ b3; omega)).trans h.four, h.low, h.b23, h.b24, h.below.setCell (p := ⟨b3, 0, none⟩) (by show w.heap.size ≤ b3; omega) _⟩
theorem BtI.put20 {w W : World} {b2 b3 b4 : Nat} {x0 x1 x3 x4 : Value} (h : BtI w W b2 b3 b4 x0 x1 x3 x4) (v : Value) : BtI w (W.setCell ⟨b2, 0, none⟩ v) b2 b3 b4 v x1 x3 x4 := by
  have e1 := h.b23
  have e2 := h.b24
  exact ⟨heap_setCell_here _ h.two, (Below.heap_setCell _ _ _ _ (by show b3 ≠ b2; omega)).trans h.three, (Below.heap_setCell _ _ _ _ (by show b4 ≠ b2; omega)).trans h.four, h.low, h.b23, h.b24, h.below.setCell (p := ⟨b2, 0, none⟩) h.low _⟩
theorem BtI.put21 {w W : World} {b2 b3 b4 : Nat} {x0 x1 x3 x4 : Value} (h : BtI w W b2 b3 b4 x0 x1 x3 x4) (v : Value) : BtI w (W.setCell ⟨b2, 1, none⟩ v) b2 b3 b4 x0 v x3 x4 := by
  have e1 := h.b23
  have e2 := h.b24
  exact ⟨heap_setCell_here _ h.two, (Below.heap_setCell _ _ _ _ (by show b3 ≠ b2; omega)).trans h.three, (Below.heap_setCell _ _ _ _ (by show b4 ≠ b2; omega)).trans h.four, h.low, h.b23, h.b24, h.below.setCell (p := ⟨b2, 1, none⟩) h.low _⟩
theorem BtI.put4 {w W : World} {b2 b3 b4 : Nat} {x0 x1 x3 x4 : Value} (h : BtI w W b2 b3 b4 x0 x1 x3 x4) (v : Value) : BtI w (W.setCell ⟨b4, 0, none⟩ v) b2 b3 b4 x0 x1 x3 v := by
  have e1 := h.b23
  have e2 := h.b24
  have e0 := h.low
  exact ⟨(Below.heap_setCell _ _ _ _ (by show b2 ≠ b4; omega)).trans h.two, (Below.heap_setCell _ _ _ _ (by show b3 ≠ b4; omega)).trans h.three, heap_setCell_here _ h.four, h.low, h.b23, h.b24, h.below.setCell (p := ⟨b4, 0, none⟩) (by show w.heap.size ≤ b4; omega) _⟩
/-- a block of the statement's own, made behind the results -/
theorem BtI.other {w W : World} {b2 b3 b4 b : Nat} {x0 x1 x3 x4 : Value} (h : BtI w W b2 b3 b4 x0 x1 x3 x4) (hb : b4 < b) (i : Nat) (v : Value) : BtI w (W.setCell ⟨b, i, none⟩ v) b2 b3 b4 x0 x1 x3 x4 := by
  have e1 := h.b23
  have e2 := h.b24
  have e0 := h.low
  exact ⟨(Below.heap_setCell _ _ _ _ (by show b2 ≠ b; omega)).trans h.two, (Below.heap_setCell _ _ _ _ (by show b3 ≠ b; omega)).trans h.three, (Below.heap_setCell _ _ _ _ (by show b4 ≠ b; omega)).trans h.four, h.low, h.b23, h.b24, h.below.setCell (p := ⟨b, i, none⟩) (by show w.heap.size ≤ b; omega) _⟩
theorem BtI.start (w : World) : BtI w (((w.alloc (.cells #[.int .i64 0, .slice none 0 0] 168)).alloc (.cells #[.int .i64 0] 3)).alloc (.cells #[.int .i64 0] 28)) w.heap.size (w.heap.size + 1) (w.heap.size + 1 + 1) (.int .i64 0) (.slice none 0 0) (.int .i64 0) (.int .i64 0) := by
  refine ⟨?_, ?_, ?_, Nat.le_refl _, rfl, rfl, (((Below.refl _ _).alloc (Nat.le_refl _) _).alloc (by simp) _).alloc (by simp; omega) _⟩
  · exact (Below.heap_alloc _ _ _ (by simp; omega)).trans ((Below.heap_alloc _ _ _ (by simp)).trans (alloc_cells _ _ _))
  · have := alloc_cells (w.alloc (.cells #[.int .i64 0, .slice none 0 0] 168)) #[.int .i64 0] 3
    rw [World.size_alloc] at this
    exact (Below.heap_alloc _ _ _ (by simp)).trans this
  · have := alloc_cells ((w.alloc (.cells #[.int .i64 0, .slice none 0 0] 168)).alloc (.cells #[.int .i64 0] 3)) #[.int .i64 0] 28
    rwa [World.size_alloc, World.size_alloc] at this
def batchNo (er : Int) : Value := .tuple #[.agg #[.int .i64 0, .slice none 0 0], .int .i64 0, .int .i64 er]
set_option maxRecDepth 100000 in
set_option maxHeartbeats 2000000 in
/-- nothing stands there -/
theorem batchEnd_b {w : World} {oa : Option Addr} {c : Nat} :
    Calls Tryz.prog 154 #[.slice oa 0 c] w fun e w' => e = .returned (batchNo 150) ∧ Below w.heap.size w w' := by
  have hmf : ∀ (fn : Fn) (first cap : Array Value) (W : World), (Instr.makeFunc fn first cap).run Tryz.prog W = .ok (.func fn first cap) W := fun _ _ _ _ => rfl
  have HS := Lib.hid (BtI.start w)
  go_enter_defers Tryz.func154, Tryz.ntmps154
  go_wp2_with fail
  refine leaves_cons (f := 190) (args := #[.pointer (some ⟨w.heap.size, 0, none⟩), .pointer (some ⟨w.heap.size + 1, 0, none⟩), .pointer (some ⟨w.heap.size + 1 + 1, 0, none⟩)]) (by simp) (by simp [go_sem]) ?_
  refine (HS.out.catch).mono ?_
  rintro e u' w2 ⟨rfl, rfl, hb⟩
  have c20 := cell_of (i := 0) hb.two rfl
  have c21 := cell_of (i := 1) hb.two rfl
  have c3 := cell_of (i := 0) hb.three rfl
  have c4 := cell_of (i := 0) hb.four rfl
  have HB := Lib.hid hb.below
  clear hb
  refine ⟨batchNo 150, ?_, rfl, HB.out⟩
  simp [results, Tryz.results154, go_sem, c20, c21, c3, c4, batchNo]
set_option maxRecDepth 100000 in
set_option maxHeartbeats 2000000 in
/-- a torn batch stands there -/
theorem batchTorn_b {w : World} {oa : Option Addr} {n c : Nat} {l : List UInt8} (hn : l.length = n) (h : readAt w 1 (.slice oa n c) n (byteCells l)) (h0 : 0 < n) (ht : n < 4 ∨ (4 ≤ n ∧ 28 ≤ getT (l.take 4) ∧ getT (l.take 4) ≤ 65532 ∧ n < getT (l.take 4) + 4)) :
    Calls Tryz.prog 154 #[.slice oa n c] w fun e w' => e = .returned (batchNo 151) ∧ Below w.heap.size w w' := by
  have hmf : ∀ (fn : Fn) (first cap : Array Value) (W : World), (Instr.makeFunc fn first cap).run Tryz.prog W = .ok (.func fn first cap) W := fun _ _ _ _ => rfl
  have HS := BtI.start w
  obtain ⟨w1, hw1⟩ : ∃ W : World, W = ((w.alloc (.cells #[.int .i64 0, .slice none 0 0] 168)).alloc (.cells #[.int .i64 0] 3)).alloc (.cells #[.int .i64 0] 28) := ⟨_, rfl⟩
  obtain ⟨b2, hb2⟩ : ∃ b, b = w.heap.size := ⟨_, rfl⟩
  obtain ⟨b3, hb3⟩ : ∃ b, b = w.heap.size + 1 := ⟨_, rfl⟩
  obtain ⟨b4, hb4⟩ : ∃ b, b = w.heap.size + 1 + 1 := ⟨_, rfl⟩
  rw [← hw1, ← hb4, ← hb3, ← hb2] at HS
  have HS := Lib.hid HS
  have hn0 : ((n : Int) == 0) = false := by rw [beq_eq_false_iff_ne]; omega
  have HR := Lib.hid (And.intro hn (h.kept (fun k hk _ _ => HS.out.below.block k hk)))
  clear hn h
  go_enter_defers Tryz.func154, Tryz.ntmps154
  go_upto_region 1 with fail
  rw [← hw1, ← hb4, ← hb3, ← hb2]
  clear hw1 hb4 hb3 hb2
  by_cases h4 : n < 4
  · have d4 : decide ((n : Int) < 4) = true := decide_eq_true (by omega)
    go_wp2_with fail
    refine leaves_cons (f := 190) (args := #[.pointer (some ⟨b2, 0, none⟩), .pointer (some ⟨b3, 0, none⟩), .pointer (some ⟨b4, 0, none⟩)]) (by simp) (by simp [go_sem]) ?_
    refine (HS.out.catch).mono ?_
    rintro e u' w2 ⟨rfl, rfl, hb⟩
    have c20 := cell_of (i := 0) hb.two rfl
    have c21 := cell_of (i := 1) hb.two rfl
    have c3 := cell_of (i := 0) hb.three rfl
    have c4 := cell_of (i := 0) hb.four rfl
    have HB := Lib.hid hb.below
    clear hb
    refine ⟨batchNo 151, ?_, rfl, HB.out⟩
    simp [results, Tryz.results154, go_sem, c20, c21, c3, c4, batchNo]
  · have d4 : decide ((n : Int) < 4) = false := decide_eq_false (by omega)
    have ht := ht.resolve_left h4
    have hg := get_b HR.out.1 HR.out.2 (k := 4) (by omega) (by omega)
    obtain ⟨lg, hlg⟩ : ∃ x, getT (l.take 4) = x := ⟨_, rfl⟩
    rw [hlg] at hg ht
    have HG := Lib.hid hg
    clear hg hlg
    have e1 : decide ((lg : Int) < 28) = false := decide_eq_false (by omega)
    have e2 : decide ((65532 : Int) < (lg : Int)) = false := decide_eq_false (by omega)
    have e3 : decide ((n : Int) < (lg : Int) + 4) = true := decide_eq_true (by omega)
    have hlb : lg ≤ 65532 := by omega
    have k3 : w1.cell? ⟨b3, 0, none⟩ = some (.int .i64 0) := cell_of HS.out.three rfl
    have z3 : w1.frozen? ⟨b3, 0, none⟩ = false := free_of HS.out.three _
    go_wp2_with fail
    refine HG.out.mono ?_
    rintro e w2 ⟨rfl, hw2⟩
    obtain rfl := hw2.symm
    clear hw2
    go_wp2_with fail
    refine leaves_cons (f := 190) (args := #[.pointer (some ⟨b2, 0, none⟩), .pointer (some ⟨b3, 0, none⟩), .pointer (some ⟨b4, 0, none⟩)]) (by simp) (by simp [go_sem]) ?_
    refine ((HS.out.put3 _).catch).mono ?_
    rintro e u' w2 ⟨rfl, rfl, hb⟩
    have c20 := cell_of (i := 0) hb.two rfl
    have c21 := cell_of (i := 1) hb.two rfl
    have c3 := cell_of (i := 0) hb.three rfl
    have c4 := cell_of (i := 0) hb.four rfl
    have HB := Lib.hid hb.below
    clear hb
    refine ⟨batchNo 151, ?_, rfl, HB.out⟩
    simp [results, Tryz.results154, go_sem, c20, c21, c3, c4, batchNo]
end Go.Proofs.YtlgcoaeddeiegaaGreat
