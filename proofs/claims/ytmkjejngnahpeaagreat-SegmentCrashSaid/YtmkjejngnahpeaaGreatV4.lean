/- The texts Me, Mf, Mg, Mq in one. -/
import Derived.Test.YtmkjejngnahpeaaGreatV3
import Derived.Deep.RegionWith
import Derived.Deep.RegionHeldLaw
import Derived.BigQuiet
import Derived.Deep.RegionLaw
/- record: records that lie there; May, Size. -/
namespace Go.Proofs.YtmkjejngnahpeaaGreat
open Go Go.RowKit
attribute [local go_sem] Oper.semAt_some

/-- a record with its two slices -/
structure RcV where
  r : Rc
  kv : Value
  vv : Value
def recCells (x : RcV) : List Value := [.int .i64 x.r.time, x.kv, x.vv]
def recsCells (xs : List RcV) : List Value := xs.flatMap recCells
/-- records that may be read -/
structure RecsIs (w : World) (v : Value) (xs : List RcV) : Prop where
  row : readAt w 3 v xs.length (recsCells xs)
  each : ∀ x ∈ xs, bytesRd w x.kv x.r.key ∧ bytesRd w x.vv x.r.val
def RecsAt (w : World) (v : Value) (l : List Rc) : Prop := ∃ xs : List RcV, xs.map (·.r) = l ∧ RecsIs w v xs
theorem flat_get {α : Type} {f : α → List Value} {m : Nat} (hf : ∀ x, (f x).length = m) : ∀ (l : List α) (i : Nat) (h : i < l.length) (j : Nat), j < m → (l.flatMap f)[i * m + j]? = (f l[i])[j]?
  | x :: l, 0, _, j, hj => by
    rw [List.flatMap_cons, List.getElem?_append_left (by rw [hf]; omega)]
    simp
  | x :: l, i + 1, h, j, hj => by
    rw [List.flatMap_cons, List.getElem?_append_right (by rw [hf, Nat.add_mul]; omega), hf, show (i + 1) * m + j - m = i * m + j by rw [Nat.add_mul]; omega]
    exact flat_get hf l i (by simpa using h) j hj
theorem recsCells_get {xs : List RcV} {i j : Nat} (h : i < xs.length) (hj : j < 3) : (recsCells xs)[i * 3 + j]? = (recCells xs[i])[j]? := flat_get (f := recCells) (m := 3) (fun _ => rfl) xs i h j hj
theorem bytesRd.kept' {w w' : World} {v : Value} {l : List UInt8} (h : bytesRd w v l) (hb : Below w.heap.size w w') : bytesRd w' v l := readAt.kept h (fun k hk _ _ => hb.block k hk)
theorem RecsIs.below {w w' : World} {v : Value} {xs : List RcV} (h : RecsIs w v xs) (hb : Below w.heap.size w w') : RecsIs w' v xs :=
  ⟨h.row.kept (fun k hk _ _ => hb.block k hk), fun x hx => ⟨(h.each x hx).1.kept' hb, (h.each x hx).2.kept' hb⟩⟩
theorem RecsAt.below {w w' : World} {v : Value} {l : List Rc} (h : RecsAt w v l) (hb : Below w.heap.size w w') : RecsAt w' v l := by
  obtain ⟨xs, h1, h2⟩ := h
  exact ⟨xs, h1, h2.below hb⟩
def mayV (t : Int) (n m : Nat) : Bool := decide (0 ≤ t) && decide (t ≤ 9007199254740992) && decide (n ≤ 256) && decide (m ≤ 4096)
theorem mayV_ok (r : Rc) : mayV r.time r.key.length r.val.length = r.ok := rfl
set_option maxRecDepth 100000 in
set_option maxHeartbeats 1000000 in
theorem may_b {w : World} {t : Int} {oa ob : Option Addr} {n c m d : Nat} :
    Calls Tryz.prog 69 #[.agg #[.int .i64 t, .slice oa n c, .slice ob m d]] w fun e w' => e = .returned (.bool (mayV t n m)) ∧ Below w.heap.size w w' := by
  have hbl : Below w.heap.size w (w.alloc (.cells #[.int .i64 t, .slice oa n c, .slice ob m d] 60)) := (Below.refl _ _).alloc (Nat.le_refl _) _
  have HB := Lib.hid hbl
  clear hbl
  obtain ⟨q, hq⟩ : ∃ q, mayV t n m = q := ⟨_, rfl⟩
  rw [hq]
  have HQ := Lib.hid hq
  clear hq
  unfold mayV at HQ
  by_cases h1 : 0 ≤ t
  · have d1 : decide (0 ≤ t) = true := decide_eq_true h1
    rw [d1] at HQ
    by_cases h2 : t ≤ 9007199254740992
    · have d2 : decide (t ≤ 9007199254740992) = true := decide_eq_true h2
      rw [d2] at HQ
      by_cases h3 : n ≤ 256
      · have d3 : decide ((n : Int) ≤ 256) = true := decide_eq_true (by omega)
        have d3' : decide (n ≤ 256) = true := decide_eq_true h3
        rw [d3'] at HQ
        by_cases h4 : m ≤ 4096
        · have d4 : decide ((m : Int) ≤ 4096) = true := decide_eq_true (by omega)
          have d4' : decide (m ≤ 4096) = true := decide_eq_true h4
          rw [d4'] at HQ
          go_enter Tryz.func69, Tryz.ntmps69
          go_wp2_with fail
          go_ret
          exact ⟨by rw [← HQ.out]; rfl, HB.out⟩
        · have d4 : decide ((m : Int) ≤ 4096) = false := decide_eq_false (by omega)
          have d4' : decide (m ≤ 4096) = false := decide_eq_false h4
          rw [d4'] at HQ
          go_enter Tryz.func69, Tryz.ntmps69
          go_wp2_with fail
          go_ret
          exact ⟨by rw [← HQ.out]; rfl, HB.out⟩
      · have d3 : decide ((n : Int) ≤ 256) = false := decide_eq_false (by omega)
        have d3' : decide (n ≤ 256) = false := decide_eq_false h3
        rw [d3'] at HQ
        go_enter Tryz.func69, Tryz.ntmps69
        go_wp2_with fail
        go_ret
        exact ⟨by rw [← HQ.out]; rfl, HB.out⟩
    · have d2 : decide (t ≤ 9007199254740992) = false := decide_eq_false h2
      rw [d2] at HQ
      go_enter Tryz.func69, Tryz.ntmps69
      go_wp2_with fail
      go_ret
      exact ⟨by rw [← HQ.out]; rfl, HB.out⟩
  · have d1 : decide (0 ≤ t) = false := decide_eq_false h1
    rw [d1] at HQ
    go_enter Tryz.func69, Tryz.ntmps69
    go_wp2_with fail
    go_ret
    exact ⟨by rw [← HQ.out]; rfl, HB.out⟩
set_option maxRecDepth 100000 in
set_option maxHeartbeats 1000000 in
theorem size_b {w : World} {t : Int} {oa ob : Option Addr} {n c m d : Nat} (hn : n ≤ 1000000000) (hm : m ≤ 1000000000) :
    Calls Tryz.prog 71 #[.agg #[.int .i64 t, .slice oa n c, .slice ob m d]] w fun e w' => e = .returned (.int .i64 ((12 + n + m : Nat) : Int)) ∧ Below w.heap.size w w' := by
  have hbl : Below w.heap.size w (w.alloc (.cells #[.int .i64 t, .slice oa n c, .slice ob m d] 60)) := (Below.refl _ _).alloc (Nat.le_refl _) _
  have HB := Lib.hid hbl
  clear hbl
  go_enter Tryz.func71, Tryz.ntmps71
  go_wp2_with fail
  go_ret
  exact ⟨by simp, HB.out⟩
end Go.Proofs.YtmkjejngnahpeaaGreat
/- record: Fits. -/
namespace Go.Proofs.YtmkjejngnahpeaaGreat
open Go Go.RowKit
attribute [local go_sem] Oper.semAt_some

set_option maxRecDepth 100000 in
set_option maxHeartbeats 1000000 in
/-- one record's size is added -/
theorem fits1_b {w : World} {b k : Nat} {t : Int} {oa ob : Option Addr} {n c m d : Nat} (hb : w.heap[b]? = some (.cells #[.int .i64 (k : Int)] 3 (0, 0))) (hk : k ≤ 1000000000) (hn : n ≤ 1000000000) (hm : m ≤ 1000000000) :
    Calls Tryz.prog 70 #[.agg #[.int .i64 t, .slice oa n c, .slice ob m d], .pointer (some ⟨b, 0, none⟩)] w fun e w' => e = .returned (.tuple #[]) ∧ w'.heap[b]? = some (.cells #[.int .i64 ((k + (12 + n + m) : Nat) : Int)] 3 (0, 0)) ∧ Only (fun i => i = b) w w' := by
  obtain ⟨w1, hw1⟩ : ∃ W : World, W = w.alloc (.cells #[.int .i64 t, .slice oa n c, .slice ob m d] 60) := ⟨_, rfl⟩
  obtain ⟨b2, hb2⟩ : ∃ b, b = w.heap.size := ⟨_, rfl⟩
  have h2 : w1.heap[b2]? = some (.cells #[.int .i64 t, .slice oa n c, .slice ob m d] 60 (0, 0)) := by rw [hw1, hb2]; exact alloc_cells _ _ _
  have hb1 : Below w.heap.size w w1 := by rw [hw1]; exact (Below.refl _ _).alloc (Nat.le_refl _) _
  have hbb : w1.heap[b]? = some (.cells #[.int .i64 (k : Int)] 3 (0, 0)) := (hb1.block b (Array.getElem?_eq_some_iff.1 hb).1).trans hb
  have HB := Lib.hid (And.intro hbb hb1)
  have k0 : w1.cell? ⟨b2, 0, none⟩ = some (.int .i64 t) := cell_of h2 rfl
  have k1 : w1.cell? ⟨b2, 1, none⟩ = some (.slice oa n c) := cell_of h2 rfl
  have k2 : w1.cell? ⟨b2, 2, none⟩ = some (.slice ob m d) := cell_of h2 rfl
  have kb : w1.cell? ⟨b, 0, none⟩ = some (.int .i64 (k : Int)) := cell_of hbb rfl
  have zb : w1.frozen? ⟨b, 0, none⟩ = false := free_of hbb _
  have HS := Lib.hid (fun (W : World) => size_b (w := W) (t := t) (oa := oa) (ob := ob) (n := n) (c := c) (m := m) (d := d) hn hm)
  have hw : IntKind.i64.wrap ((k : Int) + (12 + (n : Int) + (m : Int))) = ((k + (12 + n + m) : Nat) : Int) := by rw [IntKind.wrap_i64]; omega
  clear hb h2 hb1 hbb
  go_enter Tryz.func70, Tryz.ntmps70
  go_upto_region 1 with fail
  rw [← hw1, ← hb2]
  clear hw1 hb2
  go_region_with (go_at_call 71; refine (HS.out _).mono ?_; rintro e w2 ⟨rfl, hbz⟩; have hz := (hbz.block b (Array.getElem?_eq_some_iff.1 HB.out.1).1).trans HB.out.1; have kz : w2.cell? ⟨b, 0, none⟩ = some (.int .i64 (k : Int)) := cell_of hz rfl; have zz : w2.frozen? ⟨b, 0, none⟩ = false := free_of hz _; have HZ := Lib.hid (And.intro hz hbz); clear hz hbz)
  all_goals have he : (k : Int) + (12 + (n : Int) + (m : Int)) = ((k + (12 + n + m) : Nat) : Int) := by omega
  all_goals
    rw [he]
    refine ⟨rfl, _, results_none rfl _ _ _, rfl, heap_setCell_here _ HZ.out.1, ?_⟩
    have h0 := HB.out.2
    have h1 : Below w1.heap.size w1 w2 := (show Below w1.heap.size w1 w1.drew from ⟨rfl, rfl, rfl, Nat.le_refl _, fun _ _ => rfl⟩).trans HZ.out.2
    exact (Only.of_below (h0.trans (Below.mono h1 h0.size)) (Nat.le_refl _) _).trans (only_setCell _ _ _ _ _ rfl) (fun _ _ e => e.symm)
end Go.Proofs.YtmkjejngnahpeaaGreat
/- record: Fits. -/
namespace Go.Proofs.YtmkjejngnahpeaaGreat
open Go Go.RowKit
attribute [local go_sem] Oper.semAt_some

theorem rcsSize_take {l : List Rc} {i : Nat} (h : i < l.length) : rcsSize (l.take (i + 1)) = rcsSize (l.take i) + l[i].size := by
  unfold rcsSize
  rw [List.take_succ_eq_append_getElem h, List.map_append, List.sum_append]
  simp
  omega
theorem rcsSize_max : ∀ (l : List Rc), (∀ r ∈ l, r.ok = true) → rcsSize l ≤ 20 + 4364 * l.length
  | [], _ => by simp [rcsSize]
  | r :: l, h => by
    have h1 := rcsSize_max l (fun x hx => h x (List.mem_cons_of_mem _ hx))
    have h2 := h r (List.mem_cons_self ..)
    unfold Rc.ok at h2
    simp only [Bool.and_eq_true, decide_eq_true_eq] at h2
    unfold rcsSize at h1 ⊢
    rw [List.map_cons, List.sum_cons, List.length_cons]
    have h3 : r.size = 12 + r.key.length + r.val.length := rfl
    omega
/-- a record's cells -/
theorem RecsIs.cells {w : World} {oa : Option Addr} {n c i : Nat} {xs : List RcV} (h : RecsIs w (.slice oa n c) xs) (hn : xs.length = n) (hi : i < xs.length) : ∃ g off ka kc va vc, oa = some ⟨g, off, none⟩ ∧ xs[i].kv = .slice ka xs[i].r.key.length kc ∧ xs[i].vv = .slice va xs[i].r.val.length vc ∧
    w.cell? ⟨g, off + i * 3, none⟩ = some (.int .i64 xs[i].r.time) ∧ w.cell? ⟨g, off + i * 3 + 1, none⟩ = some (.slice ka xs[i].r.key.length kc) ∧ w.cell? ⟨g, off + i * 3 + 2, none⟩ = some (.slice va xs[i].r.val.length vc) := by
  subst hn
  obtain ⟨g, off, rfl⟩ := h.row.addr (by omega)
  have hm := h.each xs[i] (List.getElem_mem hi)
  obtain ⟨ka, kc, hk⟩ := hm.1.shape
  obtain ⟨va, vc, hv⟩ := hm.2.shape
  refine ⟨g, off, ka, kc, va, vc, rfl, hk, hv, ?_, ?_, ?_⟩
  · exact rdCell h.row (i := i * 3) (by have := recsCells_get hi (show 0 < 3 by omega); rw [Nat.add_zero] at this; rw [this]; rfl)
  · have := rdCell h.row (i := i * 3 + 1) (u := xs[i].kv) (by rw [recsCells_get hi (by omega)]; rfl)
    rw [hk, ← Nat.add_assoc] at this
    exact this
  · have := rdCell h.row (i := i * 3 + 2) (u := xs[i].vv) (by rw [recsCells_get hi (by omega)]; rfl)
    rw [hv, ← Nat.add_assoc] at this
    exact this
set_option maxRecDepth 100000 in
set_option maxHeartbeats 2000000 in
theorem fits_b {w : World} {oa : Option Addr} {n c : Nat} {xs : List RcV} {l : List Rc} (hl : xs.map (·.r) = l) (hn : xs.length = n) (h : RecsIs w (.slice oa n c) xs) (hnm : n ≤ 1000000000) :
    Calls Tryz.prog 53 #[.slice oa n c] w fun e w' => e = .returned (.tuple #[.int .i64 ((fitsT l).1 : Int), .int .i64 (fitsT l).2]) ∧ Below w.heap.size w w' := by
  have hln : l.length = n := by rw [← hl, List.length_map, hn]
  have HL := Lib.hid (And.intro hl (And.intro hn hln))
  have H := Lib.hid h
  obtain ⟨f1, hf1⟩ : ∃ x, (fitsT l).1 = x := ⟨_, rfl⟩
  obtain ⟨f2, hf2⟩ : ∃ x, (fitsT l).2 = x := ⟨_, rfl⟩
  rw [hf1, hf2]
  have HF := Lib.hid (And.intro hf1 hf2)
  clear hl hn h hln hf1 hf2
  by_cases h0 : n = 0
  · subst h0
    have hz : f1 = 0 ∧ f2 = 2 := by
      have h1 := HL.out.2.2
      have h2 := HF.out
      rw [List.eq_nil_of_length_eq_zero h1] at h2
      exact ⟨by rw [← h2.1]; rfl, by rw [← h2.2]; rfl⟩
    obtain ⟨rfl, rfl⟩ := hz
    go_enter Tryz.func53, Tryz.ntmps53
    go_wp2_with fail
    go_ret2
    exact ⟨rfl, Below.refl _ _⟩
  have hne : ((n : Int) == 0) = false := by rw [beq_eq_false_iff_ne]; omega
  go_enter Tryz.func53, Tryz.ntmps53
  go_wp2_with fail
  go_loopw [15] (fun i wr => ∃ k : Nat, i = .int .i64 (k : Int) ∧ k ≤ n ∧ Hid ((∀ r ∈ l.take k, r.ok = true) ∧ Below w.heap.size w wr)) (fun i _ => n - (intOf i).toNat)
  case atStart => exact ⟨0, rfl, by omega, Lib.hid ⟨fun r hr => by simp at hr, Below.refl _ _⟩⟩
  case round =>
    obtain ⟨k, rfl, hk, HR⟩ := hrel
    by_cases hlt : k < n
    · have hkx : k < xs.length := by rw [HL.out.2.1]; exact hlt
      have hkl : k < l.length := by rw [HL.out.2.2]; exact hlt
      obtain ⟨g, off, ka, kc, va, vc, rfl, -, -, c0, c1, c2⟩ := (H.out.below HR.out.2).cells HL.out.2.1 hkx
      have hrx : xs[k].r = l[k] := by simp [← HL.out.1]
      rw [hrx] at c0 c1 c2
      obtain ⟨r, hr⟩ : ∃ r, l[k] = r := ⟨_, rfl⟩
      rw [hr] at c0 c1 c2
      obtain ⟨rt, hrt⟩ : ∃ x, r.time = x := ⟨_, rfl⟩
      obtain ⟨rk, hrk⟩ : ∃ x, r.key.length = x := ⟨_, rfl⟩
      obtain ⟨rv, hrv⟩ : ∃ x, r.val.length = x := ⟨_, rfl⟩
      rw [hrt] at c0
      rw [hrk] at c1
      rw [hrv] at c2
      obtain ⟨q, hq⟩ : ∃ q, mayV rt rk rv = q := ⟨_, rfl⟩
      have HQ : Hid (r.ok = q ∧ l[k]? = some r) := Lib.hid ⟨by rw [← mayV_ok, hrt, hrk, hrv]; exact hq, by rw [List.getElem?_eq_getElem hkl, hr]⟩
      have HM := Lib.hid (fun (W : World) => may_b (w := W) (t := rt) (oa := ka) (ob := va) (n := rk) (c := kc) (m := rv) (d := vc))
      rw [hq] at HM
      obtain ⟨w1, hw1⟩ : ∃ W : World, W = wr.alloc (.cells #[.int .i64 rt, .slice ka rk kc, .slice va rv vc] 60) := ⟨_, rfl⟩
      obtain ⟨b5, hb5⟩ : ∃ b, b = wr.heap.size := ⟨_, rfl⟩
      have h5 : w1.heap[b5]? = some (.cells #[.int .i64 rt, .slice ka rk kc, .slice va rv vc] 60 (0, 0)) := by rw [hw1, hb5]; exact alloc_cells _ _ _
      have hb1 : Below wr.heap.size wr w1 := by rw [hw1]; exact (Below.refl _ _).alloc (Nat.le_refl _) _
      have d0 : w1.cell? ⟨b5, 0, none⟩ = some (.int .i64 rt) := cell_of h5 rfl
      have d1 : w1.cell? ⟨b5, 1, none⟩ = some (.slice ka rk kc) := cell_of h5 rfl
      have d2 : w1.cell? ⟨b5, 2, none⟩ = some (.slice va rv vc) := cell_of h5 rfl
      have HB := Lib.hid hb1
      clear hkx hkl hrx hr hrt hrk hrv hq h5 hb1
      go_upto_region 6 with fail
      rw [← hw1, ← hb5]
      clear hw1 hb5
      go_wp2_with fail
      refine (HM.out _).mono ?_
      rintro e w2 ⟨rfl, hb2⟩
      have HB2 := Lib.hid (HR.out.2.trans ((HB.out.trans (hb2.mono HB.out.size)).mono HR.out.2.size))
      clear hb2
      cases q with
      | false =>
        have hz : f1 = 0 ∧ f2 = 2 := by
          have hkl : k < l.length := by rw [HL.out.2.2]; exact hlt
          have h1 : l.any (fun r => !r.ok) = true := List.any_eq_true.2 ⟨r, List.mem_of_getElem? HQ.out.2, by rw [HQ.out.1]; rfl⟩
          have h2 : l ≠ [] := fun e => by rw [e] at hkl; simp at hkl
          have h3 := HF.out
          unfold fitsT at h3
          rw [if_neg h2, if_pos h1] at h3
          exact ⟨h3.1.symm, h3.2.symm⟩
        obtain ⟨rfl, rfl⟩ := hz
        go_wp2_with fail
        go_ret2
        exact ⟨rfl, HB2.out⟩
      | true =>
        go_wp2_with fail
        refine ⟨⟨k + 1, by simp, by omega, Lib.hid ⟨fun x hx => ?_, HB2.out⟩⟩, by simp [intOf]; omega⟩
        rw [List.take_add_one, HQ.out.2] at hx
        rcases List.mem_append.1 hx with hx | hx
        · exact HR.out.1 x hx
        · rw [Option.toList_some, List.mem_singleton] at hx
          rw [hx]
          exact HQ.out.1
    · obtain rfl : k = n := by omega
      have hall : ∀ r ∈ l, r.ok = true := fun r hr => HR.out.1 r (by rw [List.take_of_length_le (by rw [HL.out.2.2]; exact Nat.le_refl _)]; exact hr)
      have HA := Lib.hid hall
      clear hall
      have HBW := Lib.hid HR.out.2
      have hfit : fitsT l = if 256 < l.length then (0, 8) else if 65536 < rcsSize l then (0, 8) else (rcsSize l, 0) := by
        have h2 : l ≠ [] := fun e => by have := HL.out.2.2; rw [e] at this; simp at this; omega
        have h1 : l.any (fun r => !r.ok) = false := List.any_eq_false.2 (fun r hr => by rw [HA.out r hr]; simp)
        unfold fitsT
        rw [if_neg h2, if_neg (by rw [h1]; simp)]
      rw [hfit, HL.out.2.2] at HF
      clear hfit HR hlt hk
      by_cases h256 : 256 < k
      · have hz : f1 = 0 ∧ f2 = 8 := by
          have h3 := HF.out
          rw [if_pos h256] at h3
          exact ⟨h3.1.symm, h3.2.symm⟩
        obtain ⟨rfl, rfl⟩ := hz
        have hd : decide ((256 : Int) < (k : Int)) = true := decide_eq_true (by omega)
        go_wp2_with fail
        go_ret2
        exact ⟨rfl, HBW.out⟩
      · have hd : decide ((256 : Int) < (k : Int)) = false := decide_eq_false (by omega)
        have HF2 : Hid ((f1 : Int) = (if 65536 < rcsSize l then 0 else (rcsSize l : Int)) ∧ f2 = if 65536 < rcsSize l then 8 else 0) := Lib.hid (by
          have h3 := HF.out
          rw [if_neg h256] at h3
          split at h3
          · rename_i h4
            rw [if_pos h4, if_pos h4]
            exact ⟨by rw [← h3.1]; rfl, h3.2.symm⟩
          · rename_i h4
            rw [if_neg h4, if_neg h4]
            exact ⟨by rw [← h3.1], h3.2.symm⟩)
        obtain ⟨w6, hw6⟩ : ∃ W : World, W = wr.alloc (.cells #[.int .i64 20] 3) := ⟨_, rfl⟩
        obtain ⟨b6, hb6⟩ : ∃ b, b = wr.heap.size := ⟨_, rfl⟩
        have h66 : w6.heap[b6]? = some (.cells #[.int .i64 ((20 : Nat) : Int)] 3 (0, 0)) := by rw [hw6, hb6]; exact alloc_cells _ _ _
        have hbw6 : Below w.heap.size w w6 := HBW.out.trans ((by rw [hw6]; exact (Below.refl _ _).alloc (Nat.le_refl _) _ : Below wr.heap.size wr w6).mono HBW.out.size)
        have hb6w : w.heap.size ≤ b6 := by rw [hb6]; exact HBW.out.size
        have H6 := Lib.hid (And.intro h66 (And.intro hbw6 hb6w))
        go_upto_region 12 with fail
        rw [← hw6, ← hb6]
        clear hw6 hb6 h66 hbw6 hb6w HF HBW
        go_wp2_with fail
        go_loopw [29] (fun i wi => ∃ j : Nat, i = .int .i64 (j : Int) ∧ j ≤ k ∧ Hid (wi.heap[b6]? = some (.cells #[.int .i64 (rcsSize (l.take j) : Int)] 3 (0, 0)) ∧ Below w.heap.size w wi)) (fun i _ => k - (intOf i).toNat)
        case atStart => exact ⟨0, rfl, by omega, Lib.hid ⟨by simpa [rcsSize] using H6.out.1, H6.out.2.1⟩⟩
        case round =>
          obtain ⟨j, rfl, hj, HI⟩ := hrel
          by_cases hlt : j < k
          · have hkx : j < xs.length := by rw [HL.out.2.1]; exact hlt
            have hkl : j < l.length := by rw [HL.out.2.2]; exact hlt
            obtain ⟨g, off, ka, kc, va, vc, rfl, -, -, c0, c1, c2⟩ := (H.out.below HI.out.2).cells HL.out.2.1 hkx
            have hrx : xs[j].r = l[j] := by simp [← HL.out.1]
            rw [hrx] at c0 c1 c2
            have hrs := rcsSize_take hkl
            have hok := HA.out l[j] (List.getElem_mem hkl)
            obtain ⟨r, hr⟩ : ∃ r, l[j] = r := ⟨_, rfl⟩
            rw [hr] at c0 c1 c2 hrs hok
            unfold Rc.ok at hok
            simp only [Bool.and_eq_true, decide_eq_true_eq] at hok
            have hsz : r.size = 12 + r.key.length + r.val.length := rfl
            rw [hsz] at hrs
            obtain ⟨rt, hrt⟩ : ∃ x, r.time = x := ⟨_, rfl⟩
            obtain ⟨rk, hrk⟩ : ∃ x, r.key.length = x := ⟨_, rfl⟩
            obtain ⟨rv, hrv⟩ : ∃ x, r.val.length = x := ⟨_, rfl⟩
            rw [hrt] at c0
            rw [hrk] at c1 hrs
            rw [hrv] at c2 hrs
            have hsm := rcsSize_max (l.take j) (fun x hx => HA.out x (List.mem_of_mem_take hx))
            rw [List.length_take] at hsm
            obtain ⟨s, hs⟩ : ∃ s, rcsSize (l.take j) = s := ⟨_, rfl⟩
            rw [hs] at hrs hsm HI
            have hsm' : s ≤ 1000000000 := by omega
            have hrk' : rk ≤ 1000000000 := by omega
            have hrv' : rv ≤ 1000000000 := by omega
            obtain ⟨w1, hw1⟩ : ∃ W : World, W = wr.alloc (.cells #[.int .i64 rt, .slice ka rk kc, .slice va rv vc] 60) := ⟨_, rfl⟩
            obtain ⟨b5, hb5⟩ : ∃ b, b = wr.heap.size := ⟨_, rfl⟩
            have h5 : w1.heap[b5]? = some (.cells #[.int .i64 rt, .slice ka rk kc, .slice va rv vc] 60 (0, 0)) := by rw [hw1, hb5]; exact alloc_cells _ _ _
            have hb1 : Below wr.heap.size wr w1 := by rw [hw1]; exact (Below.refl _ _).alloc (Nat.le_refl _) _
            have hb61 := (hb1.block b6 (Array.getElem?_eq_some_iff.1 HI.out.1).1).trans HI.out.1
            have HC := Lib.hid (fits1_b (t := rt) (oa := ka) (ob := va) (n := rk) (c := kc) (m := rv) (d := vc) hb61 hsm' hrk' hrv')
            have d0 : w1.cell? ⟨b5, 0, none⟩ = some (.int .i64 rt) := cell_of h5 rfl
            have d1 : w1.cell? ⟨b5, 1, none⟩ = some (.slice ka rk kc) := cell_of h5 rfl
            have d2 : w1.cell? ⟨b5, 2, none⟩ = some (.slice va rv vc) := cell_of h5 rfl
            have HB := Lib.hid (And.intro hb1 hrs)
            clear hkx hkl hrx hr hrt hrk hrv h5 hb1 hsz hok hsm hsm' hrk' hrv' hb61 hs hrs
            go_upto_region 16 with fail
            rw [← hw1, ← hb5]
            clear hw1 hb5
            go_wp2_with fail
            refine HC.out.mono ?_
            rintro e w2 ⟨rfl, hc2, ho2⟩
            have HE := Lib.hid (And.intro hc2 (HI.out.2.trans (HB.out.1.mono HI.out.2.size) |>.trans (ho2.below (fun i hi e => by have := H6.out.2.2; omega) (HI.out.2.trans (HB.out.1.mono HI.out.2.size)).size)))
            clear hc2 ho2
            go_wp2_with fail
            refine ⟨⟨j + 1, by simp, by omega, Lib.hid ⟨by rw [HB.out.2]; exact HE.out.1, HE.out.2⟩⟩, by simp [intOf]; omega⟩
          · obtain rfl : j = k := by omega
            have htk : l.take j = l := List.take_of_length_le (by rw [HL.out.2.2]; exact Nat.le_refl _)
            have hi1 := HI.out.1
            rw [htk] at hi1
            obtain ⟨s, hs⟩ : ∃ s, rcsSize l = s := ⟨_, rfl⟩
            rw [hs] at hi1 HF2
            have c6 : wr.cell? ⟨b6, 0, none⟩ = some (.int .i64 (s : Int)) := cell_of hi1 rfl
            have HBI := Lib.hid HI.out.2
            clear htk hi1 hs HI hlt hj
            by_cases hbig : 65536 < s
            · have hdb : decide ((65536 : Int) < (s : Int)) = true := decide_eq_true (by omega)
              have hz : f1 = 0 ∧ f2 = 8 := by
                have h3 := HF2.out
                rw [if_pos hbig, if_pos hbig] at h3
                exact ⟨by have := h3.1; omega, h3.2⟩
              obtain ⟨rfl, rfl⟩ := hz
              go_wp2_with fail
              go_ret2
              exact ⟨rfl, HBI.out⟩
            · have hdb : decide ((65536 : Int) < (s : Int)) = false := decide_eq_false (by omega)
              have hz : f1 = s ∧ f2 = 0 := by
                have h3 := HF2.out
                rw [if_neg hbig, if_neg hbig] at h3
                exact ⟨by have := h3.1; omega, h3.2⟩
              obtain ⟨rfl, rfl⟩ := hz
              go_wp2_with fail
              go_ret2
              exact ⟨rfl, HBI.out⟩
end Go.Proofs.YtmkjejngnahpeaaGreat
/- index: New, none, may, Add. -/
namespace Go.Proofs.YtmkjejngnahpeaaGreat
open Go Go.RowKit
attribute [local go_sem] Oper.semAt_some

/-- a spot: an offset, a place -/
abbrev Sp := Nat × Nat
def spCells (x : Sp) : List Value := [.int .i64 (x.1 : Int), .int .i64 (x.2 : Int)]
def spsCells (l : List Sp) : List Value := l.flatMap spCells
/-- an index lies there -/
structure IdxI (w : World) (x step : Nat) (sv : Value) (l : List Sp) : Prop where
  head : w.heap[x]? = some (.cells #[.int .i64 (step : Int), sv] 111 (0, 0))
  row : rowAt w 89 2 sv l.length (spsCells l)
theorem spsCells_get {l : List Sp} {i j : Nat} (h : i < l.length) (hj : j < 2) : (spsCells l)[i * 2 + j]? = (spCells l[i])[j]? := flat_get (f := spCells) (m := 2) (fun _ => rfl) l i h j hj
theorem IdxI.later {w w' : World} {x step : Nat} {sv : Value} {l : List Sp} (h : IdxI w x step sv l) (hb : Below w.heap.size w w') : IdxI w' x step sv l :=
  ⟨(hb.block _ (Array.getElem?_eq_some_iff.1 h.head).1).trans h.head, h.row.kept (fun k hk => hb.block k (h.row.lt k hk))⟩
/-- the cells of one spot -/
theorem IdxI.cells {w : World} {x step n c i : Nat} {oa : Option Addr} {l : List Sp} (h : IdxI w x step (.slice oa n c) l) (hn : l.length = n) (hi : i < l.length) : ∃ g off, oa = some ⟨g, off, none⟩ ∧ w.cell? ⟨g, off + i * 2, none⟩ = some (.int .i64 (l[i].1 : Int)) ∧ w.cell? ⟨g, off + i * 2 + 1, none⟩ = some (.int .i64 (l[i].2 : Int)) := by
  have hr := h.row
  rw [hn] at hr
  obtain ⟨g, off, rfl⟩ := hr.addr (by omega)
  refine ⟨g, off, rfl, ?_, ?_⟩
  · exact rdCell hr.read (i := i * 2) (by have := spsCells_get hi (show 0 < 2 by omega); rw [Nat.add_zero] at this; rw [this]; rfl)
  · have := rdCell hr.read (i := i * 2 + 1) (u := .int .i64 (l[i].2 : Int)) (by rw [spsCells_get hi (by omega)]; rfl)
    rw [← Nat.add_assoc] at this
    exact this
def NewIdx (w : World) (st : Int) (e : Ending) (w' : World) : Prop :=
  ((st < 1 ∨ 16777216 < st) ∧ e = .returned (.tuple #[.pointer none, .int .i64 2]) ∧ w' = w) ∨
      (1 ≤ st ∧ st ≤ 16777216 ∧ e = .returned (.tuple #[.pointer (some ⟨w.heap.size, 0, none⟩), .int .i64 0]) ∧ w' = w.alloc (.cells #[.int .i64 st, .slice none 0 0] 111))
set_option maxRecDepth 100000 in
set_option maxHeartbeats 400000 in
theorem idxNew_b {w : World} {st : Int} :
    Calls Tryz.prog 22 #[.int .i64 st] w fun e w' => NewIdx w st e w' := by
  by_cases h1 : st < 1
  · have d1 : decide (st < 1) = true := decide_eq_true h1
    go_enter Tryz.func22, Tryz.ntmps22
    go_wp2_with fail
    go_ret2
    exact .inl ⟨.inl h1, rfl, rfl⟩
  · have d1 : decide (st < 1) = false := decide_eq_false h1
    by_cases h2 : 16777216 < st
    · have d2 : decide (16777216 < st) = true := decide_eq_true h2
      go_enter Tryz.func22, Tryz.ntmps22
      go_wp2_with fail
      go_ret2
      exact .inl ⟨.inr h2, rfl, rfl⟩
    · have d2 : decide (16777216 < st) = false := decide_eq_false h2
      go_enter Tryz.func22, Tryz.ntmps22
      go_wp2_with fail
      go_ret2
      exact .inr ⟨by omega, by omega, rfl, rfl⟩
set_option maxRecDepth 100000 in
set_option maxHeartbeats 400000 in
theorem idxNone_b {w : World} {x step : Nat} {sv : Value} {l : List Sp} (h : IdxI w x step sv l) (hs : 1 ≤ step) :
    Calls Tryz.prog 57 #[.pointer (some ⟨x, 0, none⟩)] w fun e w' => e = .returned (.bool false) ∧ w' = w := by
  have k0 : w.cell? ⟨x, 0, none⟩ = some (.int .i64 (step : Int)) := cell_of h.head rfl
  have hz : ((step : Int) == 0) = false := by rw [beq_eq_false_iff_ne]; omega
  have hz2 : (step == 0) = false := by rw [beq_eq_false_iff_ne]; omega
  clear h
  go_enter Tryz.func57, Tryz.ntmps57
  go_wp2_with fail
  go_ret
  exact ⟨rfl, rfl⟩
/-- a spot that may stand behind all others -/
def spMay (l : List Sp) (s : Sp) : Prop := s.1 ≤ 9007199254740992 ∧ s.2 ≤ 16777216 ∧ ∀ y, l.getLast? = some y → y.1 < s.1 ∧ y.2 < s.2
set_option maxRecDepth 100000 in
set_option maxHeartbeats 1000000 in
theorem idxMay_b {w : World} {x step : Nat} {sv : Value} {l : List Sp} {s : Sp} (h : IdxI w x step sv l) (hm : spMay l s) (hl : l.length ≤ 1000000) :
    Calls Tryz.prog 58 #[.pointer (some ⟨x, 0, none⟩), .agg #[.int .i64 (s.1 : Int), .int .i64 (s.2 : Int)]] w fun e w' => e = .returned (.bool true) ∧ Below w.heap.size w w' := by
  obtain ⟨n, hn⟩ : ∃ n, l.length = n := ⟨_, rfl⟩
  obtain ⟨oa, c, rfl, -⟩ := h.row.shape
  rw [hn] at h hl
  obtain ⟨so, sp⟩ := s
  obtain ⟨m1, m2, m3⟩ := hm
  dsimp only at m1 m2 m3 ⊢
  obtain ⟨w1, hw1⟩ : ∃ W : World, W = w.alloc (.cells #[.int .i64 (so : Int), .int .i64 (sp : Int)] 89) := ⟨_, rfl⟩
  obtain ⟨b3, hb3⟩ : ∃ b, b = w.heap.size := ⟨_, rfl⟩
  have h13 : w1.heap[b3]? = some (.cells #[.int .i64 (so : Int), .int .i64 (sp : Int)] 89 (0, 0)) := by rw [hw1, hb3]; exact alloc_cells _ _ _
  have hbl : Below w.heap.size w w1 := by rw [hw1]; exact (Below.refl _ _).alloc (Nat.le_refl _) _
  have hi := h.later hbl
  have q0 : w1.cell? ⟨b3, 0, none⟩ = some (.int .i64 (so : Int)) := cell_of h13 rfl
  have q1 : w1.cell? ⟨b3, 1, none⟩ = some (.int .i64 (sp : Int)) := cell_of h13 rfl
  have k1 : w1.cell? ⟨x, 1, none⟩ = some (.slice oa n c) := cell_of hi.head rfl
  have d1 : decide ((so : Int) < 0) = false := decide_eq_false (by omega)
  have d2 : decide ((9007199254740992 : Int) < (so : Int)) = false := decide_eq_false (by omega)
  have d2' : decide ((9007199254740992 : Nat) < so) = false := decide_eq_false (by omega)
  have d3 : decide ((sp : Int) < 0) = false := decide_eq_false (by omega)
  have d4 : decide ((16777216 : Int) < (sp : Int)) = false := decide_eq_false (by omega)
  have d4' : decide ((16777216 : Nat) < sp) = false := decide_eq_false (by omega)
  have HB := Lib.hid hbl
  by_cases h0 : n = 0
  · subst h0
    clear h hi h13 hbl m3
    go_enter Tryz.func58, Tryz.ntmps58
    go_upto_region 1 with fail
    rw [← hw1, ← hb3]
    clear hw1 hb3
    go_wp2_with fail
    go_quiet (fail)
    go_wp2_with fail
    go_ret
    exact ⟨rfl, ⟨HB.out.os, HB.out.tape, HB.out.output, HB.out.size, HB.out.block⟩⟩
  · have hz : ((n : Int) == 0) = false := by rw [beq_eq_false_iff_ne]; omega
    have hz2 : (n == 0) = false := by rw [beq_eq_false_iff_ne]; omega
    obtain ⟨g, off, rfl, c0, c1⟩ := hi.cells (i := n - 1) hn (by omega)
    have hgl : l.getLast? = some l[n - 1] := by
      rw [List.getLast?_eq_getElem?, show l.length - 1 = n - 1 by omega]
      exact List.getElem?_eq_getElem _
    obtain ⟨m31, m32⟩ := m3 _ hgl
    obtain ⟨y, hy⟩ : ∃ y, l[n - 1] = y := ⟨_, rfl⟩
    rw [hy] at c0 c1 m31 m32
    have d5 : decide (y.1 < so) = true := decide_eq_true m31
    have d6 : decide (y.2 < sp) = true := decide_eq_true m32
    obtain ⟨n1, hn1⟩ : ∃ n1, n = n1 + 1 := ⟨n - 1, by omega⟩
    have e1 : n - 1 = n1 := by omega
    rw [e1] at c0 c1
    have hcast : (n : Int) - 1 = (n1 : Int) := by omega
    have hn1l : n1 < n := by omega
    clear h hi h13 hbl m3 hgl hy hn e1 hn1 m31 m32
    go_enter Tryz.func58, Tryz.ntmps58
    go_upto_region 1 with fail
    rw [← hw1, ← hb3]
    clear hw1 hb3
    go_wp2_with fail
    go_quiet (fail)
    go_wp2_with fail
    go_ret
    exact ⟨rfl, ⟨HB.out.os, HB.out.tape, HB.out.output, HB.out.size, HB.out.block⟩⟩
/-- does a spot stand near the last one? -/
def spNear (step : Nat) (l : List Sp) (s : Sp) : Bool := match l.getLast? with
  | none => false
  | some y => decide (s.2 - y.2 < step)
theorem info_sp : (Tryz.prog.info? 89).map (fun i => (i.zero, i.size, i.bytes)) = some (some (.agg #[.int .i64 0, .int .i64 0]), 2, 16) := by kernel_rfl
/-- a spot is appended, within a region that draws its order -/
theorem step_spot {V : World} {ops : Array Oper} {o : Oper} {a : Act} {K : Act → World → Prop} {Q : Exit → Act → World → Prop} {E : Prop}
    (hg : o.guard = none) (s x : Operand) (ho : o.op = .call { callee := .builtin .append, args := #[s, x], argTypes := #[109, 109] })
    {oa : Option Addr} {m c : Nat} {l : List Sp} (hl : l.length = m) (h : rowAt V 89 2 (.slice oa m c) m (spsCells l)) {ob : Option Addr} {d : Nat} {y : Sp} (hy : readAt V 2 (.slice ob 1 d) 1 (spCells y)) (hm : m ≤ 1000000)
    (hs : a.eval s = .slice oa m c) (hx : a.eval x = .slice ob 1 d)
    (hK : ∀ oa3 c3 w3, Hid (rowAt w3 89 2 (.slice oa3 (m + 1) c3) (m + 1) (spsCells (l ++ [y])) ∧ V.grownBy w3 (Value.slice oa m c).ownBlock ∧ ((Value.slice oa3 (m + 1) c3).ownBlock = (Value.slice oa m c).ownBlock ∨ (Value.slice oa3 (m + 1) c3).ownBlock = some V.heap.size)) → K (a.put o.dst (.slice oa3 (m + 1) c3)) w3) :
    if Region.wanted o (yielded ops a.tmps) = true then Oper.wp Tryz.prog o a V K Q else E := by
  have hw : Region.wanted o (yielded ops a.tmps) = true := by simp [Region.wanted, hg]
  rw [if_pos hw]
  subst hl
  have hone : ∀ v ∈ spCells y, v.oneCell' = true := fun v hv => by
    simp only [spCells, List.mem_cons, List.not_mem_nil, or_false] at hv
    rcases hv with rfl | rfl <;> rfl
  obtain ⟨i, hi, hz, hsz, hby⟩ := info_parts info_sp
  obtain ⟨v', w', hrun, r1, r2, r3, r4⟩ := run_append_at (P := Tryz.prog) V 109 109 o.type 89 i _ 2 16 Tryz.underlying109 hi hz hsz hby rfl _ l.length _ h _ 1 _ (Src.of_read Tryz.underlying109 hy hone) (by unfold maxLen; omega) (by omega)
  obtain ⟨oa3, c3, rfl, _⟩ := r1.shape
  unfold Oper.wp
  simp [execOp, ho, resolve, invoke, builtin, hs, hx, hrun, Result.andThen]
  refine hK oa3 c3 w' (Lib.hid ⟨?_, r2, r3⟩)
  have e : spsCells (l ++ [y]) = spsCells l ++ spCells y := by unfold spsCells; simp
  rw [e]
  exact r1
theorem spot_row (W : World) (a b : Nat) : readAt (W.alloc (.cells #[.int .i64 (a : Int), .int .i64 (b : Int)] 89)) 2 (.slice (some ⟨W.heap.size, 0, none⟩) 1 1) 1 (spCells (a, b)) := by
  have h : rowAt (W.alloc (.cells #[.int .i64 (a : Int), .int .i64 (b : Int)] 89)) 89 2 (.slice (some ⟨W.heap.size, 0, none⟩) 1 1) 1 (spCells (a, b)) :=
    ⟨rfl, .inr ⟨_, 0, 1, _, _, rfl, alloc_cells _ _ _, Nat.le_refl _, by unfold maxLen; omega, by simp, freeRow_zero _, rfl⟩⟩
  exact h.read
theorem rowAt.notX {W : World} {T T' : TypeId} {s n b : Nat} {v : Value} {xs : List Value} {cs : Array Value} {fr : Nat × Nat} (h : rowAt W T s v n xs) (hb : W.heap[b]? = some (.cells cs T' fr)) (hT : T ≠ T') : v.ownBlock ≠ some b := fun hk => by
  rcases h.2 with ⟨rfl, _⟩ | ⟨g, off, cap, cur, fr2, rfl, hg, _⟩
  · simp [Value.ownBlock] at hk
  · simp only [Value.ownBlock, Option.some.injEq] at hk
    subst hk
    rw [hg] at hb
    simp only [Option.some.injEq, Obj.cells.injEq] at hb
    exact hT hb.2.1
def AddIs (w : World) (x step : Nat) (sv : Value) (l : List Sp) (s : Sp) (e : Ending) (w' : World) : Prop :=
  ∃ sv', e = .returned (.tuple #[.bool (!spNear step l s), .int .i64 0]) ∧ IdxI w' x step sv' (if spNear step l s = true then l else l ++ [s]) ∧ Only (fun k => k = x ∨ sv.ownBlock = some k) w w' ∧ (∀ k, sv'.ownBlock = some k → sv.ownBlock = some k ∨ w.heap.size ≤ k)
/-- what an Add that writes leaves -/
theorem add_end {w W V w3 : World} {x step m c c3 : Nat} {oa oa3 : Option Addr} {l : List Sp} {s : Sp} (hr : rowAt w3 89 2 (.slice oa3 (m + 1) c3) (m + 1) (spsCells (l ++ [s])) ∧ V.grownBy w3 (Value.slice oa m c).ownBlock ∧ ((Value.slice oa3 (m + 1) c3).ownBlock = (Value.slice oa m c).ownBlock ∨ (Value.slice oa3 (m + 1) c3).ownBlock = some V.heap.size))
    (h : IdxI w x step (.slice oa m c) l) (hW : Below w.heap.size w W) (hV : Below W.heap.size W V) (hn : l.length = m) (hns : spNear step l s = false) :
    (w3.heap[x]? = some (.cells #[.int .i64 (step : Int), .slice oa m c] 111 (0, 0))) ∧ AddIs w x step (.slice oa m c) l s (.returned (.tuple #[.bool true, .int .i64 0])) (w3.setCell ⟨x, 1, none⟩ (.slice oa3 (m + 1) c3)) := by
  subst hn
  obtain ⟨r1, r2, r3⟩ := hr
  have hwV := hW.trans (hV.mono hW.size)
  have hxl := (Array.getElem?_eq_some_iff.1 h.head).1
  have hnx := h.row.notX h.head (by decide)
  have hx3 : w3.heap[x]? = some (.cells #[.int .i64 (step : Int), .slice oa l.length c] 111 (0, 0)) := (r2.block x (Nat.lt_of_lt_of_le hxl hwV.size) (fun e => hnx e.symm)).trans ((hwV.block x hxl).trans h.head)
  have ho3 : Only (fun k => k = x ∨ (Value.slice oa l.length c).ownBlock = some k) w w3 := (Only.of_below hwV (Nat.le_refl _) _).trans (Only.of_grown (S := fun k => (Value.slice oa l.length c).ownBlock = some k) r2 (fun k e => e)) (fun _ _ e => .inr e)
  have hnx3 := r1.notX hx3 (by decide)
  have hoS : Only (fun k => k = x) w3 (w3.setCell ⟨x, 1, none⟩ (.slice oa3 (l.length + 1) c3)) := only_setCell (fun k => k = x) _ x 1 _ rfl
  refine ⟨hx3, .slice oa3 (l.length + 1) c3, by rw [hns]; rfl, ⟨heap_setCell_here _ hx3, ?_⟩, ho3.trans hoS (fun _ _ e => .inl e), fun k hk => ?_⟩
  · rw [if_neg (by rw [hns]; simp), List.length_append]
    exact r1.kept (fun k hk => hoS.block k (r1.lt k hk) (fun e => hnx3 (by rw [← e]; exact hk)))
  · rcases r3 with r3 | r3
    · exact .inl (by rw [← r3]; exact hk)
    · rw [r3] at hk
      simp only [Option.some.injEq] at hk
      have := hwV.size
      exact .inr (by omega)
set_option maxRecDepth 100000 in
set_option maxHeartbeats 2000000 in
theorem idxAdd_b {w : World} {x step : Nat} {sv : Value} {l : List Sp} {s : Sp} (h : IdxI w x step sv l) (hm : spMay l s) (hl : l.length ≤ 1000000) (hst : 1 ≤ step) :
    Calls Tryz.prog 31 #[.pointer (some ⟨x, 0, none⟩), .agg #[.int .i64 (s.1 : Int), .int .i64 (s.2 : Int)]] w fun e w' => AddIs w x step sv l s e w' := by
  obtain ⟨w1, hw1⟩ : ∃ W : World, W = w.alloc (.cells #[.int .i64 (s.1 : Int), .int .i64 (s.2 : Int)] 89) := ⟨_, rfl⟩
  obtain ⟨b3, hb3⟩ : ∃ b, b = w.heap.size := ⟨_, rfl⟩
  have h13 : w1.heap[b3]? = some (.cells #[.int .i64 (s.1 : Int), .int .i64 (s.2 : Int)] 89 (0, 0)) := by rw [hw1, hb3]; exact alloc_cells _ _ _
  have hbl : Below w.heap.size w w1 := by rw [hw1]; exact (Below.refl _ _).alloc (Nat.le_refl _) _
  have hi := h.later hbl
  have HN := Lib.hid (idxNone_b hi hst)
  have HM := Lib.hid (idxMay_b hi hm hl)
  have q0 : w1.cell? ⟨b3, 0, none⟩ = some (.int .i64 (s.1 : Int)) := cell_of h13 rfl
  have q1 : w1.cell? ⟨b3, 1, none⟩ = some (.int .i64 (s.2 : Int)) := cell_of h13 rfl
  have H1 := Lib.hid (And.intro h (And.intro h13 (And.intro hbl hb3)))
  have HS := Lib.hid hm
  clear h h13 hbl hi hm
  go_enter Tryz.func31, Tryz.ntmps31
  go_upto_region 1 with fail
  rw [← hw1, ← hb3]
  clear hw1 hb3
  go_wp2_with fail
  refine HN.out.mono ?_
  rintro e w1' ⟨rfl, hw⟩
  obtain rfl := hw.symm
  clear hw HN
  go_wp2_with fail
  refine HM.out.mono ?_
  rintro e w2 ⟨rfl, hb2⟩
  have h23 := (hb2.block b3 (Array.getElem?_eq_some_iff.1 H1.out.2.1).1).trans H1.out.2.1
  have hbw2 : Below w.heap.size w w2 := H1.out.2.2.1.trans (hb2.mono H1.out.2.2.1.size)
  have hi2 := H1.out.1.later hbw2
  obtain ⟨n, hn⟩ : ∃ n, l.length = n := ⟨_, rfl⟩
  have hi2' := hi2
  obtain ⟨oa, c, rfl, -⟩ := hi2.row.shape
  rw [hn] at hi2'
  rw [hn] at hl
  have j0 : w2.cell? ⟨b3, 0, none⟩ = some (.int .i64 (s.1 : Int)) := cell_of h23 rfl
  have j1 : w2.cell? ⟨b3, 1, none⟩ = some (.int .i64 (s.2 : Int)) := cell_of h23 rfl
  have k1 : w2.cell? ⟨x, 1, none⟩ = some (.slice oa n c) := cell_of hi2'.head rfl
  have k0 : w2.cell? ⟨x, 0, none⟩ = some (.int .i64 (step : Int)) := cell_of hi2'.head rfl
  have hi1 := H1.out.1
  rw [hn] at hi1
  have H2 := Lib.hid (And.intro hi2' (And.intro hbw2 (And.intro hn hi1)))
  clear hi1
  have HRR : Hid (∀ W : World, Below w2.heap.size w2 W → rowAt W 89 2 (.slice oa n c) n (spsCells l)) := Lib.hid (fun W hb => by
    have h1 := hi2'.row
    rw [hn] at h1
    exact h1.kept (fun k hk => hb.block k (h1.lt k hk)))
  have HXX : Hid (∀ W : World, Below w2.heap.size w2 W → W.heap[x]? = some (.cells #[.int .i64 (step : Int), .slice oa n c] 111 (0, 0))) := Lib.hid (fun W hb => (hb.block x (Array.getElem?_eq_some_iff.1 hi2'.head).1).trans hi2'.head)
  clear h23 hi2 hi2' hbw2 hb2 hn HM q0 q1
  by_cases h0 : n = 0
  · subst h0
    have hns : spNear step l s = false := by
      have := List.eq_nil_of_length_eq_zero H2.out.2.2.1
      subst this
      rfl
    have HNS := Lib.hid hns
    clear hns
    go_upto_region 6 with fail
    go_quiet (fail)
    generalize hW0 : w2.drewN _ = W0
    have hb0 : Below w2.heap.size w2 W0 := by rw [← hW0]; exact ⟨rfl, rfl, rfl, Nat.le_refl _, fun _ _ => rfl⟩
    have hc : ∀ a : Addr, W0.cell? a = w2.cell? a := fun a => by rw [← hW0]; rfl
    have i0 := (hc _).trans j0
    have i1 := (hc _).trans j1
    have l1 := (hc _).trans k1
    clear hc hW0 j0 j1 k0 k1
    go_upto_region 8 with fail
    have hv0 := hb0.alloc hb0.size (.cells #[.int .i64 (s.1 : Int), .int .i64 (s.2 : Int)] 89)
    have hxl : x < W0.heap.size := World.block_lt_of_cell? _ _ l1
    have l1a := (((Below.refl W0.heap.size W0).alloc (Nat.le_refl _) (.cells #[.int .i64 (s.1 : Int), .int .i64 (s.2 : Int)] 89)).cell (p := ⟨x, 1, none⟩) hxl).trans l1
    clear hxl
    go_region_law (refine step_spot (y := s) (by rfl) (.tmp 45) (.tmp 47) (by rfl) H2.out.2.2.1 (HRR.out _ ⟨hv0.os, hv0.tape, hv0.output, hv0.size, hv0.block⟩) (spot_row W0 s.1 s.2) (by omega) (by rfl) (by rfl) ?_; intro oa3 c3 w3 HR3; have hae := add_end (W := w2) HR3.out H2.out.2.2.2 H2.out.2.1 ⟨hv0.os, hv0.tape, hv0.output, hv0.size, hv0.block⟩ H2.out.2.2.1 HNS.out; have x3 := cell_of (i := 1) hae.1 rfl; have z3 : w3.frozen? ⟨x, 1, none⟩ = false := free_of hae.1 _; have HAE := Lib.hid hae.2; clear hae)
    all_goals
      go_wp2_with fail
      go_ret2
      rw [H2.out.2.2.1]
      exact HAE.out
  · have hz0 : decide (0 < n) = true := decide_eq_true (by omega)
    have hnl : n - 1 < l.length := by have := H2.out.2.2.1; omega
    obtain ⟨g, off, rfl, c0, c1⟩ := H2.out.1.cells (i := n - 1) H2.out.2.2.1 hnl
    have hgl : l.getLast? = some l[n - 1] := by
      rw [List.getLast?_eq_getElem?, show l.length - 1 = n - 1 by have := H2.out.2.2.1; omega]
      exact List.getElem?_eq_getElem _
    have hlt := HS.out.2.2 _ hgl
    obtain ⟨y, hy⟩ : ∃ y, l[n - 1] = y := ⟨_, rfl⟩
    rw [hy] at c0 c1 hgl hlt
    obtain ⟨n1, hn1⟩ : ∃ n1, n = n1 + 1 := ⟨n - 1, by omega⟩
    have e1 : n - 1 = n1 := by omega
    rw [e1] at c0 c1
    have hcast : (n : Int) - 1 = (n1 : Int) := by omega
    have hn1l : n1 < n := by omega
    have hlt2 := hlt.2
    have hs24 := HS.out.2.1
    have hnr : spNear step l s = decide (s.2 - y.2 < step) := by unfold spNear; rw [hgl]
    by_cases hnear : s.2 - y.2 < step
    · have hns : spNear step l s = true := by rw [hnr]; exact decide_eq_true hnear
      have HNS := Lib.hid hns
      have hd : decide ((s.2 : Int) - (y.2 : Int) < (step : Int)) = true := decide_eq_true (by omega)
      clear hns hnr hgl hlt hy hn1 e1 hnl
      go_upto_region 6 with fail
      go_quiet (fail)
      go_wp2_with fail
      go_ret2
      have hb0 : Below w.heap.size w (w2.drewN nq) := ⟨H2.out.2.1.os, H2.out.2.1.tape, H2.out.2.1.output, H2.out.2.1.size, H2.out.2.1.block⟩
      rw [H2.out.2.2.1]
      refine ⟨_, by rw [HNS.out]; rfl, by rw [if_pos HNS.out]; exact H2.out.2.2.2.later hb0, Only.of_below hb0 (Nat.le_refl _) _, fun k hk => .inl hk⟩
    · have hns : spNear step l s = false := by rw [hnr]; exact decide_eq_false hnear
      have HNS := Lib.hid hns
      have hd : decide ((s.2 : Int) - (y.2 : Int) < (step : Int)) = false := decide_eq_false (by omega)
      clear hns hnr hgl hlt hy hn1 e1 hnl
      go_upto_region 6 with fail
      go_quiet (fail)
      generalize hW0 : w2.drewN _ = W0
      have hb0 : Below w2.heap.size w2 W0 := by rw [← hW0]; exact ⟨rfl, rfl, rfl, Nat.le_refl _, fun _ _ => rfl⟩
      have hc : ∀ a : Addr, W0.cell? a = w2.cell? a := fun a => by rw [← hW0]; rfl
      have i0 := (hc _).trans j0
      have i1 := (hc _).trans j1
      have l1 := (hc _).trans k1
      clear hc hW0 j0 j1 k0 k1
      go_upto_region 8 with fail
      have hv0 := hb0.alloc hb0.size (.cells #[.int .i64 (s.1 : Int), .int .i64 (s.2 : Int)] 89)
      have hxl : x < W0.heap.size := World.block_lt_of_cell? _ _ l1
      have l1a := (((Below.refl W0.heap.size W0).alloc (Nat.le_refl _) (.cells #[.int .i64 (s.1 : Int), .int .i64 (s.2 : Int)] 89)).cell (p := ⟨x, 1, none⟩) hxl).trans l1
      clear hxl
      go_region_law (refine step_spot (y := s) (by rfl) (.tmp 45) (.tmp 47) (by rfl) H2.out.2.2.1 (HRR.out _ ⟨hv0.os, hv0.tape, hv0.output, hv0.size, hv0.block⟩) (spot_row W0 s.1 s.2) (by omega) (by rfl) (by rfl) ?_; intro oa3 c3 w3 HR3; have hae := add_end (W := w2) HR3.out H2.out.2.2.2 H2.out.2.1 ⟨hv0.os, hv0.tape, hv0.output, hv0.size, hv0.block⟩ H2.out.2.2.1 HNS.out; have x3 := cell_of (i := 1) hae.1 rfl; have z3 : w3.frozen? ⟨x, 1, none⟩ = false := free_of hae.1 _; have HAE := Lib.hid hae.2; clear hae)
      all_goals
        go_wp2_with fail
        go_ret2
        rw [H2.out.2.2.1]
        exact HAE.out
/-- so many spots stand at or ahead of an offset -/
def CutAt (l : List Sp) (off : Int) (r : Nat) : Prop := r ≤ l.length ∧ (∀ i (h : i < l.length), i < r → (l[i].1 : Int) ≤ off) ∧ (∀ i (h : i < l.length), r ≤ i → off < (l[i].1 : Int))
/-- the spot that Find tells -/
def spotAt (l : List Sp) (r : Nat) : Sp := if r = 0 then (0, 0) else l.getD (r - 1) (0, 0)
end Go.Proofs.YtmkjejngnahpeaaGreat
