/- The texts Xj, Pzl in one. -/
import Derived.Test.YtlgcoaeddeiegaaGreatV28
import Derived.Test.YtlgcoaeddeiegaaGreatV12
import Derived.Test.YtlgcoaeddeiegaaGreatV13
import Derived.Maps.OwnOps
import Derived.Maps.Views
import Derived.IntWalk
import Derived.Test.YtlgcoaeddeiegaaGreatV17
import Derived.Test.YtlgcoaeddeiegaaGreatV18
/- law11: holds: has an opened log what stood? -/
namespace Go.Proofs.YtlgcoaeddeiegaaGreat
open Go Go.Maps Go.RowKit
attribute [local go_sem] Oper.semAt_some

theorem recsCells_take (xs : List RcV) (k : Nat) : recsCells (xs.take k) = (recsCells xs).take (k * 3) := by
  induction xs generalizing k with
  | nil => simp [recsCells]
  | cons x r ih =>
    cases k with
    | zero => simp [recsCells]
    | succ k =>
      have h1 := ih k
      have hl : (recCells x).length = 3 := by simp [recCells]
      unfold recsCells at h1 ⊢
      rw [List.take_succ_cons, List.flatMap_cons, List.flatMap_cons, h1, List.take_append, hl, show (k + 1) * 3 - 3 = k * 3 by omega]
      congr 1
      exact (List.take_of_length_le (by omega)).symm
theorem recsCells_drop (xs : List RcV) (k : Nat) : recsCells (xs.drop k) = (recsCells xs).drop (k * 3) := by
  induction xs generalizing k with
  | nil => simp [recsCells]
  | cons x r ih =>
    cases k with
    | zero => simp [recsCells]
    | succ k =>
      have h1 := ih k
      have hl : (recCells x).length = 3 := by simp [recCells]
      have e : (recCells x).drop ((k + 1) * 3) = [] := List.drop_of_length_le (by omega)
      unfold recsCells at h1 ⊢
      rw [List.drop_succ_cons, List.flatMap_cons, h1, List.drop_append, hl, show (k + 1) * 3 - 3 = k * 3 by omega, e]
      rfl
theorem RecsIs.part {w : World} {oa : Option Addr} {n c : Nat} {xs : List RcV} (h : RecsIs w (.slice oa n c) xs) (hn : xs.length = n) {l k : Nat} (hl : l ≤ k) (hk : k ≤ n) :
    RecsIs w (.slice (if c = l then oa else oa.map (·.add (l * 3))) (k - l) (c - l)) ((xs.drop l).take (k - l)) := by
  subst hn
  have hc : xs.length ≤ c := h.row.cap
  have hlen : ((xs.drop l).take (k - l)).length = k - l := by rw [List.length_take, List.length_drop]; omega
  refine ⟨?_, fun x hx => h.each x (List.mem_of_mem_drop (List.mem_of_mem_take hx))⟩
  rw [hlen, recsCells_take, recsCells_drop]
  exact h.row.sub l k c hl hk (by omega) (Nat.le_refl _)
theorem run_partR (oa : Option Addr) (N c α E : Nat) (h1 : α ≤ E) (h2 : E ≤ c) (W : World) : (Instr.slice 34 (.slice oa N c) (some (.int .i64 (α : Int))) (some (.int .i64 (E : Int))) none).run Tryz.prog W = .ok (.slice (if c = α then oa else oa.map (·.add (α * 3))) (E - α) (c - α)) W := by
  have hs : (sizeOf 150).run Tryz.prog W = .ok 3 W := by kernel_rfl
  have he : Tryz.prog.elem 34 = 150 := by kernel_rfl
  rw [run_slice_lh (P := Tryz.prog) (w := W) 34 oa N c (by rw [he]; exact Tryz.underlying34) .i64 .i64 α E (by omega) (by omega) (by omega), he, hs]
  simp [Result.andThen, sliced]
theorem LgOk.reads {g : Lg} (h : LgOk g) {m : Nat} (hm : g.fin - g.begin ≤ m) : readGo g.begin g.fin m g.segsR [] = g.recs := by
  rw [readGo_eq g.begin g.fin m g.segsR g.begin [] h.behind]
  have e : g.segsR.flatMap (·.2) = g.recs := g.recs_map
  have hf := h.fin_eq
  rw [e, List.nil_append, Nat.sub_self, List.drop_zero, List.take_of_length_le]
  simp
  omega
theorem key_i64 {k : Nat} (h : k ≤ 9223372036854775807) : keyOf Tryz.prog 2 (.int .i64 (k : Int)) = some (.int .i64 (k : Int)) := by
  refine keyOf_int_mk Tryz.underlying2 ?_
  unfold Lit.wf
  simp only [Bool.and_eq_true, decide_eq_true_eq]
  refine ⟨?_, ?_⟩
  · show (-9223372036854775808 : Int) ≤ (k : Int)
    omega
  · show (k : Int) ≤ (9223372036854775807 : Int)
    omega
set_option maxRecDepth 100000 in
set_option maxHeartbeats 4000000 in
theorem holds_b {w : World} {S T : Nat → Prop} {lp q : Nat} {log : ByteArray} {roll step : Nat} {g : Lg} {d : Dk} (h : LogD w S T lp q log roll step g d) (hfit : LgFitQ log g d) (hst : g.stands = g.fin) {sb se ss sn : Int} {sd : Bool} {oa : Option Addr} {n c : Nat} {ys : List RcV} (hy : RecsIs w (.slice oa n c) ys) (hyn : ys.length = n) (hn : n ≤ 1000000)
    {mb k : Nat} {D : DataW Unit} (hm : w.ownsMap Tryz.prog 2 (plainElem Tryz.prog 3) mb k D) (hD : D.atKey (.int .i64 (g.fin : Int)) (.lit (.int .i64 0)) = .lit (.int .i64 1)) (h1 : ss ≤ (g.fin : Int)) (h2 : g.fin ≤ n) (h3 : (g.begin : Int) ≤ sb) (hr : g.recs = ((ys.map (·.r)).drop g.begin).take (g.fin - g.begin)) :
    Calls Tryz.prog 30 #[.pointer (some ⟨lp, 0, none⟩), .agg #[.int .i64 sb, .int .i64 se, .int .i64 ss, .int .i64 sn, .bool sd], .slice oa n c, .map (some mb)] w fun e w' => e = .returned (.bool true) ∧ Below w.heap.size w w' := by
  obtain ⟨G, a, pv, hlm⟩ := h.log'
  have hbf : g.begin ≤ g.fin := by have := hlm.ok.fin_eq; omega
  obtain ⟨w1, hw1⟩ : ∃ W : World, W = w.alloc (.cells #[.int .i64 sb, .int .i64 se, .int .i64 ss, .int .i64 sn, .bool sd] 60) := ⟨_, rfl⟩
  obtain ⟨b5, hb5⟩ : ∃ b, b = w.heap.size := ⟨_, rfl⟩
  have g5 : w1.heap[b5]? = some (.cells #[.int .i64 sb, .int .i64 se, .int .i64 ss, .int .i64 sn, .bool sd] 60 (0, 0)) := by rw [hw1, hb5]; exact alloc_cells _ _ _
  have hbl : Below w.heap.size w w1 := by rw [hw1]; exact (Below.refl _ _).alloc (Nat.le_refl _) _
  have HS := Lib.hid (logState_b (hlm.later hbl))
  have H1 := Lib.hid (And.intro hbl g5)
  have hmk : ∀ W : World, Below w.heap.size w W → W.ownsMap Tryz.prog 2 (plainElem Tryz.prog 3) mb k D := fun W hb => by
    obtain ⟨es, clock, e1, e2, e3, e4⟩ := hm
    exact ⟨es, clock, (hb.block mb (Array.getElem?_eq_some_iff.1 e1).1).trans e1, e2, e3, e4⟩
  have hlk : ∀ W : World, Below w.heap.size w W → (Instr.lookup 66 (.map (some mb)) (.int .i64 (g.fin : Int)) false).run Tryz.prog W = .ok (.int .i64 1) W := fun W hb => by
    have hz : (zeroValue 3).run Tryz.prog W = .ok (.int .i64 0) W := by kernel_rfl
    have hfl := hlm.ok.fin_le
    obtain ⟨x, e1, e2, -⟩ := (hmk W hb).lookup_int (t := 66) (int_keyed Tryz.underlying2) Tryz.underlying66 Tryz.underlying3 hz (key := .int .i64 (g.fin : Int)) (kl := .int .i64 (g.fin : Int)) (key_i64 (by omega))
    rw [hD] at e2
    simp only [DataW.lit.injEq, Lit.int.injEq, true_and] at e2
    rw [e1, ← e2]
  have HLK := Lib.hid hlk
  have HH := Lib.hid (And.intro h (And.intro hfit (And.intro hst (And.intro hy (And.intro hyn (And.intro hlm.ok hr))))))
  have hfl : g.fin ≤ 1000000 := by omega
  obtain ⟨F, hF⟩ : ∃ F : Int, F = (g.fin : Int) := ⟨_, rfl⟩
  obtain ⟨B, hB⟩ : ∃ B : Int, B = (g.begin : Int) := ⟨_, rfl⟩
  have hsv : stateV g = .agg #[.int .i64 B, .int .i64 F, .int .i64 F, .int .i64 (g.segs.length : Int), .bool g.dead] := by unfold stateV; rw [hst, hF, hB]
  rw [hsv] at HS
  have d1 : decide (F < ss) = false := decide_eq_false (by omega)
  have d2 : decide ((n : Int) < F) = false := decide_eq_false (by omega)
  have d3 : decide (sb < B) = false := decide_eq_false (by omega)
  obtain ⟨NS, hNS⟩ : ∃ N : Int, N = (g.segs.length : Int) := ⟨_, rfl⟩
  obtain ⟨DD, hDD⟩ : ∃ N : Bool, N = g.dead := ⟨_, rfl⟩
  rw [← hNS, ← hDD] at HS
  rw [← hF] at HLK
  have HFB := Lib.hid (And.intro hF (And.intro hB (And.intro hbf (And.intro h2 hfl))))
  clear h hfit hst hy hyn hlm hr hbl g5 hmk hlk hm hD hsv hF hB hbf hNS hDD h1 h2 h3 hfl
  go_enter Tryz.func30, Tryz.ntmps30
  go_upto_region 1 with fail
  rw [← hw1, ← hb5]
  clear hw1 hb5
  go_wp2_with fail
  refine HS.out.mono ?_
  rintro e w2 ⟨rfl, hb2⟩
  obtain ⟨w3, hw3⟩ : ∃ W : World, W = w2.alloc (.cells #[.int .i64 B, .int .i64 F, .int .i64 F, .int .i64 NS, .bool DD] 60) := ⟨_, rfl⟩
  obtain ⟨b9, hb9⟩ : ∃ b, b = w2.heap.size := ⟨_, rfl⟩
  have g9 : w3.heap[b9]? = some (.cells #[.int .i64 B, .int .i64 F, .int .i64 F, .int .i64 NS, .bool DD] 60 (0, 0)) := by rw [hw3, hb9]; exact alloc_cells _ _ _
  have hb23 : Below w2.heap.size w2 w3 := by rw [hw3]; exact (Below.refl _ _).alloc (Nat.le_refl _) _
  have hb13 : Below w1.heap.size w1 w3 := hb2.trans (hb23.mono hb2.size)
  have hb03 : Below w.heap.size w w3 := H1.out.1.trans (hb13.mono H1.out.1.size)
  have g53 := (hb13.block b5 (Array.getElem?_eq_some_iff.1 H1.out.2).1).trans H1.out.2
  have p0 : w3.cell? ⟨b9, 0, none⟩ = some (.int .i64 B) := cell_of g9 rfl
  have p1 : w3.cell? ⟨b9, 1, none⟩ = some (.int .i64 F) := cell_of g9 rfl
  have p2 : w3.cell? ⟨b9, 2, none⟩ = some (.int .i64 F) := cell_of g9 rfl
  have q0 : w3.cell? ⟨b5, 0, none⟩ = some (.int .i64 sb) := cell_of g53 rfl
  have q2 : w3.cell? ⟨b5, 2, none⟩ = some (.int .i64 ss) := cell_of g53 rfl
  have hlk3 := HLK.out w3 hb03
  have H3 := Lib.hid (And.intro hb03 g9)
  clear g9 hb23 hb13 hb03 g53 hb2
  go_upto_region 2 with fail
  rw [← hw3, ← hb9]
  clear hw3 hb9
  obtain ⟨hF, hB, hbf, hfn, hfl⟩ := HFB.out
  have hrd := logRead_b (HH.out.1.later H3.out.1) HH.out.2.1 (f := g.begin) (u := g.fin) (most := n + 1) (Nat.le_refl _) hbf (Nat.le_refl _) (by omega)
  rw [HH.out.2.2.2.2.2.1.reads (by omega), ← hF, ← hB] at hrd
  have hn1 : ((n + 1 : Nat) : Int) = (n : Int) + 1 := by omega
  rw [hn1] at hrd
  have HRD := Lib.hid hrd
  have hwn : IntKind.i64.wrap ((n : Int) + 1) = (n : Int) + 1 := IntWalk.i64_in _ (by omega)
  have hcn : n ≤ c := by
    have h5 := HH.out.2.2.2.1.row
    rw [HH.out.2.2.2.2.1] at h5
    exact h5.cap
  have hpt := HH.out.2.2.2.1.part HH.out.2.2.2.2.1 hbf hfn
  have hsl := run_partR oa n c g.begin g.fin hbf (by omega)
  rw [← hF, ← hB] at hsl
  obtain ⟨oa2, hoa2⟩ : ∃ o, o = (if c = g.begin then oa else oa.map (·.add (g.begin * 3))) := ⟨_, rfl⟩
  obtain ⟨m2, hm2⟩ : ∃ m, m = g.fin - g.begin := ⟨_, rfl⟩
  obtain ⟨c2, hc2⟩ : ∃ x, x = c - g.begin := ⟨_, rfl⟩
  rw [← hoa2, ← hm2, ← hc2] at hpt hsl
  have HPT := Lib.hid (And.intro hpt hm2)
  clear hrd hn1 hcn hpt hoa2 hm2 hc2 hF hB hbf hfn hfl
  go_wp2_with fail
  refine HRD.out.mono ?_
  rintro e w4 ⟨va, xs, rfl, hx, hp, hb4⟩
  obtain ⟨oa1, ca1, rfl, -⟩ := hp.row.shape
  obtain ⟨m1, hm1⟩ : ∃ m, xs.length = m := ⟨_, rfl⟩
  have hlr : m1 = m2 := by
    have h5 := HFB.out
    have h6 := HH.out.2.2.2.2.2.1.fin_eq
    rw [← hm1, ← List.length_map (f := fun y : RcV => y.r), hx, HPT.out.2]
    omega
  have hb04 : Below w.heap.size w w4 := H3.out.1.trans (hb4.mono H3.out.1.size)
  have hsame := sameAll_b (w := w4) (oa := oa1) (ob := oa2) (n := m1) (m := m2) (c := ca1) (d := c2) (xs := xs) (ys := (ys.drop g.begin).take m2) rfl rfl hm1 (by
    rw [List.length_take, List.length_drop, HH.out.2.2.2.2.1]
    have h5 := HFB.out
    have h6 := HPT.out.2
    omega) (by rw [← hm1]; exact hp.is) (HPT.out.1.below hb04) (by
    have h5 := HFB.out
    have h6 := HPT.out.2
    omega)
  have hdec : decide (xs.map (·.r) = ((ys.drop g.begin).take m2).map (·.r)) = true := decide_eq_true (by
    rw [hx, HH.out.2.2.2.2.2.2, List.map_take, List.map_drop, HPT.out.2])
  rw [hdec] at hsame
  have HSA := Lib.hid (And.intro hsame hb04)
  rw [hm1]
  have g94 := (hb4.block b9 (Array.getElem?_eq_some_iff.1 H3.out.2).1).trans H3.out.2
  have r0 : w4.cell? ⟨b9, 0, none⟩ = some (.int .i64 B) := cell_of g94 rfl
  have r1 : w4.cell? ⟨b9, 1, none⟩ = some (.int .i64 F) := cell_of g94 rfl
  clear hx hp hb4 hlr hb04 hsame hdec hm1 g94
  go_wp2_with fail
  refine HSA.out.1.mono ?_
  rintro e w5 ⟨rfl, hb5⟩
  have HE := Lib.hid (HSA.out.2.trans (hb5.mono HSA.out.2.size))
  clear hb5
  go_wp2_with fail
  go_ret
  exact ⟨rfl, HE.out⟩
end Go.Proofs.YtlgcoaeddeiegaaGreat
/- law11's own example, plainly. -/
namespace Go.Proofs.YtlgcoaeddeiegaaGreat
open Go Go.RowKit

def Dk.first (d : Dk) (log : ByteArray) : Dk := (d.create (sname log 0)).2.syncdir.2
theorem first_calm {log : ByteArray} (hlog : loggedB log.data.toList = true) {d : Dk} (hf : d.fates = []) (hn : d.files = []) : (d.create (sname log 0)).1 = 0 ∧ (d.create (sname log 0)).2.syncdir.1 = 0 ∧ Calm log Lg.zero (d.first log) := by
  have hnm : nameOk (sname log 0) = true := sname_nameOk hlog 0
  obtain ⟨a1, a2, a3⟩ := create_calm (d := d) hf hnm (fun f hm => by rw [hn] at hm; cases hm) (by rw [hn]; decide)
  obtain ⟨b1, b2, b3⟩ := syncdir_calm a2
  rw [a3, hn] at b3
  have b4 : (d.create (sname log 0)).2.syncdir.2.files = [⟨sname log 0, [], 0, true, true⟩] := b3
  refine ⟨a1, b1, ⟨b2, fun f hm => ?_, by show (d.create (sname log 0)).2.syncdir.2.files.length ≤ _; rw [b4]; exact Nat.le_refl 1, by show ((d.create (sname log 0)).2.syncdir.2.files.map _).Pairwise _; rw [b4]; simp, ?_, LgOk.zero, rfl⟩⟩
  · have hm' : f ∈ (d.create (sname log 0)).2.syncdir.2.files := hm
    rw [b4, List.mem_singleton] at hm'
    subst hm'
    exact ⟨(0, []), by simp [Lg.segs, Lg.zero], rfl⟩
  · intro s hs
    have : s = (0, []) := by simpa [Lg.segs, Lg.zero] using hs
    subst this
    refine ⟨⟨sname log 0, [], 0, true, true⟩, ?_, rfl⟩
    unfold Dk.find Dk.at Dk.first
    rw [b4]
    simp
def pName : ByteArray := ⟨#[112]⟩
def kRec : Rc := ⟨1, [97, 98, 99], [100, 101, 102, 103, 104, 105]⟩
theorem pName_ok : loggedB pName.data.toList = true := by decide
theorem kRec_fits : (fitsT [kRec, kRec]).2 = 0 ∧ (fitsT [kRec]).2 = 0 := by decide
theorem kRec_len : (batsT [(0, [kRec, kRec])]).length = 62 := by
  unfold batsT
  rw [List.flatMap_cons, List.flatMap_nil, List.append_nil]
  exact batchT_len ..
def known1 : Lg := Lg.zero.putT 40 [kRec, kRec]
def known2 : Lg := known1.putT 40 [kRec]
theorem known1_is : known1 = ⟨[], 0, [(0, [kRec, kRec])], 0, false⟩ := by
  unfold known1 Lg.putT
  rw [if_neg (by decide)]
  rfl
theorem known2_is : known2 = ⟨[(0, [(0, [kRec, kRec])])], 2, [(2, [kRec])], 2, false⟩ := by
  unfold known2 
  rw [known1_is]
  unfold Lg.putT
  rw [if_pos (by rw [kRec_len]; decide)]
  rfl
theorem known11_plain : ∃ d1 d2 d3, Lg.zero.appendT pName 40 (Dk.new.first pName) [kRec, kRec] = (0, known1, d1) ∧ known1.appendT pName 40 d1 [kRec] = (0, known2, d2) ∧ (known2.syncT pName d2) = (0, { known2 with stands := 3 }, d3) ∧ LgFit pName Lg.zero (Dk.new.first pName) ∧ LgFit pName known1 d1 := by
  obtain ⟨-, -, c0⟩ := first_calm pName_ok (d := Dk.new) rfl rfl
  obtain ⟨a1, c1⟩ := appendT_calm pName_ok (roll := 40) (l := [kRec, kRec]) c0 (by omega) (by decide) kRec_fits.1 (by decide)
  obtain ⟨a2, c2⟩ := appendT_calm pName_ok (roll := 40) (l := [kRec]) c1 (by omega) (by show known1.segs.length < _; rw [known1_is]; decide) kRec_fits.2 (by show (known1.fin : Int) + _ - 1 ≤ _; rw [known1_is]; decide)
  have e2 : (Lg.putT 40 (Lg.putT 40 Lg.zero [kRec, kRec]) [kRec]) = known2 := rfl
  obtain ⟨d1, hd1⟩ : ∃ x, x = (Lg.zero.appendT pName 40 (Dk.new.first pName) [kRec, kRec]).2.2 := ⟨_, rfl⟩
  rw [← hd1] at a1 a2 c1 c2
  obtain ⟨d2, hd2⟩ : ∃ x, x = ((Lg.putT 40 Lg.zero [kRec, kRec]).appendT pName 40 d1 [kRec]).2.2 := ⟨_, rfl⟩
  rw [← hd2] at a2 c2
  rw [e2] at a2 c2
  refine ⟨d1, d2, (d2.sync (sname pName known2.lb)).2, a1, a2, ?_, c0.fit, c1.fit⟩
  obtain ⟨f, hf, -⟩ := c2.fit (known2.lb, known2.lbs) (by unfold Lg.segs; simp)
  obtain ⟨s1, -, -⟩ := sync_calm c2.fates (sname_nameOk pName_ok _) hf
  unfold Lg.syncT
  rw [if_neg (by rw [c2.alive]; simp), if_neg (by rw [s1]; simp), known2_is]
  rfl
end Go.Proofs.YtlgcoaeddeiegaaGreat
