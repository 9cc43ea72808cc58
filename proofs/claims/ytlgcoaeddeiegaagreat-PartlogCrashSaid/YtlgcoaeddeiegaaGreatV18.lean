/- The texts Pzg in one. -/
import Derived.Test.YtlgcoaeddeiegaaGreatV12
import Derived.Test.YtlgcoaeddeiegaaGreatV15
/- partlog: Open on a disk that has none of the log. -/
namespace Go.Proofs.YtlgcoaeddeiegaaGreat
open Go Go.RowKit
attribute [local go_sem] Oper.semAt_some

set_option maxRecDepth 100000 in
set_option maxHeartbeats 1000000 in
theorem open1Ok_b {w : World} {b7 b6 : Nat} {u : FrameMode} (h : w.heap[b7]? = some (.cells #[.int .i64 0] 28 (0, 0))) :
    CallsD Tryz.prog 61 #[.pointer (some ⟨b7, 0, none⟩), .pointer (some ⟨b6, 0, none⟩)] u w fun e u' w' => u' = u ∧ e = .returned (.tuple #[]) ∧ w' = w := by
  have k : w.cell? ⟨b7, 0, none⟩ = some (.int .i64 0) := cell_of h rfl
  refine CallsD.mono (R := fun e u' w' => u' = u ∧ e = .returned (.tuple #[]) ∧ w' = w) ?_ (fun _ _ _ h => h)
  go_enter_d Tryz.func61, Tryz.ntmps61
  go_wp2_with fail
  go_end0
  exact ⟨rfl, rfl⟩
set_option maxRecDepth 100000 in
set_option maxHeartbeats 1000000 in
theorem open1No_b {w : World} {b7 b6 : Nat} {u : FrameMode} {er : Int} {x : Value} (he : er ≠ 0) (h : w.heap[b7]? = some (.cells #[.int .i64 er] 28 (0, 0))) (h6 : w.heap[b6]? = some (.cells #[x] 31 (0, 0))) :
    CallsD Tryz.prog 61 #[.pointer (some ⟨b7, 0, none⟩), .pointer (some ⟨b6, 0, none⟩)] u w fun e u' w' => u' = u ∧ e = .returned (.tuple #[]) ∧ w' = w.setCell ⟨b6, 0, none⟩ (.pointer none) := by
  have k : w.cell? ⟨b7, 0, none⟩ = some (.int .i64 er) := cell_of h rfl
  have k6 : w.cell? ⟨b6, 0, none⟩ = some x := cell_of h6 rfl
  have z6 : w.frozen? ⟨b6, 0, none⟩ = false := free_of h6 _
  have hc : (er == 0) = false := beq_eq_false_iff_ne.2 he
  have d1 : (er != 0) = true := by unfold bne; rw [hc]; rfl
  clear hc he h h6
  refine CallsD.mono (R := fun e u' w' => u' = u ∧ e = .returned (.tuple #[]) ∧ w' = w.setCell ⟨b6, 0, none⟩ (.pointer none)) ?_ (fun _ _ _ h => h)
  go_enter_d Tryz.func61, Tryz.ntmps61
  go_wp2_with fail
  go_end0
  exact ⟨rfl, rfl⟩
theorem openFails_b {W : World} {b6 b7 : Nat} {er : Int} {x : Value} {fn : Func} {tmps : Array Value} {R : Ending → World → Prop} (hne : er ≠ 0) (h6 : W.heap[b6]? = some (.cells #[x] 31 (0, 0))) (h7 : W.heap[b7]? = some (.cells #[.int .i64 0] 28 (0, 0))) (n67 : b6 ≠ b7)
    (hR : ∀ w', w'.heap[b7]? = some (.cells #[.int .i64 er] 28 (0, 0)) → w'.heap[b6]? = some (.cells #[.pointer none] 31 (0, 0)) → Only (fun k => k = b6 ∨ k = b7) W w' → ∃ v, (results fn tmps).run Tryz.prog w' = .ok v w' ∧ R (.returned v) w') :
    Leaves Tryz.prog fn tmps R [{ target := .fn (.func 62) #[], args := #[.pointer (some ⟨b7, 0, none⟩)] }, { target := .fn (.func 61) #[.pointer (some ⟨b7, 0, none⟩), .pointer (some ⟨b6, 0, none⟩)], args := #[] }] (.panicking [{ v := stopV er, recovered := false }]) W := by
  refine leaves_cons (f := 62) (args := #[.pointer (some ⟨b7, 0, none⟩)]) (by simp) (by simp [go_sem]) ?_
  refine (caughtStop_b h7).mono ?_
  rintro e u' w5 ⟨rfl, rfl, h75, ho5⟩
  have h65 := (ho5.block b6 (Array.getElem?_eq_some_iff.1 h6).1 n67).trans h6
  show Leaves Tryz.prog fn tmps R [_] .returning w5
  refine leaves_cons (f := 61) (args := #[.pointer (some ⟨b7, 0, none⟩), .pointer (some ⟨b6, 0, none⟩)]) (by simp) (by simp [go_sem]) ?_
  refine (open1No_b hne h75 h65).mono ?_
  rintro e u' w6 ⟨rfl, rfl, hw6⟩
  show Leaves Tryz.prog fn tmps R [] .returning w6
  refine hR w6 ?_ ?_ ?_
  · rw [hw6]
    exact (Below.heap_setCell _ _ _ _ n67.symm).trans h75
  · rw [hw6]
    exact heap_setCell_here _ h65
  · rw [hw6]
    exact (ho5.mono (fun _ _ e => .inr e)).trans (only_setCell (fun k => k = b6 ∨ k = b7) _ b6 0 _ (.inl rfl)) (fun _ _ e => e)
theorem DiskAt.behind {w w4 w5 w6 : World} {S S5 X : Nat → Prop} {q : Nat} {d : Dk} (hd : DiskAt w5 S5 q d) (hS : ∀ k, S5 k → S k ∨ (w4.heap.size ≤ k ∧ k < w5.heap.size)) (hlow : ∀ k, S k → k < w.heap.size) (h4 : w.heap.size ≤ w4.heap.size) (ho5 : Only S w w5) (ho6 : Only X w5 w6) (hX : ∀ k, X k → w.heap.size ≤ k ∧ k < w4.heap.size ∧ ¬ S k) : DiskAt w6 (Wid S w w6) q d ∧ Only S w w6 := by
  have hXS : ∀ k, S5 k → ¬ X k := fun k hk hx => by
    rcases hS k hk with e | e
    · exact (hX k hx).2.2 e
    · have := (hX k hx).2.1; have := e.1; omega
  refine ⟨(hd.onlyS ho6 hXS).wider (fun k hk => ?_) (fun k hk => ?_), ho5.trans ho6 (fun k hk hx => by have := (hX k hx).1; omega)⟩
  · rcases hS k hk with e | e
    · exact .inl e
    · exact .inr ⟨Nat.le_trans h4 e.1, Nat.lt_of_lt_of_le e.2 ho6.size⟩
  · rcases hk with hk | hk
    · exact Nat.lt_of_lt_of_le (hlow k hk) (Nat.le_trans ho5.size ho6.size)
    · exact hk.2
def Lg.zero : Lg := ⟨[], 0, [], 0, false⟩
theorem LgOk.zero : LgOk Lg.zero := ⟨fun s hs => by
  rcases List.mem_append.1 hs with hs | hs
  · cases hs
  · rw [List.mem_singleton] at hs
    subst hs
    exact ⟨Chain.nil 0, by decide⟩, ⟨rfl, trivial⟩, fun s hs => (by cases hs), Nat.le_refl _⟩
def OpenN (w : World) (S : Nat → Prop) (q : Nat) (d : Dk) (log : ByteArray) (roll step : Int) (e : Ending) (w' : World) : Prop :=
  (rightT roll step = false ∧ e = .returned (.tuple #[.pointer none, .int .i64 2]) ∧ Below w.heap.size w w') ∨
  (rightT roll step = true ∧ (d.create (sname log 0)).1 ≠ 0 ∧ e = .returned (.tuple #[.pointer none, .int .i64 (d.create (sname log 0)).1]) ∧ DiskAt w' (Wid S w w') q (d.create (sname log 0)).2 ∧ Only S w w') ∨
  (rightT roll step = true ∧ (d.create (sname log 0)).1 = 0 ∧ (d.create (sname log 0)).2.syncdir.1 ≠ 0 ∧ e = .returned (.tuple #[.pointer none, .int .i64 (d.create (sname log 0)).2.syncdir.1]) ∧ DiskAt w' (Wid S w w') q (d.create (sname log 0)).2.syncdir.2 ∧ Only S w w') ∨
  (rightT roll step = true ∧ (d.create (sname log 0)).1 = 0 ∧ (d.create (sname log 0)).2.syncdir.1 = 0 ∧ ∃ (lp roll' step' : Nat) (S' T' : Nat → Prop), (roll' : Int) = roll ∧ (step' : Int) = step ∧ e = .returned (.tuple #[.pointer (some ⟨lp, 0, none⟩), .int .i64 0]) ∧
    LogD w' S' T' lp q log roll' step' Lg.zero (d.create (sname log 0)).2.syncdir.2 ∧ (∀ k, S' k → Wid S w w' k) ∧ (∀ k, T' k → w.heap.size ≤ k) ∧ Only S w w')
set_option maxRecDepth 100000 in
set_option maxHeartbeats 8000000 in
theorem openNew_b {w : World} {S : Nat → Prop} {q : Nat} {d : Dk} (h : DiskAt w S q d) {log : ByteArray} (hl : log.size ≤ 8) (hlog : loggedB log.data.toList = true) (hnone : d.namesOf log = []) (roll step : Int) :
    Calls Tryz.prog 15 #[.pointer (some ⟨q, 0, none⟩), .string log, .agg #[.int .i64 roll, .int .i64 step]] w fun e w' => OpenN w S q d log roll step e w' := by
  have hmf : ∀ (fn : Fn) (first cap : Array Value) (W : World), (Instr.makeFunc fn first cap).run Tryz.prog W = .ok (.func fn first cap) W := fun _ _ _ _ => rfl
  obtain ⟨w1, hw1⟩ : ∃ W : World, W = ((w.alloc (.cells #[.int .i64 roll, .int .i64 step] 23)).alloc (.cells #[.pointer none] 31)).alloc (.cells #[.int .i64 0] 28) := ⟨_, rfl⟩
  obtain ⟨b5, hb5⟩ : ∃ b, b = w.heap.size := ⟨_, rfl⟩
  obtain ⟨b6, hb6⟩ : ∃ b, b = w.heap.size + 1 := ⟨_, rfl⟩
  obtain ⟨b7, hb7⟩ : ∃ b, b = w.heap.size + 1 + 1 := ⟨_, rfl⟩
  have hbl : Below w.heap.size w w1 := by rw [hw1]; exact (((Below.refl _ _).alloc (Nat.le_refl _) _).alloc (by simp) _).alloc (by simp; omega) _
  have g5 : w1.heap[b5]? = some (.cells #[.int .i64 roll, .int .i64 step] 23 (0, 0)) := by
    rw [hw1, hb5]
    exact (Below.heap_alloc _ _ _ (by simp; omega)).trans ((Below.heap_alloc _ _ _ (by simp)).trans (alloc_cells _ _ _))
  have g6 : w1.heap[b6]? = some (.cells #[.pointer none] 31 (0, 0)) := by
    rw [hw1, hb6]
    have := alloc_cells (w.alloc (.cells #[.int .i64 roll, .int .i64 step] 23)) #[.pointer none] 31
    rw [World.size_alloc] at this
    exact (Below.heap_alloc _ _ _ (by simp)).trans this
  have g7 : w1.heap[b7]? = some (.cells #[.int .i64 0] 28 (0, 0)) := by
    rw [hw1, hb7]
    have := alloc_cells ((w.alloc (.cells #[.int .i64 roll, .int .i64 step] 23)).alloc (.cells #[.pointer none] 31)) #[.int .i64 0] 28
    rwa [World.size_alloc, World.size_alloc] at this
  have k50 : w1.cell? ⟨b5, 0, none⟩ = some (.int .i64 roll) := cell_of g5 rfl
  have k51 : w1.cell? ⟨b5, 1, none⟩ = some (.int .i64 step) := cell_of g5 rfl
  have HR := Lib.hid (logRight_b hl hlog roll step w1)
  have H1 := Lib.hid (And.intro hbl (And.intro g5 (And.intro g6 (And.intro g7 (h.belowS hbl)))))
  have HB := Lib.hid (And.intro hb5 (And.intro hb6 hb7))
  have H := Lib.hid h
  have n67 : b6 ≠ b7 := by omega
  have n76 := n67.symm
  clear hbl g5 g6 g7 h
  go_enter_defers Tryz.func15, Tryz.ntmps15
  go_upto_region 1 with fail
  rw [← hw1, ← hb7, ← hb6, ← hb5]
  clear hw1 hb5 hb6 hb7
  go_wp2_with fail
  refine HR.out.mono ?_
  rintro e w2 ⟨rfl, hb2⟩
  have hb02 : Below w.heap.size w w2 := H1.out.1.trans (hb2.mono H1.out.1.size)
  have g5 := (hb2.block b5 (Array.getElem?_eq_some_iff.1 H1.out.2.1).1).trans H1.out.2.1
  have g6 := (hb2.block b6 (Array.getElem?_eq_some_iff.1 H1.out.2.2.1).1).trans H1.out.2.2.1
  have g7 := (hb2.block b7 (Array.getElem?_eq_some_iff.1 H1.out.2.2.2.1).1).trans H1.out.2.2.2.1
  have H2 := Lib.hid (And.intro hb02 (And.intro g5 (And.intro g6 (And.intro g7 (H1.out.2.2.2.2.belowS hb2)))))
  clear hb2 hb02 k50 k51 HR
  cases hrt : rightT roll step with
  | false =>
    have HRT := Lib.hid hrt
    have k6 : w2.cell? ⟨b6, 0, none⟩ = some (.pointer none) := cell_of g6 rfl
    have z6 : w2.frozen? ⟨b6, 0, none⟩ = false := free_of g6 _
    have k7 : w2.cell? ⟨b7, 0, none⟩ = some (.int .i64 0) := cell_of g7 rfl
    have z7 : w2.frozen? ⟨b7, 0, none⟩ = false := free_of g7 _
    clear hrt g5 g6 g7
    go_wp2_with fail
    have r7 : ((w2.setCell ⟨b6, 0, none⟩ (.pointer none)).setCell ⟨b7, 0, none⟩ (.int .i64 2)).heap[b7]? = some (.cells #[.int .i64 2] 28 (0, 0)) := heap_setCell_here _ ((Below.heap_setCell _ _ _ _ n76).trans H2.out.2.2.2.1)
    have r6 : ((w2.setCell ⟨b6, 0, none⟩ (.pointer none)).setCell ⟨b7, 0, none⟩ (.int .i64 2)).heap[b6]? = some (.cells #[.pointer none] 31 (0, 0)) := (Below.heap_setCell _ _ _ _ n67).trans (heap_setCell_here _ H2.out.2.2.1)
    have c7 := cell_of (i := 0) r7 rfl
    have c6 := cell_of (i := 0) r6 rfl
    refine ⟨.tuple #[.pointer none, .int .i64 2], by simp [results, Tryz.results15, go_sem, c6, c7], .inl ⟨HRT.out, rfl, ?_⟩⟩
    have h6 : w.heap.size ≤ b6 := by have := HB.out.2.1; omega
    have h7 : w.heap.size ≤ b7 := by have := HB.out.2.2; omega
    exact (H2.out.1.setCell (p := ⟨b6, 0, none⟩) h6 _).setCell (p := ⟨b7, 0, none⟩) h7 _
  | true =>
    have HRT := Lib.hid hrt
    obtain ⟨stepN, rollN, rfl, rfl, hsr⟩ : ∃ (s r : Nat), step = (s : Int) ∧ roll = (r : Int) ∧ 1 ≤ s ∧ s ≤ 16777216 ∧ 1 ≤ r ∧ r ≤ 16711680 := by
      unfold rightT at hrt
      simp only [Bool.and_eq_true, decide_eq_true_eq] at hrt
      exact ⟨step.toNat, roll.toNat, by omega, by omega, by omega, by omega, by omega, by omega⟩
    have k50 : w2.cell? ⟨b5, 0, none⟩ = some (.int .i64 (rollN : Int)) := cell_of g5 rfl
    have k51 : w2.cell? ⟨b5, 1, none⟩ = some (.int .i64 (stepN : Int)) := cell_of g5 rfl
    have HSR := Lib.hid hsr
    clear hrt g5 g6 g7 hsr
    go_upto_region 8 with fail
    obtain ⟨lp, hlp⟩ : ∃ b, b = w2.heap.size := ⟨_, rfl⟩
    obtain ⟨w3, hw3⟩ : ∃ W : World, W = w2.alloc (.cells #[.int .i64 0, .int .i64 0, .int .i64 0, .int .i64 0, .bool false, .pointer (some ⟨q, 0, none⟩), .string log, .int .i64 (rollN : Int), .int .i64 (stepN : Int), .slice none 0 0] 82) := ⟨_, rfl⟩
    have gl3 : w3.heap[lp]? = some (.cells #[.int .i64 0, .int .i64 0, .int .i64 0, .int .i64 0, .bool false, .pointer (some ⟨q, 0, none⟩), .string log, .int .i64 (rollN : Int), .int .i64 (stepN : Int), .slice none 0 0] 82 (0, 0)) := by rw [hw3, hlp]; exact alloc_cells _ _ _
    have hb23 : Below w2.heap.size w2 w3 := by rw [hw3]; exact (Below.refl _ _).alloc (Nat.le_refl _) _
    rw [← hw3, ← hlp]
    have HNM := Lib.hid (logNames_b (H2.out.2.2.2.2.belowS hb23) log)
    have H3 := Lib.hid (And.intro gl3 (And.intro hb23 hlp))
    clear gl3 hb23 hlp hw3 k50 k51
    go_wp2_with fail
    refine HNM.out.mono ?_
    rintro e w4 ⟨v, rfl, hrow, hown, hb4⟩
    rw [hnone] at hrow
    obtain ⟨oa, c, rfl, -⟩ := hrow.shape
    have hb24 : Below w2.heap.size w2 w4 := H3.out.2.1.trans (hb4.mono H3.out.2.1.size)
    have hb04 : Below w.heap.size w w4 := H2.out.1.trans (hb24.mono H2.out.1.size)
    have gl4 := (hb4.block lp (Array.getElem?_eq_some_iff.1 H3.out.1).1).trans H3.out.1
    have g54 := (hb24.block b5 (Array.getElem?_eq_some_iff.1 H2.out.2.1).1).trans H2.out.2.1
    have g64 := (hb24.block b6 (Array.getElem?_eq_some_iff.1 H2.out.2.2.1).1).trans H2.out.2.2.1
    have g74 := (hb24.block b7 (Array.getElem?_eq_some_iff.1 H2.out.2.2.2.1).1).trans H2.out.2.2.2.1
    have k51 : w4.cell? ⟨b5, 1, none⟩ = some (.int .i64 (stepN : Int)) := cell_of g54 rfl
    have hd4 := H2.out.2.2.2.2.belowS hb24
    have hcr := (createS_b hd4 log hl hlog ((0 : Nat) : Int) (stepN : Int)).mono (fun _ _ h => h.val (by omega) ⟨HSR.out.1, HSR.out.2.1⟩)
    obtain ⟨r1, hr1⟩ : ∃ r, r = d.create (sname log 0) := ⟨_, rfl⟩
    rw [← hr1] at hcr
    have HCR := Lib.hid hcr
    have HR1 := Lib.hid hr1
    have H4 := Lib.hid (And.intro hb04 (And.intro gl4 (And.intro g64 (And.intro g74 hd4))))
    clear hrow hown hb4 hb24 hb04 gl4 g54 g64 g74 hd4 hcr hr1 HNM
    go_wp2_with fail
    refine HCR.out.mono ?_
    rintro e w5 ⟨pp, rfl, hcv⟩
    have ho5 := hcv.only
    have hnS : ∀ k, w.heap.size ≤ k → ¬ S k := fun k hk hS => by have := H.out.lowS k hS; omega
    have hlpw : w.heap.size ≤ lp := by have h1 := H3.out.2.2; have h2 := H2.out.1.size; omega
    have gl5 := (ho5.block lp (Array.getElem?_eq_some_iff.1 H4.out.2.1).1 (hnS lp hlpw)).trans H4.out.2.1
    have g65 := (ho5.block b6 (Array.getElem?_eq_some_iff.1 H4.out.2.2.1).1 (hnS b6 (by have := HB.out.2.1; omega))).trans H4.out.2.2.1
    have g75 := (ho5.block b7 (Array.getElem?_eq_some_iff.1 H4.out.2.2.2.1).1 (hnS b7 (by have := HB.out.2.2; omega))).trans H4.out.2.2.2.1
    have ho05 : Only S w w5 := (Only.of_below H4.out.1 (Nat.le_refl _) S).trans ho5 (fun _ _ h => h)
    have HCV := Lib.hid hcv
    have H5 := Lib.hid (And.intro gl5 (And.intro g65 (And.intro g75 (And.intro ho05 hlpw))))
    clear hcv ho5 gl5 g65 g75 ho05 hlpw hnS HCR
    obtain ⟨e1, he1⟩ : ∃ e, r1.1 = e := ⟨_, rfl⟩
    rw [he1]
    have HE1 := Lib.hid he1
    clear he1
    have hnS : ∀ k, w.heap.size ≤ k → ¬ S k := fun k hk hS => by have := H.out.lowS k hS; omega
    have hX67 : ∀ k, k = b6 ∨ k = b7 → w.heap.size ≤ k ∧ k < w4.heap.size ∧ ¬ S k := fun k hk => by
      have h1 := HB.out
      have h6 := (Array.getElem?_eq_some_iff.1 H4.out.2.2.1).1
      have h7 := (Array.getElem?_eq_some_iff.1 H4.out.2.2.2.1).1
      rcases hk with hk | hk
      · exact ⟨by omega, by omega, hnS k (by omega)⟩
      · exact ⟨by omega, by omega, hnS k (by omega)⟩
    have HX := Lib.hid (And.intro hnS hX67)
    clear hnS hX67
    by_cases h0 : e1 = 0
    · subst h0
      have hcv := HCV.out
      unfold CreV at hcv
      rw [← HR1.out] at hcv
      rcases hcv with ⟨c0, -⟩ | ⟨-, s, x, S', rfl, c1, c2, c3, c4, c5⟩
      · exact absurd HE1.out c0
      have HSD := Lib.hid (syncdir_b c4.disk)
      have HC := Lib.hid (And.intro c1 (And.intro c2 (And.intro c3 c4)))
      clear c1 c2 c3 c4 c5
      obtain ⟨r2, hr2⟩ : ∃ r, r = r1.2.syncdir := ⟨_, rfl⟩
      rw [← hr2] at HSD
      have HR2 := Lib.hid hr2
      clear hr2
      go_wp2_with fail
      refine (must_ok w5).mono ?_
      rintro e w6 ⟨rfl, hw6⟩
      obtain rfl := hw6.symm
      clear hw6
      go_wp2_with fail
      refine HSD.out.mono ?_
      rintro e w6 ⟨rfl, hd6, ho6⟩
      have hS'w : ∀ k, S' k → S k ∨ (w4.heap.size ≤ k ∧ k < w5.heap.size) := fun k hk => HC.out.1 k hk
      have hnS' : ∀ k, k < w4.heap.size → ¬ S k → ¬ S' k := fun k hk hn hS => by
        rcases hS'w k hS with e | e
        · exact hn e
        · have := e.1; omega
      have gl6 := (ho6.block lp (Array.getElem?_eq_some_iff.1 H5.out.1).1 (hnS' lp (Array.getElem?_eq_some_iff.1 H4.out.2.1).1 (HX.out.1 lp H5.out.2.2.2.2))).trans H5.out.1
      have g66 := (ho6.block b6 (Array.getElem?_eq_some_iff.1 H5.out.2.1).1 (hnS' b6 (HX.out.2 b6 (.inl rfl)).2.1 (HX.out.2 b6 (.inl rfl)).2.2)).trans H5.out.2.1
      have g76 := (ho6.block b7 (Array.getElem?_eq_some_iff.1 H5.out.2.2.1).1 (hnS' b7 (HX.out.2 b7 (.inr rfl)).2.1 (HX.out.2 b7 (.inr rfl)).2.2)).trans H5.out.2.2.1
      have ho06 : Only S w w6 := H5.out.2.2.2.1.trans ho6 (fun k hk hS => by
        rcases hS'w k hS with e | e
        · exact e
        · have := e.1; have := H4.out.1.size; omega)
      have hsg6 : SgIs w6 q log stepN ⟨0, [], s, x, .slice none 0 0, []⟩ := HC.out.2.2.2.toSegM.kept (fun k hk => by
        rcases hk with hk | hk | hk
        · exact ho6.block k (hk ▸ (Array.getElem?_eq_some_iff.1 HC.out.2.2.2.head).1) (hk ▸ HC.out.2.2.2.sS)
        · exact ho6.block k (hk ▸ (Array.getElem?_eq_some_iff.1 HC.out.2.2.2.idx.head).1) (hk ▸ HC.out.2.2.2.xS)
        · simp [Value.ownBlock] at hk)
      have hS6 : ∀ k, Wid S' w5 w6 k → S k ∨ (w4.heap.size ≤ k ∧ k < w6.heap.size) := fun k hk => by
        have h5 := HCV.out.only.size
        rcases hk with hk | hk
        · rcases hS'w k hk with e | e
          · exact .inl e
          · exact .inr ⟨e.1, Nat.lt_of_lt_of_le e.2 ho6.size⟩
        · exact .inr ⟨Nat.le_trans h5 hk.1, hk.2⟩
      have hSsx : ¬ Wid S' w5 w6 s ∧ ¬ Wid S' w5 w6 x := by
        have h1 := (Array.getElem?_eq_some_iff.1 HC.out.2.2.2.head).1
        have h2 := (Array.getElem?_eq_some_iff.1 HC.out.2.2.2.idx.head).1
        refine ⟨fun hk => ?_, fun hk => ?_⟩
        · rcases hk with hk | hk
          · exact HC.out.2.2.2.sS hk
          · have := hk.1; omega
        · rcases hk with hk | hk
          · exact HC.out.2.2.2.xS hk
          · have := hk.1; omega
      have HD6 := Lib.hid (And.intro hd6 (And.intro ho06 (And.intro hS6 (And.intro hsg6 hSsx))))
      have H6 := Lib.hid (And.intro gl6 (And.intro g66 g76))
      clear hd6 ho6 hS'w hnS' gl6 g66 g76 ho06 hsg6 hS6 hSsx HSD
      obtain ⟨e2, he2⟩ : ∃ e, r2.1 = e := ⟨_, rfl⟩
      rw [he2]
      have HE2 := Lib.hid he2
      clear he2
      by_cases h2 : e2 = 0
      · subst h2
        have k9 : w6.cell? ⟨lp, 9, none⟩ = some (.slice none 0 0) := cell_of H6.out.1 rfl
        have hone : ∀ v ∈ ([.pointer (some ⟨s, 0, none⟩)] : List Value), v.oneCell' = true := by
          intro v hv
          simp only [List.mem_cons, List.not_mem_nil, or_false] at hv
          rcases hv with rfl
          rfl
        have HNIL : Hid (rowAt w6 156 1 (.slice none 0 0) 0 []) := Lib.hid ⟨rfl, .inl ⟨rfl, rfl⟩⟩
        have hlp6 : lp < w6.heap.size := (Array.getElem?_eq_some_iff.1 H6.out.1).1
        go_wp2_with fail
        refine (must_ok w6).mono ?_
        rintro e w7 ⟨rfl, hw7⟩
        obtain rfl := hw7.symm
        clear hw7
        go_upto_region 14 with (at_builtin; refine wpList_append_one rfl (.tmp 55) (.tmp 57) 80 156 rfl Tryz.underlying80 info_seg rfl (by omega) HNIL.out (by omega) [.pointer (some ⟨s, 0, none⟩)] rfl hone (by rfl) (by rfl) ?_; intro oa3 c3 w7 HR7 HG7 HO7; have hb7 := (HG7.out.block lp (by simp; omega) (fun e => by simp [Value.ownBlock] at e)).trans ((Below.heap_alloc _ _ _ hlp6).trans H6.out.1); have kb : w7.cell? ⟨lp, 9, none⟩ = some (.slice none 0 0) := cell_of hb7 rfl; have fb : w7.frozen? ⟨lp, 9, none⟩ = false := free_of hb7 _; have HB7 := Lib.hid hb7; clear hb7)
        obtain ⟨v', hv'⟩ : ∃ v, v = Value.slice oa3 1 c3 := ⟨_, rfl⟩
        obtain ⟨w8, hw8⟩ : ∃ W : World, W = w7.setCell ⟨lp, 9, none⟩ (.slice oa3 1 c3) := ⟨_, rfl⟩
        rw [← hw8]
        rw [← hv'] at hw8
        have hro := HR7.out
        have how := HO7.out
        rw [← hv'] at hro how
        have hg7 := HG7.out
        have h67 : Below w6.heap.size w6 w7 := ((Below.refl _ w6).alloc (Nat.le_refl _) _).grown hg7 (by simp) (fun k e => by simp [Value.ownBlock] at e)
        have n6l : b6 ≠ lp := by have := H3.out.2.2; have := (Array.getElem?_eq_some_iff.1 H2.out.2.2.1).1; omega
        have n7l : b7 ≠ lp := by have := H3.out.2.2; have := (Array.getElem?_eq_some_iff.1 H2.out.2.2.2.1).1; omega
        have gl8 : w8.heap[lp]? = some (.cells #[.int .i64 0, .int .i64 0, .int .i64 0, .int .i64 0, .bool false, .pointer (some ⟨q, 0, none⟩), .string log, .int .i64 (rollN : Int), .int .i64 (stepN : Int), v'] 82 (0, 0)) := by
          rw [hw8]
          exact heap_setCell_here _ HB7.out
        have g68 : w8.heap[b6]? = some (.cells #[.pointer none] 31 (0, 0)) := by
          rw [hw8]
          exact (Below.heap_setCell _ _ _ _ n6l).trans ((h67.block b6 (Array.getElem?_eq_some_iff.1 H6.out.2.1).1).trans H6.out.2.1)
        have g78 : w8.heap[b7]? = some (.cells #[.int .i64 0] 28 (0, 0)) := by
          rw [hw8]
          exact (Below.heap_setCell _ _ _ _ n7l).trans ((h67.block b7 (Array.getElem?_eq_some_iff.1 H6.out.2.2).1).trans H6.out.2.2)
        have ho78 : Only (fun k => k = lp) w7 w8 := by rw [hw8]; exact only_setCell (fun k => k = lp) _ lp 9 _ rfl
        have l0 : w8.cell? ⟨lp, 0, none⟩ = some (.int .i64 0) := cell_of gl8 rfl
        have l1 : w8.cell? ⟨lp, 1, none⟩ = some (.int .i64 0) := cell_of gl8 rfl
        have l2 : w8.cell? ⟨lp, 2, none⟩ = some (.int .i64 0) := cell_of gl8 rfl
        have l3 : w8.cell? ⟨lp, 3, none⟩ = some (.int .i64 0) := cell_of gl8 rfl
        have l4 : w8.cell? ⟨lp, 4, none⟩ = some (.bool false) := cell_of gl8 rfl
        have y0 : w8.frozen? ⟨lp, 0, none⟩ = false := free_of gl8 _
        have y1 : w8.frozen? ⟨lp, 1, none⟩ = false := free_of gl8 _
        have y2 : w8.frozen? ⟨lp, 2, none⟩ = false := free_of gl8 _
        have y3 : w8.frozen? ⟨lp, 3, none⟩ = false := free_of gl8 _
        have y4 : w8.frozen? ⟨lp, 4, none⟩ = false := free_of gl8 _
        have l6 : w8.cell? ⟨b6, 0, none⟩ = some (.pointer none) := cell_of g68 rfl
        have y6 : w8.frozen? ⟨b6, 0, none⟩ = false := free_of g68 _
        have l7 : w8.cell? ⟨b7, 0, none⟩ = some (.int .i64 0) := cell_of g78 rfl
        have y7 : w8.frozen? ⟨b7, 0, none⟩ = false := free_of g78 _
        have nl6 := n6l.symm
        have nl7 := n7l.symm
        have H8 := Lib.hid (And.intro gl8 (And.intro g68 (And.intro g78 (And.intro ho78 (And.intro h67 (And.intro hro how))))))
        clear hw8 hv' hro how hg7 h67 gl8 g68 g78 ho78 kb fb k9 hone hlp6
        go_wp2_with fail
        obtain ⟨w9, hw9⟩ : ∃ W : World, W = ((((((w8.setCell ⟨lp, 0, none⟩ (.int .i64 0)).setCell ⟨lp, 1, none⟩ (.int .i64 0)).setCell ⟨lp, 2, none⟩ (.int .i64 0)).setCell ⟨lp, 3, none⟩ (.int .i64 1)).setCell ⟨lp, 4, none⟩ (.bool false)).setCell ⟨b6, 0, none⟩ (.pointer (some ⟨lp, 0, none⟩))).setCell ⟨b7, 0, none⟩ (.int .i64 0) := ⟨_, rfl⟩
        rw [← hw9]
        have gl9 : w9.heap[lp]? = some (.cells #[.int .i64 0, .int .i64 0, .int .i64 0, .int .i64 1, .bool false, .pointer (some ⟨q, 0, none⟩), .string log, .int .i64 (rollN : Int), .int .i64 (stepN : Int), v'] 82 (0, 0)) := by
          rw [hw9]
          exact (Below.heap_setCell _ _ _ _ nl7).trans ((Below.heap_setCell _ _ _ _ nl6).trans (heap_setCell_here _ (heap_setCell_here _ (heap_setCell_here _ (heap_setCell_here _ (heap_setCell_here _ H8.out.1))))))
        have up : ∀ (k o : Nat) (V : World) (v : Value), k ≠ o → (V.setCell ⟨o, 0, none⟩ v).heap[k]? = V.heap[k]? := fun k o V v h => Below.heap_setCell _ _ _ _ h
        have g69 : w9.heap[b6]? = some (.cells #[.pointer (some ⟨lp, 0, none⟩)] 31 (0, 0)) := by
          rw [hw9]
          refine (Below.heap_setCell _ _ _ _ n67).trans (heap_setCell_here (cs := #[.pointer none]) _ ?_)
          exact (Below.heap_setCell _ _ _ _ n6l).trans ((Below.heap_setCell _ _ _ _ n6l).trans ((Below.heap_setCell _ _ _ _ n6l).trans ((Below.heap_setCell _ _ _ _ n6l).trans ((Below.heap_setCell _ _ _ _ n6l).trans H8.out.2.1))))
        have g79 : w9.heap[b7]? = some (.cells #[.int .i64 0] 28 (0, 0)) := by
          rw [hw9]
          refine heap_setCell_here (cs := #[.int .i64 0]) _ ((Below.heap_setCell _ ⟨b6, 0, none⟩ _ b7 n76).trans ?_)
          exact (Below.heap_setCell _ _ _ _ n7l).trans ((Below.heap_setCell _ _ _ _ n7l).trans ((Below.heap_setCell _ _ _ _ n7l).trans ((Below.heap_setCell _ _ _ _ n7l).trans ((Below.heap_setCell _ _ _ _ n7l).trans H8.out.2.2.1))))
        have ho89 : Only (fun k => k = lp ∨ k = b6 ∨ k = b7) w8 w9 := by
          rw [hw9]
          have s1 : ∀ (o : Nat) (V : World) (v : Value), Only (fun k => k = lp ∨ k = b6 ∨ k = b7) V (V.setCell ⟨lp, o, none⟩ v) := fun o V v => only_setCell _ _ lp o v (.inl rfl)
          exact ((((((s1 0 _ _).trans (s1 1 _ _) (fun _ _ e => e)).trans (s1 2 _ _) (fun _ _ e => e)).trans (s1 3 _ _) (fun _ _ e => e)).trans (s1 4 _ _) (fun _ _ e => e)).trans (only_setCell _ _ b6 0 _ (.inr (.inl rfl))) (fun _ _ e => e)).trans (only_setCell _ _ b7 0 _ (.inr (.inr rfl))) (fun _ _ e => e)
        refine leaves_cons (f := 62) (args := #[.pointer (some ⟨b7, 0, none⟩)]) (by simp) (by simp [go_sem]) ?_
        refine caughtIdle_b.mono ?_
        rintro e u' w10 ⟨rfl, rfl, hw10⟩
        obtain rfl := hw10.symm
        clear hw10
        refine leaves_cons (f := 61) (args := #[.pointer (some ⟨b7, 0, none⟩), .pointer (some ⟨b6, 0, none⟩)]) (by simp [settle]) (by simp [go_sem]) ?_
        refine (open1Ok_b g79).mono ?_
        rintro e u' w10 ⟨rfl, rfl, hw10⟩
        obtain rfl := hw10.symm
        clear hw10
        have c7 := cell_of (i := 0) g79 rfl
        have c6 := cell_of (i := 0) g69 rfl
        refine ⟨.tuple #[.pointer (some ⟨lp, 0, none⟩), .int .i64 0], by simp [results, Tryz.results15, go_sem, c6, c7], .inr (.inr (.inr ?_))⟩
        rw [← HR1.out, ← HR2.out]
        obtain ⟨q1, q2, q3, q4, q5, q6, q7⟩ := H8.out
        obtain ⟨e1, e2, e3, e4, e5, e6⟩ := HD6.out
        have z26 := HC.out.2.1
        have hso := ho89.size
        have z78 := q4.size
        have z67 := q5.size
        have zlp : lp < w4.heap.size := (Array.getElem?_eq_some_iff.1 H4.out.2.1).1
        have hsl : s < w6.heap.size := (Array.getElem?_eq_some_iff.1 e4.head).1
        have hxl : x < w6.heap.size := (Array.getElem?_eq_some_iff.1 e4.idx.head).1
        have z6 := (HX.out.2 b6 (.inl rfl)).2.1
        have z7 := (HX.out.2 b7 (.inr rfl)).2.1
        have hox : Only (fun k => k = lp ∨ k = b6 ∨ k = b7) w6 w9 := ((Only.of_below q5 (Nat.le_refl _) _).trans q4 (fun _ _ e => .inl e)).trans ho89 (fun _ _ e => e)
        have hown : ∀ k, v'.ownBlock = some k → k = w6.heap.size + 1 := fun k hk => by
          rcases q7 with e | e
          · rw [hk] at e
            simp [Value.ownBlock] at e
          · rw [hk] at e
            simp only [Option.some.injEq] at e
            exact e
        have hXa : ∀ k, w4.heap.size ≤ k → ¬ (k = lp ∨ k = b6 ∨ k = b7) := fun k hk e => by omega
        have hlpw := H5.out.2.2.2.2
        have hgrow := H4.out.1.size
        have zc2 := HC.out.2.1
        have zc3 := HC.out.2.2.1
        have hrow9 := q6.kept (w' := w9) (fun k hk => by
          have h1 := hown k hk
          refine (ho89.block k (Nat.lt_of_lt_of_le (q6.lt k hk) z78) (fun e => by omega)).trans (q4.block k (q6.lt k hk) (fun e => by omega)))
        have hv9 : w6.heap.size + 1 < w9.heap.size ∨ v'.ownBlock = none := by
          cases hvo : v'.ownBlock with
          | none => exact .inr rfl
          | some k => exact .inl (by have h1 := hown k hvo; have h2 := hrow9.lt k hvo; omega)
        have hnd : Sg.blocks ⟨0, [], s, x, .slice none 0 0, []⟩ = [s, x] := by simp [Sg.blocks, Value.ownBlock]
        have hsx := e4.sx
        have hrest : LogR w9 (fun k => k = lp ∨ k = s ∨ k = x ∨ v'.ownBlock = some k) lp q log stepN ([] ++ [⟨0, [], s, x, .slice none 0 0, []⟩]) v' := by
          refine ⟨hrow9, fun b hb => ?_, ?_, fun k hk => ?_, fun k hk => ?_, by simp⟩
          · rw [List.nil_append, List.mem_singleton] at hb
            subst hb
            refine e4.kept (fun k hk => hox.block k ?_ ?_)
            · rcases hk with hk | hk | hk
              · exact hk ▸ hsl
              · exact hk ▸ hxl
              · simp [Value.ownBlock] at hk
            · rcases hk with hk | hk | hk
              · exact hXa k (hk ▸ zc2)
              · exact hXa k (hk ▸ zc3)
              · simp [Value.ownBlock] at hk
          · unfold logBlocks
            rw [List.nil_append, List.flatMap_cons, List.flatMap_nil, List.append_nil, hnd]
            cases hvo : v'.ownBlock with
            | none =>
              simp only [Option.toList_none, List.nil_append, List.nodup_cons, List.mem_cons, List.not_mem_nil, or_false, not_false_eq_true, List.nodup_nil, and_true]
              exact ⟨by omega, hsx⟩
            | some k =>
              have h1 := hown k hvo
              simp only [Option.toList_some, List.singleton_append, List.nodup_cons, List.mem_cons, List.not_mem_nil, or_false, not_false_eq_true, List.nodup_nil, and_true]
              exact ⟨by omega, by omega, hsx⟩
          · unfold logBlocks at hk
            rw [List.nil_append, List.flatMap_cons, List.flatMap_nil, List.append_nil, hnd] at hk
            simp only [List.mem_cons, List.mem_append, Option.mem_toList, List.not_mem_nil, or_false] at hk
            rcases hk with hk | hk | hk | hk
            · exact .inl hk
            · exact .inr (.inr (.inr hk))
            · exact .inr (.inl hk)
            · exact .inr (.inr (.inl hk))
          · rcases hk with hk | hk | hk | hk
            · omega
            · omega
            · omega
            · exact hrow9.lt k hk
        have hSw : ∀ k, Wid S' w5 w6 k → Wid S w w9 k := fun k hk => by
          rcases e3 k hk with e | e
          · exact .inl e
          · exact .inr ⟨by omega, by omega⟩
        refine ⟨HRT.out, HE1.out, HE2.out, lp, rollN, stepN, Wid S' w5 w6, fun k => k = lp ∨ k = s ∨ k = x ∨ v'.ownBlock = some k, rfl, rfl, rfl, ⟨e1.onlyS hox (fun k hk e => ?_), ⟨[], ⟨0, [], s, x, .slice none 0 0, []⟩, v', ⟨gl9, hrest, rfl, rfl, rfl, hl, hlog, LgOk.zero, ⟨HSR.out.2.2.1, HSR.out.2.2.2⟩, ⟨HSR.out.1, HSR.out.2.1⟩⟩⟩, fun k hk hT => ?_⟩, hSw, fun k hk => ?_, e2.trans hox (fun k hk e => ?_)⟩
        · rcases e3 k hk with h | h
          · rcases e with e | e | e
            · exact HX.out.1 lp hlpw (e ▸ h)
            · exact (HX.out.2 k (.inl e)).2.2 h
            · exact (HX.out.2 k (.inr e)).2.2 h
          · exact hXa k h.1 e
        · rcases hT with hT | hT | hT | hT
          · rcases e3 k hk with h | h
            · exact HX.out.1 lp hlpw (hT ▸ h)
            · omega
          · exact e5 (hT ▸ hk)
          · exact e6 (hT ▸ hk)
          · have := hown k hT
            have := e1.lowS k hk
            omega
        · rcases hk with hk | hk | hk | hk
          · omega
          · omega
          · omega
          · have := hown k hk
            omega
        · have := HB.out
          omega
      · go_wp2_with fail
        refine (must_no h2 w6).mono ?_
        rintro e w7 ⟨rfl, hw7⟩
        obtain rfl := hw7.symm
        refine openFails_b h2 H6.out.2.1 H6.out.2.2 n67 ?_
        intro w' h7' h6' ho'
        have c7 := cell_of (i := 0) h7' rfl
        have c6 := cell_of (i := 0) h6' rfl
        obtain ⟨f1, f2⟩ := HD6.out.1.behind HD6.out.2.2.1 H.out.lowS H4.out.1.size HD6.out.2.1 ho' HX.out.2
        refine ⟨.tuple #[.pointer none, .int .i64 e2], by simp [results, Tryz.results15, go_sem, c6, c7], .inr (.inr (.inl ?_))⟩
        rw [← HR1.out, ← HR2.out, HE2.out]
        exact ⟨HRT.out, HE1.out, h2, rfl, f1, f2⟩
    · go_wp2_with fail
      refine (must_no h0 w5).mono ?_
      rintro e w6 ⟨rfl, hw6⟩
      obtain rfl := hw6.symm
      have hcv := HCV.out
      unfold CreV at hcv
      rw [← HR1.out] at hcv
      rcases hcv with ⟨-, -, c1, c2⟩ | ⟨c0, -⟩
      · refine openFails_b h0 H5.out.2.1 H5.out.2.2.1 n67 ?_
        intro w' h7' h6' ho'
        have c7 := cell_of (i := 0) h7' rfl
        have c6 := cell_of (i := 0) h6' rfl
        obtain ⟨f1, f2⟩ := c1.behind (w4 := w4) (fun k hk => hk) H.out.lowS H4.out.1.size H5.out.2.2.2.1 ho' HX.out.2
        refine ⟨.tuple #[.pointer none, .int .i64 e1], by simp [results, Tryz.results15, go_sem, c6, c7], .inr (.inl ?_)⟩
        rw [← HR1.out, HE1.out]
        exact ⟨HRT.out, h0, rfl, f1, f2⟩
      · exact absurd (by rw [← HE1.out]; exact c0) h0
end Go.Proofs.YtlgcoaeddeiegaaGreat
