/- The texts Xi in one. -/
import Derived.Test.YtlgcoaeddeiegaaGreatV23
import Derived.Test.YtlgcoaeddeiegaaGreatV21
/- partlog: Drop, the walk. -/
namespace Go.Proofs.YtlgcoaeddeiegaaGreat
open Go Go.Maps Go.RowKit
attribute [local go_sem] Oper.semAt_some

set_option maxRecDepth 100000 in
set_option maxHeartbeats 8000000 in
theorem logDrop_b {w : World} {S T : Nat → Prop} {lp q : Nat} {log : ByteArray} {roll step : Nat} {g : Lg} {d : Dk} (h : LogD w S T lp q log roll step g d) (before : Int) :
    Calls Tryz.prog 28 #[.pointer (some ⟨lp, 0, none⟩), .int .i64 before] w fun e w' => DropIs w S T lp q log roll step (g.dropT log before d) e w' := by
  have hmf : ∀ (fn : Fn) (first cap : Array Value) (W : World), (Instr.makeFunc fn first cap).run Tryz.prog W = .ok (.func fn first cap) W := fun _ _ _ _ => rfl
  obtain ⟨w1, hw1⟩ : ∃ W : World, W = (w.alloc (.cells #[.int .i64 0] 3)).alloc (.cells #[.int .i64 0] 28) := ⟨_, rfl⟩
  obtain ⟨b4, hb4⟩ : ∃ b, b = w.heap.size := ⟨_, rfl⟩
  obtain ⟨b5, hb5⟩ : ∃ b, b = w.heap.size + 1 := ⟨_, rfl⟩
  have g4 : w1.heap[b4]? = some (.cells #[.int .i64 0] 3 (0, 0)) := by
    rw [hw1, hb4]
    exact (Below.heap_alloc _ _ _ (by simp)).trans (alloc_cells _ _ _)
  have g5 : w1.heap[b5]? = some (.cells #[.int .i64 0] 28 (0, 0)) := by
    rw [hw1, hb5]
    have := alloc_cells (w.alloc (.cells #[.int .i64 0] 3)) #[.int .i64 0] 28
    rwa [World.size_alloc] at this
  have hbl : Below w.heap.size w w1 := by rw [hw1]; exact ((Below.refl _ _).alloc (Nat.le_refl _) _).alloc (by simp) _
  have hz1 : w1.heap.size = w.heap.size + 2 := by rw [hw1]; simp
  have hDB : DrpB w w1 S T b4 b5 := ⟨hbl, h.disk.lowS, h.lowT, by omega, by omega, by omega⟩
  have h1 := h.later hbl
  obtain ⟨G, a, pv, hm⟩ := h1.log'
  have HN := Lib.hid (noneLog_b hm)
  have k4 : w1.cell? ⟨lp, 4, none⟩ = some (.bool g.dead) := cell_of hm.head rfl
  have kb4 : w1.cell? ⟨b4, 0, none⟩ = some (.int .i64 0) := cell_of g4 rfl
  have zb4 : w1.frozen? ⟨b4, 0, none⟩ = false := free_of g4 _
  have kb5 : w1.cell? ⟨b5, 0, none⟩ = some (.int .i64 0) := cell_of g5 rfl
  have zb5 : w1.frozen? ⟨b5, 0, none⟩ = false := free_of g5 _
  have n45 := hDB.ne
  have n54 := n45.symm
  have hj1 : DrpJ w1 w1 S T b4 b5 lp q log roll step g d 0 := ⟨⟨S, T, fun _ hk => .inl hk, fun _ hk => .inl hk, h1⟩, Only.refl _ _, g4, g5⟩
  have hfw0 : g.ini.length ≤ 1000000000 := by
    have h2 := hm.rest.few
    rw [hm.ini, List.length_map]
    rw [List.length_append] at h2
    omega
  have HF := Lib.hid hfw0
  have H := Lib.hid (And.intro hDB (And.intro hj1 (And.intro h1 hbl)))
  clear hfw0
  clear hbl hz1 hDB h1 hm hj1 h
  cases hdd : g.dead with
  | true =>
    have e1 : g.dropT log before d = (9, g, d) := by unfold Lg.dropT; rw [if_pos hdd]
    rw [hdd] at k4
    have HE := Lib.hid e1
    clear hdd e1
    go_enter_defers Tryz.func28, Tryz.ntmps28
    go_upto_region 1 with fail
    rw [← hw1, ← hb5, ← hb4]
    clear hw1 hb4 hb5
    go_wp2_with fail
    refine HN.out.mono ?_
    rintro e w2 ⟨rfl, hw2⟩
    obtain rfl := hw2.symm
    clear hw2
    go_wp2_with fail
    have r5 : ((w1.setCell ⟨b4, 0, none⟩ (.int .i64 0)).setCell ⟨b5, 0, none⟩ (.int .i64 9)).heap[b5]? = some (.cells #[.int .i64 9] 28 (0, 0)) := heap_setCell_here _ ((Below.heap_setCell _ _ _ _ n54).trans g5)
    have r4 : ((w1.setCell ⟨b4, 0, none⟩ (.int .i64 0)).setCell ⟨b5, 0, none⟩ (.int .i64 9)).heap[b4]? = some (.cells #[.int .i64 0] 3 (0, 0)) := (Below.heap_setCell _ _ _ _ n45).trans (heap_setCell_here (cs := #[.int .i64 0]) _ g4)
    have c5 := cell_of (i := 0) r5 rfl
    have c4 := cell_of (i := 0) r4 rfl
    refine ⟨.tuple #[.int .i64 0, .int .i64 9], by simp [results, Tryz.results28, go_sem, c4, c5], 0, by rw [HE.out], ?_⟩
    rw [HE.out]
    exact H.out.2.1.done H.out.1 ((only_setCell (fun k => k = b4 ∨ k = b5) _ b4 0 _ (.inl rfl)).trans (only_setCell (fun k => k = b4 ∨ k = b5) _ b5 0 _ (.inr rfl)) (fun _ _ e => e))
  | false =>
    rw [hdd] at k4
    have HDD := Lib.hid hdd
    clear hdd
    go_enter_defers Tryz.func28, Tryz.ntmps28
    go_upto_region 1 with fail
    rw [← hw1, ← hb5, ← hb4]
    clear hw1 hb4 hb5
    go_wp2_with fail
    refine HN.out.mono ?_
    rintro e w2 ⟨rfl, hw2⟩
    obtain rfl := hw2.symm
    clear hw2 HN
    go_wp2_with fail
    go_loopg [] (g.ini.length + 1) (fun gh wr => ∃ (ini : List (Nat × List Bat)) (dd : Dk) (n : Nat), gh = ini.length + 1 ∧ Hid (DrpJ w1 wr S T b4 b5 lp q log roll step { g with ini := ini } dd n ∧ dropL log before g.ini d = dropL log before ini dd ∧ n + ini.length = g.ini.length))
    case atStart => exact ⟨g.ini, d, 0, rfl, Lib.hid ⟨H.out.2.1, rfl, Nat.zero_add _⟩⟩
    case round =>
      obtain ⟨ini, dd, n, hgh, HJ⟩ := hrel
      obtain ⟨S', T', hS, hT, hd⟩ := HJ.out.1.log'
      obtain ⟨G, a, pv, hm⟩ := hd.log'
      have hrow := hm.rest.row
      have hfew := hm.rest.few
      rw [List.length_append, List.length_singleton] at hrow hfew
      obtain ⟨oa, c, rfl, -⟩ := hrow.shape
      obtain ⟨gb, off, rfl⟩ := hrow.read.addr (by omega)
      have hgi : ini = G.map Sg.seg := hm.ini
      cases hG : G with
      | nil =>
        have k9 : wr.cell? ⟨lp, 9, none⟩ = some (.slice (some ⟨gb, off, none⟩) 1 c) := by
          have := cell_of (i := 9) hm.head rfl
          rw [hG] at this
          exact this
        have hini : ini = [] := by rw [hgi, hG]; rfl
        subst hini
        have k4 : wr.cell? ⟨b4, 0, none⟩ = some (.int .i64 (n : Int)) := cell_of HJ.out.1.box4 rfl
        have z4 : wr.frozen? ⟨b4, 0, none⟩ = false := free_of HJ.out.1.box4 _
        have k5 : wr.cell? ⟨b5, 0, none⟩ = some (.int .i64 0) := cell_of HJ.out.1.box5 rfl
        have z5 : wr.frozen? ⟨b5, 0, none⟩ = false := free_of HJ.out.1.box5 _
        have HE : Hid (dropL log before g.ini d = (0, [], dd)) := Lib.hid HJ.out.2.1
        clear hS hT hd hm hrow hfew hgi hG
        have hwe : ∀ we : World, we = (wr.setCell ⟨b4, 0, none⟩ (.int .i64 (n : Int))).setCell ⟨b5, 0, none⟩ (.int .i64 0) → we.heap[b4]? = some (.cells #[.int .i64 (n : Int)] 3 (0, 0)) ∧ we.heap[b5]? = some (.cells #[.int .i64 0] 28 (0, 0)) ∧ Only (fun k => k = b4 ∨ k = b5) wr we := fun we e => by
          subst e
          exact ⟨(Below.heap_setCell _ _ _ _ n45).trans (heap_setCell_here (cs := #[.int .i64 (n : Int)]) _ HJ.out.1.box4), heap_setCell_here (cs := #[.int .i64 0]) _ ((Below.heap_setCell _ _ _ _ n54).trans HJ.out.1.box5), (only_setCell (fun k => k = b4 ∨ k = b5) _ b4 0 _ (.inl rfl)).trans (only_setCell (fun k => k = b4 ∨ k = b5) _ b5 0 _ (.inr rfl)) (fun _ _ e => e)⟩
        have HWE := Lib.hid hwe
        clear hwe
        go_wp2_with fail
        obtain ⟨we, hwe⟩ : ∃ W : World, W = (wr.setCell ⟨b4, 0, none⟩ (.int .i64 (n : Int))).setCell ⟨b5, 0, none⟩ (.int .i64 0) := ⟨_, rfl⟩
        rw [← hwe]
        obtain ⟨g4e, g5e, hoe⟩ := HWE.out we hwe
        clear hwe HWE
        refine leaves_cons (f := 62) (args := #[.pointer (some ⟨b5, 0, none⟩)]) (by simp) (by simp [go_sem]) ?_
        refine caughtIdle_b.mono ?_
        rintro e u' w13 ⟨rfl, rfl, hw13⟩
        obtain rfl := hw13
        refine leaves_cons (f := 73) (args := #[.pointer (some ⟨lp, 0, none⟩), .pointer (some ⟨b5, 0, none⟩)]) (by simp [settle]) (by simp [go_sem]) ?_
        refine (diesOk_b g5e).mono ?_
        rintro e u' w14 ⟨rfl, rfl, hw14⟩
        obtain rfl := hw14
        refine leaves_cons (f := 92) (args := #[.pointer (some ⟨b5, 0, none⟩), .pointer (some ⟨b4, 0, none⟩)]) (by simp [settle]) (by simp [go_sem]) ?_
        refine (drop1Ok_b g5e).mono ?_
        rintro e u' w15 ⟨rfl, rfl, hw15⟩
        obtain rfl := hw15
        have c5 := cell_of (i := 0) g5e rfl
        have c4 := cell_of (i := 0) g4e rfl
        have e1 : g.dropT log before d = (0, { g with ini := [] }, dd) := by
          unfold Lg.dropT
          rw [if_neg (by rw [HDD.out]; simp), HE.out]
          rfl
        refine ⟨.tuple #[.int .i64 (n : Int), .int .i64 0], by simp [results, Tryz.results28, go_sem, c4, c5], (n : Int), by rw [e1], ?_⟩
        rw [e1]
        exact HJ.out.1.done H.out.1 hoe
      | cons b0 G' =>
        obtain ⟨m, hm2⟩ : ∃ m, G'.length = m := ⟨_, rfl⟩
        have hgl : G.length + 1 = m + 2 := by rw [hG, List.length_cons, hm2]
        rw [hgl] at hrow hfew
        have hini : ini = b0.seg :: G'.map Sg.seg := by rw [hgi, hG]; rfl
        subst hini
        subst hG
        have k9 : wr.cell? ⟨lp, 9, none⟩ = some (.slice (some ⟨gb, off, none⟩) (m + 2) c) := by
          have := cell_of (i := 9) hm.head rfl
          rw [hgl] at this
          exact this
        rw [hgl] at hm
        have hk0 : wr.cell? ⟨gb, off, none⟩ = some (.pointer (some ⟨b0.s, 0, none⟩)) := by
          have := hrow.cells rfl 0 (.pointer (some ⟨b0.s, 0, none⟩)) rfl
          simpa [Go.WideShapes.add_plain] using this
        have hcc : m + 2 ≤ c := by
          obtain ⟨o, cc, he, hh'⟩ := hrow.shape
          simp only [Value.slice.injEq] at he
          omega
        obtain ⟨En, hEn⟩ : ∃ x : Int, x = ((b0.bn + cntT b0.bs : Nat) : Int) := ⟨_, rfl⟩
        have hen := endM_b (hm.rest.each b0 (by simp))
        rw [← hEn] at hen
        have HEN := Lib.hid hen
        have HG := Lib.hid (And.intro hS (And.intro hT (And.intro hd (And.intro hm (And.intro hrow (And.intro hm2 (And.intro hcc hEn)))))))
        clear hS hT hd hm hrow hgi hgl hen hm2 hEn
        cases hle : decide (En ≤ before) with
        | false =>
          have HE : Hid (dropL log before g.ini d = (0, b0.seg :: G'.map Sg.seg, dd)) := Lib.hid (by
            rw [HJ.out.2.1]
            unfold dropL
            rw [if_pos]
            have h1 := of_decide_eq_false hle
            rw [HG.out.2.2.2.2.2.2.2] at h1
            show before < ((b0.bn + cntT b0.bs : Nat) : Int)
            omega)
          have k4 : wr.cell? ⟨b4, 0, none⟩ = some (.int .i64 (n : Int)) := cell_of HJ.out.1.box4 rfl
          have z4 : wr.frozen? ⟨b4, 0, none⟩ = false := free_of HJ.out.1.box4 _
          have k5 : wr.cell? ⟨b5, 0, none⟩ = some (.int .i64 0) := cell_of HJ.out.1.box5 rfl
          have z5 : wr.frozen? ⟨b5, 0, none⟩ = false := free_of HJ.out.1.box5 _
          go_wp2_with fail
          refine HEN.out.mono ?_
          rintro e w2 ⟨rfl, hw2⟩
          obtain rfl := hw2.symm
          clear HEN hgh HG hw2
          have hwe : ∀ we : World, we = (wr.setCell ⟨b4, 0, none⟩ (.int .i64 (n : Int))).setCell ⟨b5, 0, none⟩ (.int .i64 0) → we.heap[b4]? = some (.cells #[.int .i64 (n : Int)] 3 (0, 0)) ∧ we.heap[b5]? = some (.cells #[.int .i64 0] 28 (0, 0)) ∧ Only (fun k => k = b4 ∨ k = b5) wr we := fun we e => by
            subst e
            exact ⟨(Below.heap_setCell _ _ _ _ n45).trans (heap_setCell_here (cs := #[.int .i64 (n : Int)]) _ HJ.out.1.box4), heap_setCell_here (cs := #[.int .i64 0]) _ ((Below.heap_setCell _ _ _ _ n54).trans HJ.out.1.box5), (only_setCell (fun k => k = b4 ∨ k = b5) _ b4 0 _ (.inl rfl)).trans (only_setCell (fun k => k = b4 ∨ k = b5) _ b5 0 _ (.inr rfl)) (fun _ _ e => e)⟩
          have HWE := Lib.hid hwe
          clear hwe
          go_wp2_with fail
          obtain ⟨we, hwe⟩ : ∃ W : World, W = (wr.setCell ⟨b4, 0, none⟩ (.int .i64 (n : Int))).setCell ⟨b5, 0, none⟩ (.int .i64 0) := ⟨_, rfl⟩
          rw [← hwe]
          obtain ⟨g4e, g5e, hoe⟩ := HWE.out we hwe
          clear hwe HWE
          refine leaves_cons (f := 62) (args := #[.pointer (some ⟨b5, 0, none⟩)]) (by simp) (by simp [go_sem]) ?_
          refine caughtIdle_b.mono ?_
          rintro e u' w13 ⟨rfl, rfl, hw13⟩
          obtain rfl := hw13
          refine leaves_cons (f := 73) (args := #[.pointer (some ⟨lp, 0, none⟩), .pointer (some ⟨b5, 0, none⟩)]) (by simp [settle]) (by simp [go_sem]) ?_
          refine (diesOk_b g5e).mono ?_
          rintro e u' w14 ⟨rfl, rfl, hw14⟩
          obtain rfl := hw14
          refine leaves_cons (f := 92) (args := #[.pointer (some ⟨b5, 0, none⟩), .pointer (some ⟨b4, 0, none⟩)]) (by simp [settle]) (by simp [go_sem]) ?_
          refine (drop1Ok_b g5e).mono ?_
          rintro e u' w15 ⟨rfl, rfl, hw15⟩
          obtain rfl := hw15
          have c5 := cell_of (i := 0) g5e rfl
          have c4 := cell_of (i := 0) g4e rfl
          have e1 : g.dropT log before d = (0, { g with ini := b0.seg :: G'.map Sg.seg }, dd) := by
            unfold Lg.dropT
            rw [if_neg (by rw [HDD.out]; simp), HE.out]
            rfl
          refine ⟨.tuple #[.int .i64 (n : Int), .int .i64 0], by simp [results, Tryz.results28, go_sem, c4, c5], (n : Int), by rw [e1], ?_⟩
          rw [e1]
          exact HJ.out.1.done H.out.1 hoe
        | true =>
          have hle2 : ¬ before < ((b0.bn + cntT b0.bs : Nat) : Int) := by
            have h1 := of_decide_eq_true hle
            rw [HG.out.2.2.2.2.2.2.2] at h1
            omega
          have hm := HG.out.2.2.2.1
          obtain ⟨nm, hnm⟩ : ∃ nm, nm = segName log b0.bn := ⟨_, rfl⟩
          have hbn : b0.bn ≤ 9007199254740992 := (hm.rest.each b0 (by simp)).off
          have hna := fun W => name_ok log b0.bn W hm.lsize hm.logd hbn
          rw [show (⟨(log.data.toList ++ 45 :: hex 14 b0.bn).toArray⟩ : ByteArray) = nm from hnm.symm] at hna
          have hSS : Hid (∀ W, Below wr.heap.size wr W → Below wr.heap.size wr W ∧ W.cell? ⟨lp, 6, none⟩ = some (.string log) ∧ W.cell? ⟨lp, 9, none⟩ = some (.slice (some ⟨gb, off, none⟩) (m + 2) c) ∧ W.cell? ⟨gb, off, none⟩ = some (.pointer (some ⟨b0.s, 0, none⟩))) := Lib.hid (fun W hW =>
            ⟨hW, (hW.cell (p := ⟨lp, 6, none⟩) (Array.getElem?_eq_some_iff.1 hm.head).1).trans (cell_of hm.head rfl), (hW.cell (p := ⟨lp, 9, none⟩) (Array.getElem?_eq_some_iff.1 hm.head).1).trans k9, (hW.cell (p := ⟨gb, off, none⟩) (World.block_lt_of_cell? wr _ hk0)).trans hk0⟩)
          have HBA : Hid (∀ W, (Below wr.heap.size wr W ∧ W.cell? ⟨lp, 6, none⟩ = some (.string log) ∧ W.cell? ⟨lp, 9, none⟩ = some (.slice (some ⟨gb, off, none⟩) (m + 2) c) ∧ W.cell? ⟨gb, off, none⟩ = some (.pointer (some ⟨b0.s, 0, none⟩))) → Calls Tryz.prog 79 #[.pointer (some ⟨b0.s, 0, none⟩)] W fun e w' => e = .returned (.int .i64 (b0.bn : Int)) ∧ w' = W) := Lib.hid (fun W hW => baseM_b ((hm.later hW.1).rest.each b0 (by simp)))
          have HNA : Hid (∀ W, (Below wr.heap.size wr W ∧ W.cell? ⟨lp, 6, none⟩ = some (.string log) ∧ W.cell? ⟨lp, 9, none⟩ = some (.slice (some ⟨gb, off, none⟩) (m + 2) c) ∧ W.cell? ⟨gb, off, none⟩ = some (.pointer (some ⟨b0.s, 0, none⟩))) → Calls Tryz.prog 78 #[.string log, .int .i64 (b0.bn : Int)] W fun e w' => e = .returned (.tuple #[.string nm, .int .i64 0]) ∧ (Below wr.heap.size wr w' ∧ w'.cell? ⟨lp, 6, none⟩ = some (.string log) ∧ w'.cell? ⟨lp, 9, none⟩ = some (.slice (some ⟨gb, off, none⟩) (m + 2) c) ∧ w'.cell? ⟨gb, off, none⟩ = some (.pointer (some ⟨b0.s, 0, none⟩)))) := Lib.hid (fun W hW => (hna W).mono (fun e w' h => ⟨h.1, hSS.out w' (hW.1.trans (h.2.mono hW.1.size))⟩))
          have HNM := Lib.hid (And.intro hnm hle2)
          clear hm hbn hna hnm hle2
          go_wp2_with fail
          refine HEN.out.mono ?_
          rintro e w2 ⟨rfl, hw2⟩
          obtain rfl := hw2.symm
          clear hw2 HEN
          go_upto_region 9 with fail
          have hsd := hSS.out wr.drew (bdrew wr)
          have hix : ∀ W : World, (Instr.indexAt 80 (.slice (some ⟨gb, off, none⟩) (m + 2) c) (.int .i64 0)).run Tryz.prog W = .ok (.pointer (some ⟨gb, off, none⟩)) W := fun W => by
            simp [go_sem]
            exact fun h => absurd h (by omega)
          go_cut [6, 7] from 36 to 50 (fun s6 s7 wx => s6 = .string nm ∧ s7 = .int .i64 0 ∧ Hid (Below wr.heap.size wr wx))
          case first =>
            go_region_held3 (fun W => Below wr.heap.size wr W ∧ W.cell? ⟨lp, 6, none⟩ = some (.string log) ∧ W.cell? ⟨lp, 9, none⟩ = some (.slice (some ⟨gb, off, none⟩) (m + 2) c) ∧ W.cell? ⟨gb, off, none⟩ = some (.pointer (some ⟨b0.s, 0, none⟩)))
              (first | assumption)
              (first | (go_at_call 79; refine (HBA.out _ (by assumption)).mono ?_; rintro e wa ⟨rfl, hwa⟩; obtain rfl := hwa) | (go_at_call 78; refine (HNA.out _ (by assumption)).mono ?_; rintro e wa ⟨rfl, hsa⟩))
            all_goals
              go_wp2_with fail
              go_meet
              exact ⟨rfl, rfl, Lib.hid hsa.1⟩
          case rest =>
            obtain ⟨rfl, rfl, HW⟩ := hcut
            clear hsd HBA HNA k9 hk0
            obtain ⟨w3, hw3⟩ : ∃ W : World, W = wc := ⟨_, rfl⟩
            rw [← hw3] at HW ⊢
            clear hw3
            obtain ⟨hS, hT, hd, hm, hrow, hm2, hcc, hEn⟩ := HG.out
            have hd3 := hd.later HW.out
            have hm3 := hm.later HW.out
            have k53 : w3.cell? ⟨lp, 5, none⟩ = some (.pointer (some ⟨q, 0, none⟩)) := cell_of hm3.head rfl
            obtain ⟨r1, hr1⟩ : ∃ r, r = dd.remove (sname log b0.bn) := ⟨_, rfl⟩
            have hrm := remove_b hd3.disk nm (by
              have := segName_size (b := b0.bn) hm.lsize
              rw [HNM.out.1]
              unfold maxLen
              omega)
            rw [show nm.data.toList = sname log b0.bn by rw [HNM.out.1, segName_data], ← hr1] at hrm
            have HRM := Lib.hid hrm
            have H3 := Lib.hid (And.intro hd3 (And.intro hm3 hr1))
            clear hS hT hd hm hrow hm2 hEn hd3 hm3 hr1 hrm
            go_wp2_with fail
            refine HRM.out.mono ?_
            rintro e w4 ⟨rfl, hd4, ho4⟩
            have ht4 := (H3.out.1.diskTurn hd4 ho4).from HW.out
            have HT4 := Lib.hid (And.intro ht4 (And.intro hd4 ho4))
            clear ht4 hd4 ho4 HRM k53
            obtain ⟨e1, he1⟩ : ∃ e, r1.1 = e := ⟨_, rfl⟩
            rw [he1]
            have HE1 := Lib.hid he1
            clear he1
            by_cases h0 : e1 = 0
            · subst h0
              obtain ⟨hS, hT, hd, hm, hrow, hm2, hcc, hEn⟩ := HG.out
              have hap : ∀ k, S' k → ¬ T' k := hd.apart
              have hm4 := H3.out.2.1.only HT4.out.2.2 (fun k hk e => hap k e hk)
              have hlpT := hm.rest.lp_mem
              have hgl : gb ≠ lp := fun e => (List.nodup_cons.1 hm.rest.apart).1 (by rw [← e]; exact List.mem_append_left _ (by simp [Value.ownBlock]))
              obtain ⟨b1, G2, hb1⟩ : ∃ b1 G2, G' ++ [a] = b1 :: G2 := by
                cases G' with
                | nil => exact ⟨_, _, rfl⟩
                | cons x y => exact ⟨_, _, rfl⟩
              have hbg : Lg.begin { g with ini := G'.map Sg.seg } = b1.bn := by
                have hlb : g.lb = a.bn := hm.lb
                unfold Lg.begin
                cases G' with
                | nil =>
                  simp only [List.nil_append, List.cons.injEq] at hb1
                  rw [← hb1.1]
                  exact hlb
                | cons x y =>
                  simp only [List.cons_append, List.cons.injEq] at hb1
                  rw [← hb1.1]
                  rfl
              have hrow4 := hm4.rest.row
              have hlen : (b0 :: G' ++ [a]).length = m + 2 := by rw [List.length_append, List.length_cons, hm2]; rfl
              rw [hlen] at hrow4
              have k41 : w4.cell? ⟨gb, off + 1, none⟩ = some (.pointer (some ⟨b1.s, 0, none⟩)) := by
                have := hrow4.cells rfl 1 (.pointer (some ⟨b1.s, 0, none⟩)) (by
                  rw [List.cons_append, hb1]
                  rfl)
                simpa [Go.WideShapes.add_plain] using this
              have k49 : w4.cell? ⟨lp, 9, none⟩ = some (.slice (some ⟨gb, off, none⟩) (m + 2) c) := cell_of hm4.head rfl
              have z49 : w4.frozen? ⟨lp, 9, none⟩ = false := free_of hm4.head _
              have hsl := run_tailS gb off m c hcc
              obtain ⟨w5, hw5⟩ : ∃ W : World, W = w4.setCell ⟨lp, 9, none⟩ (.slice (some ⟨gb, off + 1, none⟩) (m + 1) (c - 1)) := ⟨_, rfl⟩
              have ho5 : Only (fun k => k = lp) w4 w5 := by rw [hw5]; exact only_setCell (fun k => k = lp) _ lp 9 _ rfl
              obtain ⟨nn, hnn⟩ : ∃ x : Int, x = ((List.length (b0 :: G') + 1 : Nat) : Int) := ⟨_, rfl⟩
              obtain ⟨xb, hxb⟩ : ∃ x : Int, x = (Lg.begin { g with ini := b0.seg :: G'.map Sg.seg } : Int) := ⟨_, rfl⟩
              have gl5 : w5.heap[lp]? = some (.cells #[.int .i64 xb, .int .i64 (g.fin : Int), .int .i64 (g.stands : Int), .int .i64 nn, .bool g.dead, .pointer (some ⟨q, 0, none⟩), .string log, .int .i64 (roll : Int), .int .i64 (step : Int), .slice (some ⟨gb, off + 1, none⟩) (m + 1) (c - 1)] 82 (0, 0)) := by
                rw [hw5, hxb, hnn]
                exact heap_setCell_here _ hm4.head
              have k51 : w5.cell? ⟨gb, off + 1, none⟩ = some (.pointer (some ⟨b1.s, 0, none⟩)) := (cell_block (p := ⟨gb, off + 1, none⟩) (ho5.block gb (World.block_lt_of_cell? w4 _ k41) hgl)).trans k41
              have hs1 : SgIs w5 q log step b1 := by
                have h1 := (hm4.rest.only ho5 (fun _ _ hne e => hne e)).each b1
                exact h1 (by rw [List.cons_append, hb1]; simp)
              have c0 : w5.cell? ⟨lp, 0, none⟩ = some (.int .i64 xb) := cell_of gl5 rfl
              have c3 : w5.cell? ⟨lp, 3, none⟩ = some (.int .i64 nn) := cell_of gl5 rfl
              have c9 : w5.cell? ⟨lp, 9, none⟩ = some (.slice (some ⟨gb, off + 1, none⟩) (m + 1) (c - 1)) := cell_of gl5 rfl
              have y0 : w5.frozen? ⟨lp, 0, none⟩ = false := free_of gl5 _
              have y3 : w5.frozen? ⟨lp, 3, none⟩ = false := free_of gl5 _
              have hix : ∀ W : World, (Instr.indexAt 80 (.slice (some ⟨gb, off + 1, none⟩) (m + 1) (c - 1)) (.int .i64 0)).run Tryz.prog W = .ok (.pointer (some ⟨gb, off + 1, none⟩)) W := fun W => by
                simp [go_sem]
              obtain ⟨xn, hxn⟩ : ∃ x : Int, x = (b1.bn : Int) := ⟨_, rfl⟩
              have HBB : Hid (∀ W, Below w5.heap.size w5 W → Calls Tryz.prog 79 #[.pointer (some ⟨b1.s, 0, none⟩)] W fun e w' => e = .returned (.int .i64 xn) ∧ w' = W) := Lib.hid (fun W hW => by
                rw [hxn]
                exact baseM_b (hs1.later hW))
              have H5 := Lib.hid (And.intro hm4 (And.intro ho5 (And.intro gl5 (And.intro hbg (And.intro hgl (And.intro hxn (And.intro hm2 hlpT)))))))
              clear hS hT hd hm hrow hm2 hEn hap hm4 hlpT hgl hb1 hbg hrow4 hlen k41 ho5 gl5 hs1 hxn hnn hxb
              go_wp2_with fail
              refine (must_ok w4).mono ?_
              rintro e w6 ⟨rfl, hw6⟩
              obtain rfl := hw6.symm
              clear hw6
              go_upto_region 12 with fail
              rw [← hw5]
              clear hw5 k49 z49
              go_cut [] from 66 to 85 (fun wx => Hid (wx.heap[lp]? = some (.cells #[.int .i64 xn, .int .i64 (g.fin : Int), .int .i64 (g.stands : Int), .int .i64 ((m : Int) + 1), .bool g.dead, .pointer (some ⟨q, 0, none⟩), .string log, .int .i64 (roll : Int), .int .i64 (step : Int), .slice (some ⟨gb, off + 1, none⟩) (m + 1) (c - 1)] 82 (0, 0)) ∧ Only (fun k => k = lp) w5 wx))
              case first =>
                refine wp_region_noPanic ?_
                go_region_law (go_simp; go_at_call 79; refine (HBB.out _ (by first | exact bdrew w5 | exact Below.refl _ _)).mono ?_; rintro e wa ⟨rfl, hwa⟩; obtain rfl := hwa)
                all_goals
                  refine NoPanic.normal ?_
                  go_wp2_with fail
                  go_meet
                  exact Lib.hid ⟨heap_setCell_here _ (heap_setCell_here _ H5.out.2.2.1), only_drew ((only_setCell (fun k => k = lp) _ lp _ _ rfl).trans (only_setCell (fun k => k = lp) _ lp _ _ rfl) (fun _ _ e => e))⟩
              case rest =>
                have HC := hcut
                clear hcut
                obtain ⟨w6, hw6⟩ : ∃ W : World, W = wc := ⟨_, rfl⟩
                rw [← hw6] at HC ⊢
                clear hw6 c0 c3 c9 y0 y3 hix k51 HBB
                obtain ⟨hS, hT, hd, hm, hrow, hm2, hcc, hEn⟩ := HG.out
                obtain ⟨hm4, ho5, gl5, hbg, hgl, hxn, -, hlpT⟩ := H5.out
                obtain ⟨gl6, ho6⟩ := HC.out
                have ho46 : Only (fun k => k = lp) w4 w6 := ho5.trans ho6 (fun _ _ e => e)
                have hmp := LogM.pop (r := G'.map Sg.seg) (s := b0.seg) hm4 hm2 ho46 (by
                  unfold logHead
                  rw [hbg, ← hxn]
                  exact gl6)
                have zw3 := HW.out.size
                have zo4 := HT4.out.2.2.size
                have zo6 := ho46.size
                have hlpw := hd.lowT lp hlpT
                have ht6 : LogTurn wr S' T' lp q log roll step { g with ini := G'.map Sg.seg } r1.2 w6 := by
                  refine ⟨Wid S' w3 w4, T', fun k hk => ?_, fun _ hk => .inl hk, ⟨HT4.out.2.1.onlyS ho46 (fun k hk e => ?_), ⟨G', a, _, hmp⟩, fun k hk hk2 => ?_⟩, ((Only.of_below HW.out (Nat.le_refl _) _).trans HT4.out.2.2 (fun _ _ e => .inl e)).trans ho46 (fun k _ e => .inr (e ▸ hlpT))⟩
                  · rcases hk with e | e
                    · exact .inl e
                    · exact .inr ⟨by have := e.1; omega, by have := e.2; omega⟩
                  · subst e
                    rcases hk with e | e
                    · exact hd.apart _ e hlpT
                    · have := e.1; omega
                  · rcases hk with e | e
                    · exact hd.apart _ e hk2
                    · have := hd.lowT k hk2
                      have := e.1
                      omega
                have hj6 := drp_turn H.out.1 hS hT HJ.out.1.only HJ.out.1.box4 HJ.out.1.box5 ht6
                obtain ⟨S6, T6, hS6, hT6, hd6⟩ := hj6.log'
                obtain ⟨r2, hr2⟩ : ∃ r, r = r1.2.syncdir := ⟨_, rfl⟩
                have hsd := syncdir_b hd6.disk
                rw [← hr2] at hsd
                have HSD := Lib.hid hsd
                have k56 : w6.cell? ⟨lp, 5, none⟩ = some (.pointer (some ⟨q, 0, none⟩)) := cell_of gl6 rfl
                have HJ6 := Lib.hid (And.intro hj6 (And.intro hS6 (And.intro hT6 (And.intro hd6 hr2))))
                clear hS hT hd hm hrow hm2 hEn hm4 ho5 gl5 hbg hgl hxn hlpT gl6 ho6 ho46 hmp zw3 zo4 zo6 hlpw ht6 hj6 hS6 hT6 hd6 hr2 hsd HC
                go_wp2_with fail
                refine HSD.out.mono ?_
                rintro e w7 ⟨rfl, hd7, ho7⟩
                have hj7 := drp_turn H.out.1 HJ6.out.2.1 HJ6.out.2.2.1 HJ6.out.1.only HJ6.out.1.box4 HJ6.out.1.box5 (HJ6.out.2.2.2.1.diskTurn hd7 ho7)
                have HJ7 := Lib.hid hj7
                clear hd7 ho7 hj7 HSD k56
                obtain ⟨e2, he2⟩ : ∃ e, r2.1 = e := ⟨_, rfl⟩
                rw [he2]
                have HE2 := Lib.hid he2
                clear he2
                have hst : dropL log before g.ini d = if e2 ≠ 0 then (e2, G'.map Sg.seg, r2.2) else dropL log before (G'.map Sg.seg) r2.2 := by
                  rw [HJ.out.2.1]
                  have h1 : (dd.remove (sname log b0.bn)).1 = 0 := by rw [← H3.out.2.2, HE1.out]
                  have h2 : (dd.remove (sname log b0.bn)).2.syncdir = r2 := by rw [← H3.out.2.2, HJ6.out.2.2.2.2]
                  rw [← HE2.out, ← h2]
                  conv => lhs; unfold dropL
                  rw [if_neg (by show ¬ before < ((b0.bn + cntT b0.bs : Nat) : Int); have := HNM.out.2; omega), if_neg (by show ¬ (dd.remove (sname log b0.bn)).1 ≠ 0; rw [h1]; simp)]
                  rfl
                have HST := Lib.hid hst
                clear hst
                by_cases h2 : e2 = 0
                · subst h2
                  have k4 : w7.cell? ⟨b4, 0, none⟩ = some (.int .i64 (n : Int)) := cell_of HJ7.out.box4 rfl
                  have z4 : w7.frozen? ⟨b4, 0, none⟩ = false := free_of HJ7.out.box4 _
                  have hn9 : n ≤ 1000000000 := by have := HF.out; have := HJ.out.2.2; omega
                  have HGH := Lib.hid hgh
                  have HSUM : Hid (n + 1 + (G'.map Sg.seg).length = g.ini.length) := Lib.hid (by have := HJ.out.2.2; simp at this ⊢; omega)
                  clear hgh
                  go_wp2_with fail
                  refine (must_ok w7).mono ?_
                  rintro e w8 ⟨rfl, hw8⟩
                  obtain rfl := hw8.symm
                  clear hw8
                  go_wp2_with fail
                  go_roundg ((G'.map Sg.seg).length + 1)
                  case measure => have := HGH.out; rw [List.length_cons] at this; omega
                  case rel => exact ⟨G'.map Sg.seg, r2.2, n + 1, rfl, Lib.hid ⟨HJ7.out.inc H.out.1, by rw [HST.out, if_neg (by simp)], HSUM.out⟩⟩
                · go_wp2_with fail
                  refine (must_no h2 w7).mono ?_
                  rintro e w8 ⟨rfl, hw8⟩
                  obtain rfl := hw8.symm
                  refine dropFails_b h2 H.out.1 HJ7.out ?_
                  intro w' h5 h4 ht
                  have e4 : g.dropT log before d = (e2, ({ g with ini := G'.map Sg.seg } : Lg).dies e2, r2.2) := by
                    have e3 := HST.out
                    rw [if_pos h2] at e3
                    unfold Lg.dropT
                    rw [if_neg (by rw [HDD.out]; simp), e3]
                  have c5 := cell_of (i := 0) h5 rfl
                  have c4 := cell_of (i := 0) h4 rfl
                  refine ⟨.tuple #[.int .i64 0, .int .i64 e2], by simp [results, Tryz.results28, go_sem, c4, c5], 0, by rw [e4], ?_⟩
                  rw [e4]
                  exact ht
            · go_wp2_with fail
              refine (must_no h0 w4).mono ?_
              rintro e w5 ⟨rfl, hw5⟩
              obtain rfl := hw5.symm
              refine dropFails_b h0 H.out.1 (drp_turn H.out.1 HG.out.1 HG.out.2.1 HJ.out.1.only HJ.out.1.box4 HJ.out.1.box5 HT4.out.1) ?_
              intro w' h5 h4 ht
              have e2 : g.dropT log before d = (e1, ({ g with ini := b0.seg :: G'.map Sg.seg } : Lg).dies e1, r1.2) := by
                have e3 : dropL log before g.ini d = (e1, b0.seg :: G'.map Sg.seg, r1.2) := by
                  rw [HJ.out.2.1]
                  unfold dropL
                  rw [if_neg (by show ¬ before < ((b0.bn + cntT b0.bs : Nat) : Int); have := HNM.out.2; omega), if_pos (by show (dd.remove (sname log b0.bn)).1 ≠ 0; rw [← H3.out.2.2, HE1.out]; exact h0)]
                  show ((dd.remove (sname log b0.bn)).1, b0.seg :: G'.map Sg.seg, (dd.remove (sname log b0.bn)).2) = _
                  rw [← H3.out.2.2, HE1.out]
                unfold Lg.dropT
                rw [if_neg (by rw [HDD.out]; simp), e3]
              have c5 := cell_of (i := 0) h5 rfl
              have c4 := cell_of (i := 0) h4 rfl
              refine ⟨.tuple #[.int .i64 0, .int .i64 e1], by simp [results, Tryz.results28, go_sem, c4, c5], 0, by rw [e2], ?_⟩
              rw [e2]
              exact ht
end Go.Proofs.YtlgcoaeddeiegaaGreat
