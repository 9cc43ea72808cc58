/- The texts Xf in one. -/
import Derived.Test.YtlgcoaeddeiegaaGreatV12
import Derived.Test.YtlgcoaeddeiegaaGreatV9
import Derived.Test.YtlgcoaeddeiegaaGreatV11
import Derived.Test.YtlgcoaeddeiegaaGreatV15
/- partlog: Drop. -/
namespace Go.Proofs.YtlgcoaeddeiegaaGreat
open Go Go.Maps Go.RowKit
attribute [local go_sem] Oper.semAt_some

set_option maxRecDepth 100000 in
set_option maxHeartbeats 1000000 in
theorem drop1Ok_b {w : World} {b5 b4 : Nat} {u : FrameMode} (h : w.heap[b5]? = some (.cells #[.int .i64 0] 28 (0, 0))) :
    CallsD Tryz.prog 92 #[.pointer (some ⟨b5, 0, none⟩), .pointer (some ⟨b4, 0, none⟩)] u w fun e u' w' => u' = u ∧ e = .returned (.tuple #[]) ∧ w' = w := by
  have k : w.cell? ⟨b5, 0, none⟩ = some (.int .i64 0) := cell_of h rfl
  refine CallsD.mono (R := fun e u' w' => u' = u ∧ e = .returned (.tuple #[]) ∧ w' = w) ?_ (fun _ _ _ h => h)
  go_enter_d Tryz.func92, Tryz.ntmps92
  go_wp2_with fail
  go_end0
  exact ⟨rfl, rfl⟩
set_option maxRecDepth 100000 in
set_option maxHeartbeats 1000000 in
theorem drop1No_b {w : World} {b5 b4 : Nat} {u : FrameMode} {er n : Int} (he : er ≠ 0) (h : w.heap[b5]? = some (.cells #[.int .i64 er] 28 (0, 0))) (h4 : w.heap[b4]? = some (.cells #[.int .i64 n] 3 (0, 0))) :
    CallsD Tryz.prog 92 #[.pointer (some ⟨b5, 0, none⟩), .pointer (some ⟨b4, 0, none⟩)] u w fun e u' w' => u' = u ∧ e = .returned (.tuple #[]) ∧ w' = w.setCell ⟨b4, 0, none⟩ (.int .i64 0) := by
  have k : w.cell? ⟨b5, 0, none⟩ = some (.int .i64 er) := cell_of h rfl
  have k4 : w.cell? ⟨b4, 0, none⟩ = some (.int .i64 n) := cell_of h4 rfl
  have z4 : w.frozen? ⟨b4, 0, none⟩ = false := free_of h4 _
  have hc : (er == 0) = false := beq_eq_false_iff_ne.2 he
  have d1 : (er != 0) = true := by unfold bne; rw [hc]; rfl
  clear hc he h h4
  refine CallsD.mono (R := fun e u' w' => u' = u ∧ e = .returned (.tuple #[]) ∧ w' = w.setCell ⟨b4, 0, none⟩ (.int .i64 0)) ?_ (fun _ _ _ h => h)
  go_enter_d Tryz.func92, Tryz.ntmps92
  go_wp2_with fail
  go_end0
  exact ⟨rfl, rfl⟩
structure DrpJ (w1 wr : World) (S T : Nat → Prop) (b4 b5 lp q : Nat) (log : ByteArray) (roll step : Nat) (g : Lg) (d : Dk) (n : Nat) : Prop where
  log' : ∃ S' T', (∀ k, S' k → Wid S w1 wr k) ∧ (∀ k, T' k → Wid T w1 wr k) ∧ LogD wr S' T' lp q log roll step g d
  only : Only (fun k => S k ∨ T k ∨ k = b4) w1 wr
  box4 : wr.heap[b4]? = some (.cells #[.int .i64 (n : Int)] 3 (0, 0))
  box5 : wr.heap[b5]? = some (.cells #[.int .i64 0] 28 (0, 0))
structure DrpB (w w1 : World) (S T : Nat → Prop) (b4 b5 : Nat) : Prop where
  below : Below w.heap.size w w1
  lowS : ∀ k, S k → k < w.heap.size
  lowT : ∀ k, T k → k < w.heap.size
  l4 : w.heap.size ≤ b4 ∧ b4 < w1.heap.size
  l5 : w.heap.size ≤ b5 ∧ b5 < w1.heap.size
  ne : b4 ≠ b5
section
variable {w w1 wr wx : World} {S T S' T' : Nat → Prop} {b4 b5 lp q n : Nat} {log : ByteArray} {roll step : Nat} {g : Lg} {d : Dk}
theorem DrpB.apart (h : DrpB w w1 S T b4 b5) (hS : ∀ k, S' k → Wid S w1 wr k) : ¬ S' b4 ∧ ¬ S' b5 := by
  refine ⟨fun hk => ?_, fun hk => ?_⟩
  · rcases hS b4 hk with e | e
    · have := h.lowS b4 e; have := h.l4; omega
    · have := e.1; have := h.l4; omega
  · rcases hS b5 hk with e | e
    · have := h.lowS b5 e; have := h.l5; omega
    · have := e.1; have := h.l5; omega
theorem DrpB.apartT (h : DrpB w w1 S T b4 b5) (hT : ∀ k, T' k → Wid T w1 wr k) : ¬ T' b4 ∧ ¬ T' b5 := by
  refine ⟨fun hk => ?_, fun hk => ?_⟩
  · rcases hT b4 hk with e | e
    · have := h.lowT b4 e; have := h.l4; omega
    · have := e.1; have := h.l4; omega
  · rcases hT b5 hk with e | e
    · have := h.lowT b5 e; have := h.l5; omega
    · have := e.1; have := h.l5; omega
theorem drp_done (hb : DrpB w w1 S T b4 b5) (h : ∃ S' T', (∀ k, S' k → Wid S w1 wr k) ∧ (∀ k, T' k → Wid T w1 wr k) ∧ LogD wr S' T' lp q log roll step g d) (hoo : Only (fun k => S k ∨ T k ∨ k = b4 ∨ k = b5) w1 wr) (ho : Only (fun k => k = b4 ∨ k = b5) wr wx) : LogTurn w S T lp q log roll step g d wx := by
  obtain ⟨S', T', hS, hT, hd⟩ := h
  obtain ⟨G, a, pv, hm⟩ := hd.log'
  have aS := hb.apart hS
  have aT := hb.apartT hT
  have zb := hb.below.size
  have zo := ho.size
  refine ⟨S', T', fun k hk => ?_, fun k hk => ?_, ⟨hd.disk.onlyS ho (fun k hk e => ?_), ⟨G, a, pv, hm.only ho (fun k hk e => ?_)⟩, hd.apart⟩, ((Only.of_below hb.below (Nat.le_refl _) _).trans hoo (fun k hk e => ?_)).trans ho (fun k hk e => ?_)⟩
  · rcases hS k hk with e | e
    · exact .inl e
    · exact .inr ⟨Nat.le_trans zb e.1, Nat.lt_of_lt_of_le e.2 zo⟩
  · rcases hT k hk with e | e
    · exact .inl e
    · exact .inr ⟨Nat.le_trans zb e.1, Nat.lt_of_lt_of_le e.2 zo⟩
  · rcases e with rfl | rfl
    · exact aS.1 hk
    · exact aS.2 hk
  · rcases e with rfl | rfl
    · exact aT.1 hk
    · exact aT.2 hk
  · rcases e with e | e | e | e
    · exact .inl e
    · exact .inr e
    · have := hb.l4; omega
    · have := hb.l5; omega
  · have := hb.l4; have := hb.l5; omega
theorem DrpJ.done (hb : DrpB w w1 S T b4 b5) (h : DrpJ w1 wr S T b4 b5 lp q log roll step g d n) (ho : Only (fun k => k = b4 ∨ k = b5) wr wx) : LogTurn w S T lp q log roll step g d wx :=
  drp_done hb h.log' (h.only.mono (fun _ _ e => by
    rcases e with e | e | e
    · exact .inl e
    · exact .inr (.inl e)
    · exact .inr (.inr (.inl e)))) ho
theorem dropFails_b {er : Int} {fn : Func} {tmps : Array Value} {R : Ending → World → Prop} (hne : er ≠ 0) (hb : DrpB w w1 S T b4 b5) (h : DrpJ w1 wr S T b4 b5 lp q log roll step g d n)
    (hR : ∀ w', w'.heap[b5]? = some (.cells #[.int .i64 er] 28 (0, 0)) → w'.heap[b4]? = some (.cells #[.int .i64 0] 3 (0, 0)) → LogTurn w S T lp q log roll step (g.dies er) d w' → ∃ v, (results fn tmps).run Tryz.prog w' = .ok v w' ∧ R (.returned v) w') :
    Leaves Tryz.prog fn tmps R [{ target := .fn (.func 62) #[], args := #[.pointer (some ⟨b5, 0, none⟩)] }, { target := .fn (.func 73) #[], args := #[.pointer (some ⟨lp, 0, none⟩), .pointer (some ⟨b5, 0, none⟩)] }, { target := .fn (.func 92) #[.pointer (some ⟨b5, 0, none⟩), .pointer (some ⟨b4, 0, none⟩)], args := #[] }] (.panicking [{ v := stopV er, recovered := false }]) wr := by
  obtain ⟨S', T', hS, hT, hd⟩ := h.log'
  obtain ⟨G, a, pv, hm⟩ := hd.log'
  have aS := hb.apart hS
  have aT := hb.apartT hT
  have hlp := hm.rest.lp_mem
  have n5 : lp ≠ b5 := fun e => aT.2 (e ▸ hlp)
  have n4 : lp ≠ b4 := fun e => aT.1 (e ▸ hlp)
  have n45 := hb.ne
  refine leaves_cons (f := 62) (args := #[.pointer (some ⟨b5, 0, none⟩)]) (by simp) (by simp [go_sem]) ?_
  refine (caughtStop_b h.box5).mono ?_
  rintro e u' w5 ⟨rfl, rfl, h55, ho5⟩
  have hm5 := hm.only ho5 (fun k hk e => aT.2 (e ▸ hk))
  have h45 := (ho5.block b4 (Array.getElem?_eq_some_iff.1 h.box4).1 n45).trans h.box4
  show Leaves Tryz.prog fn tmps R [_, _] .returning w5
  refine leaves_cons (f := 73) (args := #[.pointer (some ⟨lp, 0, none⟩), .pointer (some ⟨b5, 0, none⟩)]) (by simp) (by simp [go_sem]) ?_
  refine (diesNo_b hne h55 hm5.head rfl).mono ?_
  rintro e u' w6 ⟨rfl, rfl, hw6⟩
  have h56 : w6.heap[b5]? = some (.cells #[.int .i64 er] 28 (0, 0)) := by
    rw [hw6]
    exact (Below.heap_setCell _ _ _ _ (fun e => n5 e.symm)).trans h55
  have h46 : w6.heap[b4]? = some (.cells #[.int .i64 (n : Int)] 3 (0, 0)) := by
    rw [hw6]
    exact (Below.heap_setCell _ _ _ _ (fun e => n4 e.symm)).trans h45
  have hh6 : logHead q lp log roll step { g with dead := true } (G.length + 1) pv w6 := by
    rw [hw6]
    exact heap_setCell_here _ hm5.head
  have ho6 : Only (fun k => k = lp) w5 w6 := by rw [hw6]; exact only_setCell (fun k => k = lp) _ lp 4 _ rfl
  show Leaves Tryz.prog fn tmps R [_] .returning w6
  refine leaves_cons (f := 92) (args := #[.pointer (some ⟨b5, 0, none⟩), .pointer (some ⟨b4, 0, none⟩)]) (by simp) (by simp [go_sem]) ?_
  refine (drop1No_b hne h56 h46).mono ?_
  rintro e u' w7 ⟨rfl, rfl, hw7⟩
  show Leaves Tryz.prog fn tmps R [] .returning w7
  have e1 : g.dies er = { g with dead := true } := by unfold Lg.dies; rw [if_neg hne]
  have ho7 : Only (fun k => k = b4) w6 w7 := by rw [hw7]; exact only_setCell (fun k => k = b4) _ b4 0 _ rfl
  refine hR w7 ((ho7.block b5 (Array.getElem?_eq_some_iff.1 h56).1 (fun e => n45 e.symm)).trans h56) (by rw [hw7]; exact heap_setCell_here _ h46) ?_
  rw [e1]
  have hm6 : LogM w6 T' lp q log roll step { g with dead := true } G a pv := hm5.headTurn ho6 hh6 rfl rfl rfl ⟨hm.ok.chain, hm.ok.behind, hm.ok.ne, hm.ok.stands⟩
  have hd6 : DiskAt w6 S' q d := (hd.disk.onlyS ho5 (fun k hk e => aS.2 (e ▸ hk))).onlyS ho6 (fun k hk e => hd.apart k hk (e ▸ hlp))
  have z5 := ho5.size
  have z6 := ho6.size
  refine drp_done hb ⟨S', T', fun k hk => ?_, fun k hk => ?_, hd6, ⟨G, a, pv, hm6⟩, hd.apart⟩ ?_ (ho7.mono (fun _ _ e => .inl e))
  · rcases hS k hk with e | e
    · exact .inl e
    · exact .inr ⟨e.1, by have := e.2; omega⟩
  · rcases hT k hk with e | e
    · exact .inl e
    · exact .inr ⟨e.1, by have := e.2; omega⟩
  · refine ((h.only.mono (fun _ _ e => ?_)).trans ho5 (fun k _ e => .inr (.inr (.inr e)))).trans ho6 (fun k hk e => ?_)
    · rcases e with e | e | e
      · exact .inl e
      · exact .inr (.inl e)
      · exact .inr (.inr (.inl e))
    · subst e
      rcases hT k hlp with e | e
      · exact .inr (.inl e)
      · have := e.1; omega
end
end Go.Proofs.YtlgcoaeddeiegaaGreat
