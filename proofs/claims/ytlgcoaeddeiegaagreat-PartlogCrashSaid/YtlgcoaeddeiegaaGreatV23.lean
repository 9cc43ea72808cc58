/- The texts Xh in one. -/
import Derived.Test.YtlgcoaeddeiegaaGreatV22
import Derived.BigRegion
/- partlog: Drop, the walk. -/
namespace Go.Proofs.YtlgcoaeddeiegaaGreat
open Go Go.Maps Go.RowKit
attribute [local go_sem] Oper.semAt_some

section
variable {w w1 wr wx : World} {S T S' T' : Nat → Prop} {b4 b5 lp q n : Nat} {log : ByteArray} {roll step : Nat} {g g' : Lg} {d d' : Dk}
theorem drp_turn (hb : DrpB w w1 S T b4 b5) (hS : ∀ k, S' k → Wid S w1 wr k) (hT : ∀ k, T' k → Wid T w1 wr k) (hoo : Only (fun k => S k ∨ T k ∨ k = b4) w1 wr) (h4 : wr.heap[b4]? = some (.cells #[.int .i64 (n : Int)] 3 (0, 0))) (h5 : wr.heap[b5]? = some (.cells #[.int .i64 0] 28 (0, 0)))
    (ht : LogTurn wr S' T' lp q log roll step g' d' wx) : DrpJ w1 wx S T b4 b5 lp q log roll step g' d' n := by
  obtain ⟨S2, T2, k1, k2, k3, k4⟩ := ht
  have aS := hb.apart hS
  have aT := hb.apartT hT
  have z1 := hoo.size
  have z2 := k4.size
  refine ⟨⟨S2, T2, fun k hk => ?_, fun k hk => ?_, k3⟩, hoo.trans k4 (fun k hk e => ?_), (k4.block b4 (Array.getElem?_eq_some_iff.1 h4).1 (fun e => e.elim aS.1 aT.1)).trans h4, (k4.block b5 (Array.getElem?_eq_some_iff.1 h5).1 (fun e => e.elim aS.2 aT.2)).trans h5⟩
  · rcases k1 k hk with e | e
    · rcases hS k e with e | e
      · exact .inl e
      · exact .inr ⟨e.1, Nat.lt_of_lt_of_le e.2 z2⟩
    · exact .inr ⟨Nat.le_trans z1 e.1, e.2⟩
  · rcases k2 k hk with e | e
    · rcases hT k e with e | e
      · exact .inl e
      · exact .inr ⟨e.1, Nat.lt_of_lt_of_le e.2 z2⟩
    · exact .inr ⟨Nat.le_trans z1 e.1, e.2⟩
  · rcases e with e | e
    · rcases hS k e with e | e
      · exact .inl e
      · have := e.1; omega
    · rcases hT k e with e | e
      · exact .inr (.inl e)
      · have := e.1; omega
theorem DrpJ.inc (hb : DrpB w w1 S T b4 b5) (h : DrpJ w1 wr S T b4 b5 lp q log roll step g d n) : DrpJ w1 (wr.setCell ⟨b4, 0, none⟩ (.int .i64 ((n : Int) + 1))) S T b4 b5 lp q log roll step g d (n + 1) := by
  obtain ⟨S', T', hS, hT, hd⟩ := h.log'
  obtain ⟨G, a, pv, hm⟩ := hd.log'
  have aS := hb.apart hS
  have aT := hb.apartT hT
  have ho : Only (fun k => k = b4) wr (wr.setCell ⟨b4, 0, none⟩ (.int .i64 ((n : Int) + 1))) := only_setCell (fun k => k = b4) _ b4 0 _ rfl
  have hz : (wr.setCell ⟨b4, 0, none⟩ (.int .i64 ((n : Int) + 1))).heap.size = wr.heap.size := by simp
  refine ⟨⟨S', T', fun k hk => ?_, fun k hk => ?_, ⟨hd.disk.onlyS ho (fun k hk e => aS.1 (e ▸ hk)), ⟨G, a, pv, hm.only ho (fun k hk e => aT.1 (e ▸ hk))⟩, hd.apart⟩⟩, h.only.trans ho (fun k _ e => .inr (.inr e)), heap_setCell_here _ h.box4, (ho.block b5 (Array.getElem?_eq_some_iff.1 h.box5).1 (fun e => hb.ne e.symm)).trans h.box5⟩
  · unfold Wid
    rw [hz]
    exact hS k hk
  · unfold Wid
    rw [hz]
    exact hT k hk
theorem LogM.pop {s : Nat × List Bat} {r : List (Nat × List Bat)} {b0 a : Sg} {G : List Sg} {gb off c m : Nat} (hm : LogM wr T lp q log roll step { g with ini := s :: r } (b0 :: G) a (.slice (some ⟨gb, off, none⟩) (m + 2) c)) (hl : G.length = m) (ho : Only (fun k => k = lp) wr wx) (hh : logHead q lp log roll step { g with ini := r } (m + 1) (.slice (some ⟨gb, off + 1, none⟩) (m + 1) (c - 1)) wx) :
    LogM wx T lp q log roll step { g with ini := r } G a (.slice (some ⟨gb, off + 1, none⟩) (m + 1) (c - 1)) := by
  subst hl
  have hrest := hm.rest.only ho (fun k _ hne e => hne e)
  have hrow := hrest.row
  have hc : G.length + 2 ≤ c := by
    obtain ⟨o, cc, he, hh'⟩ := hm.rest.row.shape
    simp only [Value.slice.injEq] at he
    have := hh'
    simp at this
    omega
  have hlen : (b0 :: G ++ [a]).length = G.length + 2 := by simp
  rw [hlen] at hrow
  have hs := hrow.sub 1 (G.length + 2) c (by omega) (Nat.le_refl _) hc (Nat.le_refl _)
  rw [if_neg (by omega)] at hs
  have e1 : (((b0 :: G ++ [a]).map Sg.ptr).drop (1 * 1)).take ((G.length + 2 - 1) * 1) = (G ++ [a]).map Sg.ptr := by
    show ((G ++ [a]).map Sg.ptr).take _ = _
    rw [List.take_of_length_le (by simp)]
  rw [e1] at hs
  have hini : s :: r = (b0 :: G).map Sg.seg := hm.ini
  rw [List.map_cons, List.cons.injEq] at hini
  have hap := hrest.apart
  unfold logBlocks at hap
  have hsub : (lp :: ((Value.slice (some ⟨gb, off + 1, none⟩) (G.length + 1) (c - 1)).ownBlock.toList ++ (G ++ [a]).flatMap Sg.blocks)).Sublist (lp :: ((Value.slice (some ⟨gb, off, none⟩) (G.length + 2) c).ownBlock.toList ++ (b0 :: G ++ [a]).flatMap Sg.blocks)) := by
    refine List.Sublist.cons_cons _ (List.Sublist.append (List.Sublist.refl _) ?_)
    show List.Sublist _ (b0.blocks ++ (G ++ [a]).flatMap Sg.blocks)
    exact List.sublist_append_right _ _
  exact {
    head := hh
    rest := ⟨by simpa [Go.WideShapes.add_plain] using hs, fun b hb => hrest.each b (List.mem_cons_of_mem _ hb), hap.sublist hsub, fun k hk => hrest.foot k (hsub.subset hk), hrest.low, by have := hrest.few; rw [hlen] at this; simp; omega⟩
    ini := hini.2
    lb := hm.lb
    lbs := hm.lbs
    lsize := hm.lsize
    logd := hm.logd
    ok := hm.ok.tail.1
    rollB := hm.rollB
    stepB := hm.stepB }
end
theorem run_tailS (g off m c : Nat) (hc : m + 2 ≤ c) (W : World) : (Instr.slice 80 (.slice (some ⟨g, off, none⟩) (m + 2) c) (some (.int .i64 1)) none none).run Tryz.prog W = .ok (.slice (some ⟨g, off + 1, none⟩) (m + 1) (c - 1)) W := by
  have hs : (sizeOf 156).run Tryz.prog W = .ok 1 W := by kernel_rfl
  have he : Tryz.prog.elem 80 = 156 := by kernel_rfl
  rw [run_slice_l (P := Tryz.prog) (w := W) 80 (some ⟨g, off, none⟩) (m + 2) c (by rw [he]; exact Tryz.underlying80) .i64 1 (by omega) (by omega), he, hs]
  have hne : ¬ c = 1 := by omega
  simp [Result.andThen, sliced, hne, Go.WideShapes.add_plain]
def DropIs (w : World) (S T : Nat → Prop) (lp q : Nat) (log : ByteArray) (roll step : Nat) (r : Int × Lg × Dk) (e : Ending) (w' : World) : Prop :=
  ∃ n : Int, e = .returned (.tuple #[.int .i64 n, .int .i64 r.1]) ∧ LogTurn w S T lp q log roll step r.2.1 r.2.2 w'
end Go.Proofs.YtlgcoaeddeiegaaGreat
