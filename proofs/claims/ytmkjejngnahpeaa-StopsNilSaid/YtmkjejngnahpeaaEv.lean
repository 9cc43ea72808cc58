/- Disk: Feed. -/
import Derived.Test.YtmkjejngnahpeaaEu
namespace Go.Proofs.Ytmkjejngnahpeaa
open Go Go.Maps Go.RowKit

def Dk.feed (d : Dk) (l : List (Int × Int)) : Int × Dk := if l.any badFate = true then (2, d) else (0, { d with fates := d.fates ++ l })
theorem fateCells_append (a b : List (Int × Int)) : fateCells a ++ fateCells b = fateCells (a ++ b) := by simp [fateCells]
set_option maxRecDepth 100000 in
set_option maxHeartbeats 1000000 in
theorem feed_b {w : World} {S : Nat → Prop} {q : Nat} {d : Dk} (h : DiskAt w S q d) {oa : Option Addr} {n c : Nat} {l : List (Int × Int)} (hn : l.length = n) (hl : readAt w 2 (.slice oa n c) n (fateCells l)) (hm : n ≤ 1000000) (hdm : d.fates.length ≤ 1000000000) :
    Calls Try.prog 64 #[.pointer (some ⟨q, 0, none⟩), .slice oa n c] w fun e w' => OpIs w S q (d.feed l) e w' := by
  obtain ⟨mb, fv, L, h⟩ := h
  go_enter Try.func64, Try.ntmps64
  go_wp2_with fail
  refine (none_b h).mono ?_
  rintro e w' ⟨rfl, rfl⟩
  go_wp2_with fail
  refine (right_b hn hl (by omega)).mono ?_
  rintro e w1 ⟨rfl, hb1⟩
  have h1 := h.below hb1
  have hl1 := hl.kept (fun k hl _ _ => hb1.block k hl)
  have hob : Only (fun k => k = q) w' w1 := Only.of_below hb1 (Nat.le_refl _) _
  obtain ⟨b, hbb⟩ : ∃ b, l.any badFate = b := ⟨_, rfl⟩
  rw [hbb]
  cases b with
  | true =>
    have HO : Hid (OpIs w' S q (d.feed l) (.returned (.int .i64 2)) w1) := Lib.hid (by
      rw [show d.feed l = (2, d) by simp [Dk.feed, hbb]]
      exact OpIs.next hob h1 2)
    clear h hl hb1 h1 hl1 hob hbb
    go_wp2_with fail
    go_ret
    exact HO.out
  | false =>
    obtain ⟨oaf, cf, rfl, _⟩ := h1.fates.shape
    obtain ⟨st, hst⟩ : ∃ st, d.steps = st := ⟨_, rfl⟩
    obtain ⟨m, hmm⟩ : ∃ m, d.fates.length = m := ⟨_, rfl⟩
    have hh := h1.head
    rw [hst, hmm] at hh
    rw [hmm] at hdm
    have hfr : rowAt w1 99 2 (.slice oaf m cf) m (fateCells d.fates) := by have := h1.fates; rwa [hmm] at this
    have hqv : ∀ k, (Value.slice oaf m cf).ownBlock = some k → k ≠ q := fun k hk he => by
      have h2 := h1.apart
      simp only [diskBlocks, List.nodup_cons] at h2
      have h3 : (Value.slice oaf d.fates.length cf).ownBlock = some k := by rw [hmm]; exact hk
      exact h2.1 (by rw [← he]; simp [h3])
    have HS : Hid (Src Try.prog w1 2 65 (.slice oa n c) n (fateCells l)) := Lib.hid (Src.of_read Try.underlying65 hl1 (fateCells_one _))
    have HF := Lib.hid hfr
    have HH := Lib.hid hh
    have H1 := Lib.hid h1
    have HOB := Lib.hid hob
    have HQV := Lib.hid hqv
    have HBB := Lib.hid (And.intro hbb (And.intro hst hmm))
    have c1 : w1.cell? ⟨q, 1, none⟩ = some (.slice oaf m cf) := cell_of hh rfl
    have hqlt : q < w1.heap.size := (Array.getElem?_eq_some_iff.1 hh).1
    clear h hl hb1 h1 hl1 hob hbb hst hmm hh hfr hqv
    go_wp2_with (at_builtin; refine wpList_append_at _ rfl (.tmp 16) (.tmp 17) 65 65 rfl 99 (.agg #[.int .i64 0, .int .i64 0]) 2 16 Try.underlying65 info_fate rfl _ m _ rfl HF.out _ n _ rfl HS.out (by unfold maxLen; omega) (by omega) ?_; intro v' w3 hr hg hown _; obtain ⟨oa', c', rfl, _⟩ := hr.shape; have hg' : w1.grownBy w3 (Value.slice oaf m cf).ownBlock := hg; have hown' : (Value.slice oa' (m + n) c').ownBlock = (Value.slice oaf m cf).ownBlock ∨ (Value.slice oa' (m + n) c').ownBlock = some w1.heap.size := hown; have hh3 : w3.heap[q]? = w1.heap[q]? := hg'.block q hqlt (fun e => HQV.out q e.symm rfl); have hc3 : w3.cell? ⟨q, 1, none⟩ = some (.slice oaf m cf) := (by rw [← c1]; exact cell_kept_at hh3); have hz3 : w3.frozen? ⟨q, 1, none⟩ = false := (by rw [frozen_kept_at hh3]; exact free_of HH.out _); have HR := Lib.hid hr; have HG := Lib.hid hg'; have HOWN := Lib.hid hown'; have HH3 := Lib.hid hh3; clear hr hg hown hg' hown' hh3)
    go_ret
    obtain ⟨w4, hw4⟩ : ∃ w4 : World, w4 = w3.setCell ⟨q, 1, none⟩ (.slice oa' (m + n) c') := ⟨_, rfl⟩
    have hset : Only (fun k => k = q) w3 w4 := by rw [hw4]; exact only_setCell (fun k => k = q) w3 q 1 _ rfl
    have hq4 : w4.heap[q]? = some (.cells #[.map (some mb), .slice oa' (m + n) c', .int .i64 st] 122 (0, 0)) := by rw [hw4]; exact heap_setCell_here _ (HH3.out.trans HH.out)
    rw [← hw4]
    have hvq : ∀ k, (Value.slice oa' (m + n) c').ownBlock = some k → k ≠ q := fun k hk => by
      rcases HOWN.out with h5 | h5
      · exact HQV.out k (by rw [← h5]; exact hk)
      · rw [h5] at hk
        simp only [Option.some.injEq] at hk
        omega
    have hr4 : rowAt w4 99 2 (.slice oa' (m + n) c') (d.fates ++ l).length (fateCells (d.fates ++ l)) := by
      rw [← fateCells_append, List.length_append, HBB.out.2.2, hn]
      exact HR.out.kept (fun k hk => hset.block k (HR.out.lt k hk) (hvq k hk))
    have ho : Only (fun k => k = q ∨ (Value.slice oaf d.fates.length cf).ownBlock = some k) w1 w4 := (Only.of_grown (S := fun k => k = q ∨ (Value.slice oaf d.fates.length cf).ownBlock = some k) HG.out (fun k hk => .inr (by rw [HBB.out.2.2]; exact hk))).trans hset (fun i _ hi => .inl hi)
    have h5 := H1.out.fates_turn (fs' := d.fates ++ l) (st' := st) ho hq4 (fun k hk => by
      rcases HOWN.out with h6 | h6
      · exact .inl (by rw [HBB.out.2.2, ← h6]; exact hk)
      · have h7 := HR.out.lt k hk
        rw [h6] at hk
        simp only [Option.some.injEq] at hk
        have := hset.size
        exact .inr ⟨by omega, by omega⟩) hr4
    have e : d.feed l = (0, { d with fates := d.fates ++ l, steps := st }) := by
      simp only [Dk.feed, HBB.out.1]
      rw [if_neg (by simp), ← HBB.out.2.1]
    rw [e]
    refine ⟨rfl, ⟨mb, _, _, h5.wider (fun k hk => ?_) (fun k hk => ?_)⟩, ?_⟩
    · rcases hk with hk | hk
      · exact .inl hk
      · exact .inr ⟨Nat.le_trans HOB.out.size hk.1, hk.2⟩
    · rcases hk with hk | hk
      · exact Nat.lt_of_lt_of_le (H1.out.low k hk) ho.size
      · exact hk.2
    · exact (HOB.out.mono (fun i _ hi => by rw [hi]; exact H1.out.q_mem)).trans ho (fun i _ hi => by
        rcases hi with hi | hi
        · rw [hi]; exact H1.out.q_mem
        · exact H1.out.foot i (by simp [diskBlocks, hi]))
end Go.Proofs.Ytmkjejngnahpeaa
