/- The texts Ic in one. -/
import Derived.Test.YtmkjejngnahpeaaV3
/- The document's disk: the next step. -/
namespace Go.Proofs.Ytmkjejngnahpeaa
open Go Go.Maps Go.RowKit

/-- what a step makes of the document's disk -/
def RStepIs (w : World) (S : Nat → Prop) (p : Nat) (rv : Value) (d : Dk) (e : Ending) (w' : World) : Prop :=
  ∃ (kp : Int) (fv' : Value), e = .returned (.tuple #[.int .i64 d.fate.1, .int .i64 kp]) ∧ (d.fate.1 ≠ 0 → kp = d.fate.2) ∧ RfIs w' S p rv fv' d.next ∧ Only (fun k => k = p) w w'
theorem rstep_end {w w3 : World} {S : Nat → Prop} {p : Nat} {rv fv fv' : Value} {d : Dk} {rest : List (Int × Int)} (h : RfIs w S p rv fv d) (ho : Only (fun k => k = p) w w3) (hq : w3.heap[p]? = some (.cells #[rv, fv', .int .i64 (wrap64 (d.steps + 1))] 198 (0, 0)))
    (hrest : d.fates.tail = rest) (hob : ∀ k, fv'.ownBlock = some k → fv.ownBlock = some k) (hr : rowAt w 99 2 fv' rest.length (fateCells rest)) : RfIs w3 S p rv fv' d.next := by
  subst hrest
  exact h.head_turn ho hq hob hr
set_option maxRecDepth 100000 in
set_option maxHeartbeats 1000000 in
theorem refStep_b {w : World} {S : Nat → Prop} {p : Nat} {rv fv : Value} {d : Dk} (h : RfIs w S p rv fv d) :
    Calls Try.prog 129 #[.pointer (some ⟨p, 0, none⟩)] w fun e w' => RStepIs w S p rv d e w' := by
  obtain ⟨oa, cap, rfl, hnc⟩ := h.fates.shape
  obtain ⟨st, hst⟩ : ∃ st, d.steps = st := ⟨_, rfl⟩
  obtain ⟨fs, hfs⟩ : ∃ fs, d.fates = fs := ⟨_, rfl⟩
  have hplt : p < w.heap.size := h.low p h.footp
  have hh := h.head
  rw [hst, hfs] at hh
  have c2 : w.cell? ⟨p, 2, none⟩ = some (.int .i64 st) := cell_of hh rfl
  have z2 : w.frozen? ⟨p, 2, none⟩ = false := free_of hh _
  have H := Lib.hid h
  have HH := Lib.hid hh
  have HNC := Lib.hid hnc
  clear h hh hnc
  go_enter Try.func129, Try.ntmps129
  go_upto_region 2 with fail
  obtain ⟨st', hst'⟩ : ∃ st', wrap64 (st + 1) = st' := ⟨_, rfl⟩
  rw [hst']
  obtain ⟨w2, hw2⟩ : ∃ w2 : World, w2 = w.setCell ⟨p, 2, none⟩ (.int .i64 st') := ⟨_, rfl⟩
  have hp2 : w2.heap[p]? = some (.cells #[rv, .slice oa fs.length cap, .int .i64 st'] 198 (0, 0)) := by rw [hw2]; exact heap_setCell_here _ HH.out
  have ho2 : Only (fun k => k = p) w w2 := by rw [hw2]; exact only_setCell (fun k => k = p) _ _ _ _ rfl
  rw [← hw2]
  clear hw2 c2 z2
  have HO2 := Lib.hid ho2
  have HST := Lib.hid (And.intro hst hst')
  clear ho2 hst' hst
  have c1 : w2.cell? ⟨p, 1, none⟩ = some (.slice oa fs.length cap) := cell_of hp2 rfl
  have z1 : w2.frozen? ⟨p, 1, none⟩ = false := free_of hp2 _
  cases fs with
  | nil =>
    have HF : Hid (d.fates = []) := Lib.hid hfs
    have HR : Hid (rowAt w 99 2 (.slice oa 0 cap) 0 (fateCells [])) := Lib.hid (by have := H.out.fates; rw [hfs] at this; exact this)
    have HP2 := Lib.hid hp2
    clear hfs hp2
    go_wp2_with fail
    go_ret2
    refine ⟨0, .slice oa 0 cap, by simp [Dk.fate, HF.out], fun hne => absurd (by simp [Dk.fate, HF.out]) hne, rstep_end (rest := []) H.out HO2.out (HP2.out.trans ?_) (by rw [HF.out]; rfl) (fun k hk => by rw [HF.out]; exact hk) HR.out, HO2.out⟩
    rw [← HST.out.2, ← HST.out.1]
    rfl
  | cons f rest =>
    obtain ⟨k0, n0⟩ := f
    have hrow := H.out.fates
    have hlen : d.fates.length = rest.length + 1 := by rw [hfs]; rfl
    rw [hfs] at hrow
    obtain ⟨g, off, rfl⟩ := hrow.addr (by simp)
    have hgp : g ≠ p := H.out.fp g (by simp [Value.ownBlock])
    have hglt : g < w.heap.size := hrow.lt g rfl
    have hgw : w2.heap[g]? = w.heap[g]? := HO2.out.block g hglt hgp
    have hrow2 : rowAt w2 99 2 (.slice (some ⟨g, off, none⟩) (rest.length + 1) cap) (rest.length + 1) (fateCells ((k0, n0) :: rest)) := hrow.kept (fun k hk => by
      simp only [Value.ownBlock, Option.some.injEq] at hk
      rw [← hk]; exact hgw)
    have f0 : w2.cell? ⟨g, off, none⟩ = some (.int .i64 k0) := by
      have := hrow2.cells (g := g) (off := off) rfl 0 (.int .i64 k0) rfl
      simpa [Go.WideShapes.add_plain] using this
    have f1 : w2.cell? ⟨g, off + 1, none⟩ = some (.int .i64 n0) := by
      have := hrow2.cells (g := g) (off := off) rfl 1 (.int .i64 n0) rfl
      simpa [Go.WideShapes.add_plain] using this
    have hnc : rest.length + 1 ≤ cap := by rw [← hlen]; exact HNC.out
    have hsub := hrow.sub 1 (rest.length + 1) cap (by omega) (Nat.le_refl _) hnc (Nat.le_refl _)
    obtain ⟨oa', hfv⟩ : ∃ oa' : Option Addr, oa' = if cap = 1 then some ⟨g, off, none⟩ else (some (⟨g, off, none⟩ : Addr)).map (·.add (1 * 2)) := ⟨_, rfl⟩
    obtain ⟨c', hc'⟩ : ∃ c', c' = cap - 1 := ⟨_, rfl⟩
    have hown : (Value.slice oa' rest.length c').ownBlock = some g := by rw [hfv]; exact sub_own _ _ _ _ _ _
    obtain ⟨n1, hn1⟩ : ∃ n1, n1 = rest.length + 1 := ⟨_, rfl⟩
    have hsl : ∀ W : World, (Instr.slice 65 (.slice (some ⟨g, off, none⟩) n1 cap) (some (.int .i64 1)) none none).run Try.prog W = .ok (.slice oa' rest.length c') W := fun W => by rw [hfv, hn1, hc']; exact run_tail g off rest.length cap W
    have hn0 : ((n1 : Int) == 0) = false := by simp; omega
    have hn2 : (0 : Int) < (n1 : Int) := by omega
    have hn3 : (1 : Int) ≤ (n1 : Int) := by omega
    rw [List.length_cons, ← hn1] at c1 hp2
    have HSUB : Hid (rowAt w 99 2 (.slice oa' rest.length c') rest.length (fateCells rest)) := Lib.hid (by
      rw [hfv, hc']
      have e : (((fateCells ((k0, n0) :: rest)).drop (1 * 2)).take ((rest.length + 1 - 1) * 2)) = fateCells rest := by
        rw [fateCells_cons]
        show (fateCells rest).take (rest.length * 2) = fateCells rest
        exact List.take_of_length_le (Nat.le_of_eq (fateCells_length rest))
      rw [e] at hsub
      simpa using hsub)
    have HOWN := Lib.hid hown
    have HG : Hid (g ≠ p ∧ g < w.heap.size) := Lib.hid ⟨hgp, hglt⟩
    have HFS := Lib.hid hfs
    have HP2 := Lib.hid hp2
    clear hrow hrow2 hsub hfv hown hfs hgw hlen hnc hglt hgp hn1 hp2 hc'
    go_upto_region 5 with fail
    obtain ⟨w3, hw3⟩ : ∃ w3 : World, w3 = w2.alloc (.cells #[.int .i64 k0, .int .i64 n0] 99) := ⟨_, rfl⟩
    obtain ⟨r', hr'⟩ : ∃ r', r' = w2.heap.size := ⟨_, rfl⟩
    have hx3 : w3.heap[r']? = some (.cells #[.int .i64 k0, .int .i64 n0] 99 (0, 0)) := by rw [hw3, hr']; exact alloc_cells _ _ _
    have hp3 : w3.heap[p]? = some (.cells #[rv, .slice (some ⟨g, off, none⟩) n1 cap, .int .i64 st'] 198 (0, 0)) := by
      rw [hw3]
      exact (Below.heap_alloc _ _ p (Nat.lt_of_lt_of_le hplt HO2.out.size)).trans HP2.out
    have ho3 : Only (fun k => k = p) w w3 := by rw [hw3]; exact HO2.out.trans (only_alloc (fun k => k = p) _ _) (fun _ _ h => h)
    have hrr : r' ≠ p ∧ w.heap.size ≤ r' := by
      have h2 := HO2.out.size
      omega
    rw [← hw3, ← hr']
    clear hw3 hr' HP2 HO2 c1 z1 f0 f1
    have c1 : w3.cell? ⟨p, 1, none⟩ = some (.slice (some ⟨g, off, none⟩) n1 cap) := cell_of hp3 rfl
    have z1 : w3.frozen? ⟨p, 1, none⟩ = false := free_of hp3 _
    go_upto_region 6 with fail
    obtain ⟨w4, hw4⟩ : ∃ w4 : World, w4 = w3.setCell ⟨p, 1, none⟩ (.slice oa' rest.length c') := ⟨_, rfl⟩
    have hx4 : w4.heap[r']? = some (.cells #[.int .i64 k0, .int .i64 n0] 99 (0, 0)) := by rw [hw4]; exact (Below.heap_setCell _ _ _ _ hrr.1).trans hx3
    have hp4 : w4.heap[p]? = some (.cells #[rv, .slice oa' rest.length c', .int .i64 st'] 198 (0, 0)) := by rw [hw4]; exact heap_setCell_here _ hp3
    have ho4 : Only (fun k => k = p) w w4 := by rw [hw4]; exact ho3.trans (only_setCell (fun k => k = p) _ _ _ _ rfl) (fun _ _ h => h)
    rw [← hw4]
    clear hw4 hx3 hp3 ho3 c1 z1 hsl
    have x0 : w4.cell? ⟨r', 0, none⟩ = some (.int .i64 k0) := cell_of hx4 rfl
    have x1 : w4.cell? ⟨r', 1, none⟩ = some (.int .i64 n0) := cell_of hx4 rfl
    have HEND : Hid (∀ (er kp : Int) (W : World), er = d.fate.1 → (er ≠ 0 → kp = d.fate.2) → W = w4 ∨ W = w4.drew → RStepIs w S p rv d (.returned (.tuple #[.int .i64 er, .int .i64 kp])) W) := Lib.hid (fun er kp W he hk hW => by
      have hr : RStepIs w S p rv d (.returned (.tuple #[.int .i64 er, .int .i64 kp])) w4 := by
        refine ⟨kp, _, by rw [he], by rw [← he]; exact hk, rstep_end (rest := rest) H.out ho4 (hp4.trans ?_) (by rw [HFS.out]; rfl) (fun k hk => ?_) HSUB.out, ho4⟩
        · rw [← HST.out.2, ← HST.out.1]
        · rw [HOWN.out] at hk
          rw [← hk]; simp [Value.ownBlock]
      rcases hW with rfl | rfl
      · exact hr
      · obtain ⟨a, b, h1, h2, h3, h4⟩ := hr
        exact ⟨a, b, h1, h2, h3.kept (fun _ _ => rfl) (Nat.le_refl _), only_drew h4⟩)
    obtain ⟨b1, hb1⟩ : ∃ b, ((k0 == 1) : Bool) = b := ⟨_, rfl⟩
    obtain ⟨b2, hb2⟩ : ∃ b, ((k0 == 2) : Bool) = b := ⟨_, rfl⟩
    have HB : Hid ((k0 = 1 ↔ b1 = true) ∧ (k0 = 2 ↔ b2 = true)) := Lib.hid ⟨by rw [← hb1]; simp, by rw [← hb2]; simp⟩
    clear hx4 hp4 ho4
    by_cases hpos : 0 < n0
    case pos =>
      cases b1
      · cases b2
        · have HE : Hid ((0 : Int) = d.fate.1) := Lib.hid (by
            have h1 : ¬ k0 = 1 := fun h => by simpa using HB.out.1.1 h
            have h2 : ¬ k0 = 2 := fun h => by simpa using HB.out.2.1 h
            simp [Dk.fate, HFS.out, h1, h2])
          go_wp2_with fail
          go_ret2
          exact HEND.out 0 0 _ HE.out (fun h => absurd rfl h) (.inl rfl)
        · have h1 : ¬ k0 = 1 := fun h => by simpa using HB.out.1.1 h
          have h2 : k0 = 2 := HB.out.2.2 rfl
          have HE : Hid ((6 : Int) = d.fate.1 ∧ (n0 : Int) = d.fate.2) := Lib.hid (by
            simp [Dk.fate, HFS.out, h2]
            omega)
          clear h1 h2
          go_wp2_with fail
          go_region
          all_goals go_wp2_with fail
          all_goals go_ret2
          all_goals exact HEND.out 6 n0 _ HE.out.1 (fun _ => HE.out.2) (.inr rfl)
      · have h1 : k0 = 1 := HB.out.1.2 rfl
        have HE : Hid ((5 : Int) = d.fate.1 ∧ (n0 : Int) = d.fate.2) := Lib.hid (by
          simp [Dk.fate, HFS.out, h1]
          omega)
        clear h1
        go_wp2_with fail
        go_region
        all_goals go_wp2_with fail
        all_goals go_ret2
        all_goals exact HEND.out 5 n0 _ HE.out.1 (fun _ => HE.out.2) (.inr rfl)
    case neg =>
      cases b1
      · cases b2
        · have HE : Hid ((0 : Int) = d.fate.1) := Lib.hid (by
            have h1 : ¬ k0 = 1 := fun h => by simpa using HB.out.1.1 h
            have h2 : ¬ k0 = 2 := fun h => by simpa using HB.out.2.1 h
            simp [Dk.fate, HFS.out, h1, h2])
          go_wp2_with fail
          go_ret2
          exact HEND.out 0 0 _ HE.out (fun h => absurd rfl h) (.inl rfl)
        · have h1 : ¬ k0 = 1 := fun h => by simpa using HB.out.1.1 h
          have h2 : k0 = 2 := HB.out.2.2 rfl
          have HE : Hid ((6 : Int) = d.fate.1 ∧ (0 : Int) = d.fate.2) := Lib.hid (by
            simp [Dk.fate, HFS.out, h2]
            omega)
          clear h1 h2
          go_wp2_with fail
          go_region
          all_goals go_wp2_with fail
          all_goals go_ret2
          all_goals exact HEND.out 6 0 _ HE.out.1 (fun _ => HE.out.2) (.inr rfl)
      · have h1 : k0 = 1 := HB.out.1.2 rfl
        have HE : Hid ((5 : Int) = d.fate.1 ∧ (0 : Int) = d.fate.2) := Lib.hid (by
          simp [Dk.fate, HFS.out, h1]
          omega)
        clear h1
        go_wp2_with fail
        go_region
        all_goals go_wp2_with fail
        all_goals go_ret2
        all_goals exact HEND.out 5 0 _ HE.out.1 (fun _ => HE.out.2) (.inr rfl)
end Go.Proofs.Ytmkjejngnahpeaa
