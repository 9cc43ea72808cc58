/- Disk: the fates are written. -/
import Derived.Test.YtmkjejngnahpeaaEt
namespace Go.Proofs.Ytmkjejngnahpeaa
open Go Go.Maps Go.RowKit

section
variable {w : World} {S : Nat → Prop} {q mb : Nat} {fv : Value} {L : List Fl} {d : Dk}
/-- the struct and its fates are written -/
theorem DiskIs.fates_turn {w' : World} {fv' : Value} {fs' : List (Int × Int)} {st' : Int} (h : DiskIs w S q mb fv L d) (ho : Only (fun k => k = q ∨ fv.ownBlock = some k) w w')
    (hq : w'.heap[q]? = some (.cells #[.map (some mb), fv', .int .i64 st'] 122 (0, 0))) (hob : ∀ k, fv'.ownBlock = some k → fv.ownBlock = some k ∨ (w.heap.size ≤ k ∧ k < w'.heap.size))
    (hr : rowAt w' 99 2 fv' fs'.length (fateCells fs')) : DiskIs w' (fun k => S k ∨ (w.heap.size ≤ k ∧ k < w'.heap.size)) q mb fv' L { d with fates := fs', steps := st' } := by
  have hap := h.apart
  simp only [diskBlocks, List.nodup_cons, List.mem_cons, not_or] at hap
  obtain ⟨⟨hqm, hqr⟩, hmr, hrest⟩ := hap
  have hfr := List.nodup_append.1 hrest
  have hmS : S mb := h.foot mb (by simp [diskBlocks])
  have hqS : S q := h.q_mem
  have hbS : ∀ k ∈ L.flatMap Fl.blocks, S k := fun k hk => h.foot k (by simp only [diskBlocks, List.mem_cons, List.mem_append]; exact .inr (.inr (.inr hk)))
  have hkeep : ∀ k, S k → k ≠ q → fv.ownBlock ≠ some k → w'.heap[k]? = w.heap[k]? := fun k hk h1 h2 => ho.block k (h.low k hk) (fun he => by
    rcases he with he | he
    · exact h1 he
    · exact h2 he)
  have hmf : fv.ownBlock ≠ some mb := fun e => hmr (List.mem_append_left _ (by simp [e]))
  have hbf : ∀ k ∈ L.flatMap Fl.blocks, fv.ownBlock ≠ some k := fun k hk e => hfr.2.2 k (by simp [e]) k hk rfl
  have hbq : ∀ k ∈ L.flatMap Fl.blocks, k ≠ q := fun k hk e => hqr (List.mem_append_right _ (e ▸ hk))
  exact {
    files := h.files
    head := hq
    fates := hr
    map := by
      obtain ⟨D, hown, hd⟩ := h.map
      exact ⟨D, ownsMap_kept hown (hkeep mb hmS (fun e => hqm e.symm) hmf), hd⟩
    each := fun x hx => (h.each x hx).kept (fun k hk => by
      have hk' : k ∈ L.flatMap Fl.blocks := List.mem_flatMap.2 ⟨x, hx, hk⟩
      exact hkeep k (hbS k hk') (hbq k hk') (hbf k hk'))
    apart := by
      have hfv : ∀ k, fv'.ownBlock = some k → k ≠ q ∧ k ≠ mb ∧ k ∉ L.flatMap Fl.blocks := fun k hk => by
        rcases hob k hk with h1 | h1
        · exact ⟨fun e => hqr (List.mem_append_left _ (by simp [h1, e])), fun e => hmr (List.mem_append_left _ (by simp [h1, e])), fun hm => hbf k hm h1⟩
        · have h2 := h.low q hqS
          have h3 := h.low mb hmS
          exact ⟨by omega, by omega, fun hm => by have := h.low k (hbS k hm); omega⟩
      simp only [diskBlocks, List.nodup_cons, List.mem_cons, List.mem_append, Option.mem_toList, not_or]
      refine ⟨⟨hqm, fun e => (hfv q e).1 rfl, fun hm => hbq q hm rfl⟩, ⟨fun e => (hfv mb e).2.1 rfl, fun hm => hmr (List.mem_append_right _ hm)⟩, List.nodup_append.2 ⟨?_, hfr.2.1, fun a ha b hb e => ?_⟩⟩
      · cases fv'.ownBlock <;> simp
      · subst e
        exact (hfv a (by simpa using ha)).2.2 hb
    foot := fun k hk => by
      simp only [diskBlocks, List.mem_cons, List.mem_append, Option.mem_toList] at hk
      rcases hk with rfl | rfl | hk | hk
      · exact .inl hqS
      · exact .inl hmS
      · rcases hob k hk with h1 | h1
        · exact .inl (h.foot k (by simp [diskBlocks, h1]))
        · exact .inr h1
      · exact .inl (hbS k hk)
    low := fun k hk => by
      rcases hk with hk | hk
      · exact Nat.lt_of_lt_of_le (h.low k hk) ho.size
      · exact hk.2
    sorted := h.sorted
    names := h.names
    few := h.few }
end
end Go.Proofs.Ytmkjejngnahpeaa
