/- Disk: what a script's steps make of a disk, in plain words. -/
import Derived.Test.YtmkjejngnahpeaaFs
namespace Go.Proofs.Ytmkjejngnahpeaa
open Go Go.RowKit

/-- the steps of kinds 1 to 6 -/
def Dk.doT (d : Dk) (x : StepT) : Int × Dk :=
  if x.kind = 1 then d.create x.name.data.toList
  else if x.kind = 2 then d.append x.name.data.toList x.bytes
  else if x.kind = 3 then d.sync x.name.data.toList
  else if x.kind = 4 then d.syncdir
  else if x.kind = 5 then d.cut x.name.data.toList x.n
  else if x.kind = 6 then d.remove x.name.data.toList
  else (0, d)
/-- a disk that is small: i steps were done -/
structure Small (d : Dk) (i : Nat) : Prop where
  files : d.files.length ≤ i
  bytes : ∀ f ∈ d.files, f.bytes.length ≤ 3000 * i
  steps : 0 ≤ d.steps ∧ d.steps ≤ i
  fates : d.fates.length ≤ 100 * (i + 1)
theorem fate_codes (d : Dk) : d.fate.1 = 0 ∨ d.fate.1 = 5 ∨ d.fate.1 = 6 := by
  unfold Dk.fate
  split
  · exact .inl rfl
  · split
    · exact .inr (.inl rfl)
    · split
      · exact .inr (.inr rfl)
      · exact .inl rfl
theorem Small.next {d : Dk} {i : Nat} (h : Small d i) (hi : i ≤ 100000) : Small d.next (i + 1) := by
  have h1 := h.steps
  refine ⟨Nat.le_succ_of_le h.files, fun f hf => ?_, ?_, ?_⟩
  · have := h.bytes f hf
    omega
  · show 0 ≤ wrap64 (d.steps + 1) ∧ wrap64 (d.steps + 1) ≤ _
    unfold wrap64
    omega
  · show d.fates.tail.length ≤ _
    rw [List.length_tail]
    have := h.fates
    omega
theorem Small.same {d : Dk} {i : Nat} (h : Small d i) : Small d (i + 1) := by
  have h1 := h.steps
  refine ⟨Nat.le_succ_of_le h.files, fun f hf => ?_, by omega, by have := h.fates; omega⟩
  have := h.bytes f hf
  omega
theorem Small.with {d : Dk} {i : Nat} (h : Small d i) {fs : List F0} (h1 : fs.length ≤ i) (h2 : ∀ f ∈ fs, f.bytes.length ≤ 3000 * i) : Small { d with files := fs } i := ⟨h1, h2, h.steps, h.fates⟩
theorem Small.turn {d : Dk} {i : Nat} (h : Small d (i + 1)) (h0 : ∀ f ∈ d.files, f.bytes.length ≤ 3000 * i) {s : List UInt8} {t : F0 → F0} (ht : ∀ f ∈ d.files, (t f).bytes.length ≤ f.bytes.length + 3000) : Small (d.turn s t) (i + 1) := by
  refine h.with (by rw [List.length_map]; exact h.files) (fun f hf => ?_)
  obtain ⟨g, hg, rfl⟩ := List.mem_map.1 hf
  have h1 := h0 g hg
  have h2 := ht g hg
  split <;> omega
/-- what is done is a step, what is refused changes nothing -/
def Law (d : Dk) (r : Int × Dk) : Prop := ((r.1 = 0 ∨ r.1 = 5 ∨ r.1 = 6) ∧ r.2.steps = d.steps + 1 ∧ r.2.fates = d.fates.tail) ∨ (r.1 ≠ 0 ∧ r.1 ≠ 5 ∧ r.1 ≠ 6 ∧ r.2 = d)
theorem law_step {d : Dk} {i : Nat} (h : Small d i) (hi : i ≤ 100000) {r : Int × Dk} (h1 : r.1 = 0 ∨ r.1 = 5 ∨ r.1 = 6) (h2 : r.2.steps = d.next.steps) (h3 : r.2.fates = d.next.fates) : Law d r := by
  refine .inl ⟨h1, ?_, h3⟩
  rw [h2]
  show wrap64 (d.steps + 1) = _
  have := h.steps
  unfold wrap64
  omega
theorem law_same (d : Dk) {n : Int} (h : n = 2 ∨ n = 171 ∨ n = 170 ∨ n = 4) : Law d (n, d) := .inr ⟨by simp only; omega, by simp only; omega, by simp only; omega, rfl⟩
theorem find_mem {d : Dk} {s : List UInt8} {f : F0} (h : d.find s = some f) : f ∈ d.files := by
  unfold Dk.find at h
  obtain ⟨h1, _⟩ := Option.filter_eq_some_iff.1 h
  exact List.mem_of_find?_eq_some h1
theorem doT_law {d : Dk} {i : Nat} {x : StepT} (h : Small d i) (hi : i ≤ 300) (hb : x.bytes.length ≤ 3000) (hk : 1 ≤ x.kind ∧ x.kind ≤ 6) : Law d (d.doT x) ∧ Small (d.doT x).2 (i + 1) := by
  have hn := h.next (by omega)
  have hbn : ∀ f ∈ d.next.files, f.bytes.length ≤ 3000 * i := h.bytes
  have hst : ∀ {r : Int × Dk}, (r.1 = 0 ∨ r.1 = 5 ∨ r.1 = 6) → r.2.steps = d.next.steps → r.2.fates = d.next.fates → Law d r := fun h1 h2 h3 => law_step h (by omega) h1 h2 h3
  have h12 : ∀ s b, b.length ≤ 3000 → Law d (d.append s b) ∧ Small (d.append s b).2 (i + 1) := fun s b hb => by
    unfold Dk.append
    split
    · exact ⟨law_same d (.inl rfl), h.same⟩
    · split
      · exact ⟨law_same d (.inr (.inl rfl)), h.same⟩
      · rename_i f hf
        have h1 := h.bytes f (find_mem hf)
        rw [if_neg (by omega)]
        refine ⟨hst (fate_codes d) rfl rfl, hn.turn hbn (fun g _ => ?_)⟩
        simp only [List.length_append]
        split
        · omega
        · rw [List.length_take]; omega
  unfold Dk.doT
  split
  · unfold Dk.create
    split
    · exact ⟨law_same d (.inl rfl), h.same⟩
    · split
      · exact ⟨law_same d (.inr (.inr (.inl rfl))), h.same⟩
      · have := h.files
        rw [if_neg (by omega)]
        split
        · exact ⟨hst (fate_codes d) rfl rfl, hn⟩
        · refine ⟨hst (.inl rfl) rfl rfl, hn.with (by rw [insF_length]; omega) (fun f hf => ?_)⟩
          rcases (mem_insF _ _ _).1 hf with rfl | hf
          · simp
          · have := h.bytes f hf
            omega
  · split
    · exact h12 _ _ hb
    · split
      · unfold Dk.sync
        split
        · exact ⟨law_same d (.inl rfl), h.same⟩
        · split
          · exact ⟨law_same d (.inr (.inl rfl)), h.same⟩
          · exact ⟨hst (fate_codes d) rfl rfl, hn.turn hbn (fun g _ => by simp only; omega)⟩
      · split
        · unfold Dk.syncdir
          split
          · exact ⟨hst (fate_codes d) rfl rfl, hn⟩
          · refine ⟨hst (.inl rfl) rfl rfl, hn.with ?_ (fun f hf => ?_)⟩
            · rw [List.length_map]
              have h1 := List.length_filter_le (fun f : F0 => f.there) d.files
              have h2 := h.files
              omega
            · obtain ⟨g, hg, rfl⟩ := List.mem_map.1 hf
              have := h.bytes g (List.mem_filter.1 hg).1
              simp only
              omega
        · split
          · unfold Dk.cut
            split
            · exact ⟨law_same d (.inl rfl), h.same⟩
            · split
              · exact ⟨law_same d (.inr (.inl rfl)), h.same⟩
              · split
                · exact ⟨law_same d (.inr (.inr (.inr rfl))), h.same⟩
                · split
                  · exact ⟨hst (fate_codes d) rfl rfl, hn⟩
                  · exact ⟨hst (.inl rfl) rfl rfl, hn.turn hbn (fun g _ => by simp only [List.length_take]; omega)⟩
          · split
            · unfold Dk.remove
              split
              · exact ⟨law_same d (.inl rfl), h.same⟩
              · split
                · exact ⟨law_same d (.inr (.inl rfl)), h.same⟩
                · split
                  · exact ⟨hst (fate_codes d) rfl rfl, hn⟩
                  · split
                    · exact ⟨hst (.inl rfl) rfl rfl, hn.turn hbn (fun g _ => by simp only [List.length_take]; omega)⟩
                    · refine ⟨hst (.inl rfl) rfl rfl, hn.with (Nat.le_trans (List.length_filter_le _ _) (Nat.le_succ_of_le h.files)) (fun f hf => ?_)⟩
                      have := h.bytes f (List.mem_filter.1 hf).1
                      omega
            · omega
end Go.Proofs.Ytmkjejngnahpeaa
