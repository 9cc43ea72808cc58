/- Disk: rows that are written; the names of files that are there: looked through. -/
import Derived.Test.YtmkjejngnahpeaaFe
namespace Go.Proofs.Ytmkjejngnahpeaa
open Go Go.Maps Go.RowKit
open Go.Proofs (encStr)

section
variable {w : World} {e : TypeId} {n cap g off : Nat} {xs : List Value}
theorem rowAt.parts (h : rowAt w e 1 (.slice (some ⟨g, off, none⟩) n cap) n xs) : ∃ cur fr, w.heap[g]? = some (.cells cur e fr) ∧ n ≤ cap ∧ cap ≤ maxLen ∧ off + cap ≤ cur.size ∧ freeRow fr cur.size ∧ (cur.toList.drop off).take n = xs := by
  rcases h.2 with ⟨hv, _⟩ | ⟨g', o', c', cur, fr, hv, hg, hn, hm, hs, hf, ht⟩
  · cases hv
  · simp only [Value.slice.injEq, Option.some.injEq, Addr.mk.injEq] at hv
    obtain ⟨⟨rfl, rfl, -⟩, -, rfl⟩ := hv
    exact ⟨cur, fr, hg, hn, hm, by simpa using hs, hf, by simpa using ht⟩
theorem rowAt.mk' {cur : Array Value} {fr : Nat × Nat} (hg : w.heap[g]? = some (.cells cur e fr)) (hn : n ≤ cap) (hm : cap ≤ maxLen) (hs : off + cap ≤ cur.size) (hf : freeRow fr cur.size) (ht : (cur.toList.drop off).take n = xs) : rowAt w e 1 (.slice (some ⟨g, off, none⟩) n cap) n xs := by
  refine ⟨?_, .inr ⟨g, off, cap, cur, fr, rfl, hg, hn, hm, by simpa using hs, hf, by simpa using ht⟩⟩
  rw [← ht, List.length_take, List.length_drop, Array.length_toList]
  omega
theorem rowAt.free (h : rowAt w e 1 (.slice (some ⟨g, off, none⟩) n cap) n xs) {i : Nat} (hi : i < n) : w.frozen? ⟨g, off + i, none⟩ = false := by
  obtain ⟨cur, fr, hg, hn, _, hs, hf, _⟩ := h.parts
  simp only [World.frozen?, hg]
  exact hf _ (by omega)
theorem rowAt.cell1 (h : rowAt w e 1 (.slice (some ⟨g, off, none⟩) n cap) n xs) {i : Nat} {u : Value} (hu : xs[i]? = some u) : w.cell? ⟨g, off + i, none⟩ = some u := by
  have := h.cells (g := g) (off := off) rfl i u hu
  simpa [Go.WideShapes.add_plain] using this
theorem rowAt.set (h : rowAt w e 1 (.slice (some ⟨g, off, none⟩) n cap) n xs) {i : Nat} (u : Value) : rowAt (w.setCell ⟨g, off + i, none⟩ u) e 1 (.slice (some ⟨g, off, none⟩) n cap) n (xs.set i u) := by
  obtain ⟨cur, fr, hg, hn, hm, hs, hf, ht⟩ := h.parts
  refine rowAt.mk' (heap_setCell_here u hg) hn hm (by simpa using hs) (by simpa using hf) ?_
  rw [Array.toList_setIfInBounds, ← ht, List.drop_set, if_neg (by omega), ← List.take_set]
  congr 2
  omega
theorem rowAt.short (h : rowAt w e 1 (.slice (some ⟨g, off, none⟩) n cap) n xs) {i : Nat} (hi : i ≤ n) : rowAt w e 1 (.slice (some ⟨g, off, none⟩) i cap) i (xs.take i) := by
  obtain ⟨cur, fr, hg, hn, hm, hs, hf, ht⟩ := h.parts
  refine rowAt.mk' hg (by omega) hm hs hf ?_
  rw [← ht, List.take_take]
  congr 1
  omega
end
theorem zeroString (W : World) : (zeroValue 9).run Try.prog W = .ok (.string ⟨#[]⟩) W := by kernel_rfl
/-- the row's end is cleared -/
theorem run_clear_at {w : World} {n cap g off : Nat} {xs : List Value} (h : rowAt w 9 1 (.slice (some ⟨g, off, none⟩) n cap) n xs) {i : Nat} (hi : i ≤ n) :
    ∃ w', (Builtin.clear_ #[94] 0 #[.slice (if cap = i then some ⟨g, off, none⟩ else some ⟨g, off + i, none⟩) (n - i) (cap - i)]).run Try.prog w = .ok (.tuple #[]) w' ∧
      rowAt w' 9 1 (.slice (some ⟨g, off, none⟩) i cap) i (xs.take i) ∧ w.grownBy w' (some g) := by
  obtain ⟨cur, fr, hg, hn, hm, hs, hf, ht⟩ := h.parts
  by_cases hin : n = i
  · subst hin
    refine ⟨w, ?_, h.short (Nat.le_refl _), World.grownBy.refl _ _⟩
    rw [Nat.sub_self]
    split <;> simp [Builtin.clear_, run_underlying Try.underlying94]
  · have hne : ¬ cap = i := by omega
    rw [if_neg hne]
    obtain ⟨m, hmm⟩ : ∃ m, n - i = m + 1 := ⟨n - i - 1, by omega⟩
    rw [hmm]
    have hz := zeroString
    have hfit : off + i + (List.replicate (m + 1) (Value.string ⟨#[]⟩)).length ≤ cur.size := by rw [List.length_replicate]; omega
    have hst := run_storeCells_fr Try.prog g (off + i) 9 fr (List.replicate (m + 1) (Value.string ⟨#[]⟩)) 0 cur w hg hf (by simpa using hfit) (fun v hv => by rw [List.eq_of_mem_replicate hv]; rfl)
    simp only [Nat.add_zero] at hst
    obtain ⟨C, hC⟩ : ∃ C, C = (cur.toList.take (off + i) ++ List.replicate (m + 1) (Value.string ⟨#[]⟩) ++ cur.toList.drop (off + i + (List.replicate (m + 1) (Value.string ⟨#[]⟩)).length)).toArray := ⟨_, rfl⟩
    rw [← hC] at hst
    have hCs : C.size = cur.size := by
      rw [hC]
      simp only [List.size_toArray, List.length_append, List.length_take, List.length_drop, Array.length_toList]
      omega
    have hzc : (Builtin.zeroCells (Value.string ⟨#[]⟩).cells (m + 1)).toList = List.replicate (m + 1) (Value.string ⟨#[]⟩) := by
      show (Builtin.zeroCells #[Value.string ⟨#[]⟩] (m + 1)).toList = _
      simp only [Builtin.zeroCells]
      apply List.ext_getElem
      · simp
      · intro i h1 h2
        simp [Nat.mod_one]
    refine ⟨w.setRow g C, ?_, rowAt.mk' (setRow_heap w g cur C _ fr hg) (by omega) hm (by rw [hCs]; exact hs) (by rw [hCs]; exact hf) ?_, ⟨rfl, rfl, rfl, by simp, fun k _ hk => setRow_other w g k _ (fun e => hk (by simp [e]))⟩⟩
    · simp [Builtin.clear_, run_underlying Try.underlying94, hz, hzc, hst]
    · rw [hC, ← ht]
      simp only [List.append_assoc]
      rw [List.drop_append_of_le_length (by rw [List.length_take, Array.length_toList]; omega), List.take_append_of_le_length (by rw [List.length_drop, List.length_take, Array.length_toList]; omega), List.drop_take, List.take_take, List.take_take]
      congr 1
      omega
set_option maxHeartbeats 400000 in
theorem name1_b {w : World} {S : Nat → Prop} {q mb : Nat} {fv : Value} {L : List Fl} {d : Dk} (h : DiskIs w S q mb fv L d) {x : Fl} (hx : x ∈ L) {b : Nat} (hb : w.cell? ⟨b, 0, none⟩ = some (.pointer (some ⟨q, 0, none⟩))) :
    Calls Try.prog 126 #[encStr x.f.name, .pointer (some ⟨b, 0, none⟩)] w fun e w' => e = .returned (.bool (!x.f.there)) ∧ w' = w := by
  obtain ⟨nm, hnm⟩ : ∃ nm : ByteArray, nm = ⟨x.f.name.toArray⟩ := ⟨_, rfl⟩
  have hnmd : nm.data.toList = x.f.name := by rw [hnm]
  have hsz : nm.size ≤ maxLen := by
    have h3 := h.names x.f (by rw [← h.files]; exact List.mem_map_of_mem hx)
    simp only [nameOk, Bool.and_eq_true, decide_eq_true_eq] at h3
    have h4 : nm.size = x.f.name.length := by rw [← hnmd]; exact Array.length_toList.symm
    unfold maxLen
    omega
  have henc : encStr x.f.name = .string nm := by rw [hnm]
  rw [henc]
  have hlk := h.lookup1_some hx hsz hnmd.symm
  have c0 : w.cell? ⟨q, 0, none⟩ = some (.map (some mb)) := cell_of h.head rfl
  obtain ⟨th, hth⟩ : ∃ th, x.f.there = th := ⟨_, rfl⟩
  have c2 : w.cell? ⟨x.blk, 2, none⟩ = some (.bool th) := by rw [← hth]; exact cell_of (h.each x hx).cells rfl
  rw [hth]
  clear h hnm hnmd hsz henc hth
  go_enter Try.func126, Try.ntmps126
  go_wp2_with fail
  go_ret
  exact ⟨rfl, rfl⟩
end Go.Proofs.Ytmkjejngnahpeaa
