/- The texts Kn, Ky in one. -/
import Derived.Test.YtmkjejngnahpeaaY1
import Derived.Test.YtmkjejngnahpeaaB0
import Derived.Test.YtmkjejngnahpeaaZ2
import Derived.Test.YtmkjejngnahpeaaY4
/- law08: StopsEach, the walk. -/
namespace Go.Proofs.Ytmkjejngnahpeaa
open Go Go.Maps Go.RowKit Go.Shelf Go.Sort
attribute [local go_sem] Oper.semAt_some

def ptrCells (qs : List Nat) : List Value := qs.map fun q => .pointer (some ⟨q, 0, none⟩)
theorem ptrCells_snoc (qs : List Nat) (q : Nat) : ptrCells (qs ++ [q]) = ptrCells qs ++ [.pointer (some ⟨q, 0, none⟩)] := by simp [ptrCells]
theorem info_ptr : (Try.prog.info? 37).map (fun i => (i.zero, i.size, i.bytes)) = some (some (.pointer none), 1, 8) := by kernel_rfl
/-- the counter, and the disks seen so far -/
structure SeenI (w7 V : World) (lo : Nat) (us : List U0) (d : Dk) (bk b9 : Nat) (T : Nat → Prop) (qs : List Nat) : Prop where
  cnt : V.heap[bk]? = some (.cells #[.int .i64 (qs.length : Int)] 2 (0, 0))
  all : ∃ oa n c, qs.length = n ∧ V.heap[b9]? = some (.cells #[.slice oa n c] 150 (0, 0)) ∧ rowAt V 37 1 (.slice oa n c) n (ptrCells qs) ∧ (∀ i, (Value.slice oa n c).ownBlock = some i → lo ≤ i ∧ ¬ T i) ∧
    ∀ j (h : j < qs.length), ∃ S, DiskAt V S qs[j] (d.crash (picksOf us j)) ∧ ∀ i, S i → lo ≤ i ∧ ¬ T i ∧ (Value.slice oa n c).ownBlock ≠ some i
  below : Below w7.heap.size w7 V
  low : ∀ k, T k → lo ≤ k
  hbk : bk < b9
  hb9 : b9 + 3 = lo
  hb7 : w7.heap.size ≤ bk
theorem SeenI.kept {w7 V V' : World} {lo : Nat} {us : List U0} {d : Dk} {bk b9 : Nat} {T P : Nat → Prop} {qs : List Nat} (h : SeenI w7 V lo us d bk b9 T qs) (ho : Only P V V') (hP : ∀ i, P i → T i ∨ i = b9 + 1 ∨ i = b9 + 2) : SeenI w7 V' lo us d bk b9 T qs := by
  obtain ⟨oa, n, c, hn, h1, h2, h3, h4⟩ := h.all
  have hb := h.hbk
  have hb9 := h.hb9
  have hb7 := h.hb7
  have no : ∀ i, i < lo → i ≠ b9 + 1 → i ≠ b9 + 2 → ¬ P i := fun i hi h1 h2 hp => by
    rcases hP i hp with h' | h' | h'
    · have := h.low i h'
      omega
    · exact h1 h'
    · exact h2 h'
  have no2 : ∀ i, lo ≤ i → ¬ T i → ¬ P i := fun i hi h1 hp => by
    rcases hP i hp with h | h | h
    · exact h1 h
    · omega
    · omega
  refine ⟨(ho.block _ (Array.getElem?_eq_some_iff.1 h.cnt).1 (no _ (by omega) (by omega) (by omega))).trans h.cnt, ⟨oa, n, c, hn, (ho.block _ (Array.getElem?_eq_some_iff.1 h1).1 (no _ (by omega) (by omega) (by omega))).trans h1, h2.kept (fun k hk => ho.block k (h2.lt k hk) (no2 k (h3 k hk).1 (h3 k hk).2)), h3, fun j hj => ?_⟩, h.below.trans (ho.below (fun i hi => no i (by omega) (by omega) (by omega)) h.below.size), h.low, h.hbk, h.hb9, h.hb7⟩
  obtain ⟨S, g1, g2⟩ := h4 j hj
  exact ⟨S, g1.only2 ho (fun k hk => no2 k (g2 k hk).1 (g2 k hk).2.1), g2⟩
theorem SeenI.later {w7 V V' : World} {lo : Nat} {us : List U0} {d : Dk} {bk b9 : Nat} {T : Nat → Prop} {qs : List Nat} (h : SeenI w7 V lo us d bk b9 T qs) (hb : Below V.heap.size V V') : SeenI w7 V' lo us d bk b9 T qs :=
  h.kept (P := fun _ => False) (Only.of_below hb (Nat.le_refl _) _) (fun _ hf => hf.elim)
/-- one disk more is seen -/
theorem SeenI.step {w7 V w3 : World} {lo : Nat} {us : List U0} {d : Dk} {bk b9 : Nat} {T S : Nat → Prop} {qs : List Nat} {q m : Nat} {oa oa3 : Option Addr} {c c3 : Nat} {o : Obj} (h : SeenI w7 V lo us d bk b9 T qs) (hm : qs.length = m)
    (hbx : V.heap[b9]? = some (.cells #[.slice oa m c] 150 (0, 0))) (hd : DiskAt V S q (d.crash (picksOf us m))) (hS : ∀ i, S i → lo ≤ i ∧ ¬ T i) (hSr : ∀ i, S i → (Value.slice oa m c).ownBlock ≠ some i) (hT : ∀ k, T k → k < V.heap.size) (hlo : lo ≤ V.heap.size)
    (hr : rowAt w3 37 1 (.slice oa3 (m + 1) c3) (m + 1) (ptrCells qs ++ [.pointer (some ⟨q, 0, none⟩)])) (hg : (V.alloc o).grownBy w3 (Value.slice oa m c).ownBlock)
    (hw : (Value.slice oa3 (m + 1) c3).ownBlock = (Value.slice oa m c).ownBlock ∨ (Value.slice oa3 (m + 1) c3).ownBlock = some (V.heap.size + 1)) :
    (w3.heap[b9]? = some (.cells #[.slice oa m c] 150 (0, 0)) ∧ w3.heap[bk]? = some (.cells #[.int .i64 (m : Int)] 2 (0, 0))) ∧ Only (fun k => lo ≤ k ∧ ¬ T k) V w3 ∧
      SeenI w7 ((w3.setCell ⟨b9, 0, none⟩ (.slice oa3 (m + 1) c3)).setCell ⟨bk, 0, none⟩ (.int .i64 ((m : Int) + 1))) lo us d bk b9 T (qs ++ [q]) := by
  subst hm
  obtain ⟨oa', n', c', hn', h1, h2, h3, h4⟩ := h.all
  rw [hbx] at h1
  simp only [Option.some.injEq, Obj.cells.injEq, Array.mk.injEq, List.cons.injEq, Value.slice.injEq, and_true] at h1
  obtain ⟨rfl, rfl, rfl⟩ := h1
  have hb := h.hbk
  have hb9 := h.hb9
  have hb7 := h.hb7
  have hlt9 := (Array.getElem?_eq_some_iff.1 hbx).1
  have hltk := (Array.getElem?_eq_some_iff.1 h.cnt).1
  have hal : Only (fun _ => False) V (V.alloc o) := only_alloc _ _ _
  have hov : Only (fun k => (Value.slice oa qs.length c).ownBlock = some k) V w3 := (hal.mono (fun _ _ hf => hf.elim)).trans (Only.of_grown hg (fun k hk => hk)) (fun _ _ h => h)
  have hkeep : ∀ k, k < V.heap.size → (Value.slice oa qs.length c).ownBlock ≠ some k → w3.heap[k]? = V.heap[k]? := fun k hk hne => hov.block k hk hne
  have h9' := (hkeep b9 hlt9 (fun e => by have := (h3 _ e).1; omega)).trans hbx
  have hk' := (hkeep bk hltk (fun e => by have := (h3 _ e).1; omega)).trans h.cnt
  have hlow3 : ∀ i, (Value.slice oa3 (qs.length + 1) c3).ownBlock = some i → lo ≤ i ∧ ¬ T i := fun i hi => by
    rcases hw with e | e
    · exact h3 i (by rw [← e]; exact hi)
    · rw [hi] at e
      simp only [Option.some.injEq] at e
      refine ⟨by omega, fun ht => by have := hT i ht; omega⟩
  have hset : ∀ k, k ≠ b9 → k ≠ bk → ((w3.setCell ⟨b9, 0, none⟩ (.slice oa3 (qs.length + 1) c3)).setCell ⟨bk, 0, none⟩ (.int .i64 ((qs.length : Int) + 1))).heap[k]? = w3.heap[k]? := fun k h1 h2 => (Below.heap_setCell _ _ _ _ (fun e => h2 e)).trans (Below.heap_setCell _ _ _ _ (fun e => h1 e))
  have hsz3 : V.heap.size ≤ w3.heap.size := hov.size
  have hof : Only (fun k => k = b9 ∨ k = bk) w3 ((w3.setCell ⟨b9, 0, none⟩ (.slice oa3 (qs.length + 1) c3)).setCell ⟨bk, 0, none⟩ (.int .i64 ((qs.length : Int) + 1))) := (only_setCell (fun k => k = b9 ∨ k = bk) _ _ _ _ (.inl rfl)).trans (only_setCell (fun k => k = b9 ∨ k = bk) _ _ _ _ (.inr rfl)) (fun _ _ h => h)
  have hdisk : ∀ {S' : Nat → Prop} {q' : Nat} {d' : Dk}, DiskAt V S' q' d' → (∀ i, S' i → lo ≤ i ∧ ¬ T i ∧ (Value.slice oa qs.length c).ownBlock ≠ some i) → DiskAt ((w3.setCell ⟨b9, 0, none⟩ (.slice oa3 (qs.length + 1) c3)).setCell ⟨bk, 0, none⟩ (.int .i64 ((qs.length : Int) + 1))) S' q' d' := fun g1 g2 =>
    (g1.only2 hov (fun k hk e => (g2 k hk).2.2 e)).only2 hof (fun k hk e => by have := (g2 k hk).1; omega)
  have hfar : ∀ {S' : Nat → Prop} {q' : Nat} {d' : Dk}, DiskAt V S' q' d' → (∀ i, S' i → lo ≤ i ∧ ¬ T i ∧ (Value.slice oa qs.length c).ownBlock ≠ some i) → ∀ i, S' i → lo ≤ i ∧ ¬ T i ∧ (Value.slice oa3 (qs.length + 1) c3).ownBlock ≠ some i := fun g1 g2 i hi => by
    obtain ⟨a1, a2, a3⟩ := g2 i hi
    refine ⟨a1, a2, fun e => ?_⟩
    rcases hw with e2 | e2
    · exact a3 (by rw [← e2]; exact e)
    · rw [e] at e2
      simp only [Option.some.injEq] at e2
      have := g1.low2 i hi
      omega
  refine ⟨⟨h9', hk'⟩, hov.mono (fun k _ e => h3 k e), ?_, ?_, ?_, h.low, h.hbk, h.hb9, h.hb7⟩
  · have e : ((qs ++ [q]).length : Int) = (qs.length : Int) + 1 := by simp
    rw [e]
    refine heap_setCell_here _ ((Below.heap_setCell _ _ _ _ (fun e => ?_)).trans hk')
    dsimp only at e
    omega
  · rw [ptrCells_snoc]
    refine ⟨oa3, qs.length + 1, c3, by simp, (Below.heap_setCell _ _ _ _ (fun e => ?_)).trans (heap_setCell_here _ h9'), hr.kept (fun k hk => hset k (fun e => ?_) (fun e => ?_)), hlow3, fun j hj => ?_⟩
    · dsimp only at e
      omega
    · have := (hlow3 k hk).1
      omega
    · have := (hlow3 k hk).1
      omega
    · rw [List.length_append] at hj
      simp only [List.length_cons, List.length_nil] at hj
      by_cases hjl : j < qs.length
      · obtain ⟨S', g1, g2⟩ := h4 j hjl
        rw [List.getElem_append_left hjl]
        exact ⟨S', hdisk g1 g2, hfar g1 g2⟩
      · obtain rfl : j = qs.length := by omega
        simp only [List.getElem_concat_length]
        have g2 : ∀ i, S i → lo ≤ i ∧ ¬ T i ∧ (Value.slice oa qs.length c).ownBlock ≠ some i := fun i hi => ⟨(hS i hi).1, (hS i hi).2, hSr i hi⟩
        exact ⟨S, hdisk hd g2, hfar hd g2⟩
  · have h5 : Below w7.heap.size w7 w3 := h.below.trans (hov.below (fun i hi e => by have := (h3 i e).1; omega) h.below.size)
    exact (h5.setCell (p := ⟨b9, 0, none⟩) (by show w7.heap.size ≤ b9; omega) _).setCell (p := ⟨bk, 0, none⟩) hb7 _
end Go.Proofs.Ytmkjejngnahpeaa
/- law08: high: what is left at most, by the document; of a removed file nothing stands but what lasts. -/
namespace Go.Proofs.Ytmkjejngnahpeaa
open Go Go.Maps Go.RowKit
open Go.Proofs (encStr)

/-- what holds of a disk that calls have made -/
structure Fine (d : Dk) : Prop where
  sorted : (d.files.map (·.name)).Pairwise (· < ·)
  lasts : ∀ f ∈ d.files, f.lasts ≤ f.bytes.length
  gone : ∀ f ∈ d.files, f.there = false → f.bytes.length = f.lasts
def highF (f : F0) : F0 := cutF f (f.bytes.length - f.lasts)
theorem find_there {d : Dk} (hs : (d.files.map (·.name)).Pairwise (· < ·)) {s : List UInt8} {f : F0} (h : d.find s = some f) : ∀ g ∈ d.files, g.name = s → g.there = true := fun g hg hn => by
  have h1 := lookF_mem hs hg
  rw [hn] at h1
  unfold Dk.find Dk.at at h
  have h2 : d.files.find? (fun f => f.name == s) = some g := h1
  rw [h2] at h
  cases ht : g.there
  · simp [Option.filter, ht] at h
  · rfl
theorem Fine.next {d : Dk} (h : Fine d) : Fine d.next := ⟨h.sorted, h.lasts, h.gone⟩
theorem Fine.turn {d : Dk} (h : Fine d) {s : List UInt8} {t : F0 → F0} (hn : ∀ f, (t f).name = f.name) (hl : ∀ f ∈ d.files, f.name = s → (t f).lasts ≤ (t f).bytes.length ∧ ((t f).there = false → (t f).bytes.length = (t f).lasts)) : Fine (d.next.turn s t) := by
  refine ⟨?_, fun f hf => ?_, fun f hf hnt => ?_⟩
  · have e : (d.next.turn s t).files.map (·.name) = d.files.map (·.name) := by
      show (d.files.map fun f => if f.name = s then t f else f).map (·.name) = _
      rw [List.map_map]
      refine List.map_congr_left fun f _ => ?_
      show (if f.name = s then t f else f).name = f.name
      split
      · exact hn f
      · rfl
    rw [e]
    exact h.sorted
  · obtain ⟨g, hg, rfl⟩ := List.mem_map.1 hf
    split
    · rename_i hs
      exact (hl g hg hs).1
    · exact h.lasts g hg
  · obtain ⟨g, hg, rfl⟩ := List.mem_map.1 hf
    split at hnt
    · rename_i hs
      rw [if_pos hs]
      exact (hl g hg hs).2 hnt
    · rename_i hs
      rw [if_neg hs]
      exact h.gone g hg hnt
theorem opT_fine {d : Dk} (h : Fine d) (x : OpT) : Fine (d.opT x) := by
  unfold Dk.opT
  split
  · unfold Dk.create
    split
    · exact h
    · split
      · exact h
      · rename_i hat
        split
        · exact h
        · split
          · exact h.next
          · have hne : ∀ g ∈ d.files, g.name ≠ x.name.data.toList := fun g hg e => by
              have h1 := lookF_mem h.sorted hg
              rw [e] at h1
              have h2 : d.at x.name.data.toList = some g := h1
              rw [h2] at hat
              exact hat rfl
            refine ⟨insF_sorted ⟨x.name.data.toList, [], 0, true, false⟩ d.files h.sorted hne, fun f hf => ?_, fun f hf hnt => ?_⟩
            · rcases (mem_insF _ _ _).1 hf with rfl | h1
              · exact Nat.le_refl _
              · exact h.lasts f h1
            · rcases (mem_insF _ _ _).1 hf with rfl | h1
              · cases hnt
              · exact h.gone f h1 hnt
  · split
    · unfold Dk.append
      split
      · exact h
      · split
        · exact h
        · rename_i f hf
          split
          · exact h
          · refine h.turn (fun _ => rfl) fun g hg hn => ⟨?_, fun ht => ?_⟩
            · show g.lasts ≤ (g.bytes ++ _).length
              rw [List.length_append]
              have := h.lasts g hg
              omega
            · have h1 := find_there h.sorted hf g hg hn
              have h2 : g.there = false := ht
              rw [h1] at h2
              cases h2
    · split
      · unfold Dk.sync
        split
        · exact h
        · split
          · exact h
          · rename_i f hf
            refine h.turn (fun _ => rfl) fun g hg hn => ⟨?_, fun ht => ?_⟩
            · show (if d.fate.1 = 0 then g.bytes.length else g.lasts + min (g.bytes.length - g.lasts) d.fate.2) ≤ g.bytes.length
              have := h.lasts g hg
              split
              · exact Nat.le_refl _
              · omega
            · have h1 := find_there h.sorted hf g hg hn
              have h2 : g.there = false := ht
              rw [h1] at h2
              cases h2
      · split
        · unfold Dk.syncdir
          split
          · exact h.next
          · refine ⟨sync_sorted h.sorted, fun f hf => ?_, fun f hf hnt => ?_⟩
            · obtain ⟨g, hg, rfl⟩ := List.mem_map.1 hf
              exact h.lasts g (List.mem_filter.1 hg).1
            · obtain ⟨g, hg, rfl⟩ := List.mem_map.1 hf
              have := (List.mem_filter.1 hg).2
              have h2 : g.there = false := hnt
              rw [h2] at this
              cases this
        · split
          · unfold Dk.remove
            split
            · exact h
            · split
              · exact h
              · split
                · exact h.next
                · split
                  · refine h.turn (fun _ => rfl) fun g hg _ => ?_
                    have := h.lasts g hg
                    have e : (g.bytes.take g.lasts).length = g.lasts := by rw [List.length_take]; omega
                    exact ⟨by show g.lasts ≤ (g.bytes.take g.lasts).length; omega, fun _ => e⟩
                  · refine ⟨h.sorted.sublist ((List.filter_sublist (l := d.files) (p := fun f => f.name != x.name.data.toList)).map _), fun f hf => h.lasts f (List.mem_filter.1 hf).1, fun f hf hnt => h.gone f (List.mem_filter.1 hf).1 hnt⟩
          · exact h
theorem opsT_fine : ∀ (l : List OpT) (d : Dk), Fine d → Fine (d.opsT l)
  | [], _, h => h
  | x :: l, d, h => opsT_fine l (d.opT x) (opT_fine h x)
theorem fine_nil : Fine ⟨[], [], 0⟩ := ⟨List.Pairwise.nil, fun f hf => (by cases hf), fun f hf => (by cases hf)⟩
/-- what Most leaves is what the document says is left at most -/
theorem most_high {d : Dk} (h : Fine d) : (d.crash (mostP (unsT d.files))).files = d.files.map highF := by
  rw [crash_files]
  have := most_pairs d.files []
  rw [List.append_nil] at this
  rw [this, List.map_map]
  refine List.map_congr_left fun f hf => ?_
  show cutF f (unsF f).more = cutF f (f.bytes.length - f.lasts)
  congr 1
  unfold unsF
  cases ht : f.there
  · have := h.gone f hf ht
    simp
    omega
  · simp
end Go.Proofs.Ytmkjejngnahpeaa
