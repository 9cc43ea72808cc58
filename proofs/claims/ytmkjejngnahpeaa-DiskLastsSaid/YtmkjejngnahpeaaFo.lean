/- Disk: Copy: a file is copied. -/
import Derived.Test.YtmkjejngnahpeaaFn
namespace Go.Proofs.Ytmkjejngnahpeaa
open Go Go.Maps Go.RowKit Go.Shelf
open Go.Proofs (encStr)

theorem DiskIs.cells_or {w : World} {S : Nat → Prop} {q mb : Nat} {fv : Value} {L : List Fl} {d : Dk} (h : DiskIs w S q mb fv L d) : ∀ k ∈ diskBlocks q mb fv L, k = mb ∨ ∃ cs T fr, w.heap[k]? = some (.cells cs T fr) := fun k hk => by
  simp only [diskBlocks, List.mem_cons, List.mem_append, Option.mem_toList, List.mem_flatMap, Fl.blocks] at hk
  have hrow : ∀ (e : TypeId) (size : Nat) (v : Value) (n : Nat) (xs : List Value), rowAt w e size v n xs → v.ownBlock = some k → ∃ cs T fr, w.heap[k]? = some (.cells cs T fr) := fun e size v n xs hr hv => by
    rcases hr.2 with ⟨rfl, _⟩ | ⟨g, off, c, cur, fr, rfl, hg, _⟩
    · simp [Value.ownBlock] at hv
    · simp only [Value.ownBlock, Option.some.injEq] at hv
      subst hv
      exact ⟨cur, _, fr, hg⟩
  rcases hk with rfl | rfl | hk | ⟨x, hx, hk⟩
  · exact .inr ⟨_, _, _, h.head⟩
  · exact .inl rfl
  · exact .inr (hrow _ _ _ _ _ h.fates hk)
  · rcases hk with rfl | hk
    · exact .inr ⟨_, _, _, (h.each x hx).cells⟩
    · exact .inr (hrow _ _ _ _ _ (h.each x hx).row hk)
/-- what is no cells turns, but not the disk's map -/
theorem DiskIs.own {w w' : World} {S : Nat → Prop} {q mb : Nat} {fv : Value} {L : List Fl} {d : Dk} {row : Option Nat} (h : DiskIs w S q mb fv L d) (hg : w.grownBy w' row) (hr : ∀ r, row = some r → r ≠ mb ∧ ∃ o : Obj, w.heap[r]? = some o ∧ o.isCells = false) : DiskIs w' S q mb fv L d := by
  have h1 : DiskIs w (fun k => k ∈ diskBlocks q mb fv L) q mb fv L d := { h with foot := fun k hk => hk, low := fun k hk => h.low k (h.foot k hk) }
  have h2 := h1.kept (w' := w') (fun k hk => hg.block k (h1.low k hk) (fun e => by
    obtain ⟨hne, o, ho, hc⟩ := hr k e.symm
    rcases h.cells_or k hk with h3 | ⟨cs, T, fr, h3⟩
    · exact hne h3
    · rw [h3] at ho
      cases ho
      simp [Obj.isCells] at hc)) hg.size
  exact h2.wider (fun k hk => h.foot k hk) (fun k hk => Nat.lt_of_lt_of_le (h.low k hk) hg.size)
/-- both disks, while files are copied -/
structure CopyPre (w0 W : World) (S : Nat → Prop) (q mb : Nat) (fv : Value) (L : List Fl) (d : Dk) (tb qo mo : Nat) (fvo : Value) (pre : List (FlOf L)) : Prop where
  old : DiskIs W S q mb fv L d
  only : Only (fun k => k = mo) w0 W
  box : W.heap[tb]? = some (.cells #[.pointer (some ⟨qo, 0, none⟩)] 37 (0, 0))
  head : W.heap[qo]? = some (.cells #[.map (some mo), fvo, .int .i64 d.steps] 122 (0, 0))
  map : ∃ D n, n ≤ pre.length ∧ W.ownsMap Try.prog 9 ptrElem mo n D
  real : pre.Nodup → ∃ Lo fl, DiskIs W (fun k => (k = qo ∨ k = mo ∨ fvo.ownBlock = some k ∨ w0.heap.size ≤ k) ∧ k < W.heap.size) qo mo fvo Lo ⟨fl, d.fates, d.steps⟩ ∧ Lo.length = pre.length ∧ ∀ f, f ∈ fl ↔ ∃ x ∈ pre, f = x.1.f
theorem CopyPre.own {w0 W W' : World} {S : Nat → Prop} {q mb : Nat} {fv : Value} {L : List Fl} {d : Dk} {tb qo mo : Nat} {fvo : Value} {pre : List (FlOf L)} {row : Option Nat} (h : CopyPre w0 W S q mb fv L d tb qo mo fvo pre) (hs : ∀ k, S k → k < w0.heap.size) (ht : tb < w0.heap.size ∧ qo < w0.heap.size ∧ mo < w0.heap.size)
    (hg : W.grownBy W' row) (hr : ∀ r, row = some r → w0.heap.size ≤ r ∧ ∃ o : Obj, W.heap[r]? = some o ∧ o.isCells = false) : CopyPre w0 W' S q mb fv L d tb qo mo fvo pre := by
  have hsz := h.only.size
  have hk : ∀ k, k < w0.heap.size → W'.heap[k]? = W.heap[k]? := fun k hk => hg.block k (by omega) (fun e => by have := (hr k e.symm).1; omega)
  refine ⟨h.old.kept (fun k hk' => hk k (hs k hk')) hg.size, ?_, (hk tb ht.1).trans h.box, (hk qo ht.2.1).trans h.head, ?_, fun hnd => ?_⟩
  · exact h.only.trans (Only.of_grown (S := fun k => w0.heap.size ≤ k) hg (fun k e => (hr k e).1)) (fun i hi hi' => by omega)
  · obtain ⟨D, n, hn, ho⟩ := h.map
    exact ⟨D, n, hn, ownsMap_kept ho (hk mo ht.2.2)⟩
  · obtain ⟨Lo, fl, hd, hl, hf⟩ := h.real hnd
    exact ⟨Lo, fl, (hd.own hg (fun r e => ⟨by have := (hr r e).1; omega, (hr r e).2⟩)).wider (fun k hk => ⟨hk.1, Nat.lt_of_lt_of_le hk.2 hg.size⟩) (fun k hk => hk.2), hl, hf⟩
/-- the map that the next file goes into -/
theorem CopyPre.next {w0 W : World} {S : Nat → Prop} {q mb : Nat} {fv : Value} {L : List Fl} {d : Dk} {tb qo mo : Nat} {fvo : Value} {pre : List (FlOf L)} (h : CopyPre w0 W S q mb fv L d tb qo mo fvo pre) (x : FlOf L) :
    ∃ D n, n ≤ pre.length ∧ W.ownsMap Try.prog 9 ptrElem mo n D ∧ ((pre ++ [x]).Nodup → ∃ Lo fl, DiskIs W (fun k => (k = qo ∨ k = mo ∨ fvo.ownBlock = some k ∨ w0.heap.size ≤ k) ∧ k < W.heap.size) qo mo fvo Lo ⟨fl, d.fates, d.steps⟩ ∧ Lo.length = pre.length ∧ (∀ f, f ∈ fl ↔ ∃ x ∈ pre, f = x.1.f) ∧ Dic D (pairsF Lo)) := by
  by_cases hnd : (pre ++ [x]).Nodup
  · obtain ⟨Lo, fl, hd, hl, hf⟩ := h.real (List.nodup_append.1 hnd).1
    obtain ⟨D, ho, _, hdic⟩ := hd.look
    exact ⟨D, Lo.length, by omega, ho, fun _ => ⟨Lo, fl, hd, hl, hf, hdic⟩⟩
  · obtain ⟨D, n, hn, ho⟩ := h.map
    exact ⟨D, n, hn, ho, fun hc => absurd hc hnd⟩
/-- a file has been copied -/
theorem CopyPre.step {w0 W W1 W2 W3 W4 : World} {S : Nat → Prop} {q mb : Nat} {fv : Value} {L : List Fl} {d : Dk} {tb qo mo n : Nat} {fvo v : Value} {pre : List (FlOf L)} {x : FlOf L} {D : DataW Unit} (h : CopyPre w0 W S q mb fv L d tb qo mo fvo pre) (hs : ∀ k, S k → k < w0.heap.size ∧ k ≠ mo) (ht : tb < w0.heap.size ∧ qo < w0.heap.size ∧ mo < w0.heap.size ∧ tb ≠ mo ∧ qo ≠ mo)
    (hn : n ≤ pre.length) (hreal : (pre ++ [x]).Nodup → ∃ Lo fl, DiskIs W (fun k => (k = qo ∨ k = mo ∨ fvo.ownBlock = some k ∨ w0.heap.size ≤ k) ∧ k < W.heap.size) qo mo fvo Lo ⟨fl, d.fates, d.steps⟩ ∧ Lo.length = pre.length ∧ (∀ f, f ∈ fl ↔ ∃ x ∈ pre, f = x.1.f) ∧ Dic D (pairsF Lo))
    (hW1 : W1 = W.alloc (.cells #[x.1.bv, .int .i64 x.1.f.lasts, .bool x.1.f.there, .bool x.1.f.named] 178)) (hnb : NewBytes W1 W2 v x.1.f.bytes) (hW3 : W3 = W2.setCell ⟨W.heap.size, 0, none⟩ v) (hg : W3.grownBy W4 (some mo))
    (hm : W4.ownsMap Try.prog 9 ptrElem mo (n + 1) (D.put (.string x.1.f.name) (.lit (.int .i64 W.heap.size)))) (hlen : pre.length < L.length) :
    CopyPre w0 W4 S q mb fv L d tb qo mo fvo (pre ++ [x]) ∧ Only (fun k => k = mo) W W4 := by
  obtain ⟨hb, hown, hbl⟩ := hnb
  have hs1 : W1.heap.size = W.heap.size + 1 := by rw [hW1]; simp
  have hs2 := hbl.size
  have hs3 : W3.heap.size = W2.heap.size := by rw [hW3]; simp [World.setCell]
  have hs4 := hg.size
  have hsz := h.only.size
  have hc1 : W1.heap[W.heap.size]? = some (.cells #[x.1.bv, .int .i64 x.1.f.lasts, .bool x.1.f.there, .bool x.1.f.named] 178 (0, 0)) := by rw [hW1]; exact alloc_cells _ _ _
  have hc2 : W2.heap[W.heap.size]? = some (.cells #[x.1.bv, .int .i64 x.1.f.lasts, .bool x.1.f.there, .bool x.1.f.named] 178 (0, 0)) := (hbl.block _ (by omega)).trans hc1
  have hc3 : W3.heap[W.heap.size]? = some (.cells #[v, .int .i64 x.1.f.lasts, .bool x.1.f.there, .bool x.1.f.named] 178 (0, 0)) := by rw [hW3]; exact heap_setCell_here _ hc2
  have ho13 : Only (fun _ => False) W W3 := by
    have h1 : Only (fun _ => False) W W1 := by rw [hW1]; exact only_alloc _ _ _
    have h2 : Only (fun _ => False) W1 W2 := Only.of_below hbl (Nat.le_refl _) _
    have h3 : Only (fun k => k = W.heap.size) W2 W3 := by rw [hW3]; exact only_setCell (fun k => k = W.heap.size) _ _ _ _ rfl
    exact (h1.trans h2 (fun _ _ h => h)).trans h3 (fun i hi he => by omega)
  have ho : Only (fun k => k = mo) W W4 := (ho13.mono (fun _ _ h => h.elim)).trans (Only.of_grown (S := fun k => k = mo) hg (fun k hk => by simp at hk; exact hk.symm)) (fun _ _ h => h)
  have hx3 : FlAt W3 ⟨x.1.f, W.heap.size, v⟩ := by
    have hold := h.old.each x.1 x.2
    refine ⟨hc3, ?_, hold.lasts, hold.size⟩
    refine hb.kept (fun k hk => ?_)
    rw [hW3]
    exact Below.heap_setCell _ _ _ _ (fun e => by dsimp only at e; have := hown k hk; omega)
  have hkeep : ∀ k, k < w0.heap.size → k ≠ mo → W4.heap[k]? = W.heap[k]? := fun k h1 h2 => ho.block k (by omega) h2
  refine ⟨⟨h.old.kept (fun k hk => hkeep k (hs k hk).1 (hs k hk).2) ho.size, h.only.trans ho (fun _ _ h => h), (hkeep tb ht.1 ht.2.2.2.1).trans h.box, (hkeep qo ht.2.1 ht.2.2.2.2).trans h.head, ⟨_, n + 1, by simp; omega, hm⟩, fun hnd => ?_⟩, ho⟩
  obtain ⟨Lo, fl, hd, hl, hf, hdic⟩ := hreal hnd
  have hfl : Lo.map (·.f) = fl := hd.files
  have hne : ∀ y ∈ Lo, y.f.name ≠ x.1.f.name := fun y hy he => by
    obtain ⟨z, hz, hze⟩ := (hf y.f).1 (by rw [← hfl]; exact List.mem_map_of_mem hy)
    have hzx : z.1 = x.1 := eq_of_name h.old.nodup z.2 x.2 (by rw [← hze, he])
    exact (List.nodup_append.1 hnd).2.2 z hz x (by simp) (Subtype.ext hzx)
  have hLl : L.length ≤ 4096 := by
    have h1 := h.old.few
    rw [← h.old.files, List.length_map] at h1
    exact h1
  obtain ⟨Lo', hd', hl'⟩ := hd.put_new (x' := ⟨x.1.f, W.heap.size, v⟩) ho13 hx3 (fun k hk => by
    simp only [Fl.blocks, List.mem_cons, Option.mem_toList] at hk
    rcases hk with rfl | hk
    · omega
    · have h1 := hown k hk
      have h2 := hb.lt k hk
      omega) (by
    cases hv : v.ownBlock with
    | none => simp [Fl.blocks, hv]
    | some k =>
      have h1 := hown k hv
      simp [Fl.blocks, hv]
      omega) hg hm hdic hne (h.old.names x.1.f (by rw [← h.old.files]; exact List.mem_map_of_mem x.2)) (by
    show fl.length < 4096
    rw [← hfl, List.length_map]
    omega)
  refine ⟨Lo', _, hd'.wider (fun k hk => ?_) (fun k hk => hk.2), by rw [hl', hl]; simp, fun f => ?_⟩
  · rcases hk with hk | hk
    · exact ⟨hk.1, Nat.lt_of_lt_of_le hk.2 ho.size⟩
    · exact ⟨by omega, hk.2⟩
  · show f ∈ insF x.1.f fl ↔ _
    rw [mem_insF, hf]
    constructor
    · rintro (rfl | ⟨z, hz, rfl⟩)
      · exact ⟨x, by simp, rfl⟩
      · exact ⟨z, by simp [hz], rfl⟩
    · rintro ⟨z, hz, rfl⟩
      rcases List.mem_append.1 hz with h1 | h1
      · exact .inr ⟨z, h1, rfl⟩
      · simp only [List.mem_singleton] at h1
        exact .inl (by rw [h1])
theorem sorted_ext {l l' : List F0} (h1 : (l.map (·.name)).Pairwise (· < ·)) (h2 : (l'.map (·.name)).Pairwise (· < ·)) (h : ∀ x, x ∈ l ↔ x ∈ l') : l = l' := by
  have hn : ∀ l : List F0, (l.map (·.name)).Pairwise (· < ·) → l.Nodup := fun l hl => (List.pairwise_map.1 hl).imp (fun {a b} hab he => by rw [he] at hab; exact List.lt_irrefl _ hab)
  exact sorted_sub_eq h1 h2 (fun x hx => (h x).1 hx) (Nat.le_antisymm (nodup_sub_length (hn l h1) (fun x hx => (h x).1 hx)) (nodup_sub_length (hn l' h2) (fun x hx => (h x).2 hx)))
/-- all have been copied -/
theorem CopyPre.done {w0 W : World} {S : Nat → Prop} {q mb : Nat} {fv : Value} {L : List Fl} {d : Dk} {tb qo mo : Nat} {fvo : Value} {xs : List (FlOf L)} (h : CopyPre w0 W S q mb fv L d tb qo mo fvo xs) (hx : AllCame L xs) :
    ∃ Lo, DiskIs W (fun k => (k = qo ∨ k = mo ∨ fvo.ownBlock = some k ∨ w0.heap.size ≤ k) ∧ k < W.heap.size) qo mo fvo Lo d := by
  obtain ⟨Lo, fl, hd, _, hf⟩ := h.real hx.1
  have e : fl = d.files := sorted_ext hd.sorted h.old.sorted (fun f => by
    rw [hf, ← h.old.files, List.mem_map]
    constructor
    · rintro ⟨z, _, rfl⟩
      exact ⟨z.1, z.2, rfl⟩
    · rintro ⟨z, hz, rfl⟩
      exact ⟨⟨z, hz⟩, hx.2 _, rfl⟩)
  subst e
  exact ⟨Lo, hd⟩
end Go.Proofs.Ytmkjejngnahpeaa
