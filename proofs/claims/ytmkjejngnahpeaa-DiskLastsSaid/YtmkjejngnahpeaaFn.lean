/- Disk: Copy, its parts. -/
import Derived.Test.YtmkjejngnahpeaaFm
import Derived.Sort.CutIn
import Derived.Deep.RegionHeld3
import Derived.Shelf.RegionOpen
namespace Go.Proofs.Ytmkjejngnahpeaa
open Go Go.Maps Go.RowKit Go.Shelf
open Go.Proofs (encStr)
attribute [local go_sem] Oper.semAt_some

theorem pairs_stops (F : Fence) (n : Nat) (h8 : F.fn 162) (hro : F.round = none) (hn : 1 ≤ n) (Bm mb ob nn : Nat) (D : DataW Unit) (L : List Fl) (hD : Dic D (pairsF L)) (hnd : (L.map (·.f.name)).Nodup)
    (w : World) (hBm : w.cell? ⟨Bm, 0, none⟩ = some (.map (some mb))) (hown : w.ownsMap Try.prog 9 ptrElem mb nn D) (hne : mb ≠ ob) (hob : ob < w.heap.size) :
    SeqStopsK F n Try.prog 162 #[.pointer (some ⟨Bm, 0, none⟩)] (encFl L) (WalksBut ob) (AllCame L) (fun _ => True) L.length w := fun l J Jx W hW hJ _ hY h0 =>
  (pairsIn F n h8 hro hn l Bm mb ob nn D L hD hnd J Jx W hJ ((hW.cell (p := ⟨Bm, 0, none⟩) (World.block_lt_of_cell? w _ hBm)).trans hBm) (ownsMap_kept hown (hW.block mb hown.lt)) hne (Nat.lt_of_lt_of_le hob hW.size) hY h0).mono
    fun _ _ ⟨he, hj⟩ => ⟨he, hj.imp id (fun ⟨pre, h⟩ => ⟨pre, trivial, h⟩)⟩
set_option maxRecDepth 100000 in
/-- a new file is put into a disk, by its name -/
theorem DiskIs.put_new {wr w5 w6 : World} {S' : Nat → Prop} {qo mo n' : Nat} {fvo : Value} {Lo : List Fl} {dd : Dk} {x' : Fl} {D : DataW Unit} (h : DiskIs wr S' qo mo fvo Lo dd) (hb : Only (fun _ => False) wr w5) (hx : FlAt w5 x') (hnew : ∀ k ∈ x'.blocks, wr.heap.size ≤ k ∧ k < w5.heap.size) (hnd : x'.blocks.Nodup)
    (hg : w5.grownBy w6 (some mo)) (hm : w6.ownsMap Try.prog 9 ptrElem mo n' (D.put (.string x'.f.name) (.lit (.int .i64 x'.blk)))) (hd : Dic D (pairsF Lo)) (hne : ∀ y ∈ Lo, y.f.name ≠ x'.f.name) (hnm : nameOk x'.f.name = true) (hfew : dd.files.length < 4096) :
    ∃ Lo', DiskIs w6 (fun k => S' k ∨ (wr.heap.size ≤ k ∧ k < w6.heap.size)) qo mo fvo Lo' { dd with files := insF x'.f dd.files } ∧ Lo'.length = Lo.length + 1 := by
  obtain ⟨A, B, rfl, hi⟩ := insF_split x'.f Lo
  have hi' : insF x'.f dd.files = A.map (·.f) ++ x'.f :: B.map (·.f) := by rw [← h.files]; exact hi
  have hmo : mo < wr.heap.size := h.low _ (h.foot _ (by simp [diskBlocks]))
  have hs1 := hb.size
  have hs2 := hg.size
  have ho : Only (fun k => k = mo) wr w6 := (hb.mono (fun _ _ h => h.elim)).trans (Only.of_grown (S := fun k => k = mo) hg (fun k hk => by simp at hk; exact hk.symm)) (fun _ _ h => h)
  have hx6 : FlAt w6 x' := hx.kept (fun k hk => hg.block k (hnew k hk).2 (by have := (hnew k hk).1; simp; omega))
  refine ⟨A ++ x' :: B, h.file_add ho hx6 hm ?_ (fun k hk => ⟨(hnew k hk).1, Nat.lt_of_lt_of_le (hnew k hk).2 hs2⟩) hnd hi' ?_ hnm hfew, by simp; omega⟩
  · refine Dic.put (L := pairsF (A ++ B)) hd _ _ (fun f => ?_) (fun f hf => ?_)
    · simp only [pairsF, List.map_append, List.map_cons, List.mem_append, List.mem_cons]
      constructor
      · rintro (h | h | h) <;> simp [h]
      · rintro (h | h | h) <;> simp [h]
    · obtain ⟨y, hy, rfl⟩ := List.mem_map.1 hf
      exact hne y hy
  · exact insF_sorted _ _ h.sorted (fun g hg' => by
      rw [← h.files] at hg'
      obtain ⟨y, hy, rfl⟩ := List.mem_map.1 hg'
      exact hne y hy)
theorem keep_box {W w5 : World} {tb : Nat} {v : Value} {T : TypeId} (hb : Below W.heap.size W w5) (h : W.heap[tb]? = some (.cells #[v] T (0, 0))) : w5.heap[tb]? = some (.cells #[v] T (0, 0)) ∧
    (∀ o, (w5.alloc o).cell? ⟨tb, 0, none⟩ = some v) ∧ (∀ o, (w5.alloc o).frozen? ⟨tb, 0, none⟩ = false) ∧ (∀ o o', ((w5.alloc o).alloc o').cell? ⟨tb, 0, none⟩ = some v) ∧ (∀ o o', ((w5.alloc o).alloc o').frozen? ⟨tb, 0, none⟩ = false) := by
  have hl := (Array.getElem?_eq_some_iff.1 h).1
  have h5 := (hb.block tb hl).trans h
  have h6 : ∀ o, (w5.alloc o).heap[tb]? = some (.cells #[v] T (0, 0)) := fun o => (Below.heap_alloc _ _ _ (Nat.lt_of_lt_of_le hl hb.size)).trans h5
  have h7 : ∀ o o', ((w5.alloc o).alloc o').heap[tb]? = some (.cells #[v] T (0, 0)) := fun o o' => (Below.heap_alloc _ _ _ (by have := hb.size; simp; omega)).trans (h6 o)
  exact ⟨h5, fun o => cell_of (h6 o) rfl, fun o => free_of (h6 o) _, fun o o' => cell_of (h7 o o') rfl, fun o o' => free_of (h7 o o') _⟩
theorem cs_of {q : Nat} {a b : Value} {w0 W W' : World} (h : W.cell? ⟨q, 1, none⟩ = some a ∧ W.cell? ⟨q, 2, none⟩ = some b ∧ Below w0.heap.size w0 W ∧ q < w0.heap.size) (hb : Below W.heap.size W W') : W'.cell? ⟨q, 1, none⟩ = some a ∧ W'.cell? ⟨q, 2, none⟩ = some b ∧ Below w0.heap.size w0 W' ∧ q < w0.heap.size :=
  have hq : q < W.heap.size := Nat.lt_of_lt_of_le h.2.2.2 h.2.2.1.size
  ⟨(hb.cell (p := ⟨q, 1, none⟩) hq).trans h.1, (hb.cell (p := ⟨q, 2, none⟩) hq).trans h.2.1, h.2.2.1.trans (hb.mono h.2.2.1.size), h.2.2.2⟩
theorem cs_below {q : Nat} {a b : Value} {w0 W : World} (h : W.cell? ⟨q, 1, none⟩ = some a ∧ W.cell? ⟨q, 2, none⟩ = some b ∧ Below w0.heap.size w0 W ∧ q < w0.heap.size) : Below w0.heap.size w0 W := h.2.2.1
theorem cs_call {q : Nat} {a b : Value} {w0 W W' : World} (h : W.cell? ⟨q, 1, none⟩ = some a ∧ W.cell? ⟨q, 2, none⟩ = some b ∧ Below w0.heap.size w0 W ∧ q < w0.heap.size) (hb : Below W.heap.size W W') : Below w0.heap.size w0 W' := (cs_of h hb).2.2.1
theorem below2 {w0 W : World} (o o' : Obj) (h : Below w0.heap.size w0 W) : Below w0.heap.size w0 ((W.alloc o).alloc o') := (h.alloc h.size o).alloc (by have := h.size; simp; omega) o'
theorem below3 {w0 W : World} (o o' o'' : Obj) (h : Below w0.heap.size w0 W) : Below w0.heap.size w0 (((W.alloc o).alloc o').alloc o'') := (below2 o o' h).alloc (by have := h.size; simp; omega) o''
theorem cs_drew {q : Nat} {a b : Value} {w0 W : World} (h : W.cell? ⟨q, 1, none⟩ = some a ∧ W.cell? ⟨q, 2, none⟩ = some b ∧ Below w0.heap.size w0 W ∧ q < w0.heap.size) : W.drew.cell? ⟨q, 1, none⟩ = some a ∧ W.drew.cell? ⟨q, 2, none⟩ = some b ∧ Below w0.heap.size w0 W.drew ∧ q < w0.heap.size := cs_of h ⟨rfl, rfl, rfl, Nat.le_refl _, fun _ _ => rfl⟩
theorem cs_alloc {q : Nat} {a b : Value} {w0 W : World} (o : Obj) (h : W.cell? ⟨q, 1, none⟩ = some a ∧ W.cell? ⟨q, 2, none⟩ = some b ∧ Below w0.heap.size w0 W ∧ q < w0.heap.size) : (W.alloc o).cell? ⟨q, 1, none⟩ = some a ∧ (W.alloc o).cell? ⟨q, 2, none⟩ = some b ∧ Below w0.heap.size w0 (W.alloc o) ∧ q < w0.heap.size := cs_of h ((Below.refl _ _).alloc (Nat.le_refl _) _)
theorem cs_set {q tb : Nat} {a b u : Value} {w0 W : World} (hk : w0.heap.size ≤ tb) (h : W.cell? ⟨q, 1, none⟩ = some a ∧ W.cell? ⟨q, 2, none⟩ = some b ∧ Below w0.heap.size w0 W ∧ q < w0.heap.size) : (W.setCell ⟨tb, 0, none⟩ u).cell? ⟨q, 1, none⟩ = some a ∧ (W.setCell ⟨tb, 0, none⟩ u).cell? ⟨q, 2, none⟩ = some b ∧ Below w0.heap.size w0 (W.setCell ⟨tb, 0, none⟩ u) ∧ q < w0.heap.size := by
  have hb : Below w0.heap.size W (W.setCell ⟨tb, 0, none⟩ u) := (Below.refl _ _).setCell (p := ⟨tb, 0, none⟩) hk u
  exact ⟨(hb.cell (p := ⟨q, 1, none⟩) h.2.2.2).trans h.1, (hb.cell (p := ⟨q, 2, none⟩) h.2.2.2).trans h.2.1, h.2.2.1.trans hb, h.2.2.2⟩
theorem size_drew (w : World) : w.drew.heap.size = w.heap.size := rfl
theorem keep_map {W w5 : World} {b : Nat} {o : Obj} (hb : Below W.heap.size W w5) (h : W.heap[b]? = some o) : w5.heap[b]? = some o := (hb.block b (Array.getElem?_eq_some_iff.1 h).1).trans h
/-- a disk without files was made, and a variable that points to it -/
structure CopyStart (w0 wx : World) (d : Dk) (tb qo mo : Nat) (v : Value) : Prop where
  box : wx.heap[tb]? = some (.cells #[.pointer (some ⟨qo, 0, none⟩)] 37 (0, 0))
  disk : DiskIs wx (fun k => k = qo ∨ k = mo ∨ v.ownBlock = some k) qo mo v [] ⟨[], d.fates, d.steps⟩
  below : Below w0.heap.size w0 wx
  ge : w0.heap.size ≤ tb ∧ w0.heap.size ≤ qo ∧ w0.heap.size ≤ mo ∧ ∀ k, v.ownBlock = some k → w0.heap.size ≤ k
  ne : tb ≠ qo ∧ tb ≠ mo ∧ v.ownBlock ≠ some tb
theorem copy_start {w0 wx : World} {d : Dk} {tb qo mo : Nat} {v : Value} (hbox : wx.heap[tb]? = some (.cells #[.pointer (some ⟨qo, 0, none⟩)] 37 (0, 0))) (hhead : wx.heap[qo]? = some (.cells #[.map (some mo), v, .int .i64 d.steps] 122 (0, 0))) (hmap : wx.heap[mo]? = some (.map #[] 0))
    (hrow : rowAt wx 99 2 v d.fates.length (fateCells d.fates)) (hb : Below w0.heap.size w0 wx) (ge : w0.heap.size ≤ tb ∧ w0.heap.size ≤ qo ∧ w0.heap.size ≤ mo ∧ ∀ k, v.ownBlock = some k → w0.heap.size ≤ k) : CopyStart w0 wx d tb qo mo v := by
  have hv : ∀ k, v.ownBlock = some k → ∃ cur fr, wx.heap[k]? = some (.cells cur 99 fr) := fun k hk => by
    rcases hrow.2 with ⟨rfl, _⟩ | ⟨g, off, c, cur, fr, rfl, hg, _⟩
    · simp [Value.ownBlock] at hk
    · simp only [Value.ownBlock, Option.some.injEq] at hk
      subst hk
      exact ⟨cur, fr, hg⟩
  have hqm : qo ≠ mo := fun e => by rw [e, hmap] at hhead; cases hhead
  have hqv : v.ownBlock ≠ some qo := fun e => by
    obtain ⟨cur, fr, h⟩ := hv qo e
    rw [hhead] at h
    simp at h
  have hmv : v.ownBlock ≠ some mo := fun e => by
    obtain ⟨cur, fr, h⟩ := hv mo e
    rw [hmap] at h
    cases h
  refine ⟨hbox, ⟨rfl, hhead, hrow, ⟨.map [], ?_, Dic.empty⟩, fun x hx => (by cases hx), ?_, fun k hk => ?_, fun k hk => ?_, by simp, fun f hf => (by cases hf), by simp⟩, hb, ge, fun e => ?_, fun e => ?_, fun e => ?_⟩
  · obtain ⟨es, clock, he, F, hs, hD⟩ := World.ownsMap_made wx Try.prog 9 ptrElem
    rw [show (wx.alloc (.map #[] 0)).heap[wx.heap.size]? = some (.map #[] 0) from heap_alloc_new _ _] at he
    cases he
    exact ⟨#[], 0, hmap, F, hs, hD⟩
  · cases ho : v.ownBlock with
    | none => simp [diskBlocks, ho, hqm]
    | some k =>
      have h1 : qo ≠ k := fun e => hqv (by rw [ho, e])
      have h2 : mo ≠ k := fun e => hmv (by rw [ho, e])
      simp [diskBlocks, ho, hqm, h1, h2]
  · simp only [diskBlocks, List.mem_cons, List.flatMap_nil, List.append_nil, Option.mem_toList] at hk
    exact hk
  · rcases hk with rfl | rfl | hk
    · exact (Array.getElem?_eq_some_iff.1 hhead).1
    · exact (Array.getElem?_eq_some_iff.1 hmap).1
    · exact hrow.lt k hk
  · rw [e, hhead] at hbox
    simp at hbox
  · rw [e, hmap] at hbox
    cases hbox
  · obtain ⟨cur, fr, h⟩ := hv tb e
    rw [hbox] at h
    simp at h
/-- a statement that is left at its end alone -/
theorem wp_only {P : Program} {c : Code} {K : Act → World → Prop} {Q' : Exit → Act → World → Prop} {a : Act} {w : World} (h : c.wp P (Exit.then K (fun _ _ _ => False)) a w) : c.wp P (Exit.then K Q') a w :=
  (wpIn_wide (n := 1)).1 (wpIn_mono (wpIn_wide.2 h) (fun e _ _ hq => by
    cases e with
    | normal => exact hq
    | exit id => exact hq.elim
    | goto l => exact hq.elim
    | ret => exact hq.elim
    | panic ch => exact hq.elim
    | outgrown => exact hq.elim))
end Go.Proofs.Ytmkjejngnahpeaa
