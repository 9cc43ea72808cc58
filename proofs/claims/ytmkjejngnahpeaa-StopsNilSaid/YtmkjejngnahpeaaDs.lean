/- Disk: how a disk lies in memory: its struct, its map, its files, each in blocks of its own. -/
import Derived.Test.YtmkjejngnahpeaaProg
import Derived.Test.YtmkjejngnahpeaaDa
import Derived.Test.YtmkjejngnahpeaaDr
import Derived.Test.YtmkjejngnahpeaaDk
namespace Go.Proofs.Ytmkjejngnahpeaa
open Go Go.Maps Go.RowKit

/-- a file with the places where it lies -/
structure Fl where
  f : F0
  blk : Nat
  bv : Value
def Fl.blocks (x : Fl) : List Nat := x.blk :: x.bv.ownBlock.toList
structure FlAt (w : World) (x : Fl) : Prop where
  cells : w.heap[x.blk]? = some (.cells #[x.bv, .int .i64 x.f.lasts, .bool x.f.there, .bool x.f.named] 178 (0, 0))
  row : rowAt w 5 1 x.bv x.f.bytes.length (byteCells x.f.bytes)
  lasts : x.f.lasts ≤ x.f.bytes.length
  size : x.f.bytes.length ≤ 16777216
theorem FlAt.kept {w w' : World} {x : Fl} (h : FlAt w x) (hk : ∀ k ∈ x.blocks, w'.heap[k]? = w.heap[k]?) : FlAt w' x :=
  ⟨(hk _ (by simp [Fl.blocks])).trans h.cells, h.row.kept (fun k hk' => hk k (by simp [Fl.blocks, hk'])), h.lasts, h.size⟩
def fateCells (l : List (Int × Int)) : List Value := l.flatMap fun x => [.int .i64 x.1, .int .i64 x.2]
/-- the blocks of a disk -/
def diskBlocks (q mb : Nat) (fv : Value) (L : List Fl) : List Nat := q :: mb :: (fv.ownBlock.toList ++ L.flatMap Fl.blocks)
structure DiskIs (w : World) (S : Nat → Prop) (q mb : Nat) (fv : Value) (L : List Fl) (d : Dk) : Prop where
  files : L.map (·.f) = d.files
  head : w.heap[q]? = some (.cells #[.map (some mb), fv, .int .i64 d.steps] 122 (0, 0))
  fates : rowAt w 99 2 fv d.fates.length (fateCells d.fates)
  map : ∃ D, w.ownsMap Try.prog 9 ptrElem mb L.length D ∧ Dic D (L.map fun x => (x.f.name, x.blk))
  each : ∀ x ∈ L, FlAt w x
  apart : (diskBlocks q mb fv L).Nodup
  foot : ∀ k ∈ diskBlocks q mb fv L, S k
  low : ∀ k, S k → k < w.heap.size
  sorted : (d.files.map (·.name)).Pairwise (· < ·)
  names : ∀ f ∈ d.files, nameOk f.name = true
  few : d.files.length ≤ 4096
/-- a disk, wherever its parts lie -/
def DiskAt (w : World) (S : Nat → Prop) (q : Nat) (d : Dk) : Prop := ∃ mb fv L, DiskIs w S q mb fv L d

theorem ownsMap_kept {w w' : World} {k : TypeId} {b n : Nat} {D : DataW Unit} (h : w.ownsMap Try.prog k ptrElem b n D) (hb : w'.heap[b]? = w.heap[b]?) : w'.ownsMap Try.prog k ptrElem b n D := by
  obtain ⟨es, clock, he, r⟩ := h
  exact ⟨es, clock, hb.trans he, r⟩
theorem ownsMap_tight {w : World} {k : TypeId} {b n : Nat} {D : DataW Unit} (h : w.ownsMap Try.prog k ptrElem b n D) : w.ownsMap Try.prog k ptrElem b (Maps.size D) D := by
  obtain ⟨es, clock, he, F, _, rfl⟩ := h
  exact ⟨es, clock, he, F, by simp [Maps.size, length_sorted], rfl⟩
theorem Dic.perm {D : DataW Unit} {L : List (List UInt8 × Nat)} {w : World} {b n : Nat} (h : Dic D L) (hown : w.ownsMap Try.prog 9 ptrElem b n D) (hnd : (L.map (·.1)).Nodup) : (L.map (·.1)).Perm (strKeys D) := by
  obtain ⟨es, hD, hpw, _⟩ := hown.entries (string_keyed Try.underlying9)
  obtain ⟨es', hD', hko⟩ := hown.keysOf
  obtain rfl : es = es' := by rw [hD] at hD'; simpa using hD'
  subst hD
  refine perm_strKeys hpw (fun p hp => by obtain ⟨v, hv⟩ := hko p hp; obtain ⟨x, _, hx, _⟩ := Maps.keyOf_str Try.underlying9 hv; exact ⟨x, hx⟩) hnd (fun x => ?_)
  rw [h.has x, List.mem_map]
theorem size_strKeys {D : DataW Unit} (h : IsMap D) : (strKeys D).length = Maps.size D := by
  obtain ⟨es, rfl⟩ := h
  simp [strKeys, Maps.size]
theorem Dic.size {D : DataW Unit} {L : List (List UInt8 × Nat)} {w : World} {b n : Nat} (h : Dic D L) (hown : w.ownsMap Try.prog 9 ptrElem b n D) (hnd : (L.map (·.1)).Nodup) : Maps.size D = L.length := by
  rw [← size_strKeys h.isMap, ← (h.perm hown hnd).length_eq, List.length_map]

section
variable {w : World} {S : Nat → Prop} {q mb : Nat} {fv : Value} {L : List Fl} {d : Dk}
theorem DiskIs.kept {w' : World} (h : DiskIs w S q mb fv L d) (hk : ∀ k, S k → w'.heap[k]? = w.heap[k]?) (hsz : w.heap.size ≤ w'.heap.size) : DiskIs w' S q mb fv L d where
  files := h.files
  head := (hk q (h.foot q (by simp [diskBlocks]))).trans h.head
  fates := h.fates.kept (fun k hk' => hk k (h.foot k (by simp [diskBlocks, hk'])))
  map := by
    obtain ⟨D, ho, hd⟩ := h.map
    exact ⟨D, ownsMap_kept ho (hk mb (h.foot mb (by simp [diskBlocks]))), hd⟩
  each := fun x hx => (h.each x hx).kept (fun k hk' => hk k (h.foot k (by simp only [diskBlocks, List.mem_cons, List.mem_append, List.mem_flatMap]; exact .inr (.inr (.inr ⟨x, hx, hk'⟩)))))
  apart := h.apart
  foot := h.foot
  low := fun k hk' => Nat.lt_of_lt_of_le (h.low k hk') hsz
  sorted := h.sorted
  names := h.names
  few := h.few
theorem DiskIs.only {T : Nat → Prop} {w' : World} (h : DiskIs w S q mb fv L d) (ho : Only T w w') (hT : ∀ k, S k → ¬ T k) : DiskIs w' S q mb fv L d :=
  h.kept (fun k hk => ho.block k (h.low k hk) (hT k hk)) ho.size
theorem DiskIs.below {w' : World} (h : DiskIs w S q mb fv L d) (hb : Below w.heap.size w w') : DiskIs w' S q mb fv L d :=
  h.kept (fun k hk => hb.block k (h.low k hk)) hb.size
theorem DiskIs.wider {S' : Nat → Prop} (h : DiskIs w S q mb fv L d) (h1 : ∀ k, S k → S' k) (h2 : ∀ k, S' k → k < w.heap.size) : DiskIs w S' q mb fv L d :=
  { h with foot := fun k hk => h1 k (h.foot k hk), low := h2 }
theorem DiskIs.nodup (h : DiskIs w S q mb fv L d) : (L.map (·.f.name)).Nodup := by
  have := h.sorted
  rw [← h.files, List.map_map] at this
  exact this.imp (fun {a b} hab he => by rw [he] at hab; exact List.lt_irrefl _ hab)
/-- what the map says of a name -/
theorem DiskIs.look (h : DiskIs w S q mb fv L d) : ∃ D, w.ownsMap Try.prog 9 ptrElem mb L.length D ∧ Maps.size D = L.length ∧ Dic D (L.map fun x => (x.f.name, x.blk)) := by
  obtain ⟨D, ho, hd⟩ := h.map
  refine ⟨D, ho, ?_, hd⟩
  rw [hd.size ho (by rw [List.map_map]; exact h.nodup), List.length_map]
end
theorem blocks_perm (q mb : Nat) (fv : Value) (A : List Fl) (x : Fl) (B : List Fl) : (diskBlocks q mb fv (A ++ x :: B)).Perm (x.blocks ++ diskBlocks q mb fv (A ++ B)) := by
  refine List.perm_iff_count.2 fun k => ?_
  simp only [diskBlocks, List.flatMap_append, List.flatMap_cons, List.count_cons, List.count_append]
  omega
theorem not_mem_of_nodup_append {l r : List Nat} (h : (l ++ r).Nodup) {k : Nat} (hk : k ∈ l) : k ∉ r := fun hr => (List.nodup_append.1 h).2.2 k hk k hr rfl
section
variable {w : World} {S : Nat → Prop} {q mb : Nat} {fv : Value} {L : List Fl} {d : Dk}
/-- the struct itself is written -/
theorem DiskIs.head_turn {w' : World} {fv' : Value} {fs' : List (Int × Int)} {st' : Int} (h : DiskIs w S q mb fv L d) (ho : Only (fun k => k = q) w w')
    (hq : w'.heap[q]? = some (.cells #[.map (some mb), fv', .int .i64 st'] 122 (0, 0))) (hob : ∀ k, fv'.ownBlock = some k → fv.ownBlock = some k)
    (hr : rowAt w 99 2 fv' fs'.length (fateCells fs')) : DiskIs w' S q mb fv' L { d with fates := fs', steps := st' } := by
  have hne : ∀ k, k ∈ (mb :: (fv.ownBlock.toList ++ L.flatMap Fl.blocks)) → w'.heap[k]? = w.heap[k]? := fun k hk =>
    ho.block k (h.low k (h.foot k (List.mem_cons_of_mem _ hk))) (fun e => (List.nodup_cons.1 h.apart).1 (e ▸ hk))
  have hsub : fv'.ownBlock.toList.Sublist fv.ownBlock.toList := by
    cases hv : fv'.ownBlock with
    | none => simp
    | some k => rw [hob k hv]; simp
  have hall : (diskBlocks q mb fv' L).Sublist (diskBlocks q mb fv L) := ((hsub.append_right _).cons_cons mb).cons_cons q
  exact {
    files := h.files
    head := hq
    fates := hr.kept (fun k hk => hne k (by simp [hob k hk]))
    map := by
      obtain ⟨D, hown, hd⟩ := h.map
      exact ⟨D, ownsMap_kept hown (hne mb (by simp)), hd⟩
    each := fun x hx => (h.each x hx).kept (fun k hk => hne k (by simp only [List.mem_cons, List.mem_append, List.mem_flatMap]; exact .inr (.inr ⟨x, hx, hk⟩)))
    apart := h.apart.sublist hall
    foot := fun k hk => h.foot k (hall.subset hk)
    low := fun k hk => Nat.lt_of_lt_of_le (h.low k hk) ho.size
    sorted := h.sorted
    names := h.names
    few := h.few }
/-- a file is written -/
theorem DiskIs.file_turn {w' : World} {A B : List Fl} {x x' : Fl} (h : DiskIs w S q mb fv (A ++ x :: B) d) (hb : x'.blk = x.blk) (hn : x'.f.name = x.f.name) (ho : Only (fun k => k ∈ x.blocks) w w') (hx : FlAt w' x')
    (hv : ∀ k, x'.bv.ownBlock = some k → x.bv.ownBlock = some k ∨ (w.heap.size ≤ k ∧ k < w'.heap.size)) :
    DiskIs w' (fun k => S k ∨ (w.heap.size ≤ k ∧ k < w'.heap.size)) q mb fv (A ++ x' :: B) { d with files := A.map (·.f) ++ x'.f :: B.map (·.f) } := by
  have hp := (blocks_perm q mb fv A x B)
  have hnd := hp.nodup_iff.1 h.apart
  have hlow : ∀ k ∈ x.blocks ++ diskBlocks q mb fv (A ++ B), S k := fun k hk => h.foot k (hp.mem_iff.2 hk)
  have hrest : ∀ k ∈ diskBlocks q mb fv (A ++ B), w'.heap[k]? = w.heap[k]? := fun k hk =>
    ho.block k (h.low k (hlow k (List.mem_append_right _ hk))) (fun hx' => not_mem_of_nodup_append hnd hx' hk)
  have hxlt : ∀ k ∈ x.blocks, k < w.heap.size := fun k hk => h.low k (hlow k (List.mem_append_left _ hk))
  have hx'b : ∀ k ∈ x'.blocks, k ∈ x.blocks ∨ (w.heap.size ≤ k ∧ k < w'.heap.size) := fun k hk => by
    simp only [Fl.blocks, List.mem_cons, Option.mem_toList] at hk ⊢
    rcases hk with rfl | hk
    · exact .inl (.inl hb)
    · rcases hv k hk with h1 | h1
      · exact .inl (.inr h1)
      · exact .inr h1
  have hp' := (blocks_perm q mb fv A x' B)
  have hfiles : d.files = A.map (·.f) ++ x.f :: B.map (·.f) := by rw [← h.files]; simp
  have hnames : (A.map (·.f) ++ x'.f :: B.map (·.f)).map (·.name) = d.files.map (·.name) := by rw [hfiles]; simp [hn]
  exact {
    files := by simp
    head := (hrest q (by simp [diskBlocks])).trans h.head
    fates := h.fates.kept (fun k hk => hrest k (by simp [diskBlocks, hk]))
    map := by
      obtain ⟨D, hown, hd⟩ := h.map
      refine ⟨D, ?_, ?_⟩
      · have := ownsMap_kept hown (hrest mb (by simp [diskBlocks]))
        simpa using this
      · have e : ((A ++ x' :: B).map fun x => (x.f.name, x.blk)) = ((A ++ x :: B).map fun x => (x.f.name, x.blk)) := by simp [hn, hb]
        rw [e]
        exact hd
    each := fun y hy => by
      rcases List.mem_append.1 hy with hy | hy
      · exact (h.each y (by simp [hy])).kept (fun k hk => hrest k (by simp only [diskBlocks, List.mem_cons, List.mem_append, List.mem_flatMap]; exact .inr (.inr (.inr ⟨y, .inl hy, hk⟩))))
      · rcases List.mem_cons.1 hy with rfl | hy
        · exact hx
        · exact (h.each y (by simp [hy])).kept (fun k hk => hrest k (by simp only [diskBlocks, List.mem_cons, List.mem_append, List.mem_flatMap]; exact .inr (.inr (.inr ⟨y, .inr hy, hk⟩))))
    apart := by
      refine hp'.nodup_iff.2 (List.nodup_append.2 ⟨?_, (List.nodup_append.1 hnd).2.1, fun a ha b hb' e => ?_⟩)
      · have hnx := (List.nodup_append.1 hnd).1
        cases hv' : x'.bv.ownBlock with
        | none => simp [Fl.blocks, hv']
        | some k =>
          simp only [Fl.blocks, hv', Option.toList_some, List.nodup_cons, List.mem_singleton, List.not_mem_nil, not_false_eq_true, List.nodup_nil, and_self, and_true]
          intro he
          rcases hv k hv' with h1 | h1
          · simp only [Fl.blocks, h1, Option.toList_some, List.nodup_cons, List.mem_singleton] at hnx
            exact hnx.1 (by rw [← hb]; exact he)
          · have := hxlt x.blk (by simp [Fl.blocks])
            omega
      · subst e
        rcases hx'b a ha with h1 | h1
        · exact not_mem_of_nodup_append hnd h1 hb'
        · have := h.low a (hlow a (List.mem_append_right _ hb'))
          omega
    foot := fun k hk => by
      rcases List.mem_append.1 (hp'.mem_iff.1 hk) with hk | hk
      · rcases hx'b k hk with h1 | h1
        · exact .inl (hlow k (List.mem_append_left _ h1))
        · exact .inr h1
      · exact .inl (hlow k (List.mem_append_right _ hk))
    low := fun k hk => by
      rcases hk with hk | hk
      · exact Nat.lt_of_lt_of_le (h.low k hk) ho.size
      · exact hk.2
    sorted := by
      show ((A.map (·.f) ++ x'.f :: B.map (·.f)).map (·.name)).Pairwise (· < ·)
      rw [hnames]; exact h.sorted
    names := fun f hf => by
      have hf' : f ∈ A.map (·.f) ++ x'.f :: B.map (·.f) := hf
      have : f.name ∈ d.files.map (·.name) := by rw [← hnames]; exact List.mem_map_of_mem hf'
      obtain ⟨g, hg, he⟩ := List.mem_map.1 this
      rw [← he]; exact h.names g hg
    few := by
      have : (A.map (·.f) ++ x'.f :: B.map (·.f)).length = d.files.length := by rw [hfiles]; simp
      show (A.map (·.f) ++ x'.f :: B.map (·.f)).length ≤ 4096
      rw [this]; exact h.few }
end
theorem insF_split (f : F0) : ∀ L : List Fl, ∃ A B, L = A ++ B ∧ insF f (L.map (·.f)) = A.map (·.f) ++ f :: B.map (·.f)
  | [] => ⟨[], [], rfl, rfl⟩
  | g :: r => by
    rw [List.map_cons]
    unfold insF
    split
    · obtain ⟨A, B, hL, hi⟩ := insF_split f r
      exact ⟨g :: A, B, by rw [hL]; rfl, by rw [hi]; rfl⟩
    · exact ⟨[], g :: r, rfl, rfl⟩
section
variable {w : World} {S : Nat → Prop} {q mb : Nat} {fv : Value} {d : Dk}
/-- a new file -/
theorem DiskIs.file_add {w' : World} {A B : List Fl} {x' : Fl} {n' : Nat} {D' : DataW Unit} {fs : List F0} (h : DiskIs w S q mb fv (A ++ B) d) (ho : Only (fun k => k = mb) w w') (hx : FlAt w' x')
    (hm : w'.ownsMap Try.prog 9 ptrElem mb n' D') (hd : Dic D' ((A ++ x' :: B).map fun x => (x.f.name, x.blk))) (hnew : ∀ k ∈ x'.blocks, w.heap.size ≤ k ∧ k < w'.heap.size) (hnd : x'.blocks.Nodup)
    (hfs : fs = A.map (·.f) ++ x'.f :: B.map (·.f)) (hs : (fs.map (·.name)).Pairwise (· < ·)) (hnm : nameOk x'.f.name = true) (hfew : d.files.length < 4096) :
    DiskIs w' (fun k => S k ∨ (w.heap.size ≤ k ∧ k < w'.heap.size)) q mb fv (A ++ x' :: B) { d with files := fs } := by
  have hne : ∀ k ∈ diskBlocks q mb fv (A ++ B), k ≠ mb → w'.heap[k]? = w.heap[k]? := fun k hk hk' => ho.block k (h.low k (h.foot k hk)) hk'
  have hap := h.apart
  simp only [diskBlocks, List.nodup_cons, List.mem_cons, not_or] at hap
  have hmb : ∀ k, k ∈ fv.ownBlock.toList ++ (A ++ B).flatMap Fl.blocks → k ≠ mb := fun k hk e => hap.2.1 (e ▸ hk)
  have hp' := blocks_perm q mb fv A x' B
  have hfl : d.files = A.map (·.f) ++ B.map (·.f) := by rw [← h.files]; simp
  have hold : ∀ y ∈ A ++ B, FlAt w' y := fun y hy => (h.each y hy).kept (fun k hk => by
    have h1 : k ∈ fv.ownBlock.toList ++ (A ++ B).flatMap Fl.blocks := List.mem_append_right _ (List.mem_flatMap.2 ⟨y, hy, hk⟩)
    exact hne k (by simp only [diskBlocks, List.mem_cons]; exact .inr (.inr h1)) (hmb k h1))
  exact {
    files := by rw [hfs]; simp
    head := (hne q (by simp [diskBlocks]) (fun e => hap.1.1 e)).trans h.head
    fates := h.fates.kept (fun k hk => hne k (by simp [diskBlocks, hk]) (hmb k (by simp [hk])))
    map := by
      refine ⟨D', ?_, hd⟩
      have h1 := ownsMap_tight hm
      rw [hd.size hm (by
        rw [List.map_map]
        have : ((A ++ x' :: B).map (·.f.name)).Pairwise (· < ·) := by rw [hfs] at hs; simpa [Function.comp_def] using hs
        exact this.imp (fun {a b} hab he => by rw [he] at hab; exact List.lt_irrefl _ hab))] at h1
      simpa using h1
    each := fun y hy => by
      rcases List.mem_append.1 hy with hy | hy
      · exact hold y (by simp [hy])
      · rcases List.mem_cons.1 hy with rfl | hy
        · exact hx
        · exact hold y (by simp [hy])
    apart := hp'.nodup_iff.2 (List.nodup_append.2 ⟨hnd, h.apart, fun a ha b hb e => by
      have h1 := h.low b (h.foot b hb)
      have h2 := (hnew a ha).1
      omega⟩)
    foot := fun k hk => by
      rcases List.mem_append.1 (hp'.mem_iff.1 hk) with hk | hk
      · exact .inr (hnew k hk)
      · exact .inl (h.foot k hk)
    low := fun k hk => by
      rcases hk with hk | hk
      · exact Nat.lt_of_lt_of_le (h.low k hk) ho.size
      · exact hk.2
    sorted := hs
    names := fun f hf => by
      have hf' : f ∈ A.map (·.f) ++ x'.f :: B.map (·.f) := by rw [← hfs]; exact hf
      rcases List.mem_append.1 hf' with h1 | h1
      · exact h.names f (by rw [hfl]; simp [h1])
      · rcases List.mem_cons.1 h1 with rfl | h1
        · exact hnm
        · exact h.names f (by rw [hfl]; simp [h1])
    few := by
      show fs.length ≤ 4096
      rw [hfl] at hfew
      rw [hfs]
      simp at hfew ⊢
      omega }
end
end Go.Proofs.Ytmkjejngnahpeaa
