/- The texts Ds, Dn, Dt, Mb, Mc in one. -/
import Derived.Test.YtlgcoaeddeiegaaGreatProg
import Derived.Test.YtlgcoaeddeiegaaGreatV1
import Derived.WalkKit
import Derived.WalkSpells
import Derived.WalkLawsBesides
import Derived.Lib.Hide
import Derived.Deep.Cut
import Derived.OwnWalk
/- Disk: how a disk lies in memory: its struct, its map, its files, each in blocks of its own. -/
namespace Go.Proofs.YtlgcoaeddeiegaaGreat
open Go Go.Maps Go.RowKit

/-- a file with the places where it lies -/
structure Fl where
  f : F0
  blk : Nat
  bv : Value
def Fl.blocks (x : Fl) : List Nat := x.blk :: x.bv.ownBlock.toList
structure FlAt (w : World) (x : Fl) : Prop where
  cells : w.heap[x.blk]? = some (.cells #[x.bv, .int .i64 x.f.lasts, .bool x.f.there, .bool x.f.named] 179 (0, 0))
  row : rowAt w 5 1 x.bv x.f.bytes.length (byteCells x.f.bytes)
  lasts : x.f.lasts ≤ x.f.bytes.length
  size : x.f.bytes.length ≤ 16777216
theorem FlAt.kept {w w' : World} {x : Fl} (h : FlAt w x) (hk : ∀ k ∈ x.blocks, w'.heap[k]? = w.heap[k]?) : FlAt w' x :=
  ⟨(hk _ (by simp [Fl.blocks])).trans h.cells, h.row.kept (fun k hk' => hk k (by simp [Fl.blocks, hk'])), h.lasts, h.size⟩
def fateCells (l : List (Int × Int)) : List Value := l.flatMap fun x => [.int .i64 x.1, .int .i64 x.2]
/-- the blocks of a disk -/
def diskBlocks (q mb : Nat) (fv : Value) (L : List Fl) : List Nat := q :: mb :: (fv.ownBlock.toList ++ L.flatMap Fl.blocks)
structure DiskIs (w : World) (S : Nat → Prop) (q mb : Nat) (fv : Value) (L : List Fl) (d : Dk) : Prop where
  files : L.map (·.f) = d.files
  head : w.heap[q]? = some (.cells #[.map (some mb), fv, .int .i64 d.steps] 120 (0, 0))
  fates : rowAt w 98 2 fv d.fates.length (fateCells d.fates)
  map : ∃ D, w.ownsMap Tryz.prog 9 ptrElem mb L.length D ∧ Dic D (L.map fun x => (x.f.name, x.blk))
  each : ∀ x ∈ L, FlAt w x
  apart : (diskBlocks q mb fv L).Nodup
  foot : ∀ k ∈ diskBlocks q mb fv L, S k
  low : ∀ k, S k → k < w.heap.size
  sorted : (d.files.map (·.name)).Pairwise (· < ·)
  names : ∀ f ∈ d.files, nameOk f.name = true
  few : d.files.length ≤ 4096
/-- a disk, wherever its parts lie -/
def DiskAt (w : World) (S : Nat → Prop) (q : Nat) (d : Dk) : Prop := ∃ mb fv L, DiskIs w S q mb fv L d

theorem ownsMap_kept {w w' : World} {k : TypeId} {b n : Nat} {D : DataW Unit} (h : w.ownsMap Tryz.prog k ptrElem b n D) (hb : w'.heap[b]? = w.heap[b]?) : w'.ownsMap Tryz.prog k ptrElem b n D := by
  obtain ⟨es, clock, he, r⟩ := h
  exact ⟨es, clock, hb.trans he, r⟩
theorem ownsMap_tight {w : World} {k : TypeId} {b n : Nat} {D : DataW Unit} (h : w.ownsMap Tryz.prog k ptrElem b n D) : w.ownsMap Tryz.prog k ptrElem b (Maps.size D) D := by
  obtain ⟨es, clock, he, F, _, rfl⟩ := h
  exact ⟨es, clock, he, F, by simp [Maps.size, length_sorted], rfl⟩
theorem Dic.perm {D : DataW Unit} {L : List (List UInt8 × Nat)} {w : World} {b n : Nat} (h : Dic D L) (hown : w.ownsMap Tryz.prog 9 ptrElem b n D) (hnd : (L.map (·.1)).Nodup) : (L.map (·.1)).Perm (strKeys D) := by
  obtain ⟨es, hD, hpw, _⟩ := hown.entries (string_keyed Tryz.underlying9)
  obtain ⟨es', hD', hko⟩ := hown.keysOf
  obtain rfl : es = es' := by rw [hD] at hD'; simpa using hD'
  subst hD
  refine perm_strKeys hpw (fun p hp => by obtain ⟨v, hv⟩ := hko p hp; obtain ⟨x, _, hx, _⟩ := Maps.keyOf_str Tryz.underlying9 hv; exact ⟨x, hx⟩) hnd (fun x => ?_)
  rw [h.has x, List.mem_map]
theorem size_strKeys {D : DataW Unit} (h : IsMap D) : (strKeys D).length = Maps.size D := by
  obtain ⟨es, rfl⟩ := h
  simp [strKeys, Maps.size]
theorem Dic.size {D : DataW Unit} {L : List (List UInt8 × Nat)} {w : World} {b n : Nat} (h : Dic D L) (hown : w.ownsMap Tryz.prog 9 ptrElem b n D) (hnd : (L.map (·.1)).Nodup) : Maps.size D = L.length := by
  rw [← size_strKeys h.isMap, ← (h.perm hown hnd).length_eq, List.length_map]

section
variable {w : World} {S : Nat → Prop} {q mb : Nat} {fv : Value} {L : List Fl} {d : Dk}
theorem DiskIs.kept {w' : World} (h : DiskIs w S q mb fv L d) (hk : ∀ k, S k → w'.heap[k]? = w.heap[k]?) (hsz : w.heap.size ≤ w'.heap.size) : DiskIs w' S q mb fv L d where
  files := h.files
  head := (hk q (h.foot q (by simp [diskBlocks]))).trans h.head
  fates := h.fates.kept (fun k hk' => hk k (h.foot k (by simp [diskBlocks, hk'])))
  map := by
    obtain ⟨D, ho, hd⟩ := h.map
    exact ⟨D, ownsMap_kept ho (hk mb (h.foot mb (by simp [diskBlocks]))), hd⟩
  each := fun x hx => (h.each x hx).kept (fun k hk' => hk k (h.foot k (by simp only [diskBlocks, List.mem_cons, List.mem_append, List.mem_flatMap]; exact .inr (.inr (.inr ⟨x, hx, hk'⟩)))))
  apart := h.apart
  foot := h.foot
  low := fun k hk' => Nat.lt_of_lt_of_le (h.low k hk') hsz
  sorted := h.sorted
  names := h.names
  few := h.few
theorem DiskIs.only {T : Nat → Prop} {w' : World} (h : DiskIs w S q mb fv L d) (ho : Only T w w') (hT : ∀ k, S k → ¬ T k) : DiskIs w' S q mb fv L d :=
  h.kept (fun k hk => ho.block k (h.low k hk) (hT k hk)) ho.size
theorem DiskIs.below {w' : World} (h : DiskIs w S q mb fv L d) (hb : Below w.heap.size w w') : DiskIs w' S q mb fv L d :=
  h.kept (fun k hk => hb.block k (h.low k hk)) hb.size
theorem DiskIs.wider {S' : Nat → Prop} (h : DiskIs w S q mb fv L d) (h1 : ∀ k, S k → S' k) (h2 : ∀ k, S' k → k < w.heap.size) : DiskIs w S' q mb fv L d :=
  { h with foot := fun k hk => h1 k (h.foot k hk), low := h2 }
theorem DiskIs.nodup (h : DiskIs w S q mb fv L d) : (L.map (·.f.name)).Nodup := by
  have := h.sorted
  rw [← h.files, List.map_map] at this
  exact this.imp (fun {a b} hab he => by rw [he] at hab; exact List.lt_irrefl _ hab)
/-- what the map says of a name -/
theorem DiskIs.look (h : DiskIs w S q mb fv L d) : ∃ D, w.ownsMap Tryz.prog 9 ptrElem mb L.length D ∧ Maps.size D = L.length ∧ Dic D (L.map fun x => (x.f.name, x.blk)) := by
  obtain ⟨D, ho, hd⟩ := h.map
  refine ⟨D, ho, ?_, hd⟩
  rw [hd.size ho (by rw [List.map_map]; exact h.nodup), List.length_map]
end
theorem blocks_perm (q mb : Nat) (fv : Value) (A : List Fl) (x : Fl) (B : List Fl) : (diskBlocks q mb fv (A ++ x :: B)).Perm (x.blocks ++ diskBlocks q mb fv (A ++ B)) := by
  refine List.perm_iff_count.2 fun k => ?_
  simp only [diskBlocks, List.flatMap_append, List.flatMap_cons, List.count_cons, List.count_append]
  omega
theorem not_mem_of_nodup_append {l r : List Nat} (h : (l ++ r).Nodup) {k : Nat} (hk : k ∈ l) : k ∉ r := fun hr => (List.nodup_append.1 h).2.2 k hk k hr rfl
section
variable {w : World} {S : Nat → Prop} {q mb : Nat} {fv : Value} {L : List Fl} {d : Dk}
/-- the struct itself is written -/
theorem DiskIs.head_turn {w' : World} {fv' : Value} {fs' : List (Int × Int)} {st' : Int} (h : DiskIs w S q mb fv L d) (ho : Only (fun k => k = q) w w')
    (hq : w'.heap[q]? = some (.cells #[.map (some mb), fv', .int .i64 st'] 120 (0, 0))) (hob : ∀ k, fv'.ownBlock = some k → fv.ownBlock = some k)
    (hr : rowAt w 98 2 fv' fs'.length (fateCells fs')) : DiskIs w' S q mb fv' L { d with fates := fs', steps := st' } := by
  have hne : ∀ k, k ∈ (mb :: (fv.ownBlock.toList ++ L.flatMap Fl.blocks)) → w'.heap[k]? = w.heap[k]? := fun k hk =>
    ho.block k (h.low k (h.foot k (List.mem_cons_of_mem _ hk))) (fun e => (List.nodup_cons.1 h.apart).1 (e ▸ hk))
  have hsub : fv'.ownBlock.toList.Sublist fv.ownBlock.toList := by
    cases hv : fv'.ownBlock with
    | none => simp
    | some k => rw [hob k hv]; simp
  have hall : (diskBlocks q mb fv' L).Sublist (diskBlocks q mb fv L) := ((hsub.append_right _).cons_cons mb).cons_cons q
  exact {
    files := h.files
    head := hq
    fates := hr.kept (fun k hk => hne k (by simp [hob k hk]))
    map := by
      obtain ⟨D, hown, hd⟩ := h.map
      exact ⟨D, ownsMap_kept hown (hne mb (by simp)), hd⟩
    each := fun x hx => (h.each x hx).kept (fun k hk => hne k (by simp only [List.mem_cons, List.mem_append, List.mem_flatMap]; exact .inr (.inr ⟨x, hx, hk⟩)))
    apart := h.apart.sublist hall
    foot := fun k hk => h.foot k (hall.subset hk)
    low := fun k hk => Nat.lt_of_lt_of_le (h.low k hk) ho.size
    sorted := h.sorted
    names := h.names
    few := h.few }
/-- a file is written -/
theorem DiskIs.file_turn {w' : World} {A B : List Fl} {x x' : Fl} (h : DiskIs w S q mb fv (A ++ x :: B) d) (hb : x'.blk = x.blk) (hn : x'.f.name = x.f.name) (ho : Only (fun k => k ∈ x.blocks) w w') (hx : FlAt w' x')
    (hv : ∀ k, x'.bv.ownBlock = some k → x.bv.ownBlock = some k ∨ (w.heap.size ≤ k ∧ k < w'.heap.size)) :
    DiskIs w' (fun k => S k ∨ (w.heap.size ≤ k ∧ k < w'.heap.size)) q mb fv (A ++ x' :: B) { d with files := A.map (·.f) ++ x'.f :: B.map (·.f) } := by
  have hp := (blocks_perm q mb fv A x B)
  have hnd := hp.nodup_iff.1 h.apart
  have hlow : ∀ k ∈ x.blocks ++ diskBlocks q mb fv (A ++ B), S k := fun k hk => h.foot k (hp.mem_iff.2 hk)
  have hrest : ∀ k ∈ diskBlocks q mb fv (A ++ B), w'.heap[k]? = w.heap[k]? := fun k hk =>
    ho.block k (h.low k (hlow k (List.mem_append_right _ hk))) (fun hx' => not_mem_of_nodup_append hnd hx' hk)
  have hxlt : ∀ k ∈ x.blocks, k < w.heap.size := fun k hk => h.low k (hlow k (List.mem_append_left _ hk))
  have hx'b : ∀ k ∈ x'.blocks, k ∈ x.blocks ∨ (w.heap.size ≤ k ∧ k < w'.heap.size) := fun k hk => by
    simp only [Fl.blocks, List.mem_cons, Option.mem_toList] at hk ⊢
    rcases hk with rfl | hk
    · exact .inl (.inl hb)
    · rcases hv k hk with h1 | h1
      · exact .inl (.inr h1)
      · exact .inr h1
  have hp' := (blocks_perm q mb fv A x' B)
  have hfiles : d.files = A.map (·.f) ++ x.f :: B.map (·.f) := by rw [← h.files]; simp
  have hnames : (A.map (·.f) ++ x'.f :: B.map (·.f)).map (·.name) = d.files.map (·.name) := by rw [hfiles]; simp [hn]
  exact {
    files := by simp
    head := (hrest q (by simp [diskBlocks])).trans h.head
    fates := h.fates.kept (fun k hk => hrest k (by simp [diskBlocks, hk]))
    map := by
      obtain ⟨D, hown, hd⟩ := h.map
      refine ⟨D, ?_, ?_⟩
      · have := ownsMap_kept hown (hrest mb (by simp [diskBlocks]))
        simpa using this
      · have e : ((A ++ x' :: B).map fun x => (x.f.name, x.blk)) = ((A ++ x :: B).map fun x => (x.f.name, x.blk)) := by simp [hn, hb]
        rw [e]
        exact hd
    each := fun y hy => by
      rcases List.mem_append.1 hy with hy | hy
      · exact (h.each y (by simp [hy])).kept (fun k hk => hrest k (by simp only [diskBlocks, List.mem_cons, List.mem_append, List.mem_flatMap]; exact .inr (.inr (.inr ⟨y, .inl hy, hk⟩))))
      · rcases List.mem_cons.1 hy with rfl | hy
        · exact hx
        · exact (h.each y (by simp [hy])).kept (fun k hk => hrest k (by simp only [diskBlocks, List.mem_cons, List.mem_append, List.mem_flatMap]; exact .inr (.inr (.inr ⟨y, .inr hy, hk⟩))))
    apart := by
      refine hp'.nodup_iff.2 (List.nodup_append.2 ⟨?_, (List.nodup_append.1 hnd).2.1, fun a ha b hb' e => ?_⟩)
      · have hnx := (List.nodup_append.1 hnd).1
        cases hv' : x'.bv.ownBlock with
        | none => simp [Fl.blocks, hv']
        | some k =>
          simp only [Fl.blocks, hv', Option.toList_some, List.nodup_cons, List.mem_singleton, List.not_mem_nil, not_false_eq_true, List.nodup_nil, and_self, and_true]
          intro he
          rcases hv k hv' with h1 | h1
          · simp only [Fl.blocks, h1, Option.toList_some, List.nodup_cons, List.mem_singleton] at hnx
            exact hnx.1 (by rw [← hb]; exact he)
          · have := hxlt x.blk (by simp [Fl.blocks])
            omega
      · subst e
        rcases hx'b a ha with h1 | h1
        · exact not_mem_of_nodup_append hnd h1 hb'
        · have := h.low a (hlow a (List.mem_append_right _ hb'))
          omega
    foot := fun k hk => by
      rcases List.mem_append.1 (hp'.mem_iff.1 hk) with hk | hk
      · rcases hx'b k hk with h1 | h1
        · exact .inl (hlow k (List.mem_append_left _ h1))
        · exact .inr h1
      · exact .inl (hlow k (List.mem_append_right _ hk))
    low := fun k hk => by
      rcases hk with hk | hk
      · exact Nat.lt_of_lt_of_le (h.low k hk) ho.size
      · exact hk.2
    sorted := by
      show ((A.map (·.f) ++ x'.f :: B.map (·.f)).map (·.name)).Pairwise (· < ·)
      rw [hnames]; exact h.sorted
    names := fun f hf => by
      have hf' : f ∈ A.map (·.f) ++ x'.f :: B.map (·.f) := hf
      have : f.name ∈ d.files.map (·.name) := by rw [← hnames]; exact List.mem_map_of_mem hf'
      obtain ⟨g, hg, he⟩ := List.mem_map.1 this
      rw [← he]; exact h.names g hg
    few := by
      have : (A.map (·.f) ++ x'.f :: B.map (·.f)).length = d.files.length := by rw [hfiles]; simp
      show (A.map (·.f) ++ x'.f :: B.map (·.f)).length ≤ 4096
      rw [this]; exact h.few }
end
theorem insF_split (f : F0) : ∀ L : List Fl, ∃ A B, L = A ++ B ∧ insF f (L.map (·.f)) = A.map (·.f) ++ f :: B.map (·.f)
  | [] => ⟨[], [], rfl, rfl⟩
  | g :: r => by
    rw [List.map_cons]
    unfold insF
    split
    · obtain ⟨A, B, hL, hi⟩ := insF_split f r
      exact ⟨g :: A, B, by rw [hL]; rfl, by rw [hi]; rfl⟩
    · exact ⟨[], g :: r, rfl, rfl⟩
section
variable {w : World} {S : Nat → Prop} {q mb : Nat} {fv : Value} {d : Dk}
/-- a new file -/
theorem DiskIs.file_add {w' : World} {A B : List Fl} {x' : Fl} {n' : Nat} {D' : DataW Unit} {fs : List F0} (h : DiskIs w S q mb fv (A ++ B) d) (ho : Only (fun k => k = mb) w w') (hx : FlAt w' x')
    (hm : w'.ownsMap Tryz.prog 9 ptrElem mb n' D') (hd : Dic D' ((A ++ x' :: B).map fun x => (x.f.name, x.blk))) (hnew : ∀ k ∈ x'.blocks, w.heap.size ≤ k ∧ k < w'.heap.size) (hnd : x'.blocks.Nodup)
    (hfs : fs = A.map (·.f) ++ x'.f :: B.map (·.f)) (hs : (fs.map (·.name)).Pairwise (· < ·)) (hnm : nameOk x'.f.name = true) (hfew : d.files.length < 4096) :
    DiskIs w' (fun k => S k ∨ (w.heap.size ≤ k ∧ k < w'.heap.size)) q mb fv (A ++ x' :: B) { d with files := fs } := by
  have hne : ∀ k ∈ diskBlocks q mb fv (A ++ B), k ≠ mb → w'.heap[k]? = w.heap[k]? := fun k hk hk' => ho.block k (h.low k (h.foot k hk)) hk'
  have hap := h.apart
  simp only [diskBlocks, List.nodup_cons, List.mem_cons, not_or] at hap
  have hmb : ∀ k, k ∈ fv.ownBlock.toList ++ (A ++ B).flatMap Fl.blocks → k ≠ mb := fun k hk e => hap.2.1 (e ▸ hk)
  have hp' := blocks_perm q mb fv A x' B
  have hfl : d.files = A.map (·.f) ++ B.map (·.f) := by rw [← h.files]; simp
  have hold : ∀ y ∈ A ++ B, FlAt w' y := fun y hy => (h.each y hy).kept (fun k hk => by
    have h1 : k ∈ fv.ownBlock.toList ++ (A ++ B).flatMap Fl.blocks := List.mem_append_right _ (List.mem_flatMap.2 ⟨y, hy, hk⟩)
    exact hne k (by simp only [diskBlocks, List.mem_cons]; exact .inr (.inr h1)) (hmb k h1))
  exact {
    files := by rw [hfs]; simp
    head := (hne q (by simp [diskBlocks]) (fun e => hap.1.1 e)).trans h.head
    fates := h.fates.kept (fun k hk => hne k (by simp [diskBlocks, hk]) (hmb k (by simp [hk])))
    map := by
      refine ⟨D', ?_, hd⟩
      have h1 := ownsMap_tight hm
      rw [hd.size hm (by
        rw [List.map_map]
        have : ((A ++ x' :: B).map (·.f.name)).Pairwise (· < ·) := by rw [hfs] at hs; simpa [Function.comp_def] using hs
        exact this.imp (fun {a b} hab he => by rw [he] at hab; exact List.lt_irrefl _ hab))] at h1
      simpa using h1
    each := fun y hy => by
      rcases List.mem_append.1 hy with hy | hy
      · exact hold y (by simp [hy])
      · rcases List.mem_cons.1 hy with rfl | hy
        · exact hx
        · exact hold y (by simp [hy])
    apart := hp'.nodup_iff.2 (List.nodup_append.2 ⟨hnd, h.apart, fun a ha b hb e => by
      have h1 := h.low b (h.foot b hb)
      have h2 := (hnew a ha).1
      omega⟩)
    foot := fun k hk => by
      rcases List.mem_append.1 (hp'.mem_iff.1 hk) with hk | hk
      · exact .inr (hnew k hk)
      · exact .inl (h.foot k hk)
    low := fun k hk => by
      rcases hk with hk | hk
      · exact Nat.lt_of_lt_of_le (h.low k hk) ho.size
      · exact hk.2
    sorted := hs
    names := fun f hf => by
      have hf' : f ∈ A.map (·.f) ++ x'.f :: B.map (·.f) := by rw [← hfs]; exact hf
      rcases List.mem_append.1 hf' with h1 | h1
      · exact h.names f (by rw [hfl]; simp [h1])
      · rcases List.mem_cons.1 h1 with rfl | h1
        · exact hnm
        · exact h.names f (by rw [hfl]; simp [h1])
    few := by
      show fs.length ≤ 4096
      rw [hfl] at hfew
      rw [hfs]
      simp at hfew ⊢
      omega }
end
end Go.Proofs.YtlgcoaeddeiegaaGreat
/- Disk: is it a name. -/
namespace Go.Proofs.YtlgcoaeddeiegaaGreat
open Go.RowKit

def AllOk (l : List UInt8) : Prop := l.all okByte = true
theorem take_snoc (s : ByteArray) (k : Nat) (h : k < s.size) : s.data.toList.take (k + 1) = s.data.toList.take k ++ [s[k]] := by
  rw [List.take_succ_eq_append_getElem (by simpa using h)]; rfl
theorem AllOk.snoc {s : ByteArray} {k : Nat} (h : k < s.size) (ha : AllOk (s.data.toList.take k)) (hc : okByte s[k] = true) : AllOk (s.data.toList.take (k + 1)) := by
  unfold AllOk at *
  rw [take_snoc s k h, List.all_append, ha]
  simp [hc]
theorem nameOk_not {s : ByteArray} {k : Nat} (h : k < s.size) (hc : okByte s[k] = false) : nameOk s.data.toList = false := by
  have h1 : s.data.toList.all okByte = false := by
    rw [← List.take_append_drop (k + 1) s.data.toList, List.all_append, take_snoc s k h, List.all_append]
    simp [hc]
  simp [nameOk, h1]
theorem ret_bool {a b : Bool} (h : a = b) : Ending.returned (.bool a) = .returned (.bool b) := by rw [h]
theorem okByte_iff (x : UInt8) (c : Nat) (h : x.toNat = c) : okByte x = true ↔ (97 ≤ c ∧ c ≤ 122) ∨ (48 ≤ c ∧ c ≤ 57) ∨ c = 46 ∨ c = 45 := by
  subst h
  simp [okByte, Bool.or_eq_true, or_assoc]

set_option maxHeartbeats 400000 in
theorem named_any (s : ByteArray) (w : World) (hs : s.size ≤ maxLen) :
    Calls Tryz.prog 189 #[.string s] w fun e w' => e = .returned (.bool (nameOk s.data.toList)) ∧ w' = w := by
  unfold maxLen at hs
  go_enter Tryz.func189, Tryz.ntmps189
  go_wp2
  go_loop [7] (fun i => ∃ k : Nat, k ≤ s.size ∧ i = .int .i64 k ∧ AllOk (s.data.toList.take k)) (fun i => s.size - (intOf i).toNat)
  case atStart => exact ⟨0, Nat.zero_le _, rfl, by simp [AllOk]⟩
  case round =>
    obtain ⟨k, hk, rfl, hlow⟩ := hrel
    by_cases hlt : k < s.size
    · obtain ⟨c, hcc⟩ : ∃ c : Nat, (s[k]'hlt).toNat = c := ⟨_, rfl⟩
      have HR : Hid ((97 ≤ c ∧ c ≤ 122) ∨ (48 ≤ c ∧ c ≤ 57) ∨ c = 46 ∨ c = 45 → AllOk (s.data.toList.take (k + 1))) := Lib.hid fun h => AllOk.snoc hlt hlow ((okByte_iff _ c hcc).2 h)
      have HF : Hid (¬ ((97 ≤ c ∧ c ≤ 122) ∨ (48 ≤ c ∧ c ≤ 57) ∨ c = 46 ∨ c = 45) → nameOk s.data.toList = false) := Lib.hid fun h => nameOk_not hlt (by
        cases hb : okByte s[k] with
        | false => rfl
        | true => exact absurd ((okByte_iff _ c hcc).1 hb) h)
      clear hlow
      by_cases h0 : 97 ≤ c ∧ c ≤ 122
      · skip
        have e1 : decide ((c : Int) < 97) = false := by simp; omega
        have e2 : decide ((122 : Int) < (c : Int)) = false := by simp; omega
        have HO : Hid (AllOk (s.data.toList.take (k + 1))) := Lib.hid (HR.out (by omega))
        clear HR HF
        go_wp2
        go_round
        case rel => exact ⟨k + 1, by omega, by go_num, HO.out⟩
        case measure => simp [intOf]; omega
      by_cases h1 : 48 ≤ c ∧ c ≤ 57
      · skip
        have e1 : decide ((c : Int) < 97) = true := by simp; omega
        have e3 : decide ((c : Int) < 48) = false := by simp; omega
        have e4 : decide ((57 : Int) < (c : Int)) = false := by simp; omega
        have HO : Hid (AllOk (s.data.toList.take (k + 1))) := Lib.hid (HR.out (by omega))
        clear HR HF
        go_wp2
        go_round
        case rel => exact ⟨k + 1, by omega, by go_num, HO.out⟩
        case measure => simp [intOf]; omega
      by_cases h2 : c = 46
      · skip
        have e1 : decide ((c : Int) < 97) = true := by simp; omega
        have e3 : decide ((c : Int) < 48) = true := by simp; omega
        have e5 : ((c : Int) != 46) = false := by simp; omega
        have HO : Hid (AllOk (s.data.toList.take (k + 1))) := Lib.hid (HR.out (by omega))
        clear HR HF
        go_wp2
        go_round
        case rel => exact ⟨k + 1, by omega, by go_num, HO.out⟩
        case measure => simp [intOf]; omega
      by_cases h3 : c = 45
      · skip
        have e1 : decide ((c : Int) < 97) = true := by simp; omega
        have e3 : decide ((c : Int) < 48) = true := by simp; omega
        have e5 : ((c : Int) != 46) = true := by simp; omega
        have e6 : ((c : Int) != 45) = false := by simp; omega
        have HO : Hid (AllOk (s.data.toList.take (k + 1))) := Lib.hid (HR.out (by omega))
        clear HR HF
        go_wp2
        go_round
        case rel => exact ⟨k + 1, by omega, by go_num, HO.out⟩
        case measure => simp [intOf]; omega
      by_cases h4 : 122 < c
      · skip
        have e1 : decide ((c : Int) < 97) = false := by simp; omega
        have e2 : decide ((122 : Int) < (c : Int)) = true := by simp; omega
        have e3 : decide ((c : Int) < 48) = false := by simp; omega
        have e4 : decide ((57 : Int) < (c : Int)) = true := by simp; omega
        have e5 : ((c : Int) != 46) = true := by simp; omega
        have e6 : ((c : Int) != 45) = true := by simp; omega
        have HO : Hid (nameOk s.data.toList = false) := Lib.hid (HF.out (by omega))
        clear HR HF
        go_wp2
        go_ret
        exact ⟨ret_bool HO.out.symm, rfl⟩
      by_cases h5 : 57 < c
      · skip
        have e1 : decide ((c : Int) < 97) = true := by simp; omega
        have e3 : decide ((c : Int) < 48) = false := by simp; omega
        have e4 : decide ((57 : Int) < (c : Int)) = true := by simp; omega
        have e5 : ((c : Int) != 46) = true := by simp; omega
        have e6 : ((c : Int) != 45) = true := by simp; omega
        have HO : Hid (nameOk s.data.toList = false) := Lib.hid (HF.out (by omega))
        clear HR HF
        go_wp2
        go_ret
        exact ⟨ret_bool HO.out.symm, rfl⟩
      have hrest : c < 48 ∧ c ≠ 46 ∧ c ≠ 45 := by omega
      · skip
        have e1 : decide ((c : Int) < 97) = true := by simp; omega
        have e3 : decide ((c : Int) < 48) = true := by simp; omega
        have e5 : ((c : Int) != 46) = true := by simp; omega
        have e6 : ((c : Int) != 45) = true := by simp; omega
        have HO : Hid (nameOk s.data.toList = false) := Lib.hid (HF.out (by omega))
        clear HR HF
        go_wp2
        go_ret
        exact ⟨ret_bool HO.out.symm, rfl⟩
    · obtain rfl : k = s.size := by omega
      have hl : s.data.toList.all okByte = true := by
        have h1 : AllOk (s.data.toList.take s.size) := hlow
        rwa [AllOk, List.take_of_length_le (by simp)] at h1
      have HF : Hid (nameOk s.data.toList = (decide (1 ≤ s.size) && decide (s.size ≤ 32))) := by
        refine Lib.hid ?_
        simp [nameOk, hl]
      clear hl hlow
      by_cases h1 : 1 ≤ s.size
      · go_wp2
        go_ret
        exact ⟨ret_bool (by rw [HF.out]; simp [h1]; omega), rfl⟩
      · have hd : decide ((1 : Int) ≤ (s.size : Int)) = false := by simp; omega
        go_wp2
        go_ret
        exact ⟨ret_bool (by rw [HF.out]; simp [h1]), rfl⟩
end Go.Proofs.YtlgcoaeddeiegaaGreat
/- Disk: the next step. -/
namespace Go.Proofs.YtlgcoaeddeiegaaGreat
open Go Go.Maps Go.RowKit

theorem heap_setCell_here {w : World} {q i : Nat} {cs : Array Value} {T : TypeId} {fr : Nat × Nat} (v : Value) (h : w.heap[q]? = some (.cells cs T fr)) : (w.setCell ⟨q, i, none⟩ v).heap[q]? = some (.cells (cs.setIfInBounds i v) T fr) := by
  rw [setCell_eq_setRow w q i cs T fr v h]
  exact setRow_heap w q cs _ T fr h
theorem only_setCell (S : Nat → Prop) (w : World) (q i : Nat) (v : Value) (h : S q) : Only S w (w.setCell ⟨q, i, none⟩ v) :=
  ⟨rfl, rfl, rfl, by simp [World.setCell], fun k _ hk => Below.heap_setCell _ _ _ _ (fun e => hk (by rw [e]; exact h))⟩
theorem only_alloc (S : Nat → Prop) (w : World) (o : Obj) : Only S w (w.alloc o) := Only.of_below ((Below.refl _ _).alloc (Nat.le_refl _) _) (Nat.le_refl _) S
theorem only_new {S : Nat → Prop} {w w' : World} (h : Only (fun k => S k ∨ w.heap.size ≤ k) w w') : Only S w w' :=
  h.mono (fun i hi hs => by
    rcases hs with hs | hs
    · exact hs
    · omega)
theorem only_drew {S : Nat → Prop} {w w' : World} (h : Only S w w') : Only S w w'.drew := ⟨h.os, h.tape, h.output, h.size, h.block⟩
theorem alloc_cells (w : World) (cs : Array Value) (T : TypeId) : (w.alloc (.cells cs T)).heap[w.heap.size]? = some (.cells cs T (0, 0)) := heap_alloc_new w _
theorem cell_of {w : World} {q i : Nat} {cs : Array Value} {T : TypeId} {fr : Nat × Nat} {v : Value} (h : w.heap[q]? = some (.cells cs T fr)) (hv : cs[i]? = some v) : w.cell? ⟨q, i, none⟩ = some v := by
  rw [cell_of_row w q i _ _ _ h, hv]
theorem free_of {w : World} {q : Nat} {cs : Array Value} {T : TypeId} (h : w.heap[q]? = some (.cells cs T (0, 0))) (i : Nat) : w.frozen? ⟨q, i, none⟩ = false := by
  simp [World.frozen?, h]
theorem rowAt.shape {w : World} {e : TypeId} {size : Nat} {v : Value} {n : Nat} {xs : List Value} (h : rowAt w e size v n xs) : ∃ oa cap, v = .slice oa n cap ∧ n ≤ cap := by
  rcases h.2 with ⟨rfl, rfl⟩ | ⟨g, off, cap, cur, fr, rfl, _, hn, _⟩
  · exact ⟨none, 0, rfl, Nat.le_refl _⟩
  · exact ⟨_, _, rfl, hn⟩
theorem rowAt.addr {w : World} {e : TypeId} {size : Nat} {oa : Option Addr} {cap n : Nat} {xs : List Value} (h : rowAt w e size (.slice oa n cap) n xs) (hn : 0 < n) : ∃ g off, oa = some ⟨g, off, none⟩ := by
  rcases h.2 with ⟨_, h0⟩ | ⟨g, off, c, cur, fr, hv, _⟩
  · omega
  · simp only [Value.slice.injEq] at hv
    exact ⟨g, off, hv.1⟩

theorem sub_own (c : Prop) [Decidable c] (g off k n cap : Nat) : (Value.slice (if c then some ⟨g, off, none⟩ else (some (⟨g, off, none⟩ : Addr)).map (·.add k)) n cap).ownBlock = some g := by
  split
  · rfl
  · simp [Value.ownBlock, Go.WideShapes.add_plain]
theorem fateCells_cons (x : Int × Int) (r : List (Int × Int)) : fateCells (x :: r) = .int .i64 x.1 :: .int .i64 x.2 :: fateCells r := rfl
theorem fateCells_length : ∀ l : List (Int × Int), (fateCells l).length = l.length * 2
  | [] => rfl
  | x :: r => by
    rw [fateCells_cons]
    simp only [List.length_cons, fateCells_length r]
    omega
theorem run_tail (g off n cap : Nat) (W : World) : (Instr.slice 37 (.slice (some ⟨g, off, none⟩) (n + 1) cap) (some (.int .i64 1)) none none).run Tryz.prog W = .ok (.slice (if cap = 1 then some ⟨g, off, none⟩ else (some (⟨g, off, none⟩ : Addr)).map (·.add (1 * 2))) n (cap - 1)) W := by
  have hs : (sizeOf 98).run Tryz.prog W = .ok 2 W := by kernel_rfl
  have he : Tryz.prog.elem 37 = 98 := by kernel_rfl
  rw [run_slice_l (P := Tryz.prog) (w := W) 37 (some ⟨g, off, none⟩) (n + 1) cap (by rw [he]; exact Tryz.underlying37) .i64 1 (by omega) (by omega), he, hs]
  simp [Result.andThen, sliced]
theorem step_end {w w3 : World} {S : Nat → Prop} {q mb : Nat} {fv fv' : Value} {L : List Fl} {d : Dk} {rest : List (Int × Int)} (h : DiskIs w S q mb fv L d) (ho : Only (fun k => k = q) w w3) (hq : w3.heap[q]? = some (.cells #[.map (some mb), fv', .int .i64 (wrap64 (d.steps + 1))] 120 (0, 0)))
    (hrest : d.fates.tail = rest) (hob : ∀ k, fv'.ownBlock = some k → fv.ownBlock = some k) (hr : rowAt w 98 2 fv' rest.length (fateCells rest)) : DiskIs w3 S q mb fv' L d.next := by
  subst hrest
  exact h.head_turn ho hq hob hr

/-- what a step makes of a disk -/
def StepIs (w : World) (S : Nat → Prop) (q mb : Nat) (L : List Fl) (d : Dk) (e : Ending) (w' : World) : Prop :=
  ∃ (kd kp : Int) (fv' : Value), e = .returned (.tuple #[.agg #[.int .i64 kd, .int .i64 kp], .int .i64 d.fate.1]) ∧ kp.toNat = d.fate.2 ∧ DiskIs w' S q mb fv' L d.next ∧ Only (fun k => k = q) w w'
set_option maxRecDepth 100000 in
set_option maxHeartbeats 1000000 in
theorem step_b {w : World} {S : Nat → Prop} {q mb : Nat} {fv : Value} {L : List Fl} {d : Dk} (h : DiskIs w S q mb fv L d) :
    Calls Tryz.prog 135 #[.pointer (some ⟨q, 0, none⟩)] w fun e w' => StepIs w S q mb L d e w' := by
  obtain ⟨oa, cap, rfl, hnc⟩ := h.fates.shape
  obtain ⟨st, hst⟩ : ∃ st, d.steps = st := ⟨_, rfl⟩
  obtain ⟨fs, hfs⟩ : ∃ fs, d.fates = fs := ⟨_, rfl⟩
  have hqlt : q < w.heap.size := h.low q (h.foot q (by simp [diskBlocks]))
  go_enter Tryz.func135, Tryz.ntmps135
  go_upto_region 1 with fail
  obtain ⟨w1, hw1⟩ : ∃ w1 : World, w1 = w.alloc (.cells #[.int .i64 0, .int .i64 0] 98) := ⟨_, rfl⟩
  have hr1 : w1.heap[w.heap.size]? = some (.cells #[.int .i64 0, .int .i64 0] 98 (0, 0)) := by rw [hw1]; exact alloc_cells _ _ _
  have hq1 : w1.heap[q]? = some (.cells #[.map (some mb), .slice oa fs.length cap, .int .i64 st] 120 (0, 0)) := by
    rw [hw1, ← hst, ← hfs]
    exact (Below.heap_alloc _ _ q hqlt).trans h.head
  have ho1 : Only (fun k => k = q) w w1 := by rw [hw1]; exact only_alloc _ _ _
  have hrq : w.heap.size ≠ q := by omega
  rw [← hw1]
  clear hw1
  obtain ⟨r, hr⟩ : ∃ r, r = w.heap.size := ⟨_, rfl⟩
  have hrw : w.heap.size ≤ r := by omega
  rw [← hr] at hr1 hrq ⊢
  clear hr
  have H := Lib.hid h
  have HO1 := Lib.hid ho1
  clear h ho1
  have c2 : w1.cell? ⟨q, 2, none⟩ = some (.int .i64 st) := cell_of hq1 rfl
  have z2 : w1.frozen? ⟨q, 2, none⟩ = false := free_of hq1 _
  go_upto_region 2 with fail
  obtain ⟨st', hst'⟩ : ∃ st', wrap64 (st + 1) = st' := ⟨_, rfl⟩
  rw [hst']
  obtain ⟨w2, hw2⟩ : ∃ w2 : World, w2 = w1.setCell ⟨q, 2, none⟩ (.int .i64 st') := ⟨_, rfl⟩
  have hq2 : w2.heap[q]? = some (.cells #[.map (some mb), .slice oa fs.length cap, .int .i64 st'] 120 (0, 0)) := by rw [hw2]; exact heap_setCell_here _ hq1
  have hr2 : w2.heap[r]? = some (.cells #[.int .i64 0, .int .i64 0] 98 (0, 0)) := by
    rw [hw2]; exact (Below.heap_setCell _ _ _ _ hrq).trans hr1
  have ho2 : Only (fun k => k = q) w w2 := by rw [hw2]; exact HO1.out.trans (only_setCell (fun k => k = q) _ _ _ _ rfl) (fun _ _ h => h)
  rw [← hw2]
  clear hw2 hq1 hr1 c2 z2 HO1
  have HO2 := Lib.hid ho2
  have HST := Lib.hid hst'
  clear ho2 hst'
  have c1 : w2.cell? ⟨q, 1, none⟩ = some (.slice oa fs.length cap) := cell_of hq2 rfl
  have z1 : w2.frozen? ⟨q, 1, none⟩ = false := free_of hq2 _
  have r0 : w2.cell? ⟨r, 0, none⟩ = some (.int .i64 0) := cell_of hr2 rfl
  have r1 : w2.cell? ⟨r, 1, none⟩ = some (.int .i64 0) := cell_of hr2 rfl
  have y0 : w2.frozen? ⟨r, 0, none⟩ = false := free_of hr2 _
  have y1 : w2.frozen? ⟨r, 1, none⟩ = false := free_of hr2 _
  cases fs with
  | nil =>
    have HF : Hid (d.fates = []) := Lib.hid hfs
    have HR : Hid (rowAt w 98 2 (.slice oa 0 cap) 0 (fateCells [])) := Lib.hid (by have := H.out.fates; rw [hfs] at this; exact this)
    clear hfs
    go_wp2_with fail
    obtain ⟨w3, hw3⟩ : ∃ w3 : World, w3 = (w2.setCell ⟨r, 0, none⟩ (.int .i64 0)).setCell ⟨r, 1, none⟩ (.int .i64 0) := ⟨_, rfl⟩
    have hr3 : w3.heap[r]? = some (.cells #[.int .i64 0, .int .i64 0] 98 (0, 0)) := by rw [hw3]; exact heap_setCell_here _ (heap_setCell_here _ hr2)
    have hq3 : w3.heap[q]? = w2.heap[q]? := by rw [hw3]; exact (Below.heap_setCell _ _ _ _ (fun e => hrq e.symm)).trans (Below.heap_setCell _ _ _ _ (fun e => hrq e.symm))
    have ho3 : Only (fun k => k = r) w2 w3 := by rw [hw3]; exact (only_setCell (fun k => k = r) _ _ _ _ rfl).trans (only_setCell (fun k => k = r) _ _ _ _ rfl) (fun _ _ h => h)
    rw [← hw3]
    have s0 : w3.cell? ⟨r, 0, none⟩ = some (.int .i64 0) := cell_of hr3 rfl
    have s1 : w3.cell? ⟨r, 1, none⟩ = some (.int .i64 0) := cell_of hr3 rfl
    refine bodyPost_ret (v := .tuple #[.agg #[.int .i64 0, .int .i64 0], .int .i64 0]) (by simp [results, Tryz.results135, go_sem, s0, s1]) rfl ?_
    have ho : Only (fun k => k = q) w w3 := HO2.out.trans ho3 (fun i hi he => by omega)
    refine ⟨0, 0, .slice oa 0 cap, by simp [Dk.fate, HF.out], by simp [Dk.fate, HF.out], step_end (rest := []) H.out ho (hq3.trans ?_) (by rw [HF.out]; rfl) (fun k hk => by rw [HF.out]; exact hk) HR.out, ho⟩
    rw [hq2, hst, HST.out]
    rfl
  | cons f rest =>
    obtain ⟨k0, n0⟩ := f
    have hrow := H.out.fates
    have hlen : d.fates.length = rest.length + 1 := by rw [hfs]; rfl
    rw [hfs] at hrow
    obtain ⟨g, off, rfl⟩ := hrow.addr (by simp)
    have hgq : g ≠ q := fun e => by
      have := H.out.apart
      simp only [diskBlocks, List.nodup_cons] at this
      exact this.1 (by rw [← e]; simp [Value.ownBlock])
    have hglt : g < w.heap.size := hrow.lt g rfl
    have hgw : w2.heap[g]? = w.heap[g]? := HO2.out.block g hglt hgq
    have hrow2 : rowAt w2 98 2 (.slice (some ⟨g, off, none⟩) (rest.length + 1) cap) (rest.length + 1) (fateCells ((k0, n0) :: rest)) := hrow.kept (fun k hk => by
      simp only [Value.ownBlock, Option.some.injEq] at hk
      rw [← hk]; exact hgw)
    have f0 : w2.cell? ⟨g, off, none⟩ = some (.int .i64 k0) := by
      have := hrow2.cells (g := g) (off := off) rfl 0 (.int .i64 k0) rfl
      simpa [Go.WideShapes.add_plain] using this
    have f1 : w2.cell? ⟨g, off + 1, none⟩ = some (.int .i64 n0) := by
      have := hrow2.cells (g := g) (off := off) rfl 1 (.int .i64 n0) rfl
      simpa [Go.WideShapes.add_plain] using this
    have hsub := hrow.sub 1 (rest.length + 1) cap (by omega) (Nat.le_refl _) (by rw [← hlen]; exact hnc) (Nat.le_refl _)
    obtain ⟨oa', hfv⟩ : ∃ oa' : Option Addr, oa' = if cap = 1 then some ⟨g, off, none⟩ else (some (⟨g, off, none⟩ : Addr)).map (·.add (1 * 2)) := ⟨_, rfl⟩
    obtain ⟨c', hc'⟩ : ∃ c', c' = cap - 1 := ⟨_, rfl⟩
    have hown : (Value.slice oa' rest.length c').ownBlock = some g := by rw [hfv]; exact sub_own _ _ _ _ _ _
    obtain ⟨n1, hn1⟩ : ∃ n1, n1 = rest.length + 1 := ⟨_, rfl⟩
    have hsl : ∀ W : World, (Instr.slice 37 (.slice (some ⟨g, off, none⟩) n1 cap) (some (.int .i64 1)) none none).run Tryz.prog W = .ok (.slice oa' rest.length c') W := fun W => by rw [hfv, hn1, hc']; exact run_tail g off rest.length cap W
    have hn0 : ((n1 : Int) == 0) = false := by simp; omega
    have hn2 : (0 : Int) < (n1 : Int) := by omega
    have hn3 : (1 : Int) ≤ (n1 : Int) := by omega
    rw [List.length_cons, ← hn1] at c1 hq2
    have HSUB : Hid (rowAt w 98 2 (.slice oa' rest.length c') rest.length (fateCells rest)) := Lib.hid (by
      rw [hfv, hc']
      have e : (((fateCells ((k0, n0) :: rest)).drop (1 * 2)).take ((rest.length + 1 - 1) * 2)) = fateCells rest := by
        rw [fateCells_cons]
        show (fateCells rest).take (rest.length * 2) = fateCells rest
        exact List.take_of_length_le (Nat.le_of_eq (fateCells_length rest))
      rw [e] at hsub
      simpa using hsub)
    have HOWN := Lib.hid hown
    have HG : Hid (g ≠ q ∧ g < w.heap.size) := Lib.hid ⟨hgq, hglt⟩
    have HFS := Lib.hid hfs
    have HQ2 := Lib.hid hq2
    clear hrow hrow2 hsub hfv hown hfs hgw hlen hnc hglt hgq hn1 hq2 hc'
    go_upto_region 5 with fail
    obtain ⟨w3, hw3⟩ : ∃ w3 : World, w3 = w2.alloc (.cells #[.int .i64 k0, .int .i64 n0] 98) := ⟨_, rfl⟩
    obtain ⟨r', hr'⟩ : ∃ r', r' = w2.heap.size := ⟨_, rfl⟩
    have hx3 : w3.heap[r']? = some (.cells #[.int .i64 k0, .int .i64 n0] 98 (0, 0)) := by rw [hw3, hr']; exact alloc_cells _ _ _
    have hq3 : w3.heap[q]? = some (.cells #[.map (some mb), .slice (some ⟨g, off, none⟩) n1 cap, .int .i64 st'] 120 (0, 0)) := by
      rw [hw3]
      exact (Below.heap_alloc _ _ q (Nat.lt_of_lt_of_le hqlt HO2.out.size)).trans HQ2.out
    have hr3 : w3.heap[r]? = some (.cells #[.int .i64 0, .int .i64 0] 98 (0, 0)) := by rw [hw3]; exact (Below.heap_alloc _ _ r (Array.getElem?_eq_some_iff.1 hr2).1).trans hr2
    have ho3 : Only (fun k => k = q) w w3 := by rw [hw3]; exact HO2.out.trans (only_alloc (fun k => k = q) _ _) (fun _ _ h => h)
    have hrr : r' ≠ r ∧ r' ≠ q ∧ w.heap.size ≤ r' := by
      have h1 := (Array.getElem?_eq_some_iff.1 hr2).1
      have h2 := HO2.out.size
      omega
    rw [← hw3, ← hr']
    clear hw3 hr' hr2 HQ2 HO2 c1 z1 r0 r1 y0 y1 f0 f1
    have c1 : w3.cell? ⟨q, 1, none⟩ = some (.slice (some ⟨g, off, none⟩) n1 cap) := cell_of hq3 rfl
    have z1 : w3.frozen? ⟨q, 1, none⟩ = false := free_of hq3 _
    go_upto_region 6 with fail
    obtain ⟨w4, hw4⟩ : ∃ w4 : World, w4 = w3.setCell ⟨q, 1, none⟩ (.slice oa' rest.length c') := ⟨_, rfl⟩
    have hx4 : w4.heap[r']? = some (.cells #[.int .i64 k0, .int .i64 n0] 98 (0, 0)) := by rw [hw4]; exact (Below.heap_setCell _ _ _ _ hrr.2.1).trans hx3
    have hr4 : w4.heap[r]? = some (.cells #[.int .i64 0, .int .i64 0] 98 (0, 0)) := by rw [hw4]; exact (Below.heap_setCell _ _ _ _ hrq).trans hr3
    have hq4 : w4.heap[q]? = some (.cells #[.map (some mb), .slice oa' rest.length c', .int .i64 st'] 120 (0, 0)) := by rw [hw4]; exact heap_setCell_here _ hq3
    have ho4 : Only (fun k => k = q) w w4 := by rw [hw4]; exact ho3.trans (only_setCell (fun k => k = q) _ _ _ _ rfl) (fun _ _ h => h)
    rw [← hw4]
    clear hw4 hx3 hq3 hr3 ho3 c1 z1
    have HO4 := Lib.hid ho4
    have HQ4 := Lib.hid hq4
    have HRR := Lib.hid hrr
    clear ho4 hq4 hrr hsl
    have x0 : w4.cell? ⟨r', 0, none⟩ = some (.int .i64 k0) := cell_of hx4 rfl
    have x1 : w4.cell? ⟨r', 1, none⟩ = some (.int .i64 n0) := cell_of hx4 rfl
    have r0 : w4.cell? ⟨r, 0, none⟩ = some (.int .i64 0) := cell_of hr4 rfl
    have r1 : w4.cell? ⟨r, 1, none⟩ = some (.int .i64 0) := cell_of hr4 rfl
    have y0 : w4.frozen? ⟨r, 0, none⟩ = false := free_of hr4 _
    have y1 : w4.frozen? ⟨r, 1, none⟩ = false := free_of hr4 _
    obtain ⟨b1, hb1⟩ : ∃ b, ((k0 == 1) : Bool) = b := ⟨_, rfl⟩
    obtain ⟨b2, hb2⟩ : ∃ b, ((k0 == 2) : Bool) = b := ⟨_, rfl⟩
    have HB : Hid ((k0 = 1 ↔ b1 = true) ∧ (k0 = 2 ↔ b2 = true)) := Lib.hid ⟨by rw [← hb1]; simp, by rw [← hb2]; simp⟩
    have hend : ∀ (w5 : World) (er : Int), w5 = (w4.setCell ⟨r, 0, none⟩ (.int .i64 k0)).setCell ⟨r, 1, none⟩ (.int .i64 n0) → er = d.fate.1 →
        w5.cell? ⟨r, 0, none⟩ = some (.int .i64 k0) ∧ w5.cell? ⟨r, 1, none⟩ = some (.int .i64 n0) ∧ StepIs w S q mb L d (.returned (.tuple #[.agg #[.int .i64 k0, .int .i64 n0], .int .i64 er])) w5 := fun w5 er hw5 her => by
      have hr5 : w5.heap[r]? = some (.cells #[.int .i64 k0, .int .i64 n0] 98 (0, 0)) := by rw [hw5]; exact heap_setCell_here _ (heap_setCell_here _ hr4)
      have hq5 : w5.heap[q]? = w4.heap[q]? := by rw [hw5]; exact (Below.heap_setCell _ _ _ _ (fun e => hrq e.symm)).trans (Below.heap_setCell _ _ _ _ (fun e => hrq e.symm))
      have ho5 : Only (fun k => k = r) w4 w5 := by rw [hw5]; exact (only_setCell (fun k => k = r) _ _ _ _ rfl).trans (only_setCell (fun k => k = r) _ _ _ _ rfl) (fun _ _ h => h)
      have ho : Only (fun k => k = q) w w5 := HO4.out.trans ho5 (fun i hi he => by omega)
      refine ⟨cell_of hr5 rfl, cell_of hr5 rfl, k0, n0, .slice oa' rest.length c', by rw [her], ?_, step_end (rest := rest) H.out ho (hq5.trans ?_) (by rw [HFS.out]; rfl) (fun k hk => by rw [HOWN.out] at hk; exact hk) HSUB.out, ho⟩
      · simp only [Dk.fate, HFS.out]
        split
        · rfl
        · split <;> rfl
      · rw [HQ4.out, hst, HST.out]
    have HEND := Lib.hid hend
    clear hend
    cases b1
    · cases b2
      · have he : (0 : Int) = d.fate.1 := by
          have h1 : ¬ k0 = 1 := fun h => by cases HB.out.1.1 h
          have h2 : ¬ k0 = 2 := fun h => by cases HB.out.2.1 h
          simp [Dk.fate, HFS.out, h1, h2]
        have HE := Lib.hid he
        clear he
        go_wp2_with fail
        obtain ⟨s0, s1, hx⟩ := HEND.out _ 0 rfl HE.out
        exact bodyPost_ret (v := .tuple #[.agg #[.int .i64 k0, .int .i64 n0], .int .i64 0]) (by simp [results, Tryz.results135, go_sem, s0, s1]) rfl hx
      · have he : (6 : Int) = d.fate.1 := by
          have h2 : k0 = 2 := HB.out.2.2 rfl
          simp [Dk.fate, HFS.out, h2]
        have HE := Lib.hid he
        clear he
        go_wp2_with fail
        obtain ⟨s0, s1, hx⟩ := HEND.out _ 6 rfl HE.out
        exact bodyPost_ret (v := .tuple #[.agg #[.int .i64 k0, .int .i64 n0], .int .i64 6]) (by simp [results, Tryz.results135, go_sem, s0, s1]) rfl hx
    · have he : (5 : Int) = d.fate.1 := by
        have h1 : k0 = 1 := HB.out.1.2 rfl
        simp [Dk.fate, HFS.out, h1]
      have HE := Lib.hid he
      clear he
      go_wp2_with fail
      obtain ⟨s0, s1, hx⟩ := HEND.out _ 5 rfl HE.out
      exact bodyPost_ret (v := .tuple #[.agg #[.int .i64 k0, .int .i64 n0], .int .i64 5]) (by simp [results, Tryz.results135, go_sem, s0, s1]) rfl hx
end Go.Proofs.YtlgcoaeddeiegaaGreat
/- crc: the table of fours, bytes that go in, the sum of one text. -/
namespace Go.Proofs.YtlgcoaeddeiegaaGreat
open Go Go.RowKit
attribute [local go_sem] Oper.semAt_some

def crcIt : Nat → Int → Int
  | 0, x => x
  | j + 1, x => crcBit (crcIt j x)
/-- the table's first i cells are made -/
def crcTab (i : Nat) : List Value := (List.range 16).map fun k => if k < i then .int .u32 (crcFour k) else .int .u32 0
theorem crcTab_set {i : Nat} : (crcTab i).toArray.setIfInBounds i (.int .u32 (crcFour i)) = (crcTab (i + 1)).toArray := by
  have e : (crcTab i).set i (.int .u32 (crcFour i)) = crcTab (i + 1) := by
    apply List.ext_getElem
    · simp [crcTab]
    · intro k h1 h2
      rw [List.getElem_set]
      have hk : k < 16 := by simpa [crcTab] using h2
      simp only [crcTab, List.getElem_map, List.getElem_range]
      by_cases he : i = k
      · subst he
        simp
      · rw [if_neg he]
        by_cases hl : k < i
        · rw [if_pos hl, if_pos (by omega)]
        · rw [if_neg hl, if_neg (by omega)]
  rw [← e]
  simp
set_option maxRecDepth 100000 in
set_option maxHeartbeats 1000000 in
theorem crcFours_b {w : World} :
    Calls Tryz.prog 227 #[] w fun e w' => e = .returned (.agg (crcTab 16).toArray) ∧ Below w.heap.size w w' := by
  obtain ⟨w1, hw1⟩ : ∃ W : World, W = (w.alloc (.cells (crcTab 0).toArray 351)).alloc (.cells (crcTab 0).toArray 351) := ⟨_, rfl⟩
  obtain ⟨b0, hb0⟩ : ∃ b, b = w.heap.size := ⟨_, rfl⟩
  obtain ⟨b1, hb1⟩ : ∃ b, b = w.heap.size + 1 := ⟨_, rfl⟩
  have h0 : w1.heap[b0]? = some (.cells (crcTab 0).toArray 351 (0, 0)) := by rw [hw1, hb0]; exact (Below.heap_alloc _ _ _ (by simp)).trans (alloc_cells _ _ _)
  have h1 : w1.heap[b1]? = some (.cells (crcTab 0).toArray 351 (0, 0)) := by
    rw [hw1, hb1]
    have := alloc_cells (w.alloc (.cells (crcTab 0).toArray 351)) (crcTab 0).toArray 351
    rwa [World.size_alloc] at this
  have hb : Below w.heap.size w w1 := by rw [hw1]; exact ((Below.refl _ _).alloc (Nat.le_refl _) _).alloc (by simp) _
  have H1 := Lib.hid (And.intro h0 (And.intro h1 (And.intro hb (And.intro hb0 hb1))))
  clear h0 h1 hb
  go_enter Tryz.func227, Tryz.ntmps227
  go_upto_region 2 with fail
  have e0 : ∀ W : World, W.alloc (.cells #[.int .u32 0, .int .u32 0, .int .u32 0, .int .u32 0, .int .u32 0, .int .u32 0, .int .u32 0, .int .u32 0, .int .u32 0, .int .u32 0, .int .u32 0, .int .u32 0, .int .u32 0, .int .u32 0, .int .u32 0, .int .u32 0] 351) = W.alloc (.cells (crcTab 0).toArray 351) := fun W => rfl
  rw [e0, e0, ← hw1, ← hb1, ← hb0]
  clear hw1 hb1 hb0 e0
  go_wp2_with fail
  go_loopw [4] (fun i wr => ∃ k : Nat, i = .int .i64 (k : Int) ∧ k ≤ 16 ∧ Hid (wr.heap[b0]? = some (.cells (crcTab 0).toArray 351 (0, 0)) ∧ wr.heap[b1]? = some (.cells (crcTab k).toArray 351 (0, 0)) ∧ Below w.heap.size w wr)) (fun i _ => 16 - (intOf i).toNat)
  case atStart => exact ⟨0, rfl, by omega, Lib.hid ⟨H1.out.1, H1.out.2.1, H1.out.2.2.1⟩⟩
  case round =>
    obtain ⟨k, rfl, hk, HR⟩ := hrel
    by_cases hlt : k < 16
    · go_wp2_with fail
      go_loopw [3, 9] (fun x j wi => ∃ m : Nat, x = .int .u32 (crcIt m (k : Int)) ∧ j = .int .i64 (m : Int) ∧ m ≤ 4 ∧ wi = wr) (fun _ j _ => 4 - (intOf j).toNat)
      case atStart => exact ⟨0, rfl, rfl, by omega, rfl⟩
      case round =>
        obtain ⟨m, rfl, rfl, hm, rfl⟩ := hrel
        by_cases hlt4 : m < 4
        · obtain ⟨x, hx⟩ : ∃ x, crcIt m (k : Int) = x := ⟨_, rfl⟩
          have HX : Hid (crcIt (m + 1) (k : Int) = bits .xor .u32 (x / 2) (bits .and .u32 2197175160 (-bits .and .u32 x 1 % 4294967296))) := Lib.hid (by rw [← hx]; rfl)
          rw [hx]
          clear hx
          go_wp2_with fail
          exact ⟨⟨m + 1, by rw [HX.out], by simp, by omega, trivial⟩, by simp [intOf]; omega⟩
        · obtain rfl : m = 4 := by omega
          have hb1 := HR.out.2.1
          have z1 : ∀ j, wr.frozen? ⟨b1, j, none⟩ = false := fun j => free_of hb1 _
          have hcf : crcIt 4 (k : Int) = crcFour k := rfl
          have hy : wr.cell? ⟨b1, k, none⟩ = some (.int .u32 0) := cell_of hb1 (by simp [crcTab, hlt])
          clear hb1
          rw [hcf]
          clear hcf
          go_wp2_with fail
          refine ⟨⟨k + 1, by simp, by omega, Lib.hid ⟨?_, ?_, ?_⟩⟩, by simp [intOf]; omega⟩
          · exact (Below.heap_setCell _ _ _ _ (by show b0 ≠ b1; have := H1.out; omega)).trans HR.out.1
          · rw [heap_setCell_here _ HR.out.2.1, crcTab_set]
          · exact HR.out.2.2.setCell (p := ⟨b1, k, none⟩) (by show w.heap.size ≤ b1; have := H1.out; omega) _
    · obtain rfl : k = 16 := by omega
      have hb0 := HR.out.1
      have hb1 := HR.out.2.1
      have c0 : wr.cell? ⟨b1, 0, none⟩ = some (.int .u32 (crcFour 0)) := cell_of hb1 rfl
      have z0 : wr.frozen? ⟨b0, 0, none⟩ = false := free_of hb0 _
      have y0 : wr.cell? ⟨b0, 0, none⟩ = some (.int .u32 0) := cell_of hb0 rfl
      have c1 : wr.cell? ⟨b1, 1, none⟩ = some (.int .u32 (crcFour 1)) := cell_of hb1 rfl
      have z1 : wr.frozen? ⟨b0, 1, none⟩ = false := free_of hb0 _
      have y1 : wr.cell? ⟨b0, 1, none⟩ = some (.int .u32 0) := cell_of hb0 rfl
      have c2 : wr.cell? ⟨b1, 2, none⟩ = some (.int .u32 (crcFour 2)) := cell_of hb1 rfl
      have z2 : wr.frozen? ⟨b0, 2, none⟩ = false := free_of hb0 _
      have y2 : wr.cell? ⟨b0, 2, none⟩ = some (.int .u32 0) := cell_of hb0 rfl
      have c3 : wr.cell? ⟨b1, 3, none⟩ = some (.int .u32 (crcFour 3)) := cell_of hb1 rfl
      have z3 : wr.frozen? ⟨b0, 3, none⟩ = false := free_of hb0 _
      have y3 : wr.cell? ⟨b0, 3, none⟩ = some (.int .u32 0) := cell_of hb0 rfl
      have c4 : wr.cell? ⟨b1, 4, none⟩ = some (.int .u32 (crcFour 4)) := cell_of hb1 rfl
      have z4 : wr.frozen? ⟨b0, 4, none⟩ = false := free_of hb0 _
      have y4 : wr.cell? ⟨b0, 4, none⟩ = some (.int .u32 0) := cell_of hb0 rfl
      have c5 : wr.cell? ⟨b1, 5, none⟩ = some (.int .u32 (crcFour 5)) := cell_of hb1 rfl
      have z5 : wr.frozen? ⟨b0, 5, none⟩ = false := free_of hb0 _
      have y5 : wr.cell? ⟨b0, 5, none⟩ = some (.int .u32 0) := cell_of hb0 rfl
      have c6 : wr.cell? ⟨b1, 6, none⟩ = some (.int .u32 (crcFour 6)) := cell_of hb1 rfl
      have z6 : wr.frozen? ⟨b0, 6, none⟩ = false := free_of hb0 _
      have y6 : wr.cell? ⟨b0, 6, none⟩ = some (.int .u32 0) := cell_of hb0 rfl
      have c7 : wr.cell? ⟨b1, 7, none⟩ = some (.int .u32 (crcFour 7)) := cell_of hb1 rfl
      have z7 : wr.frozen? ⟨b0, 7, none⟩ = false := free_of hb0 _
      have y7 : wr.cell? ⟨b0, 7, none⟩ = some (.int .u32 0) := cell_of hb0 rfl
      have c8 : wr.cell? ⟨b1, 8, none⟩ = some (.int .u32 (crcFour 8)) := cell_of hb1 rfl
      have z8 : wr.frozen? ⟨b0, 8, none⟩ = false := free_of hb0 _
      have y8 : wr.cell? ⟨b0, 8, none⟩ = some (.int .u32 0) := cell_of hb0 rfl
      have c9 : wr.cell? ⟨b1, 9, none⟩ = some (.int .u32 (crcFour 9)) := cell_of hb1 rfl
      have z9 : wr.frozen? ⟨b0, 9, none⟩ = false := free_of hb0 _
      have y9 : wr.cell? ⟨b0, 9, none⟩ = some (.int .u32 0) := cell_of hb0 rfl
      have c10 : wr.cell? ⟨b1, 10, none⟩ = some (.int .u32 (crcFour 10)) := cell_of hb1 rfl
      have z10 : wr.frozen? ⟨b0, 10, none⟩ = false := free_of hb0 _
      have y10 : wr.cell? ⟨b0, 10, none⟩ = some (.int .u32 0) := cell_of hb0 rfl
      have c11 : wr.cell? ⟨b1, 11, none⟩ = some (.int .u32 (crcFour 11)) := cell_of hb1 rfl
      have z11 : wr.frozen? ⟨b0, 11, none⟩ = false := free_of hb0 _
      have y11 : wr.cell? ⟨b0, 11, none⟩ = some (.int .u32 0) := cell_of hb0 rfl
      have c12 : wr.cell? ⟨b1, 12, none⟩ = some (.int .u32 (crcFour 12)) := cell_of hb1 rfl
      have z12 : wr.frozen? ⟨b0, 12, none⟩ = false := free_of hb0 _
      have y12 : wr.cell? ⟨b0, 12, none⟩ = some (.int .u32 0) := cell_of hb0 rfl
      have c13 : wr.cell? ⟨b1, 13, none⟩ = some (.int .u32 (crcFour 13)) := cell_of hb1 rfl
      have z13 : wr.frozen? ⟨b0, 13, none⟩ = false := free_of hb0 _
      have y13 : wr.cell? ⟨b0, 13, none⟩ = some (.int .u32 0) := cell_of hb0 rfl
      have c14 : wr.cell? ⟨b1, 14, none⟩ = some (.int .u32 (crcFour 14)) := cell_of hb1 rfl
      have z14 : wr.frozen? ⟨b0, 14, none⟩ = false := free_of hb0 _
      have y14 : wr.cell? ⟨b0, 14, none⟩ = some (.int .u32 0) := cell_of hb0 rfl
      have c15 : wr.cell? ⟨b1, 15, none⟩ = some (.int .u32 (crcFour 15)) := cell_of hb1 rfl
      have z15 : wr.frozen? ⟨b0, 15, none⟩ = false := free_of hb0 _
      have y15 : wr.cell? ⟨b0, 15, none⟩ = some (.int .u32 0) := cell_of hb0 rfl
      clear hb0 hb1
      go_wp2_with fail
      have f0 := heap_setCell_here (i := 0) (.int .u32 (crcFour 0)) HR.out.1
      have f1 := heap_setCell_here (i := 1) (.int .u32 (crcFour 1)) f0
      have f2 := heap_setCell_here (i := 2) (.int .u32 (crcFour 2)) f1
      have f3 := heap_setCell_here (i := 3) (.int .u32 (crcFour 3)) f2
      have f4 := heap_setCell_here (i := 4) (.int .u32 (crcFour 4)) f3
      have f5 := heap_setCell_here (i := 5) (.int .u32 (crcFour 5)) f4
      have f6 := heap_setCell_here (i := 6) (.int .u32 (crcFour 6)) f5
      have f7 := heap_setCell_here (i := 7) (.int .u32 (crcFour 7)) f6
      have f8 := heap_setCell_here (i := 8) (.int .u32 (crcFour 8)) f7
      have f9 := heap_setCell_here (i := 9) (.int .u32 (crcFour 9)) f8
      have f10 := heap_setCell_here (i := 10) (.int .u32 (crcFour 10)) f9
      have f11 := heap_setCell_here (i := 11) (.int .u32 (crcFour 11)) f10
      have f12 := heap_setCell_here (i := 12) (.int .u32 (crcFour 12)) f11
      have f13 := heap_setCell_here (i := 13) (.int .u32 (crcFour 13)) f12
      have f14 := heap_setCell_here (i := 14) (.int .u32 (crcFour 14)) f13
      have f15 := heap_setCell_here (i := 15) (.int .u32 (crcFour 15)) f14
      have hfin := f15.trans (congrArg (fun c => some (Obj.cells c 351 (0, 0))) (show _ = (crcTab 16).toArray by kernel_rfl))
      have hb0 : w.heap.size ≤ b0 := by have := H1.out; omega
      clear f0 f1 f2 f3 f4 f5 f6 f7 f8 f9 f10 f11 f12 f13 f14 f15
      have d0 := cell_of (i := 0) (v := .int .u32 (crcFour 0)) hfin rfl
      have d1 := cell_of (i := 1) (v := .int .u32 (crcFour 1)) hfin rfl
      have d2 := cell_of (i := 2) (v := .int .u32 (crcFour 2)) hfin rfl
      have d3 := cell_of (i := 3) (v := .int .u32 (crcFour 3)) hfin rfl
      have d4 := cell_of (i := 4) (v := .int .u32 (crcFour 4)) hfin rfl
      have d5 := cell_of (i := 5) (v := .int .u32 (crcFour 5)) hfin rfl
      have d6 := cell_of (i := 6) (v := .int .u32 (crcFour 6)) hfin rfl
      have d7 := cell_of (i := 7) (v := .int .u32 (crcFour 7)) hfin rfl
      have d8 := cell_of (i := 8) (v := .int .u32 (crcFour 8)) hfin rfl
      have d9 := cell_of (i := 9) (v := .int .u32 (crcFour 9)) hfin rfl
      have d10 := cell_of (i := 10) (v := .int .u32 (crcFour 10)) hfin rfl
      have d11 := cell_of (i := 11) (v := .int .u32 (crcFour 11)) hfin rfl
      have d12 := cell_of (i := 12) (v := .int .u32 (crcFour 12)) hfin rfl
      have d13 := cell_of (i := 13) (v := .int .u32 (crcFour 13)) hfin rfl
      have d14 := cell_of (i := 14) (v := .int .u32 (crcFour 14)) hfin rfl
      have d15 := cell_of (i := 15) (v := .int .u32 (crcFour 15)) hfin rfl
      refine ⟨rfl, .agg (crcTab 16).toArray, ?_, rfl, ((((((((((((((((((((((((((((((((HR.out.2.2).setCell (p := ⟨b0, 0, none⟩) hb0 _)).setCell (p := ⟨b0, 1, none⟩) hb0 _)).setCell (p := ⟨b0, 2, none⟩) hb0 _)).setCell (p := ⟨b0, 3, none⟩) hb0 _)).setCell (p := ⟨b0, 4, none⟩) hb0 _)).setCell (p := ⟨b0, 5, none⟩) hb0 _)).setCell (p := ⟨b0, 6, none⟩) hb0 _)).setCell (p := ⟨b0, 7, none⟩) hb0 _)).setCell (p := ⟨b0, 8, none⟩) hb0 _)).setCell (p := ⟨b0, 9, none⟩) hb0 _)).setCell (p := ⟨b0, 10, none⟩) hb0 _)).setCell (p := ⟨b0, 11, none⟩) hb0 _)).setCell (p := ⟨b0, 12, none⟩) hb0 _)).setCell (p := ⟨b0, 13, none⟩) hb0 _)).setCell (p := ⟨b0, 14, none⟩) hb0 _)).setCell (p := ⟨b0, 15, none⟩) hb0 _)⟩
      have he : (.agg (crcTab 16).toArray : Value) = .agg #[.int .u32 (crcFour 0), .int .u32 (crcFour 1), .int .u32 (crcFour 2), .int .u32 (crcFour 3), .int .u32 (crcFour 4), .int .u32 (crcFour 5), .int .u32 (crcFour 6), .int .u32 (crcFour 7), .int .u32 (crcFour 8), .int .u32 (crcFour 9), .int .u32 (crcFour 10), .int .u32 (crcFour 11), .int .u32 (crcFour 12), .int .u32 (crcFour 13), .int .u32 (crcFour 14), .int .u32 (crcFour 15)] := by rfl
      rw [he]
      clear he hfin c0 z0 y0 c1 z1 y1 c2 z2 y2 c3 z3 y3 c4 z4 y4 c5 z5 y5 c6 z6 y6 c7 z7 y7 c8 z8 y8 c9 z9 y9 c10 z10 y10 c11 z11 y11 c12 z12 y12 c13 z13 y13 c14 z14 y14 c15 z15 y15
      simp [results, Tryz.results227, go_sem, d0, d1, d2, d3, d4, d5, d6, d7, d8, d9, d10, d11, d12, d13, d14, d15]
end Go.Proofs.YtlgcoaeddeiegaaGreat
/- crc: bytes that go into a sum; the sum of one text. -/
namespace Go.Proofs.YtlgcoaeddeiegaaGreat
open Go Go.RowKit
attribute [local go_sem] Oper.semAt_some

theorem rdCell {w : World} {size n c g off : Nat} {xs : List Value} (h : readAt w size (.slice (some ⟨g, off, none⟩) n c) n xs) {i : Nat} {u : Value} (hu : xs[i]? = some u) : w.cell? ⟨g, off + i, none⟩ = some u := by
  have := h.cells (g := g) (off := off) rfl i u hu
  simpa [Go.WideShapes.add_plain] using this
/-- a part of what may be read: v[l:k:m] -/
theorem readAt.sub {w : World} {size : Nat} {oa : Option Addr} {n cap : Nat} {xs : List Value} (h : readAt w size (.slice oa n cap) n xs) (l k m : Nat) (hl : l ≤ k) (hk : k ≤ n) (hkm : k ≤ m) (hm : m ≤ cap) :
    readAt w size (.slice (if m = l then oa else oa.map (·.add (l * size))) (k - l) (m - l)) (k - l) ((xs.drop (l * size)).take ((k - l) * size)) := by
  have hlen : ((xs.drop (l * size)).take ((k - l) * size)).length = (k - l) * size := by
    rw [List.length_take, List.length_drop, h.1]
    have h1 : k * size ≤ n * size := Nat.mul_le_mul_right _ hk
    have h2 : (k - l) * size = k * size - l * size := Nat.sub_mul _ _ _
    omega
  refine ⟨hlen, ?_⟩
  by_cases h0 : k - l = 0
  · refine .inl ⟨h0, _, _, by rw [h0], fun he => ?_⟩
    split at he
    · omega
    · cases oa with
      | none =>
        rcases h.2 with ⟨rfl, oa, c, hv, hc⟩ | ⟨g, off, c, hv, _⟩
        · simp only [Value.slice.injEq] at hv
          have := hc hv.1.symm
          omega
        · cases hv
      | some a => simp at he
  · rcases h.2 with ⟨h1, _⟩ | ⟨g, off, c, hv, hn0, hg, hn, hc⟩
    · omega
    · simp only [Value.slice.injEq] at hv
      obtain ⟨rfl, -, rfl⟩ := hv
      have hml : ¬ m = l := by omega
      rw [if_neg hml]
      refine .inr ⟨g, off + l * size, m - l, by simp [Go.WideShapes.add_plain], by omega, hg, by omega, fun j u hu => ?_⟩
      rw [List.getElem?_take] at hu
      split at hu
      · rw [List.getElem?_drop] at hu
        have := hc (l * size + j) u hu
        rwa [← Nat.add_assoc] at this
      · cases hu
theorem crcAgg : (.agg (crcTab 16).toArray : Value) = .agg #[.int .u32 (crcFour 0), .int .u32 (crcFour 1), .int .u32 (crcFour 2), .int .u32 (crcFour 3), .int .u32 (crcFour 4), .int .u32 (crcFour 5), .int .u32 (crcFour 6), .int .u32 (crcFour 7), .int .u32 (crcFour 8), .int .u32 (crcFour 9), .int .u32 (crcFour 10), .int .u32 (crcFour 11), .int .u32 (crcFour 12), .int .u32 (crcFour 13), .int .u32 (crcFour 14), .int .u32 (crcFour 15)] := by rfl
theorem crcTab_get {n : Nat} (h : n < 16) : (crcTab 16).toArray[n]? = some (.int .u32 (crcFour n)) := by
  simp [crcTab, h]
theorem crcInto_succ {l : List UInt8} {k : Nat} (h : k < l.length) (x : Int) : crcInto x (l.take (k + 1)) = crcByte (crcInto x (l.take k)) l[k] := by
  unfold crcInto
  rw [List.take_succ_eq_append_getElem h, List.foldl_append]
  rfl
set_option maxRecDepth 100000 in
set_option maxHeartbeats 1000000 in
theorem crcInto_b {w : World} {x : Int} {oa : Option Addr} {n c : Nat} {l : List UInt8} (hx : 0 ≤ x ∧ x < 4294967296) (hn : l.length = n) (hl : readAt w 1 (.slice oa n c) n (byteCells l)) (hm : n ≤ 1000000000) :
    Calls Tryz.prog 212 #[.int .u32 x, .slice oa n c] w fun e w' => e = .returned (.int .u32 (crcInto x l)) ∧ Below w.heap.size w w' := by
  have HF := Lib.hid (crcFours_b (w := w))
  rw [crcAgg] at HF
  have HX := Lib.hid hx
  have HN := Lib.hid hn
  have HL := Lib.hid hl
  clear hx hn hl
  go_enter Tryz.func212, Tryz.ntmps212
  go_wp2_with fail
  refine HF.out.mono ?_
  rintro e w1 ⟨rfl, hb1⟩
  obtain ⟨w2, hw2⟩ : ∃ W : World, W = w1.alloc (.cells (crcTab 16).toArray 351) := ⟨_, rfl⟩
  obtain ⟨b5, hb5⟩ : ∃ b, b = w1.heap.size := ⟨_, rfl⟩
  have h5 : w2.heap[b5]? = some (.cells (crcTab 16).toArray 351 (0, 0)) := by rw [hw2, hb5]; exact alloc_cells _ _ _
  have hb2 : Below w.heap.size w w2 := hb1.trans ((by rw [hw2]; exact (Below.refl _ _).alloc (Nat.le_refl _) _ : Below w1.heap.size w1 w2).mono hb1.size)
  have hc5 : ∀ j, j < 16 → w2.cell? ⟨b5, j, none⟩ = some (.int .u32 (crcFour j)) := fun j hj => cell_of h5 (crcTab_get hj)
  have ea : (crcTab 16).toArray = #[.int .u32 (crcFour 0), .int .u32 (crcFour 1), .int .u32 (crcFour 2), .int .u32 (crcFour 3), .int .u32 (crcFour 4), .int .u32 (crcFour 5), .int .u32 (crcFour 6), .int .u32 (crcFour 7), .int .u32 (crcFour 8), .int .u32 (crcFour 9), .int .u32 (crcFour 10), .int .u32 (crcFour 11), .int .u32 (crcFour 12), .int .u32 (crcFour 13), .int .u32 (crcFour 14), .int .u32 (crcFour 15)] := rfl
  rw [ea] at hw2
  have HR := Lib.hid (HL.out.kept (fun k hk _ _ => hb2.block k hk))
  have HC := Lib.hid (And.intro hc5 hb2)
  clear hb1 h5 hb2 hc5 ea HF HL
  go_wp2_with fail
  rw [← hw2, ← hb5]
  clear hw2 hb5
  go_loopw [0, 11] (fun s i wr => ∃ k : Nat, s = .int .u32 (crcInto x (l.take k)) ∧ i = .int .i64 (k : Int) ∧ k ≤ n ∧ wr = w2) (fun _ i _ => n - (intOf i).toNat)
  case atStart => exact ⟨0, rfl, rfl, by omega, rfl⟩
  case round =>
    obtain ⟨k, rfl, rfl, hk, rfl⟩ := hrel
    by_cases hlt : k < n
    · have hkl : k < l.length := by rw [HN.out]; exact hlt
      have hs := crcInto_succ hkl x
      obtain ⟨y, hy⟩ : ∃ y, crcInto x (l.take k) = y := ⟨_, rfl⟩
      obtain ⟨ch, hch⟩ : ∃ ch, l[k] = ch := ⟨_, rfl⟩
      rw [hy, hch] at hs
      rw [hy]
      obtain ⟨g, off, rfl⟩ := HR.out.addr (by omega)
      have kc : wr.cell? ⟨g, off + k, none⟩ = some (.int .u8 (ch.toNat : Int)) := rdCell HR.out (i := k) (by unfold byteCells; rw [List.getElem?_map, List.getElem?_eq_getElem hkl, hch]; rfl)
      obtain ⟨c8, hc8⟩ : ∃ z : Int, (ch.toNat : Int) = z := ⟨_, rfl⟩
      have hc8b : 0 ≤ c8 ∧ c8 < 256 := by have := ch.toNat_lt; omega
      rw [hc8] at kc
      obtain ⟨x1, hx1⟩ : ∃ z, bits .xor .u32 y c8 = z := ⟨_, rfl⟩
      have hb1 : 0 ≤ x1 ∧ x1 < 4294967296 := by rw [← hx1]; exact u32_bits _ _ _
      obtain ⟨n1, hn1⟩ : ∃ m : Nat, (x1 % 16).toNat = m := ⟨_, rfl⟩
      have hn1l : n1 < 16 := by omega
      have ha1 : bits .and .u32 x1 15 = (n1 : Int) := by rw [u32_and15]; omega
      obtain ⟨t1, ht1⟩ : ∃ z, crcFour n1 = z := ⟨_, rfl⟩
      have k1 := HC.out.1 n1 hn1l
      rw [ht1] at k1
      obtain ⟨x2, hx2⟩ : ∃ z, bits .xor .u32 t1 (x1 / 16) = z := ⟨_, rfl⟩
      have hb2 : 0 ≤ x2 ∧ x2 < 4294967296 := by rw [← hx2]; exact u32_bits _ _ _
      obtain ⟨n2, hn2⟩ : ∃ m : Nat, (x2 % 16).toNat = m := ⟨_, rfl⟩
      have hn2l : n2 < 16 := by omega
      have ha2 : bits .and .u32 x2 15 = (n2 : Int) := by rw [u32_and15]; omega
      obtain ⟨t2, ht2⟩ : ∃ z, crcFour n2 = z := ⟨_, rfl⟩
      have k2 := HC.out.1 n2 hn2l
      rw [ht2] at k2
      have HS : Hid (crcInto x (l.take (k + 1)) = bits .xor .u32 t2 (x2 / 16)) := Lib.hid (by
        rw [hs]
        unfold crcByte crcHalf
        rw [hc8, hx1, hn1, ht1, hx2, hn2, ht2])
      clear hs hy hch hc8 hkl hn1 ht1 hn2 ht2
      go_wp2_with fail
      exact ⟨⟨k + 1, by rw [HS.out], by simp, by omega, trivial⟩, by simp [intOf]; omega⟩
    · obtain rfl : k = n := by omega
      have HT : Hid (l.take k = l) := Lib.hid (List.take_of_length_le (by rw [HN.out]; exact Nat.le_refl _))
      rw [HT.out]
      go_wp2_with fail
      go_ret
      exact ⟨rfl, HC.out.2⟩
/-- the sum of one text -/
theorem crcSum_b {w : World} {ob : Nat} {oa : Option Addr} {n c : Nat} {l : List UInt8} (hs : w.cell? ⟨ob, 0, none⟩ = some (.slice oa n c)) (hn : l.length = n) (hl : readAt w 1 (.slice oa n c) n (byteCells l)) (hm : n ≤ 1000000000) :
    Calls Tryz.prog 188 #[.slice (some ⟨ob, 0, none⟩) 1 1] w fun e w' => e = .returned (.int .u32 (crcSum l)) ∧ Below w.heap.size w w' := by
  have HI := Lib.hid (crcInto_b (x := 4294967295) (by decide) hn hl hm)
  clear hn hl
  go_enter Tryz.func188, Tryz.ntmps188
  go_wp2_with fail
  go_loopw [3, 8] (fun s i wr => (s = .int .u32 4294967295 ∧ i = .int .i64 0 ∧ wr = w) ∨ (s = .int .u32 (crcInto 4294967295 l) ∧ i = .int .i64 1 ∧ Hid (Below w.heap.size w wr))) (fun _ i _ => 1 - (intOf i).toNat)
  case atStart => exact .inl ⟨rfl, rfl, rfl⟩
  case round =>
    rcases hrel with ⟨rfl, rfl, rfl⟩ | ⟨rfl, rfl, HB⟩
    · go_wp2_with fail
      refine HI.out.mono ?_
      rintro e w2 ⟨rfl, hb2⟩
      have HB := Lib.hid hb2
      clear hb2
      go_wp2_with fail
      exact ⟨.inr ⟨rfl, rfl, HB⟩, by simp [intOf]⟩
    · have HX := Lib.hid (crcInto_u32 l 4294967295 (by decide))
      have HS : Hid (crcSum l = bits .xor .u32 4294967295 (crcInto 4294967295 l)) := Lib.hid rfl
      obtain ⟨y, hy⟩ : ∃ y, crcInto 4294967295 l = y := ⟨_, rfl⟩
      rw [hy] at HS ⊢
      clear hy HI
      go_wp2_with fail
      go_ret
      exact ⟨by rw [HS.out]; rfl, HB.out⟩
end Go.Proofs.YtlgcoaeddeiegaaGreat
