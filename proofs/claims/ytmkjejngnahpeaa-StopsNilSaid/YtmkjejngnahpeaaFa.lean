/- Disk: entries that come out of the map; a part of the files. -/
import Derived.Test.YtmkjejngnahpeaaEv
import Derived.Maps.RangeWalk
import Derived.Maps.OwnSet
import Derived.Laws.IdiomRangeMap
import Derived.Deep.LoopGhost
namespace Go.Proofs.Ytmkjejngnahpeaa
open Go Go.Maps Go.RowKit
open Go.Proofs (encStr)

theorem Dic.came {D : DataW Unit} {L : List (List UInt8 × Nat)} (h : Dic D L) {x : List UInt8} {yd : DataW Unit} (hat : ∀ zd, D.atKey (.string x) zd = yd) : ∃ b, (x, b) ∈ L ∧ yd = .lit (.int .i64 b) := by
  cases hh : Maps.has D (.string x) with
  | true =>
    obtain ⟨f, hf, he⟩ := (h.has x).1 hh
    obtain ⟨s, b⟩ := f
    simp only at he
    subst he
    exact ⟨b, hf, by rw [← hat .nil]; exact h.get _ hf _⟩
  | false =>
    have h1 := hat .nil
    have h2 := hat (.lit (.bool true))
    rw [atKey_of_not_has hh] at h1 h2
    rw [← h1] at h2
    cases h2
theorem ptrElem_val {v : Value} {y : DataW Unit × List MemPlace} (h : ptrElem v = some y) {b : Nat} (hy : y.1 = .lit (.int .i64 b)) : v = .pointer (some ⟨b, 0, none⟩) := by
  obtain ⟨y1, ps⟩ := y
  simp only at hy
  subst hy
  exact ptrElem_inv h
theorem wpList_next_dic {ops : Array Oper} {rest : List Oper} {o : Oper} {a : Act} {Q : Exit → Act → World → Prop} (w : World) (hg : o.guard = none) (it : Operand) (hop : o.op = Op.next it false)
    {L : List (List UInt8 × Nat)} {D : DataW Unit} (hD : Dic D L) (mb r n : Nat) (left : Lit → Bool) (cnt : Nat) (hit : a.eval it = .pointer (some ⟨r, 0, none⟩)) (h : w.ranges Try.prog 9 ptrElem mb r n D left cnt)
    (hDone : (∀ kl, left kl = false) → wpList Try.prog ops Q rest (a.put o.dst (.tuple #[.bool false])) w)
    (hMore : ∀ (s : List UInt8) (b : Nat) (w' : World) (cnt' : Nat), (s, b) ∈ L → left (.string s) = true → w'.ranges Try.prog 9 ptrElem mb r n D (fun z => left z && !z.sameKey (.string s)) cnt' → cnt' < cnt →
      w.grownBy w' (some r) → w'.heap.size = w.heap.size → (Instr.entry (.pointer (some ⟨r, 0, none⟩))).run Try.prog w' = .ok (.tuple #[encStr s, .pointer (some ⟨b, 0, none⟩)]) w' → Hid (keyOf Try.prog 9 (encStr s) = some (.string s)) →
      wpList Try.prog ops Q rest (a.put o.dst (.tuple #[.bool true, encStr s, .pointer (some ⟨b, 0, none⟩)])) w') :
    wpList Try.prog ops Q (o :: rest) a w := by
  refine wpList_next_ranges w hg it hop 9 (string_keyed Try.underlying9) ptrElem encStr id (fun key kl hk => by obtain ⟨x, hx, _⟩ := Maps.keyOf_str Try.underlying9 hk; exact ⟨x, hx⟩) (fun v _ _ => ⟨v, rfl⟩) mb r n D left cnt hit h (fun _ hl => hDone hl) ?_
  intro x c kl y w' cnt' hkey hlk hv hat hrg hlt hgr hsz hen
  obtain ⟨x', ex, rfl, _⟩ := Maps.keyOf_str Try.underlying9 hkey
  obtain rfl : x = x' := encStr_inj ex
  obtain ⟨b, hb, hy⟩ := hD.came hat
  have hc : c = .pointer (some ⟨b, 0, none⟩) := ptrElem_val hv hy
  subst hc
  exact hMore x b w' cnt' hb hlk hrg hlt hgr hsz hen (Lib.hid hkey)
theorem grown_setC (w : World) (a : Addr) (u : Value) : w.grownBy (w.setCell a u) (some a.block) :=
  ⟨rfl, rfl, rfl, by simp [World.setCell], fun k _ hk => Below.heap_setCell _ _ _ _ (fun e => hk (by rw [e]))⟩
theorem Only.grown {S : Nat → Prop} {w w' : World} (h : Only S w w') {row : Option Nat} (hr : ∀ k, k < w.heap.size → S k → row = some k) : w.grownBy w' row :=
  ⟨h.os, h.tape, h.output, h.size, fun k hk hn => h.block k hk (fun hs => hn (hr k hk hs).symm)⟩
theorem sameKey_str (x y : List UInt8) : (Lit.string x).sameKey (.string y) = decide (x = y) := by
  by_cases h : x = y
  · simp [Lit.sameKey, h]
  · simp [Lit.sameKey, h]
theorem DiskIs.narrow {w : World} {S S' : Nat → Prop} {q mb : Nat} {fv : Value} {L : List Fl} {d : Dk} (h : DiskIs w S' q mb fv L d) (hn : ∀ k, S' k → S k) (hl : ∀ k, S k → k < w.heap.size) : DiskIs w S q mb fv L d :=
  { h with foot := fun k hk => hn k (h.foot k hk), low := hl }
theorem flatMap_sub {α β : Type} (f : α → List β) {l l' : List α} (h : l'.Sublist l) : (l'.flatMap f).Sublist (l.flatMap f) := by
  induction h with
  | slnil => exact List.Sublist.refl _
  | cons a _ ih => exact (ih.trans (List.sublist_append_right _ _))
  | cons_cons a _ ih => exact ih.append_left _
/-- some files are struck -/
theorem DiskIs.files_sub {w w' : World} {S : Nat → Prop} {q mb : Nat} {fv : Value} {L L' : List Fl} {d : Dk} {n' : Nat} {D' : DataW Unit} (h : DiskIs w S q mb fv L d) (hL : L'.Sublist L) (ho : Only (fun k => k = mb) w w')
    (hm : w'.ownsMap Try.prog 9 ptrElem mb n' D') (hd : Dic D' (L'.map fun x => (x.f.name, x.blk))) : DiskIs w' S q mb fv L' { d with files := L'.map (·.f) } := by
  have hsb : (diskBlocks q mb fv L').Sublist (diskBlocks q mb fv L) := ((((flatMap_sub Fl.blocks hL).append_left _).cons_cons mb).cons_cons q)
  have hin : ∀ k ∈ diskBlocks q mb fv L', S k := fun k hk => h.foot k (hsb.subset hk)
  have hnd := h.apart.sublist hsb
  have hne : ∀ k ∈ diskBlocks q mb fv L', k ≠ mb → w'.heap[k]? = w.heap[k]? := fun k hk hk' => ho.block k (h.low k (hin k hk)) hk'
  have hap := hnd
  simp only [diskBlocks, List.nodup_cons, List.mem_cons, not_or] at hap
  have hmb : ∀ k, k ∈ fv.ownBlock.toList ++ L'.flatMap Fl.blocks → k ≠ mb := fun k hk e => hap.2.1 (e ▸ hk)
  have hsub : (L'.map (·.f)).Sublist d.files := by rw [← h.files]; exact hL.map _
  have hs2 : ((L'.map (·.f)).map (·.name)).Pairwise (· < ·) := h.sorted.sublist (hsub.map _)
  exact {
    files := rfl
    head := (hne q (by simp [diskBlocks]) (fun e => hap.1.1 e)).trans h.head
    fates := h.fates.kept (fun k hk => hne k (by simp [diskBlocks, hk]) (hmb k (by simp [hk])))
    map := by
      refine ⟨D', ?_, hd⟩
      have h1 := ownsMap_tight hm
      rw [hd.size hm (by
        rw [List.map_map]
        have : (L'.map (·.f.name)).Pairwise (· < ·) := by simpa [Function.comp_def] using hs2
        exact this.imp (fun {a b} hab he => by rw [he] at hab; exact List.lt_irrefl _ hab))] at h1
      simpa using h1
    each := fun y hy => (h.each y (hL.subset hy)).kept (fun k hk => by
        have h1 : k ∈ fv.ownBlock.toList ++ L'.flatMap Fl.blocks := List.mem_append_right _ (List.mem_flatMap.2 ⟨y, hy, hk⟩)
        exact hne k (by simp only [diskBlocks, List.mem_cons]; exact .inr (.inr h1)) (hmb k h1))
    apart := hnd
    foot := hin
    low := fun k hk => Nat.lt_of_lt_of_le (h.low k hk) ho.size
    sorted := hs2
    names := fun f hf => h.names f (hsub.subset hf)
    few := Nat.le_trans hsub.length_le h.few }
def Dk.syncdir (d : Dk) : Int × Dk :=
  if d.fate.1 ≠ 0 then (d.fate.1, d.next)
  else (0, { d.next with files := (d.files.filter (·.there)).map fun f => { f with named := true } })
end Go.Proofs.Ytmkjejngnahpeaa
