/- The texts Eu, Ev, Fa, Fb, Fc in one. -/
import Derived.Test.YtmkjejngnahpeaaA9
import Derived.Maps.RangeWalk
import Derived.Maps.OwnSet
import Derived.Laws.IdiomRangeMap
import Derived.Deep.LoopGhost
/- Disk: the fates are written. -/
namespace Go.Proofs.Ytmkjejngnahpeaa
open Go Go.Maps Go.RowKit

section
variable {w : World} {S : Nat → Prop} {q mb : Nat} {fv : Value} {L : List Fl} {d : Dk}
/-- the struct and its fates are written -/
theorem DiskIs.fates_turn {w' : World} {fv' : Value} {fs' : List (Int × Int)} {st' : Int} (h : DiskIs w S q mb fv L d) (ho : Only (fun k => k = q ∨ fv.ownBlock = some k) w w')
    (hq : w'.heap[q]? = some (.cells #[.map (some mb), fv', .int .i64 st'] 122 (0, 0))) (hob : ∀ k, fv'.ownBlock = some k → fv.ownBlock = some k ∨ (w.heap.size ≤ k ∧ k < w'.heap.size))
    (hr : rowAt w' 99 2 fv' fs'.length (fateCells fs')) : DiskIs w' (fun k => S k ∨ (w.heap.size ≤ k ∧ k < w'.heap.size)) q mb fv' L { d with fates := fs', steps := st' } := by
  have hap := h.apart
  simp only [diskBlocks, List.nodup_cons, List.mem_cons, not_or] at hap
  obtain ⟨⟨hqm, hqr⟩, hmr, hrest⟩ := hap
  have hfr := List.nodup_append.1 hrest
  have hmS : S mb := h.foot mb (by simp [diskBlocks])
  have hqS : S q := h.q_mem
  have hbS : ∀ k ∈ L.flatMap Fl.blocks, S k := fun k hk => h.foot k (by simp only [diskBlocks, List.mem_cons, List.mem_append]; exact .inr (.inr (.inr hk)))
  have hkeep : ∀ k, S k → k ≠ q → fv.ownBlock ≠ some k → w'.heap[k]? = w.heap[k]? := fun k hk h1 h2 => ho.block k (h.low k hk) (fun he => by
    rcases he with he | he
    · exact h1 he
    · exact h2 he)
  have hmf : fv.ownBlock ≠ some mb := fun e => hmr (List.mem_append_left _ (by simp [e]))
  have hbf : ∀ k ∈ L.flatMap Fl.blocks, fv.ownBlock ≠ some k := fun k hk e => hfr.2.2 k (by simp [e]) k hk rfl
  have hbq : ∀ k ∈ L.flatMap Fl.blocks, k ≠ q := fun k hk e => hqr (List.mem_append_right _ (e ▸ hk))
  exact {
    files := h.files
    head := hq
    fates := hr
    map := by
      obtain ⟨D, hown, hd⟩ := h.map
      exact ⟨D, ownsMap_kept hown (hkeep mb hmS (fun e => hqm e.symm) hmf), hd⟩
    each := fun x hx => (h.each x hx).kept (fun k hk => by
      have hk' : k ∈ L.flatMap Fl.blocks := List.mem_flatMap.2 ⟨x, hx, hk⟩
      exact hkeep k (hbS k hk') (hbq k hk') (hbf k hk'))
    apart := by
      have hfv : ∀ k, fv'.ownBlock = some k → k ≠ q ∧ k ≠ mb ∧ k ∉ L.flatMap Fl.blocks := fun k hk => by
        rcases hob k hk with h1 | h1
        · exact ⟨fun e => hqr (List.mem_append_left _ (by simp [h1, e])), fun e => hmr (List.mem_append_left _ (by simp [h1, e])), fun hm => hbf k hm h1⟩
        · have h2 := h.low q hqS
          have h3 := h.low mb hmS
          exact ⟨by omega, by omega, fun hm => by have := h.low k (hbS k hm); omega⟩
      simp only [diskBlocks, List.nodup_cons, List.mem_cons, List.mem_append, Option.mem_toList, not_or]
      refine ⟨⟨hqm, fun e => (hfv q e).1 rfl, fun hm => hbq q hm rfl⟩, ⟨fun e => (hfv mb e).2.1 rfl, fun hm => hmr (List.mem_append_right _ hm)⟩, List.nodup_append.2 ⟨?_, hfr.2.1, fun a ha b hb e => ?_⟩⟩
      · cases fv'.ownBlock <;> simp
      · subst e
        exact (hfv a (by simpa using ha)).2.2 hb
    foot := fun k hk => by
      simp only [diskBlocks, List.mem_cons, List.mem_append, Option.mem_toList] at hk
      rcases hk with rfl | rfl | hk | hk
      · exact .inl hqS
      · exact .inl hmS
      · rcases hob k hk with h1 | h1
        · exact .inl (h.foot k (by simp [diskBlocks, h1]))
        · exact .inr h1
      · exact .inl (hbS k hk)
    low := fun k hk => by
      rcases hk with hk | hk
      · exact Nat.lt_of_lt_of_le (h.low k hk) ho.size
      · exact hk.2
    sorted := h.sorted
    names := h.names
    few := h.few }
end
end Go.Proofs.Ytmkjejngnahpeaa
/- Disk: Feed. -/
namespace Go.Proofs.Ytmkjejngnahpeaa
open Go Go.Maps Go.RowKit

def Dk.feed (d : Dk) (l : List (Int × Int)) : Int × Dk := if l.any badFate = true then (2, d) else (0, { d with fates := d.fates ++ l })
theorem fateCells_append (a b : List (Int × Int)) : fateCells a ++ fateCells b = fateCells (a ++ b) := by simp [fateCells]
set_option maxRecDepth 100000 in
set_option maxHeartbeats 1000000 in
theorem feed_b {w : World} {S : Nat → Prop} {q : Nat} {d : Dk} (h : DiskAt w S q d) {oa : Option Addr} {n c : Nat} {l : List (Int × Int)} (hn : l.length = n) (hl : readAt w 2 (.slice oa n c) n (fateCells l)) (hm : n ≤ 1000000) (hdm : d.fates.length ≤ 1000000000) :
    Calls Try.prog 64 #[.pointer (some ⟨q, 0, none⟩), .slice oa n c] w fun e w' => OpIs w S q (d.feed l) e w' := by
  obtain ⟨mb, fv, L, h⟩ := h
  go_enter Try.func64, Try.ntmps64
  go_wp2_with fail
  refine (none_b h).mono ?_
  rintro e w' ⟨rfl, rfl⟩
  go_wp2_with fail
  refine (right_b hn hl (by omega)).mono ?_
  rintro e w1 ⟨rfl, hb1⟩
  have h1 := h.below hb1
  have hl1 := hl.kept (fun k hl _ _ => hb1.block k hl)
  have hob : Only (fun k => k = q) w' w1 := Only.of_below hb1 (Nat.le_refl _) _
  obtain ⟨b, hbb⟩ : ∃ b, l.any badFate = b := ⟨_, rfl⟩
  rw [hbb]
  cases b with
  | true =>
    have HO : Hid (OpIs w' S q (d.feed l) (.returned (.int .i64 2)) w1) := Lib.hid (by
      rw [show d.feed l = (2, d) by simp [Dk.feed, hbb]]
      exact OpIs.next hob h1 2)
    clear h hl hb1 h1 hl1 hob hbb
    go_wp2_with fail
    go_ret
    exact HO.out
  | false =>
    obtain ⟨oaf, cf, rfl, _⟩ := h1.fates.shape
    obtain ⟨st, hst⟩ : ∃ st, d.steps = st := ⟨_, rfl⟩
    obtain ⟨m, hmm⟩ : ∃ m, d.fates.length = m := ⟨_, rfl⟩
    have hh := h1.head
    rw [hst, hmm] at hh
    rw [hmm] at hdm
    have hfr : rowAt w1 99 2 (.slice oaf m cf) m (fateCells d.fates) := by have := h1.fates; rwa [hmm] at this
    have hqv : ∀ k, (Value.slice oaf m cf).ownBlock = some k → k ≠ q := fun k hk he => by
      have h2 := h1.apart
      simp only [diskBlocks, List.nodup_cons] at h2
      have h3 : (Value.slice oaf d.fates.length cf).ownBlock = some k := by rw [hmm]; exact hk
      exact h2.1 (by rw [← he]; simp [h3])
    have HS : Hid (Src Try.prog w1 2 65 (.slice oa n c) n (fateCells l)) := Lib.hid (Src.of_read Try.underlying65 hl1 (fateCells_one _))
    have HF := Lib.hid hfr
    have HH := Lib.hid hh
    have H1 := Lib.hid h1
    have HOB := Lib.hid hob
    have HQV := Lib.hid hqv
    have HBB := Lib.hid (And.intro hbb (And.intro hst hmm))
    have c1 : w1.cell? ⟨q, 1, none⟩ = some (.slice oaf m cf) := cell_of hh rfl
    have hqlt : q < w1.heap.size := (Array.getElem?_eq_some_iff.1 hh).1
    clear h hl hb1 h1 hl1 hob hbb hst hmm hh hfr hqv
    go_wp2_with (at_builtin; refine wpList_append_at _ rfl (.tmp 16) (.tmp 17) 65 65 rfl 99 (.agg #[.int .i64 0, .int .i64 0]) 2 16 Try.underlying65 info_fate rfl _ m _ rfl HF.out _ n _ rfl HS.out (by unfold maxLen; omega) (by omega) ?_; intro v' w3 hr hg hown _; obtain ⟨oa', c', rfl, _⟩ := hr.shape; have hg' : w1.grownBy w3 (Value.slice oaf m cf).ownBlock := hg; have hown' : (Value.slice oa' (m + n) c').ownBlock = (Value.slice oaf m cf).ownBlock ∨ (Value.slice oa' (m + n) c').ownBlock = some w1.heap.size := hown; have hh3 : w3.heap[q]? = w1.heap[q]? := hg'.block q hqlt (fun e => HQV.out q e.symm rfl); have hc3 : w3.cell? ⟨q, 1, none⟩ = some (.slice oaf m cf) := (by rw [← c1]; exact cell_kept_at hh3); have hz3 : w3.frozen? ⟨q, 1, none⟩ = false := (by rw [frozen_kept_at hh3]; exact free_of HH.out _); have HR := Lib.hid hr; have HG := Lib.hid hg'; have HOWN := Lib.hid hown'; have HH3 := Lib.hid hh3; clear hr hg hown hg' hown' hh3)
    go_ret
    obtain ⟨w4, hw4⟩ : ∃ w4 : World, w4 = w3.setCell ⟨q, 1, none⟩ (.slice oa' (m + n) c') := ⟨_, rfl⟩
    have hset : Only (fun k => k = q) w3 w4 := by rw [hw4]; exact only_setCell (fun k => k = q) w3 q 1 _ rfl
    have hq4 : w4.heap[q]? = some (.cells #[.map (some mb), .slice oa' (m + n) c', .int .i64 st] 122 (0, 0)) := by rw [hw4]; exact heap_setCell_here _ (HH3.out.trans HH.out)
    rw [← hw4]
    have hvq : ∀ k, (Value.slice oa' (m + n) c').ownBlock = some k → k ≠ q := fun k hk => by
      rcases HOWN.out with h5 | h5
      · exact HQV.out k (by rw [← h5]; exact hk)
      · rw [h5] at hk
        simp only [Option.some.injEq] at hk
        omega
    have hr4 : rowAt w4 99 2 (.slice oa' (m + n) c') (d.fates ++ l).length (fateCells (d.fates ++ l)) := by
      rw [← fateCells_append, List.length_append, HBB.out.2.2, hn]
      exact HR.out.kept (fun k hk => hset.block k (HR.out.lt k hk) (hvq k hk))
    have ho : Only (fun k => k = q ∨ (Value.slice oaf d.fates.length cf).ownBlock = some k) w1 w4 := (Only.of_grown (S := fun k => k = q ∨ (Value.slice oaf d.fates.length cf).ownBlock = some k) HG.out (fun k hk => .inr (by rw [HBB.out.2.2]; exact hk))).trans hset (fun i _ hi => .inl hi)
    have h5 := H1.out.fates_turn (fs' := d.fates ++ l) (st' := st) ho hq4 (fun k hk => by
      rcases HOWN.out with h6 | h6
      · exact .inl (by rw [HBB.out.2.2, ← h6]; exact hk)
      · have h7 := HR.out.lt k hk
        rw [h6] at hk
        simp only [Option.some.injEq] at hk
        have := hset.size
        exact .inr ⟨by omega, by omega⟩) hr4
    have e : d.feed l = (0, { d with fates := d.fates ++ l, steps := st }) := by
      simp only [Dk.feed, HBB.out.1]
      rw [if_neg (by simp), ← HBB.out.2.1]
    rw [e]
    refine ⟨rfl, ⟨mb, _, _, h5.wider (fun k hk => ?_) (fun k hk => ?_)⟩, ?_⟩
    · rcases hk with hk | hk
      · exact .inl hk
      · exact .inr ⟨Nat.le_trans HOB.out.size hk.1, hk.2⟩
    · rcases hk with hk | hk
      · exact Nat.lt_of_lt_of_le (H1.out.low k hk) ho.size
      · exact hk.2
    · exact (HOB.out.mono (fun i _ hi => by rw [hi]; exact H1.out.q_mem)).trans ho (fun i _ hi => by
        rcases hi with hi | hi
        · rw [hi]; exact H1.out.q_mem
        · exact H1.out.foot i (by simp [diskBlocks, hi]))
end Go.Proofs.Ytmkjejngnahpeaa
/- Disk: entries that come out of the map; a part of the files. -/
namespace Go.Proofs.Ytmkjejngnahpeaa
open Go Go.Maps Go.RowKit
open Go.Proofs (encStr)

theorem Dic.came {D : DataW Unit} {L : List (List UInt8 × Nat)} (h : Dic D L) {x : List UInt8} {yd : DataW Unit} (hat : ∀ zd, D.atKey (.string x) zd = yd) : ∃ b, (x, b) ∈ L ∧ yd = .lit (.int .i64 b) := by
  cases hh : Maps.has D (.string x) with
  | true =>
    obtain ⟨f, hf, he⟩ := (h.has x).1 hh
    obtain ⟨s, b⟩ := f
    simp only at he
    subst he
    exact ⟨b, hf, by rw [← hat .nil]; exact h.get _ hf _⟩
  | false =>
    have h1 := hat .nil
    have h2 := hat (.lit (.bool true))
    rw [atKey_of_not_has hh] at h1 h2
    rw [← h1] at h2
    cases h2
theorem ptrElem_val {v : Value} {y : DataW Unit × List MemPlace} (h : ptrElem v = some y) {b : Nat} (hy : y.1 = .lit (.int .i64 b)) : v = .pointer (some ⟨b, 0, none⟩) := by
  obtain ⟨y1, ps⟩ := y
  simp only at hy
  subst hy
  exact ptrElem_inv h
theorem wpList_next_dic {ops : Array Oper} {rest : List Oper} {o : Oper} {a : Act} {Q : Exit → Act → World → Prop} (w : World) (hg : o.guard = none) (it : Operand) (hop : o.op = Op.next it false)
    {L : List (List UInt8 × Nat)} {D : DataW Unit} (hD : Dic D L) (mb r n : Nat) (left : Lit → Bool) (cnt : Nat) (hit : a.eval it = .pointer (some ⟨r, 0, none⟩)) (h : w.ranges Try.prog 9 ptrElem mb r n D left cnt)
    (hDone : (∀ kl, left kl = false) → wpList Try.prog ops Q rest (a.put o.dst (.tuple #[.bool false])) w)
    (hMore : ∀ (s : List UInt8) (b : Nat) (w' : World) (cnt' : Nat), (s, b) ∈ L → left (.string s) = true → w'.ranges Try.prog 9 ptrElem mb r n D (fun z => left z && !z.sameKey (.string s)) cnt' → cnt' < cnt →
      w.grownBy w' (some r) → w'.heap.size = w.heap.size → (Instr.entry (.pointer (some ⟨r, 0, none⟩))).run Try.prog w' = .ok (.tuple #[encStr s, .pointer (some ⟨b, 0, none⟩)]) w' → Hid (keyOf Try.prog 9 (encStr s) = some (.string s)) →
      wpList Try.prog ops Q rest (a.put o.dst (.tuple #[.bool true, encStr s, .pointer (some ⟨b, 0, none⟩)])) w') :
    wpList Try.prog ops Q (o :: rest) a w := by
  refine wpList_next_ranges w hg it hop 9 (string_keyed Try.underlying9) ptrElem encStr id (fun key kl hk => by obtain ⟨x, hx, _⟩ := Maps.keyOf_str Try.underlying9 hk; exact ⟨x, hx⟩) (fun v _ _ => ⟨v, rfl⟩) mb r n D left cnt hit h (fun _ hl => hDone hl) ?_
  intro x c kl y w' cnt' hkey hlk hv hat hrg hlt hgr hsz hen
  obtain ⟨x', ex, rfl, _⟩ := Maps.keyOf_str Try.underlying9 hkey
  obtain rfl : x = x' := encStr_inj ex
  obtain ⟨b, hb, hy⟩ := hD.came hat
  have hc : c = .pointer (some ⟨b, 0, none⟩) := ptrElem_val hv hy
  subst hc
  exact hMore x b w' cnt' hb hlk hrg hlt hgr hsz hen (Lib.hid hkey)
theorem grown_setC (w : World) (a : Addr) (u : Value) : w.grownBy (w.setCell a u) (some a.block) :=
  ⟨rfl, rfl, rfl, by simp [World.setCell], fun k _ hk => Below.heap_setCell _ _ _ _ (fun e => hk (by rw [e]))⟩
theorem Only.grown {S : Nat → Prop} {w w' : World} (h : Only S w w') {row : Option Nat} (hr : ∀ k, k < w.heap.size → S k → row = some k) : w.grownBy w' row :=
  ⟨h.os, h.tape, h.output, h.size, fun k hk hn => h.block k hk (fun hs => hn (hr k hk hs).symm)⟩
theorem sameKey_str (x y : List UInt8) : (Lit.string x).sameKey (.string y) = decide (x = y) := by
  by_cases h : x = y
  · simp [Lit.sameKey, h]
  · simp [Lit.sameKey, h]
theorem DiskIs.narrow {w : World} {S S' : Nat → Prop} {q mb : Nat} {fv : Value} {L : List Fl} {d : Dk} (h : DiskIs w S' q mb fv L d) (hn : ∀ k, S' k → S k) (hl : ∀ k, S k → k < w.heap.size) : DiskIs w S q mb fv L d :=
  { h with foot := fun k hk => hn k (h.foot k hk), low := hl }
theorem flatMap_sub {α β : Type} (f : α → List β) {l l' : List α} (h : l'.Sublist l) : (l'.flatMap f).Sublist (l.flatMap f) := by
  induction h with
  | slnil => exact List.Sublist.refl _
  | cons a _ ih => exact (ih.trans (List.sublist_append_right _ _))
  | cons_cons a _ ih => exact ih.append_left _
/-- some files are struck -/
theorem DiskIs.files_sub {w w' : World} {S : Nat → Prop} {q mb : Nat} {fv : Value} {L L' : List Fl} {d : Dk} {n' : Nat} {D' : DataW Unit} (h : DiskIs w S q mb fv L d) (hL : L'.Sublist L) (ho : Only (fun k => k = mb) w w')
    (hm : w'.ownsMap Try.prog 9 ptrElem mb n' D') (hd : Dic D' (L'.map fun x => (x.f.name, x.blk))) : DiskIs w' S q mb fv L' { d with files := L'.map (·.f) } := by
  have hsb : (diskBlocks q mb fv L').Sublist (diskBlocks q mb fv L) := ((((flatMap_sub Fl.blocks hL).append_left _).cons_cons mb).cons_cons q)
  have hin : ∀ k ∈ diskBlocks q mb fv L', S k := fun k hk => h.foot k (hsb.subset hk)
  have hnd := h.apart.sublist hsb
  have hne : ∀ k ∈ diskBlocks q mb fv L', k ≠ mb → w'.heap[k]? = w.heap[k]? := fun k hk hk' => ho.block k (h.low k (hin k hk)) hk'
  have hap := hnd
  simp only [diskBlocks, List.nodup_cons, List.mem_cons, not_or] at hap
  have hmb : ∀ k, k ∈ fv.ownBlock.toList ++ L'.flatMap Fl.blocks → k ≠ mb := fun k hk e => hap.2.1 (e ▸ hk)
  have hsub : (L'.map (·.f)).Sublist d.files := by rw [← h.files]; exact hL.map _
  have hs2 : ((L'.map (·.f)).map (·.name)).Pairwise (· < ·) := h.sorted.sublist (hsub.map _)
  exact {
    files := rfl
    head := (hne q (by simp [diskBlocks]) (fun e => hap.1.1 e)).trans h.head
    fates := h.fates.kept (fun k hk => hne k (by simp [diskBlocks, hk]) (hmb k (by simp [hk])))
    map := by
      refine ⟨D', ?_, hd⟩
      have h1 := ownsMap_tight hm
      rw [hd.size hm (by
        rw [List.map_map]
        have : (L'.map (·.f.name)).Pairwise (· < ·) := by simpa [Function.comp_def] using hs2
        exact this.imp (fun {a b} hab he => by rw [he] at hab; exact List.lt_irrefl _ hab))] at h1
      simpa using h1
    each := fun y hy => (h.each y (hL.subset hy)).kept (fun k hk => by
        have h1 : k ∈ fv.ownBlock.toList ++ L'.flatMap Fl.blocks := List.mem_append_right _ (List.mem_flatMap.2 ⟨y, hy, hk⟩)
        exact hne k (by simp only [diskBlocks, List.mem_cons]; exact .inr (.inr h1)) (hmb k h1))
    apart := hnd
    foot := hin
    low := fun k hk => Nat.lt_of_lt_of_le (h.low k hk) ho.size
    sorted := hs2
    names := fun f hf => h.names f (hsub.subset hf)
    few := Nat.le_trans hsub.length_le h.few }
def Dk.syncdir (d : Dk) : Int × Dk :=
  if d.fate.1 ≠ 0 then (d.fate.1, d.next)
  else (0, { d.next with files := (d.files.filter (·.there)).map fun f => { f with named := true } })
end Go.Proofs.Ytmkjejngnahpeaa
/- Disk: SyncDir: what is gone is struck from the map. -/
namespace Go.Proofs.Ytmkjejngnahpeaa
open Go Go.Maps Go.RowKit
open Go.Proofs (encStr)

set_option maxHeartbeats 400000 in
theorem gone_b {w : World} {x : Fl} (s : Value) {b : Bool} (hb : x.f.there = b) (h : FlAt w x) : Calls Try.prog 121 #[s, .pointer (some ⟨x.blk, 0, none⟩)] w fun e w' => e = .returned (.bool (!b)) ∧ w' = w := by
  have c2 : w.cell? ⟨x.blk, 2, none⟩ = some (.bool b) := by rw [← hb]; exact cell_of h.cells rfl
  clear h hb
  go_enter Try.func121, Try.ntmps121
  go_wp2_with fail
  go_ret
  exact ⟨rfl, rfl⟩
/-- the files that are there, or are still to come -/
def stayF (left : Lit → Bool) (L : List Fl) : List Fl := L.filter fun x => x.f.there || left (.string x.f.name)
theorem stayF_sub (left : Lit → Bool) (L : List Fl) : (stayF left L).Sublist L := List.filter_sublist
def pairsF (L : List Fl) : List (List UInt8 × Nat) := L.map fun x => (x.f.name, x.blk)
theorem mem_pairsF {L : List Fl} {s : List UInt8} {b : Nat} (h : (s, b) ∈ pairsF L) : ∃ x ∈ L, x.f.name = s ∧ x.blk = b := by
  obtain ⟨x, hx, he⟩ := List.mem_map.1 h
  simp only [Prod.mk.injEq] at he
  exact ⟨x, hx, he.1, he.2⟩
theorem eq_of_name {L : List Fl} (hnd : (L.map (·.f.name)).Nodup) {x y : Fl} (hx : x ∈ L) (hy : y ∈ L) (h : x.f.name = y.f.name) : x = y := by
  induction L with
  | nil => cases hx
  | cons a l ih =>
    rw [List.map_cons, List.nodup_cons] at hnd
    rcases List.mem_cons.1 hx with hx1 | hx1
    · rcases List.mem_cons.1 hy with hy1 | hy1
      · rw [hx1, hy1]
      · exact absurd (by rw [← hx1, h]; exact List.mem_map_of_mem (f := fun x : Fl => x.f.name) hy1) hnd.1
    · rcases List.mem_cons.1 hy with hy1 | hy1
      · exact absurd (by rw [← hy1, ← h]; exact List.mem_map_of_mem (f := fun x : Fl => x.f.name) hx1) hnd.1
      · exact ih hnd.2 hx1 hy1
theorem stay_there {L : List Fl} (hnd : (L.map (·.f.name)).Nodup) {left : Lit → Bool} {x : Fl} (hx : x ∈ L) (ht : x.f.there = true) : stayF (fun z => left z && !z.sameKey (.string x.f.name)) L = stayF left L := by
  refine List.filter_congr fun y hy => ?_
  by_cases he : y.f.name = x.f.name
  · rw [eq_of_name hnd hy hx he, ht]; rfl
  · show (y.f.there || (left _ && !_)) = _
    rw [sameKey_str, decide_eq_false he]; simp
theorem stay_gone {L : List Fl} (hnd : (L.map (·.f.name)).Nodup) {left : Lit → Bool} {x : Fl} (hx : x ∈ L) (ht : x.f.there = false) (f : List UInt8 × Nat) : f ∈ pairsF (stayF (fun z => left z && !z.sameKey (.string x.f.name)) L) ↔ f ∈ pairsF (stayF left L) ∧ f.1 ≠ x.f.name := by
  simp only [pairsF, stayF, List.mem_map, List.mem_filter]
  constructor
  · rintro ⟨y, ⟨hy, hk⟩, rfl⟩
    have hne : y.f.name ≠ x.f.name := fun he => by
      rw [eq_of_name hnd hy hx he, ht, sameKey_str] at hk
      simp at hk
    refine ⟨⟨y, ⟨hy, ?_⟩, rfl⟩, hne⟩
    rw [sameKey_str, decide_eq_false hne] at hk
    simpa using hk
  · rintro ⟨⟨y, ⟨hy, hk⟩, rfl⟩, hne⟩
    refine ⟨y, ⟨hy, ?_⟩, rfl⟩
    rw [sameKey_str, decide_eq_false hne]
    simpa using hk
set_option maxRecDepth 100000 in
set_option maxHeartbeats 1000000 in
theorem delGone_b {w : World} {S : Nat → Prop} {q mb : Nat} {fv : Value} {L : List Fl} {d : Dk} (h : DiskIs w S q mb fv L d) :
    Calls Try.prog 120 #[.map (some mb), .func (.func 121) #[] #[]] w fun e w' => e = .returned (.tuple #[]) ∧
      (∃ n' D, w'.ownsMap Try.prog 9 ptrElem mb n' D ∧ Dic D (pairsF (L.filter (·.f.there)))) ∧ Only (fun k => k = mb) w w' := by
  obtain ⟨D0, hown, hsz, hd⟩ := h.look
  have hnd := h.nodup
  have hmS : S mb := h.foot mb (by simp [diskBlocks])
  have hmb : mb < w.heap.size := h.low _ hmS
  have hxb : ∀ x ∈ L, ∀ k ∈ x.blocks, k < w.heap.size ∧ k ≠ mb := fun x hx k hk => by
    have hk' : k ∈ L.flatMap Fl.blocks := List.mem_flatMap.2 ⟨x, hx, hk⟩
    have h1 := h.apart
    simp only [diskBlocks, List.nodup_cons] at h1
    exact ⟨h.low k (h.foot k (by simp only [diskBlocks, List.mem_cons, List.mem_append]; exact .inr (.inr (.inr hk')))), fun e => h1.2.1 (by rw [← e]; exact List.mem_append_right _ hk')⟩
  have HX := Lib.hid hxb
  have HE := Lib.hid h.each
  have HND := Lib.hid hnd
  have HD : Hid (Dic D0 (pairsF L)) := Lib.hid hd
  clear h hd hnd hxb hmS hsz
  go_enter Try.func120, Try.ntmps120
  go_wp2_with (at_range; refine wpList_range_own _ rfl _ 120 rfl 9 176 (string_keyed Try.underlying9) Try.underlying120 ptrElem mb _ _ rfl hown ?_; intro w0 hrg0 hg0 hs0)
  go_frame
  go_loopw [8] (fun _ wr => ∃ (left : Lit → Bool) (cnt : Nat) (D : DataW Unit), wr.ranges Try.prog 9 ptrElem mb w.heap.size L.length D left cnt ∧ Hid (Dic D (pairsF (stayF left L))) ∧ Only (fun k => k = mb) w wr)
    (fun _ wr => wr.rangeLeft mb w.heap.size)
  case atStart =>
    refine ⟨_, _, _, hrg0, Lib.hid ?_, Only.of_grown (S := fun k => k = mb) (hg0.but (some mb)) (fun k hk => by simp at hk; exact hk.symm)⟩
    have e : stayF (has D0) L = L := List.filter_eq_self.2 fun x hx => by
      rw [(HD.out.has x.f.name).2 ⟨_, List.mem_map_of_mem (f := fun x : Fl => (x.f.name, x.blk)) hx, rfl⟩]
      simp
    rw [e]
    exact HD.out
  case round =>
    obtain ⟨left, cnt, D, hrg, HDC, ho⟩ := hrel
    go_wp2_with (at_next; refine wpList_next_dic _ rfl _ rfl HDC.out mb w.heap.size L.length left cnt rfl hrg ?_ ?_)
    · intro hl0
      go_wp2
      go_end0
      refine ⟨rfl, ⟨_, D, hrg.owns, ?_⟩, ho⟩
      have e : stayF left L = L.filter (·.f.there) := List.filter_congr fun x _ => by rw [hl0]; simp
      rw [← e]
      exact HDC.out
    · intro s b w1 cnt1 hmem hls hrg1 hlt hg1 hs1 hen HKEY
      obtain ⟨x, hx, rfl, rfl⟩ := mem_pairsF hmem
      have hxL : x ∈ L := (stayF_sub left L).subset hx
      have ho1 : Only (fun k => k = mb) w w1 := ho.trans (Only.of_grown (S := fun k => k = w.heap.size) hg1 (fun k hk => by simp at hk; exact hk.symm)) (fun i hi he => by omega)
      have HFX : Hid (FlAt w1 x) := Lib.hid ((HE.out x hxL).kept (fun k hk => ho1.block k (HX.out x hxL k hk).1 (HX.out x hxL k hk).2))
      obtain ⟨th, hth⟩ : ∃ th, x.f.there = th := ⟨_, rfl⟩
      cases th
      · have HT : Hid (Dic (D.del (.string x.f.name)) (pairsF (stayF (fun z => left z && !z.sameKey (.string x.f.name)) L))) := Lib.hid (HDC.out.del _ (stay_gone HND.out hxL hth))
        go_wp2_with (first
          | (go_at_call 121; refine (gone_b _ hth HFX.out).mono ?_; rintro e w2 ⟨rfl, rfl⟩)
          | (at_delete; refine wpList_delete_ranges _ rfl _ _ 120 9 rfl 176 (string_keyed Try.underlying9) Try.underlying120 ptrElem mb w.heap.size L.length _ _ _ rfl hrg1 _ _ rfl HKEY.out ?_; intro w3 cnt3 hrg3 hle hturn; go_frame))
        rw [strike_twice] at hrg3
        go_roundw
        case rel => exact ⟨_, cnt3, _, hrg3, HT, ho1.trans (Only.of_grown (S := fun k => k = mb) hturn.grown (fun k hk => by simp at hk; exact hk.symm)) (fun _ _ h => h)⟩
        case measure => rw [hrg3.left_eq, hrg.left_eq]; omega
      · have HT : Hid (Dic D (pairsF (stayF (fun z => left z && !z.sameKey (.string x.f.name)) L))) := Lib.hid (by rw [stay_there HND.out hxL hth]; exact HDC.out)
        go_wp2_with (go_at_call 121; refine (gone_b _ hth HFX.out).mono ?_; rintro e w2 ⟨rfl, rfl⟩)
        go_roundw
        case rel => exact ⟨_, cnt1, D, hrg1, HT, ho1⟩
        case measure => rw [hrg1.left_eq, hrg.left_eq]; exact hlt
end Go.Proofs.Ytmkjejngnahpeaa
/- Disk: SyncDir. -/
namespace Go.Proofs.Ytmkjejngnahpeaa
open Go Go.Maps Go.RowKit
open Go.Proofs (encStr)

def nameF (x : Fl) : Fl := { x with f := { x.f with named := true } }
/-- the files, as they stand while some are still to come -/
def namedF (left : Lit → Bool) (x : Fl) : Fl := if left (.string x.f.name) = true then x else nameF x
theorem namedF_name (left : Lit → Bool) (x : Fl) : (namedF left x).f.name = x.f.name ∧ (namedF left x).blk = x.blk := by
  unfold namedF
  split <;> exact ⟨rfl, rfl⟩
theorem pairs_named (left : Lit → Bool) (L : List Fl) : pairsF (L.map (namedF left)) = pairsF L := by
  unfold pairsF
  rw [List.map_map]
  exact List.map_congr_left fun x _ => by simp [(namedF_name left x).1, (namedF_name left x).2]
theorem named_split {L : List Fl} (hnd : (L.map (·.f.name)).Nodup) {left : Lit → Bool} {x : Fl} (hx : x ∈ L) (hl : left (.string x.f.name) = true) :
    ∃ A B, L.map (namedF left) = A ++ x :: B ∧ L.map (namedF fun z => left z && !z.sameKey (.string x.f.name)) = A ++ nameF x :: B := by
  obtain ⟨A, B, rfl⟩ := List.append_of_mem hx
  have hne : ∀ y, y ∈ A ∨ y ∈ B → y.f.name ≠ x.f.name := fun y hy he => by
    rw [List.map_append, List.map_cons] at hnd
    have h2 := List.nodup_append.1 hnd
    rcases hy with hy | hy
    · exact h2.2.2 y.f.name (List.mem_map_of_mem (f := fun x : Fl => x.f.name) hy) x.f.name (by simp) he
    · exact (List.nodup_cons.1 h2.2.1).1 (by rw [← he]; exact List.mem_map_of_mem (f := fun x : Fl => x.f.name) hy)
  have hc : ∀ l : List Fl, (∀ y ∈ l, y.f.name ≠ x.f.name) → l.map (namedF fun z => left z && !z.sameKey (.string x.f.name)) = l.map (namedF left) := fun l hl => List.map_congr_left fun y hy => by
    show (if (left (.string y.f.name) && !(Lit.string y.f.name).sameKey (.string x.f.name)) = true then y else nameF y) = if left (.string y.f.name) = true then y else nameF y
    rw [sameKey_str, decide_eq_false (hl y hy)]
    simp
  refine ⟨A.map (namedF left), B.map (namedF left), ?_, ?_⟩
  · rw [List.map_append, List.map_cons]
    congr 2
    unfold namedF
    rw [hl]
    rfl
  · rw [List.map_append, List.map_cons, hc A (fun y hy => hne y (.inl hy)), hc B (fun y hy => hne y (.inr hy))]
    congr 2
    show (if (left (.string x.f.name) && !(Lit.string x.f.name).sameKey (.string x.f.name)) = true then x else nameF x) = nameF x
    rw [sameKey_str]
    simp
theorem set_named {w : World} {S : Nat → Prop} {q mb : Nat} {fv : Value} {A B : List Fl} {x : Fl} {d : Dk} (h : DiskIs w S q mb fv (A ++ x :: B) d) :
    DiskIs (w.setCell ⟨x.blk, 3, none⟩ (.bool true)) S q mb fv (A ++ nameF x :: B) { d with files := (A ++ nameF x :: B).map (·.f) } := by
  have hx := h.each x (by simp)
  have hset : Only (fun k => k = x.blk) w (w.setCell ⟨x.blk, 3, none⟩ (.bool true)) := only_setCell (fun k => k = x.blk) w x.blk 3 _ rfl
  have h1 := h.file_turn (x' := nameF x) rfl rfl (hset.mono (fun i _ hi => by rw [hi]; simp [Fl.blocks])) ⟨heap_setCell_here (w := w) _ hx.cells, hx.row.kept (fun k hk => hset.block k (hx.row.lt k hk) (FlAt.own_ne h k hk)), hx.lasts, hx.size⟩ (fun k hk => .inl hk)
  have e : (A ++ nameF x :: B).map (·.f) = A.map (·.f) ++ (nameF x).f :: B.map (·.f) := by simp
  rw [e]
  refine h1.narrow (fun k hk => ?_) (fun k hk => ?_)
  · rcases hk with hk | hk
    · exact hk
    · have h2 : (w.setCell ⟨x.blk, 3, none⟩ (.bool true)).heap.size = w.heap.size := by simp [World.setCell]
      omega
  · have := h.low k hk
    simpa [World.setCell] using this
theorem syncdir_plain {L : List Fl} {d : Dk} {left : Lit → Bool} (hl : ∀ k, left k = false) (hf : d.fate.1 = 0) (hL : L.map (·.f) = d.files.filter (·.there)) :
    d.syncdir = (0, { d.next with files := (L.map (namedF left)).map (·.f) }) := by
  unfold Dk.syncdir
  rw [hf, if_neg (by simp), ← hL, List.map_map, List.map_map]
  have e : L.map ((fun f : F0 => { f with named := true }) ∘ fun x : Fl => x.f) = L.map ((fun x : Fl => x.f) ∘ namedF left) := List.map_congr_left fun x _ => by simp [namedF, hl, nameF]
  rw [e]
set_option maxRecDepth 100000 in
set_option maxHeartbeats 1000000 in
theorem syncdir_b {w : World} {S : Nat → Prop} {q : Nat} {d : Dk} (h : DiskAt w S q d) :
    Calls Try.prog 48 #[.pointer (some ⟨q, 0, none⟩)] w fun e w' => OpIs w S q d.syncdir e w' := by
  obtain ⟨mb, fv, L, h⟩ := h
  have H := Lib.hid h
  clear h
  go_enter Try.func48, Try.ntmps48
  go_wp2_with fail
  refine (none_b H.out).mono ?_
  rintro e w' ⟨rfl, rfl⟩
  go_wp2_with fail
  refine (step_b H.out).mono ?_
  rintro e w1 ⟨kd, kp, fv', rfl, hkp, h1, ho1⟩
  obtain ⟨er, her⟩ : ∃ er, d.fate.1 = er := ⟨_, rfl⟩
  rw [her]
  have H1 := Lib.hid h1
  have HO1 := Lib.hid ho1
  have HE := Lib.hid her
  clear h1 ho1 hkp her
  go_upto_region 4 with fail
  obtain ⟨w2, hw2⟩ : ∃ w2 : World, w2 = w1.alloc (.cells #[.int .i64 kd, .int .i64 kp] 99) := ⟨_, rfl⟩
  obtain ⟨r, hr⟩ : ∃ r, r = w1.heap.size := ⟨_, rfl⟩
  have h2 : DiskIs w2 S q mb fv' L d.next := by rw [hw2]; exact H1.out.below ((Below.refl _ _).alloc (Nat.le_refl _) _)
  have ho2 : Only (fun k => k = q) w' w2 := by rw [hw2]; exact HO1.out.trans (only_alloc (fun k => k = q) _ _) (fun _ _ h => h)
  rw [← hw2, ← hr]
  clear hw2 hr H1 HO1
  have H2 := Lib.hid h2
  have HO2 := Lib.hid ho2
  clear h2 ho2
  by_cases h0 : er = 0
  · subst h0
    have c0 : w2.cell? ⟨q, 0, none⟩ = some (.map (some mb)) := cell_of H2.out.head rfl
    go_wp2_with fail
    refine (delGone_b H2.out).mono ?_
    rintro e w3 ⟨rfl, ⟨n', D, hown, hdic⟩, ho3⟩
    have h3 := H2.out.files_sub (L' := L.filter (·.f.there)) List.filter_sublist ho3 hown hdic
    obtain ⟨Lt, hLt⟩ : ∃ Lt, Lt = L.filter (·.f.there) := ⟨_, rfl⟩
    rw [← hLt] at h3 hdic
    have c0 : w3.cell? ⟨q, 0, none⟩ = some (.map (some mb)) := cell_of h3.head rfl
    have hown3 := ownsMap_tight hown
    have hnd := h3.nodup
    rw [hdic.size hown (by unfold pairsF; rw [List.map_map]; exact hnd)] at hown3
    have HDIC := Lib.hid hdic
    have HND := Lib.hid hnd
    have H3 := Lib.hid h3
    have HO3 : Hid (Only S w' w3) := Lib.hid ((HO2.out.mono (fun i _ hi => by rw [hi]; exact H2.out.q_mem)).trans ho3 (fun i _ hi => by rw [hi]; exact H2.out.foot _ (by simp [diskBlocks])))
    have HLT : Hid (Lt.map (·.f) = d.files.filter (·.there)) := Lib.hid (by
      rw [hLt]
      have : d.files = L.map (·.f) := H2.out.files.symm
      rw [this, List.filter_map]
      rfl)
    have hmb3 : Hid (mb < w3.heap.size) := Lib.hid hown3.lt
    have HSS : Hid (∀ k, S k → k < w3.heap.size) := Lib.hid h3.low
    clear hown hdic ho3 h3 hnd hLt H2 HO2
    go_wp2_with (at_range; refine wpList_range_own _ rfl _ 120 rfl 9 176 (string_keyed Try.underlying9) Try.underlying120 ptrElem mb _ _ rfl hown3 ?_; intro w4 hrg4 hg4 hs4)
    go_frame
    go_loopw [27] (fun _ wr => ∃ (left : Lit → Bool) (cnt : Nat), wr.ranges Try.prog 9 ptrElem mb w3.heap.size (pairsF Lt).length D left cnt ∧ Hid (DiskIs wr S q mb fv' (Lt.map (namedF left)) { d.next with files := (Lt.map (namedF left)).map (·.f) }) ∧ Hid (Only S w' wr))
      (fun _ wr => wr.rangeLeft mb w3.heap.size)
    case atStart =>
      have ho4 : Only (fun _ => False) w3 w4 := Only.of_grown (S := fun _ => False) hg4 (fun k hk => by simp at hk)
      refine ⟨_, _, hrg4, Lib.hid ?_, Lib.hid (HO3.out.trans ho4 (fun i _ hi => hi.elim))⟩
      have e : Lt.map (namedF (has D)) = Lt := by
        refine (List.map_congr_left fun x hx => ?_).trans (List.map_id _)
        have : has D (.string x.f.name) = true := (HDIC.out.has x.f.name).2 ⟨_, List.mem_map_of_mem (f := fun x : Fl => (x.f.name, x.blk)) hx, rfl⟩
        simp [namedF, this]
      rw [e]
      exact H3.out.only ho4 (fun _ _ h => h)
    case round =>
      obtain ⟨left, cnt, hrg, HDI, HO⟩ := hrel
      go_wp2_with (at_next; refine wpList_next_dic _ rfl _ rfl HDIC.out mb w3.heap.size _ left cnt rfl hrg ?_ ?_)
      · intro hl0
        have HX : Hid (OpIs w' S q d.syncdir (.returned (.int .i64 0)) wr) := Lib.hid (by
          rw [syncdir_plain hl0 HE.out HLT.out]
          refine ⟨rfl, ⟨mb, fv', _, HDI.out.wider (fun k hk => .inl hk) (fun k hk => ?_)⟩, HO.out⟩
          rcases hk with hk | hk
          · exact HDI.out.low k hk
          · exact hk.2)
        go_wp2_with fail
        go_ret
        exact HX.out
      · intro s b w5 cnt5 hmem hls hrg5 hlt hg5 hs5 hen HKEY
        obtain ⟨x, hx, rfl, rfl⟩ := mem_pairsF hmem
        obtain ⟨A, B, hAB, hAB'⟩ := named_split HND.out hx hls
        have hdi := HDI.out
        rw [hAB] at hdi
        have ho5 : Only (fun k => k = w3.heap.size) wr w5 := Only.of_grown (S := fun k => k = w3.heap.size) hg5 (fun k hk => by simp at hk; exact hk.symm)
        have hd5 := hdi.only ho5 (fun k hk he => by have := HSS.out k hk; omega)
        have hxc := (hd5.each x (by simp)).cells
        have k3 : w5.cell? ⟨x.blk, 3, none⟩ = some (.bool x.f.named) := cell_of hxc rfl
        have z3 : w5.frozen? ⟨x.blk, 3, none⟩ = false := free_of hxc _
        have hdn := set_named hd5
        obtain ⟨w6, hw6⟩ : ∃ w6 : World, w6 = w5.setCell ⟨x.blk, 3, none⟩ (.bool true) := ⟨_, rfl⟩
        rw [← hw6] at hdn
        have hxS : S x.blk := hd5.x_mem x.blk (by simp [Fl.blocks])
        have hxne : x.blk ≠ mb := fun e => by
          have h1 := (blocks_perm q mb fv' A x B).nodup_iff.1 hd5.apart
          exact not_mem_of_nodup_append h1 (k := x.blk) (by simp [Fl.blocks]) (by rw [e]; simp [diskBlocks])
        have hrg6 : w6.ranges Try.prog 9 ptrElem mb w3.heap.size (pairsF Lt).length D (fun z => left z && !z.sameKey (.string x.f.name)) cnt5 := by
          rw [hw6]
          exact hrg5.kept (grown_setC w5 ⟨x.blk, 3, none⟩ _) (by simp; omega) (by have := HSS.out _ hxS; simp; omega)
        have HO6 : Hid (Only S w' w6) := Lib.hid (by
          rw [hw6]
          exact (HO.out.trans ho5 (fun i hi he => by have := HO3.out.size; omega)).trans (only_setCell S _ _ _ _ hxS) (fun _ _ h => h))
        have HDN : Hid (DiskIs w6 S q mb fv' (Lt.map (namedF fun z => left z && !z.sameKey (.string x.f.name))) { d.next with files := (Lt.map (namedF fun z => left z && !z.sameKey (.string x.f.name))).map (·.f) }) := Lib.hid (by rw [hAB']; exact hdn)
        clear hdi ho5 hd5 hdn hxc hAB hAB'
        go_wp2_with fail
        rw [← hw6]
        go_roundw
        case rel => exact ⟨_, _, hrg6, HDN, HO6⟩
        case measure => rw [hrg6.left_eq, hrg.left_eq]; exact hlt
  · have hb0 : (er != 0) = true := by simpa using h0
    have HO : Hid (OpIs w' S q d.syncdir (.returned (.int .i64 er)) w2) := Lib.hid (by
      rw [show d.syncdir = (er, d.next) by
        unfold Dk.syncdir
        rw [HE.out, if_pos h0]]
      exact OpIs.next HO2.out H2.out er)
    clear h0
    go_wp2_with fail
    go_ret
    exact HO.out
end Go.Proofs.Ytmkjejngnahpeaa
