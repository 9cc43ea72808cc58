/- The texts Zf, Zj, Yd, Gj, Kz in one. -/
import Derived.Test.YtmkjejngnahpeaaGreatV16
import Derived.Test.YtmkjejngnahpeaaGreatV12
import Derived.Deep.Slices
import Derived.Deep.FieldsWide
import Derived.ChangeArms
import Derived.WideShapes
import Derived.ProofKit
import Derived.OpenShut
import Derived.Lib.SmallJoins
import Derived.Sort.BigQuietIn
import Derived.Test.YtmkjejngnahpeaaGreatV8
/- law10: what stands while SegmentCrash appends and syncs. -/
namespace Go.Proofs.YtmkjejngnahpeaaGreat
open Go Go.RowKit
attribute [local go_sem] Oper.semAt_some

/-- what a segment owns -/
def segX (S : Nat → Prop) (s x : Nat) (sv : Value) : Nat → Prop := fun k => S k ∨ k = s ∨ k = x ∨ sv.ownBlock = some k
/-- a segment made behind w2 on a disk of one file, of which the first st batches last -/
structure SegC (w2 w : World) (S : Nat → Prop) (s x q : Nat) (nm : ByteArray) (bn : Nat) (sv : Value) (bs : List Bat) (st : Nat) : Prop where
  seg : ∃ sp d f, SegI w S s x q nm bn 64 sv sp bs d ∧ OneF d nm.data.toList f ∧ f.bytes = batsT bs ∧ posT bs st ≤ f.lasts ∧ f.lasts ≤ f.bytes.length
  own : ∀ k, segX S s x sv k → w2.heap.size ≤ k ∧ k < w.heap.size
  below : Below w2.heap.size w2 w
  few : st ≤ bs.length
theorem SegC.later {w2 w w' : World} {S : Nat → Prop} {s x q : Nat} {nm : ByteArray} {bn st : Nat} {sv : Value} {bs : List Bat} (h : SegC w2 w S s x q nm bn sv bs st) (hb : Below w.heap.size w w') : SegC w2 w' S s x q nm bn sv bs st := by
  obtain ⟨sp, d, f, h1, h2⟩ := h.seg
  exact ⟨⟨sp, d, f, h1.later hb, h2⟩, fun k hk => ⟨(h.own k hk).1, Nat.lt_of_lt_of_le (h.own k hk).2 hb.size⟩, h.below.trans (hb.mono h.below.size), h.few⟩
/-- lists of records that are kept in a box: the lists are the caller's -/
structure WroteI (w2 w : World) (b12 : Nat) (ls : List (List Rc)) (X : Nat → Prop) : Prop where
  row : ∃ oa n c vs, ls.length = n ∧ w.heap[b12]? = some (.cells #[.slice oa n c] 22 (0, 0)) ∧ rowAt w 28 1 (.slice oa n c) n vs ∧ (∀ k, (Value.slice oa n c).ownBlock = some k → w2.heap.size ≤ k ∧ ¬ X k) ∧
    ∀ i (h : i < ls.length), ∃ ob e, vs[i]? = some (.slice ob ls[i].length e) ∧ RecsAt w2 (.slice ob ls[i].length e) ls[i]
  hb : w2.heap.size ≤ b12 ∧ ¬ X b12
theorem WroteI.only {w2 w w' : World} {b12 : Nat} {ls : List (List Rc)} {X X' Y : Nat → Prop} (h : WroteI w2 w b12 ls X) (ho : Only Y w w') (hY : ∀ k, Y k → X k) (hX : ∀ k, X' k → X k ∨ w.heap.size ≤ k) : WroteI w2 w' b12 ls X' := by
  obtain ⟨oa, n, c, vs, h1, h2, h3, h4, h5⟩ := h.row
  have hlt := (Array.getElem?_eq_some_iff.1 h2).1
  have no : ∀ k, k < w.heap.size → ¬ X k → ¬ X' k := fun k hk hn hx => by
    rcases hX k hx with e | e
    · exact hn e
    · omega
  exact ⟨⟨oa, n, c, vs, h1, (ho.block b12 hlt (fun hy => h.hb.2 (hY _ hy))).trans h2, h3.kept (fun k hk => ho.block k (h3.lt k hk) (fun hy => (h4 k hk).2 (hY _ hy))), fun k hk => ⟨(h4 k hk).1, no k (h3.lt k hk) (h4 k hk).2⟩, h5⟩, h.hb.1, no b12 hlt h.hb.2⟩
theorem WroteI.later {w2 w w' : World} {b12 : Nat} {ls : List (List Rc)} {X : Nat → Prop} (h : WroteI w2 w b12 ls X) (hb : Below w.heap.size w w') : WroteI w2 w' b12 ls X :=
  h.only (Y := fun _ => False) (Only.of_below hb (Nat.le_refl _) _) (fun _ hf => hf.elim) (fun _ h => .inl h)
theorem sub_posT {bs : List Bat} {b : Bat} {j : Nat} (h : j ≤ bs.length) : posT (bs ++ [b]) j = posT bs j := by
  unfold posT
  rw [List.take_append_of_le_length h]
/-- what an Append leaves: it was refused, or the batch is there -/
theorem SegC.append {w2 w w' : World} {S : Nat → Prop} {s x q : Nat} {nm : ByteArray} {bn st : Nat} {sv : Value} {bs : List Bat} (h : SegC w2 w S s x q nm bn sv bs st) {d : Dk} {sp : List Sp} (hi : SegI w S s x q nm bn 64 sv sp bs d) {f : F0} (h1 : OneF d nm.data.toList f) (hfb : f.bytes = batsT bs) (hl : posT bs st ≤ f.lasts) (hll : f.lasts ≤ f.bytes.length)
    {base : Int} {l : List Rc} {e : Ending} (hA : AppS w S s x q nm bn 64 sv bs d base l e w') :
    (∃ r : Int, r ≠ 0 ∧ e = .returned (.int .i64 r) ∧ ∃ S', SegC w2 w' S' s x q nm bn sv bs st ∧ (∀ k, segX S' s x sv k → segX S s x sv k ∨ w.heap.size ≤ k) ∧ Only (segX S s x sv) w w') ∨
    (e = .returned (.int .i64 0) ∧ ∃ S' sv', SegC w2 w' S' s x q nm bn sv' (bs ++ [(base, l)]) st ∧ (∀ k, segX S' s x sv' k → segX S s x sv k ∨ w.heap.size ≤ k) ∧ Only (segX S s x sv) w w') := by
  have hsz := h.below.size
  have same : Below w.heap.size w w' → ∃ S', SegC w2 w' S' s x q nm bn sv bs st ∧ (∀ k, segX S' s x sv k → segX S s x sv k ∨ w.heap.size ≤ k) ∧ Only (segX S s x sv) w w' := fun hb =>
    ⟨S, h.later hb, fun k hk => .inl hk, Only.of_below hb (Nat.le_refl _) _⟩
  rcases hA with ⟨hne, he, hbl⟩ | ⟨-, -, he, hbl⟩ | ⟨-, -, hne, he, hd, ho⟩ | ⟨-, hbe, h0, he, S', sv', sp', hS', hsv', hi', ho⟩
  · exact .inl ⟨_, hne, he, same hbl⟩
  · exact .inl ⟨4, by decide, he, same hbl⟩
  · have hdd := append_full h1.fates h1.find hne
    rw [hdd] at hd
    have hw : ∀ k, Wid S w w' k → S k ∨ w.heap.size ≤ k := fun k hk => by
      rcases hk with hk | hk
      · exact .inl hk
      · exact .inr hk.1
    have hX : Only (segX S s x sv) w w' := ho.mono (fun _ _ hk => .inl hk)
    refine .inl ⟨_, hne, he, Wid S w w', ⟨⟨sp, d, f, hi.turn hd hw ho ⟨f, h1.find, hfb⟩, h1, hfb, hl, hll⟩, fun k hk => ?_, h.below.trans (ho.below (fun i hi hs => by have := (h.own i (.inl hs)).1; omega) h.below.size), h.few⟩, fun k hk => ?_, hX⟩
    · rcases hk with (hk | hk) | hk
      · have := h.own k (.inl hk); exact ⟨this.1, Nat.lt_of_lt_of_le this.2 ho.size⟩
      · exact ⟨by have := hk.1; omega, hk.2⟩
      · have := h.own k (.inr hk); exact ⟨this.1, Nat.lt_of_lt_of_le this.2 ho.size⟩
    · rcases hk with hk | hk
      · rcases hw k hk with e | e
        · exact .inl (.inl e)
        · exact .inr e
      · exact .inl (.inr hk)
  · have ha := h1.append h0
    have hX : Only (segX S s x sv) w w' := ho
    refine .inr ⟨he, S', sv', ⟨⟨sp', _, _, hi', ha, ?_, ?_, ?_⟩, fun k hk => ?_, h.below.trans (ho.below (fun i hi hs => by have := (h.own i hs).1; omega) h.below.size), by rw [List.length_append]; have := h.few; omega⟩, fun k hk => ?_, hX⟩
    · rw [batsT_append, show batsT [(base, l)] = batchT base l by simp [batsT], hfb]
    · rw [sub_posT h.few]
      exact hl
    · show f.lasts ≤ (f.bytes ++ _).length
      rw [List.length_append]
      omega
    · rcases hk with hk | hk | hk | hk
      · rcases hS' k hk with e | e
        · have := h.own k (.inl e); exact ⟨this.1, Nat.lt_of_lt_of_le this.2 ho.size⟩
        · exact ⟨by have := e.1; omega, e.2⟩
      · have := h.own k (.inr (.inl hk)); exact ⟨this.1, Nat.lt_of_lt_of_le this.2 ho.size⟩
      · have := h.own k (.inr (.inr (.inl hk))); exact ⟨this.1, Nat.lt_of_lt_of_le this.2 ho.size⟩
      · refine ⟨?_, hi'.idx.row.lt k hk⟩
        rcases hsv' k hk with e | e
        · exact (h.own k (.inr (.inr (.inr e)))).1
        · omega
    · rcases hk with hk | hk | hk | hk
      · rcases hS' k hk with e | e
        · exact .inl (.inl e)
        · exact .inr e.1
      · exact .inl (.inr (.inl hk))
      · exact .inl (.inr (.inr (.inl hk)))
      · rcases hsv' k hk with e | e
        · exact .inl (.inr (.inr (.inr e)))
        · exact .inr e
/-- what a Sync leaves: all batches last -/
theorem SegC.sync {w2 w w' : World} {S : Nat → Prop} {s x q : Nat} {nm : ByteArray} {bn st : Nat} {sv : Value} {bs : List Bat} (h : SegC w2 w S s x q nm bn sv bs st) {d : Dk} {sp : List Sp} (hi : SegI w S s x q nm bn 64 sv sp bs d) {f : F0} (h1 : OneF d nm.data.toList f) (hfb : f.bytes = batsT bs)
    {e : Ending} (hA : OpIs w S q (d.sync nm.data.toList) e w') :
    e = .returned (.int .i64 0) ∧ ∃ S', SegC w2 w' S' s x q nm bn sv bs bs.length ∧ (∀ k, segX S' s x sv k → segX S s x sv k ∨ w.heap.size ≤ k) ∧ Only (segX S s x sv) w w' := by
  obtain ⟨he, hd, ho⟩ := hA
  obtain ⟨g1, g2⟩ := h1.sync
  rw [g1] at he
  have hsz := h.below.size
  have hw : ∀ k, Wid S w w' k → S k ∨ w.heap.size ≤ k := fun k hk => by
    rcases hk with hk | hk
    · exact .inl hk
    · exact .inr hk.1
  have hlen : posT bs bs.length = f.bytes.length := by rw [posT_all, hfb]
  refine ⟨he, Wid S w w', ⟨⟨sp, _, _, hi.turn hd hw ho ⟨_, g2.find, hfb⟩, g2, hfb, Nat.le_of_eq hlen, Nat.le_refl _⟩, fun k hk => ?_, h.below.trans (ho.below (fun i hi hs => by have := (h.own i (.inl hs)).1; omega) h.below.size), Nat.le_refl _⟩, fun k hk => ?_, ho.mono (fun _ _ hk => .inl hk)⟩
  · rcases hk with (hk | hk) | hk
    · have := h.own k (.inl hk); exact ⟨this.1, Nat.lt_of_lt_of_le this.2 ho.size⟩
    · exact ⟨by have := hk.1; omega, hk.2⟩
    · have := h.own k (.inr hk); exact ⟨this.1, Nat.lt_of_lt_of_le this.2 ho.size⟩
  · rcases hk with hk | hk
    · rcases hw k hk with e | e
      · exact .inl (.inl e)
      · exact .inr e
    · exact .inl (.inr hk)
/-- what does not belong to the segment has turned -/
theorem SegC.apart {w2 w w' : World} {S Y : Nat → Prop} {s x q : Nat} {nm : ByteArray} {bn st : Nat} {sv : Value} {bs : List Bat} (h : SegC w2 w S s x q nm bn sv bs st) (ho : Only Y w w') (hY : ∀ k, Y k → ¬ segX S s x sv k ∧ w2.heap.size ≤ k) : SegC w2 w' S s x q nm bn sv bs st := by
  obtain ⟨sp, d, f, hi, h2⟩ := h.seg
  refine ⟨⟨sp, d, f, { hi with head := ?_, idx := ⟨?_, ?_⟩, disk := hi.disk.onlyS ho (fun k hk hy => (hY k hy).1 (.inl hk)) }, h2⟩, fun k hk => ⟨(h.own k hk).1, Nat.lt_of_lt_of_le (h.own k hk).2 ho.size⟩, h.below.trans (ho.below (fun i hi hy => by have := (hY i hy).2; omega) h.below.size), h.few⟩
  · exact (ho.block s (Array.getElem?_eq_some_iff.1 hi.head).1 (fun hy => (hY _ hy).1 (.inr (.inl rfl)))).trans hi.head
  · exact (ho.block x (Array.getElem?_eq_some_iff.1 hi.idx.head).1 (fun hy => (hY _ hy).1 (.inr (.inr (.inl rfl))))).trans hi.idx.head
  · exact hi.idx.row.kept (fun k hk => ho.block k (hi.idx.row.lt k hk) (fun hy => (hY _ hy).1 (.inr (.inr (.inr hk)))))
/-- a list more is kept -/
theorem wrote_push {w2 w V w3 : World} {b12 : Nat} {ls : List (List Rc)} {l : List Rc} {X : Nat → Prop} {oa oa3 ob : Option Addr} {n c c3 m e : Nat} {vs : List Value} (h1 : ls.length = n) (hbx : w.heap[b12]? = some (.cells #[.slice oa n c] 22 (0, 0))) (hrow : rowAt w 28 1 (.slice oa n c) n vs) (hown : ∀ k, (Value.slice oa n c).ownBlock = some k → w2.heap.size ≤ k ∧ ¬ X k)
    (hel : ∀ i (h : i < ls.length), ∃ ob e, vs[i]? = some (.slice ob ls[i].length e) ∧ RecsAt w2 (.slice ob ls[i].length e) ls[i]) (hb : w2.heap.size ≤ b12 ∧ ¬ X b12) (hX : ∀ k, X k → k < w.heap.size) (_ : w2.heap.size ≤ w.heap.size)
    (hm : m = l.length) (hl : RecsAt w2 (.slice ob m e) l) (hV : Below w.heap.size w V)
    (hr : rowAt w3 28 1 (.slice oa3 (n + 1) c3) (n + 1) (vs ++ [.slice ob m e])) (hg : V.grownBy w3 (Value.slice oa n c).ownBlock) (ho : (Value.slice oa3 (n + 1) c3).ownBlock = (Value.slice oa n c).ownBlock ∨ (Value.slice oa3 (n + 1) c3).ownBlock = some V.heap.size) :
    w3.heap[b12]? = some (.cells #[.slice oa n c] 22 (0, 0)) ∧ WroteI w2 (w3.setCell ⟨b12, 0, none⟩ (.slice oa3 (n + 1) c3)) b12 (ls ++ [l]) X ∧ Only (fun k => w2.heap.size ≤ k ∧ ¬ X k) w (w3.setCell ⟨b12, 0, none⟩ (.slice oa3 (n + 1) c3)) := by
  have hlt := (Array.getElem?_eq_some_iff.1 hbx).1
  have hnb : ∀ k, (Value.slice oa n c).ownBlock = some k → k ≠ b12 := fun k hk e => by
    subst e
    exact hrow.notB hbx (by decide) hk
  have hov : Only (fun k => (Value.slice oa n c).ownBlock = some k) w w3 := (Only.of_below hV (Nat.le_refl _) _).trans (Only.of_grown hg (fun k hk => hk)) (fun _ _ h => h)
  have hb3 := (hov.block b12 hlt (fun e => hnb _ e rfl)).trans hbx
  have hset : ∀ k, k ≠ b12 → (w3.setCell ⟨b12, 0, none⟩ (.slice oa3 (n + 1) c3)).heap[k]? = w3.heap[k]? := fun k hk => Below.heap_setCell _ _ _ _ hk
  have hn3 : ∀ k, (Value.slice oa3 (n + 1) c3).ownBlock = some k → k ≠ b12 := fun k hk e => by
    subst e
    exact hr.notB hb3 (by decide) hk
  refine ⟨hb3, ⟨⟨oa3, n + 1, c3, vs ++ [.slice ob m e], by rw [List.length_append, h1]; rfl, heap_setCell_here _ hb3, hr.kept (fun k hk => hset k (hn3 k hk)), fun k hk => ?_, fun i hi => ?_⟩, hb⟩, ?_⟩
  · rcases ho with e2 | e2
    · exact hown k (by rw [← e2]; exact hk)
    · rw [hk] at e2
      simp only [Option.some.injEq] at e2
      have := hV.size
      exact ⟨by omega, fun hx => by have := hX k hx; omega⟩
  · have hvl : vs.length = n := by have := hrow.1; omega
    by_cases hil : i < ls.length
    · obtain ⟨o2, e2, g1, g2⟩ := hel i hil
      rw [List.getElem_append_left hil, List.getElem?_append_left (by omega)]
      exact ⟨o2, e2, g1, g2⟩
    · rw [List.length_append] at hi
      simp only [List.length_cons, List.length_nil] at hi
      obtain rfl : i = ls.length := by omega
      rw [List.getElem_append_right (Nat.le_refl _), List.getElem?_append_right (by omega)]
      simp only [Nat.sub_self, List.getElem_cons_zero]
      refine ⟨ob, e, ?_, ?_⟩
      · rw [h1, hvl, Nat.sub_self, ← hm]; rfl
      · rw [← hm]; exact hl
  · refine (hov.mono (fun k _ hk => hown k hk)).trans (only_setCell (fun k => w2.heap.size ≤ k ∧ ¬ X k) _ b12 0 _ hb) (fun _ _ h => h)
end Go.Proofs.YtmkjejngnahpeaaGreat
/- law10: SegmentCrash, plain laws: the segment's name, what a crash left, the disk between. -/
namespace Go.Proofs.YtmkjejngnahpeaaGreat
open Go Go.RowKit

def logName : ByteArray := ⟨#[108, 111, 103]⟩
theorem hexd_ok : ∀ d : Nat, d < 16 → isHex (hexd d) = true ∧ hval (hexd d) = d := by decide
theorem hex_num : ∀ n b, (hex n b).all isHex = true ∧ hnum (hex n b) = b % 16 ^ n
  | 0, b => ⟨rfl, by simp [hex, hnum, Nat.mod_one]⟩
  | n + 1, b => by
    obtain ⟨h1, h2⟩ := hex_num n (b / 16)
    obtain ⟨h3, h4⟩ := hexd_ok (b % 16) (by omega)
    refine ⟨?_, ?_⟩
    · rw [hex, List.all_append, h1]
      simp [h3]
    · rw [hex, hnum_snoc, h2, h4, Nat.pow_succ', Nat.mod_mul]
      omega
theorem segName_ok {b : Nat} (h : b ≤ 9007199254740992) : okName (segName logName b).data.toList = true ∧ hnum (digs (segName logName b).data.toList) = b := by
  obtain ⟨x, hx⟩ : ∃ x, x = hex 14 b := ⟨_, rfl⟩
  have hl : x.length = 14 := by rw [hx, hex_length]
  obtain ⟨h1, h2⟩ := hex_num 14 b
  rw [Nat.mod_eq_of_lt (by omega)] at h2
  rw [← hx] at h1 h2
  have e : (segName logName b).data.toList = [108, 111, 103, 45] ++ x := by
    unfold segName logName
    rw [← hx]
    rfl
  have hd : digs ([108, 111, 103, 45] ++ x) = x := by
    unfold digs
    rw [List.length_append, hl]
    rfl
  rw [e, hd]
  refine ⟨?_, h2⟩
  unfold okName
  rw [hd, h1, h2, List.length_append, hl, decide_eq_true h]
  have e3 : ([108, 111, 103, 45] ++ x : List UInt8).take (18 - 15) = [108, 111, 103] := rfl
  have e4 : ([108, 111, 103, 45] ++ x : List UInt8)[18 - 15]? = some 45 := rfl
  show (decide (16 ≤ 18) && true && loggedB (([108, 111, 103, 45] ++ x : List UInt8).take (18 - 15)) && (([108, 111, 103, 45] ++ x : List UInt8)[18 - 15]? == some 45) && true) = true
  rw [e3, e4]
  decide
/-- what a crash leaves of a segment -/
theorem SegC.crash {w2 w : World} {S : Nat → Prop} {s x q bn st : Nat} {nm : ByteArray} {sv : Value} {bs : List Bat} (h : SegC w2 w S s x q nm bn sv bs st) (ps : List Int) :
    ∃ sp d, SegI w S s x q nm bn 64 sv sp bs d ∧ ∃ kk tl f, kk ≤ bs.length ∧ st ≤ kk ∧ OneF (d.crash ps) nm.data.toList f ∧ f.bytes = batsT (bs.take kk) ++ tl ∧ BatsOk (bs.take kk) tl ∧ Chain bn (bs.take kk) := by
  obtain ⟨sp, d, f, hi, h1, hfb, hl, hll⟩ := h.seg
  obtain ⟨k, hk, hc⟩ := h1.crash hll ps
  obtain ⟨kk, tl, g1, g2, g3, g4⟩ := torn_split bs (f.lasts + k) (fun b hb => hi.chain.good b hb) (by rw [← hfb]; exact hk)
  refine ⟨sp, d, hi, kk, tl, _, g1, g4 st h.few (by omega), hc, ?_, ⟨fun b hb => hi.chain.good b (List.mem_of_mem_take hb), g3⟩, hi.chain.take kk⟩
  show f.bytes.take (f.lasts + k) = _
  rw [hfb]
  exact g2
/-- a disk of one file that holds whole batches and a torn one -/
structure LeftC (w : World) (S : Nat → Prop) (q : Nat) (nm : ByteArray) (L : List Bat) (tl : List UInt8) : Prop where
  disk : ∃ d f, DiskAt w S q d ∧ OneF d nm.data.toList f ∧ f.bytes = batsT L ++ tl
/-- what Mend leaves: nothing torn -/
theorem LeftC.mend {w w' : World} {S : Nat → Prop} {q bn : Nat} {nm : ByteArray} {L : List Bat} {tl : List UInt8} {d : Dk} {f : F0} {e : Ending} (hd : DiskAt w S q d) (h1 : OneF d nm.data.toList f) (hb : f.bytes = batsT L ++ tl) (hm : MendIs w S q d ((d.cut nm.data.toList ((batsT L).length : Int)).2.sync nm.data.toList).2 L bn tl e w') :
    e = .returned (.tuple #[foundV L.length (bn + cntT L) (batsT L).length (whyT tl), .int .i64 0]) ∧ (∃ S', LeftC w' S' q nm L [] ∧ (∀ k, S' k → S k ∨ w.heap.size ≤ k)) ∧ Only S w w' := by
  obtain ⟨he, ⟨rfl, hbl⟩ | ⟨hne, S', hS', hd', ho⟩⟩ := hm
  · exact ⟨he, ⟨S, ⟨_, _, hd.belowS hbl, h1, hb⟩, fun k hk => .inl hk⟩, Only.of_below hbl (Nat.le_refl _) _⟩
  · have hle : (batsT L).length ≤ f.bytes.length := by rw [hb, List.length_append]; omega
    obtain ⟨c1, c2⟩ := h1.cut hle
    obtain ⟨s1, s2⟩ := c2.sync
    refine ⟨he, ⟨S', ⟨_, _, hd', s2, ?_⟩, hS'⟩, ho⟩
    show f.bytes.take (batsT L).length = _
    rw [hb, List.take_left, List.append_nil]
theorem OneF.mendable {d : Dk} {s : List UInt8} {f : F0} (h1 : OneF d s f) {n : Nat} (hn : n ≤ f.bytes.length) : (d.cut s (n : Int)).1 = 0 ∧ ((d.cut s (n : Int)).2.sync s).1 = 0 :=
  ⟨(h1.cut hn).1, (h1.cut hn).2.sync.1⟩
/-- Mend on what a crash left -/
theorem LeftC.mended {w : World} {S : Nat → Prop} {q bn : Nat} {nm : ByteArray} {L : List Bat} {tl : List UInt8} (h : LeftC w S q nm L tl) (hnm : nm.size ≤ 32) (hok : okName nm.data.toList = true) (hbn : hnum (digs nm.data.toList) = bn) (hgo : BatsOk L tl) (hch : Chain bn L) (hbl : bn ≤ 9007199254740992) :
    Calls Tryz.prog 15 #[.pointer (some ⟨q, 0, none⟩), .string nm] w fun e w' => e = .returned (.tuple #[foundV L.length (bn + cntT L) (batsT L).length (whyT tl), .int .i64 0]) ∧ (∃ S', LeftC w' S' q nm L [] ∧ (∀ k, S' k → S k ∨ w.heap.size ≤ k)) ∧ Only S w w' := by
  obtain ⟨d, f, hd, h1, hb⟩ := h.disk
  obtain ⟨c1, c2⟩ := h1.mendable (n := (batsT L).length) (by rw [hb, List.length_append]; omega)
  exact (mendS_b hd hnm hok hbn h1.find hb hgo hch hbl c1 c2).mono (fun e w' hm => LeftC.mend hd h1 hb hm)
theorem LeftC.looked {w : World} {S : Nat → Prop} {q bn : Nat} {nm : ByteArray} {L : List Bat} {tl : List UInt8} (h : LeftC w S q nm L tl) (hnm : nm.size ≤ 32) (hok : okName nm.data.toList = true) (hbn : hnum (digs nm.data.toList) = bn) (hgo : BatsOk L tl) (hch : Chain bn L) (hbl : bn ≤ 9007199254740992) :
    Calls Tryz.prog 14 #[.pointer (some ⟨q, 0, none⟩), .string nm] w fun e w' => e = .returned (.tuple #[foundV L.length (bn + cntT L) (batsT L).length (whyT tl), .int .i64 0]) ∧ LeftC w' S q nm L tl ∧ Below w.heap.size w w' := by
  obtain ⟨d, f, hd, h1, hb⟩ := h.disk
  exact (lookS_b hd hnm hok hbn h1.find hb hgo hch hbl).mono (fun e w' hm => ⟨hm.1, ⟨_, _, hd.belowS hm.2, h1, hb⟩, hm.2⟩)
theorem LeftC.later {w w' : World} {S : Nat → Prop} {q : Nat} {nm : ByteArray} {L : List Bat} {tl : List UInt8} (h : LeftC w S q nm L tl) (hb : Below w.heap.size w w') : LeftC w' S q nm L tl := by
  obtain ⟨d, f, hd, h1, h2⟩ := h.disk
  exact ⟨d, f, hd.belowS hb, h1, h2⟩
theorem LeftC.opened {w : World} {S : Nat → Prop} {q bn : Nat} {nm : ByteArray} {L : List Bat} (h : LeftC w S q nm L []) (hnm : nm.size ≤ 32) (hok : okName nm.data.toList = true) (hbn : hnum (digs nm.data.toList) = bn) (hch : Chain bn L) (hbl : bn ≤ 9007199254740992) :
    Calls Tryz.prog 16 #[.pointer (some ⟨q, 0, none⟩), .string nm, .int .i64 64] w fun e w' => ∃ s x sv sp d, e = .returned (.tuple #[.pointer (some ⟨s, 0, none⟩), .int .i64 0]) ∧ SegI w' S s x q nm bn 64 sv sp L d ∧ Below w.heap.size w w' := by
  obtain ⟨d, f, hd, h1, hb⟩ := h.disk
  rw [List.append_nil] at hb
  exact (openS_b (step := 64) hd hnm hok hbn h1.find hb hch hbl (by omega) (by omega)).mono (fun e w' ⟨s, x, sv, sp, g1, g2, g3⟩ => ⟨s, x, sv, sp, d, g1, g2, g3⟩)
end Go.Proofs.YtmkjejngnahpeaaGreat
/- law10: arguments opened: records, lists of records, numbers; a Crash. -/
namespace Go.Proofs.YtmkjejngnahpeaaGreat
open Go Go.Maps Go.RowKit

theorem cells_getR {w : World} {base : Nat} {a : Addr} {n : Nat} {cs : List Value} (h : w.cells? base a n = some cs) : cs.length = n ∧ ∀ i, i < n → w.cell? (a.add i) = cs[i]? := by
  unfold World.cells? at h
  split at h
  · refine ⟨by rw [mapM_some_length h, List.length_range], fun i hi => ?_⟩
    exact mapM_some_get h i i (by rw [List.getElem?_range hi])
  · cases h
theorem flatMap_getR {α : Type} (enc : α → List Value) (size : Nat) (hs : ∀ x, (enc x).length = size) : ∀ (l : List α) (i k : Nat) (hi : i < l.length) (_ : k < size), (l.flatMap enc)[i * size + k]? = (enc l[i])[k]?
  | x :: r, 0, k, _, hk => by
    rw [List.flatMap_cons, List.getElem?_append_left (by rw [hs]; omega)]
    simp
  | x :: r, i + 1, k, hi, hk => by
    rw [List.flatMap_cons, List.getElem?_append_right (by rw [hs, Nat.add_mul]; omega), hs, show (i + 1) * size + k - size = i * size + k by rw [Nat.add_mul]; omega, flatMap_getR enc size hs r i k (by simpa using hi) hk]
    simp
theorem flatMap_lenR {α : Type} (enc : α → List Value) (size : Nat) (hs : ∀ x, (enc x).length = size) : ∀ l : List α, (l.flatMap enc).length = l.length * size
  | [] => by simp
  | x :: r => by
    rw [List.flatMap_cons, List.length_append, hs, flatMap_lenR enc size hs r, List.length_cons, Nat.add_mul]
    omega
/-- rows of cells that read one by one -/
theorem readAt_rowsR {α : Type} {w : World} {base : Nat} {a : Addr} {n cap size : Nat} (enc : α → List Value) (hs : ∀ x, (enc x).length = size) (h0 : 0 < size) (l : List α) (hl : l.length = n) (hc : n ≤ cap)
    (each : ∀ i (hi : i < l.length), w.cells? base (a.add (i * size)) size = some (enc l[i])) : readAt w size (.slice (some a) n cap) n (l.flatMap enc) := by
  refine ⟨by rw [flatMap_lenR enc size hs, hl], ?_⟩
  by_cases hn : n = 0
  · exact .inl ⟨hn, some a, cap, by rw [hn], fun h => by cases h⟩
  obtain ⟨b, off, spot⟩ := a
  obtain ⟨hl0, hg0⟩ := cells_getR (each 0 (by omega))
  have g0 := hg0 0 h0
  have hv : ∃ u, (enc (l[0]'(by omega)))[0]? = some u := ⟨_, List.getElem?_eq_getElem (by rw [hs]; exact h0)⟩
  obtain ⟨u, hu⟩ := hv
  rw [hu] at g0
  have hspot : spot = none := by simpa [Addr.add] using World.cell?_spot g0
  subst hspot
  have hcl : ∀ i k (hi : i < l.length), k < size → w.cell? ⟨b, off + i * size + k, none⟩ = (enc l[i])[k]? := fun i k hi hk => by
    have := (cells_getR (each i hi)).2 k hk
    rwa [Go.WideShapes.add_plain, Go.WideShapes.add_plain] at this
  refine .inr ⟨b, off, cap, rfl, by omega, ?_, hc, fun j u hj => ?_⟩
  · have := hcl 0 0 (by omega) h0
    rw [hu] at this
    exact World.block_lt_of_cell? w _ this
  · have hj1 : j < n * size := by
      have := (List.getElem?_eq_some_iff.1 hj).1
      rwa [flatMap_lenR enc size hs, hl] at this
    have hi : j / size < n := (Nat.div_lt_iff_lt_mul h0).2 hj1
    have hk : j % size < size := Nat.mod_lt _ h0
    have hjj : j / size * size + j % size = j := by rw [Nat.mul_comm]; exact Nat.div_add_mod j size
    rw [← hjj, flatMap_getR enc size hs l _ _ (by omega) hk] at hj
    have := hcl (j / size) (j % size) (by omega) hk
    rw [hj, Nat.add_assoc, hjj] at this
    exact this
section
open Go.ChangeShapes Go.WideShapes Go.ChangeAt Go.Joins
variable {H : Type} {enc : TypeId × Value → H} {w : World} {base b1 : Nat} {spare : Nat → Bool} {held : Bool} {rc : Reach} {v : Value} {d : DataW H} {p : List MemPlace} {fuel : Nat} {y : DataW H × List MemPlace}
theorem cells_u8R : Tryz.prog.cellsOf 5 = 1 := by kernel_rfl
theorem cells_intR : Tryz.prog.cellsOf 3 = 1 := by kernel_rfl
theorem cells_sl1R : Tryz.prog.cellsOf 58 = 1 := by kernel_rfl
theorem cells_sl3R : Tryz.prog.cellsOf 23 = 1 := by kernel_rfl
theorem min_u8R : IntKind.u8.min = 0 := by decide +kernel
theorem max_u8R : IntKind.u8.max = 255 := by decide +kernel
theorem min_i64R : IntKind.i64.min = -9223372036854775808 := by decide +kernel
theorem max_i64R : IntKind.i64.max = 9223372036854775807 := by decide +kernel
theorem wf_u8R {k : Int} (h : (Lit.int .u8 k).wf = true) : 0 ≤ k ∧ k < 256 := by
  simp only [Lit.wf, min_u8R, max_u8R, Bool.and_eq_true, decide_eq_true_eq] at h
  omega
theorem wf_i64R {k : Int} (h : (Lit.int .i64 k).wf = true) : -9223372036854775808 ≤ k ∧ k ≤ 9223372036854775807 := by
  simp only [Lit.wf, min_i64R, max_i64R, Bool.and_eq_true, decide_eq_true_eq] at h
  exact h
/-- a slice that reads, element by element -/
theorem open_rowR {α : Type} [Inhabited α] {t e : TypeId} (size : Nat) (hsz : Tryz.prog.cellsOf e = size) (h0 : 0 < size) (ht : Tryz.prog.underlying t = some (.slice e)) (en : α → List Value) (hs : ∀ x, (en x).length = size) (ok : α → Prop)
    (hel : ∀ (n : Nat) (cs : List Value) (y : DataW H × List MemPlace), cs.length = size → DataW.trod enc Tryz.prog w base spare held n e cs = some y → ∃ x, cs = en x ∧ ok x)
    (h : DataW.trod enc Tryz.prog w base spare held fuel t [v] = some y) : ∃ l : List α, readAt w size v l.length (l.flatMap en) ∧ (∀ x ∈ l, ok x) ∧ l.length ≤ 9223372036854775807 ∧ ∃ oa c, v = .slice oa l.length c := by
  rcases Deep.open_slice ht h with ⟨hc, _⟩ | ⟨a, len, cap, m, k, D, Pl, hc, _, hl, hm, hmm, hx, hall⟩
  · simp only [List.cons.injEq, and_true] at hc
    subst hc
    exact ⟨[], ⟨by simp, .inl ⟨rfl, none, 0, rfl, fun _ => rfl⟩⟩, (fun x hx => by cases hx), by simp, none, 0, rfl⟩
  · simp only [List.cons.injEq, and_true] at hc
    subst hc
    have hlm : len ≤ m := by rw [hmm]; split <;> omega
    rw [hsz] at hall
    obtain ⟨f, hF⟩ := Deep.choose_lt (n := len) (p := fun i x => w.cells? base (a.add (i * size)) size = some (en x) ∧ ok x) fun i hi => by
      obtain ⟨cs, h1, h2⟩ := hall i (by omega)
      obtain ⟨x, rfl, hx⟩ := hel _ cs _ (cells_getR h1).1 h2
      exact ⟨x, h1, hx⟩
    have hlen : ((List.range len).map f).length = len := by simp
    refine ⟨(List.range len).map f, ?_, fun x hx => ?_, by rw [hlen]; unfold maxLen at hm; omega, some a, cap, by rw [hlen]⟩
    · have := readAt_rowsR (w := w) (base := base) (a := a) (cap := cap) en hs h0 ((List.range len).map f) hlen hl (fun i hi => by
        rw [hlen] at hi
        simpa using (hF i hi).1)
      rw [hlen]
      exact this
    · obtain ⟨i, hi, rfl⟩ := List.mem_map.1 hx
      exact (hF i (List.mem_range.1 hi)).2
theorem flat_bytesR : ∀ l : List UInt8, (l.flatMap fun b => [Value.int .u8 (b.toNat : Int)]) = byteCells l
  | [] => rfl
  | b :: r => by
    rw [List.flatMap_cons, flat_bytesR r]
    rfl
theorem flat_intsR : ∀ l : List Int, (l.flatMap fun b => [Value.int .i64 b]) = intCells l
  | [] => rfl
  | b :: r => by
    rw [List.flatMap_cons, flat_intsR r]
    rfl
theorem open_bytesR (h : DataW.trod enc Tryz.prog w base spare held fuel 58 [v] = some y) : ∃ l : List UInt8, readAt w 1 v l.length (byteCells l) := by
  obtain ⟨l, hl, _, hlm, hv⟩ := open_rowR 1 cells_u8R (by omega) Tryz.underlying58 (fun b : UInt8 => [Value.int .u8 (b.toNat : Int)]) (fun _ => rfl) (fun _ => True) (fun n cs y hcs hy => by
    obtain ⟨k, hk, _, hw⟩ := DataW.trod_int Tryz.underlying5 hy
    have hr := wf_u8R hw
    refine ⟨UInt8.ofNat k.toNat, ?_, trivial⟩
    rw [hk]
    have : ((UInt8.ofNat k.toNat).toNat : Int) = k := by
      rw [UInt8.toNat_ofNat']
      omega
    rw [this]) h
  rw [flat_bytesR] at hl
  exact ⟨l, hl⟩
theorem open_intsR (h : DataW.trod enc Tryz.prog w base spare held fuel 23 [v] = some y) : ∃ l : List Int, readAt w 1 v l.length (intCells l) ∧ (∀ x ∈ l, -9223372036854775808 ≤ x ∧ x ≤ 9223372036854775807) ∧ l.length ≤ 9223372036854775807 ∧ ∃ oa c, v = .slice oa l.length c := by
  obtain ⟨l, hl, hok, hlm, hv⟩ := open_rowR 1 cells_intR (by omega) Tryz.underlying23 (fun b : Int => [Value.int .i64 b]) (fun _ => rfl) (fun x => -9223372036854775808 ≤ x ∧ x ≤ 9223372036854775807) (fun n cs y hcs hy => by
    obtain ⟨k, hk, _, hw⟩ := DataW.trod_int Tryz.underlying3 hy
    exact ⟨k, hk, wf_i64R hw⟩) h
  rw [flat_intsR] at hl
  exact ⟨l, hl, hok, hlm, hv⟩
theorem cells_tmR : Tryz.prog.cellsOf 2 = 1 := by kernel_rfl
theorem cells_rcR : Tryz.prog.cellsOf 60 = 3 := by kernel_rfl
theorem cells_rcsR : Tryz.prog.cellsOf 28 = 1 := by kernel_rfl
theorem cells_llR : Tryz.prog.cellsOf 22 = 1 := by kernel_rfl
theorem cells_crashR : Tryz.prog.cellsOf 25 = 4 := by kernel_rfl
instance : Inhabited RcV := ⟨⟨⟨0, [], []⟩, .slice none 0 0, .slice none 0 0⟩⟩
instance : Inhabited (Value × List Rc) := ⟨(.slice none 0 0, [])⟩
set_option maxHeartbeats 1000000 in
theorem open_rec {cs : List Value} (hcs : cs.length = 3) (h : DataW.trod enc Tryz.prog w base spare held fuel 60 cs = some y) : ∃ x : RcV, cs = recCells x ∧ bytesRd w x.kv x.r.key ∧ bytesRd w x.vv x.r.val := by
  match cs, hcs with
  | [c0, c1, c2], _ =>
    obtain ⟨xs, m, _, _, _, hlen, hg⟩ := DataW.trod_struct Tryz.underlying60 h
    match xs, hlen with
    | [y0, y1, y2], _ =>
      have g0 := hg 0 { name := "Time", type := 2, offset := 0, embedded := false, tag := "", pkgPath := "", byteOffset := 0 } rfl
      have g1 := hg 1 { name := "Key", type := 58, offset := 1, embedded := false, tag := "", pkgPath := "", byteOffset := 8 } rfl
      have g2 := hg 2 { name := "Value", type := 58, offset := 2, embedded := false, tag := "", pkgPath := "", byteOffset := 32 } rfl
      simp only [cells_tmR, cells_sl1R, List.drop_zero, List.take_succ_cons, List.take_zero, List.drop_succ_cons, List.getElem?_cons_zero, List.getElem?_cons_succ] at g0 g1 g2
      obtain ⟨k, hk, _, _⟩ := DataW.trod_int Tryz.underlying2 g0
      obtain ⟨ks, hks⟩ := open_bytesR g1
      obtain ⟨vs, hvs⟩ := open_bytesR g2
      simp only [List.cons.injEq, and_true] at hk
      exact ⟨⟨⟨k, ks, vs⟩, c1, c2⟩, by rw [hk]; rfl, hks, hvs⟩
theorem open_recs (h : DataW.trod enc Tryz.prog w base spare held fuel 28 [v] = some y) : ∃ l : List Rc, RecsAt w v l ∧ l.length ≤ 9223372036854775807 ∧ ∃ oa c, v = .slice oa l.length c := by
  obtain ⟨l, hl, hok, hlm, oa, c, hv⟩ := open_rowR 3 cells_rcR (by omega) Tryz.underlying28 recCells (fun _ => rfl) (fun x => bytesRd w x.kv x.r.key ∧ bytesRd w x.vv x.r.val) (fun n cs y hcs hy => open_rec hcs hy) h
  exact ⟨l.map (·.r), ⟨l, rfl, hl, hok⟩, by rw [List.length_map]; exact hlm, oa, c, by rw [List.length_map]; exact hv⟩
theorem flat_fst : ∀ l : List (Value × List Rc), (l.flatMap fun x => [x.1]) = l.map (·.1)
  | [] => rfl
  | b :: r => by
    rw [List.flatMap_cons, flat_fst r]
    rfl
theorem open_lists (h : DataW.trod enc Tryz.prog w base spare held fuel 22 [v] = some y) : ∃ ll : List (List Rc), ListsAt w v ll ∧ ll.length ≤ 9223372036854775807 ∧ ∃ oa c, v = .slice oa ll.length c := by
  obtain ⟨l, hl, hok, hlm, oa, c, hv⟩ := open_rowR 1 cells_rcsR (by omega) Tryz.underlying22 (fun x : Value × List Rc => [x.1]) (fun _ => rfl) (fun x => RecsAt w x.1 x.2 ∧ x.2.length ≤ 9223372036854775807 ∧ ∃ oa c, x.1 = .slice oa x.2.length c) (fun n cs y hcs hy => by
    match cs, hcs with
    | [c0], _ =>
      obtain ⟨l, h1, h2, h3⟩ := open_recs hy
      exact ⟨(c0, l), rfl, h1, h2, h3⟩) h
  rw [flat_fst] at hl
  refine ⟨l.map (·.2), ⟨l.map (·.1), by rw [List.length_map, List.length_map], by rw [List.length_map]; exact hl, fun i hi => ?_⟩, by rw [List.length_map]; exact hlm, oa, c, by rw [List.length_map]; exact hv⟩
  rw [List.length_map] at hi
  obtain ⟨g1, g2, ob, d, g3⟩ := hok l[i] (List.getElem_mem hi)
  refine ⟨ob, d, ?_, ?_, ?_⟩
  · rw [List.getElem?_map, List.getElem?_eq_getElem hi, List.getElem_map]
    exact congrArg some g3
  · rw [List.getElem_map, ← g3]
    exact g1
  · rw [List.getElem_map]
    exact g2
/-- a Crash that was handed in -/
def CrashAt (w : World) (v : Value) : Prop := ∃ (bs st : Int) (oL oP : Option Addr) (cL cP : Nat) (ll : List (List Rc)) (ps : List Int), v = .agg #[.int .i64 bs, .slice oL ll.length cL, .int .i64 st, .slice oP ps.length cP] ∧ ListsAt w (.slice oL ll.length cL) ll ∧ readAt w 1 (.slice oP ps.length cP) ps.length (intCells ps) ∧
  (-9223372036854775808 ≤ bs ∧ bs ≤ 9223372036854775807) ∧ (-9223372036854775808 ≤ st ∧ st ≤ 9223372036854775807) ∧ (∀ p ∈ ps, -9223372036854775808 ≤ p ∧ p ≤ 9223372036854775807) ∧ ll.length ≤ 9223372036854775807 ∧ ps.length ≤ 9223372036854775807
set_option maxRecDepth 100000 in
set_option maxHeartbeats 1000000 in
theorem crash_in (hv : Value.okWide Tryz.prog w rc b1 25 v) (h : DataW.Trod enc Tryz.prog w base spare held 25 v d p) : CrashAt w v := by
  obtain ⟨cs, rfl, hsz⟩ := okWide_struct Tryz.underlying25 hv
  obtain ⟨fuel, hf⟩ := h
  obtain ⟨l⟩ := cs
  rw [cells_crashR] at hsz
  match l, hsz with
  | [c0, c1, c2, c3], _ =>
    obtain ⟨xs, m, _, _, _, hlen, hg⟩ := DataW.trod_struct Tryz.underlying25 hf
    match xs, hlen with
    | [y0, y1, y2, y3], _ =>
      have g0 := hg 0 { name := "Base", type := 2, offset := 0, embedded := false, tag := "", pkgPath := "", byteOffset := 0 } rfl
      have g1 := hg 1 { name := "Lists", type := 22, offset := 1, embedded := false, tag := "", pkgPath := "", byteOffset := 8 } rfl
      have g2 := hg 2 { name := "Synced", type := 3, offset := 2, embedded := false, tag := "", pkgPath := "", byteOffset := 32 } rfl
      have g3 := hg 3 { name := "Picks", type := 23, offset := 3, embedded := false, tag := "", pkgPath := "", byteOffset := 40 } rfl
      simp only [Value.cells, cells_tmR, cells_intR, cells_llR, cells_sl3R, List.drop_zero, List.take_succ_cons, List.take_zero, List.drop_succ_cons, List.getElem?_cons_zero, List.getElem?_cons_succ] at g0 g1 g2 g3
      obtain ⟨k, hk, _, hkw⟩ := DataW.trod_int Tryz.underlying2 g0
      obtain ⟨s, hs, _, hsw⟩ := DataW.trod_int Tryz.underlying3 g2
      obtain ⟨ll, hl, hll, oa, c, hv1⟩ := open_lists g1
      obtain ⟨ps, hp, hpb, hpl, ob, e, hv3⟩ := open_intsR g3
      simp only [List.cons.injEq, and_true] at hk hs
      subst hk
      subst hs
      subst hv1
      subst hv3
      exact ⟨k, s, oa, ob, c, e, ll, ps, rfl, hl, hp, wf_i64R hkw, wf_i64R hsw, hpb, hll, hpl⟩
end
end Go.Proofs.YtmkjejngnahpeaaGreat
/- A region that draws its order and only reads, inside a round of a range over a function. -/
namespace Go.Proofs.YtmkjejngnahpeaaGreat
open Go

def noDefer (o : Oper) : Bool := match o.op with | .defer _ => false | _ => true
theorem noDefer_spec {o : Oper} (h : noDefer o = true) : ∀ c, o.op ≠ .defer c := fun c e => by
  unfold noDefer at h
  rw [e] at h
  cases h
section
variable {F : Fence} {n : Nat} {P : Program} {ops : Array Oper} {md : Region.Mode} {C : World → Prop}
theorem wpIn_of_quiet_nd {o : Oper} {a : Act} {K : Act → Prop} {K' : Act → World → Prop} {Q' : Exit → Act → World → Prop} {w : World} (hnd : ∀ c, o.op ≠ .defer c) (hw : C w) (h : ∀ a w', C w' → K a → K' a w')
    (ha : o.askedIn F P a C) (hh : o.quietIn F n P a C K) : o.wpIn F n P a w K' Q' := by
  obtain ⟨v, h1, h2⟩ := hh
  have h3 := h1 w hw
  unfold Oper.quietAtIn at h3
  unfold Oper.wpIn
  refine ⟨ha w hw, ?_⟩
  rw [Oper.semAt_eq F.round _ _ hnd]
  generalize (execOp a.eval o).run P w = r at *
  cases r with
  | ok x w' =>
    cases x <;> simp only [Oper.quietUponIn] at h3 <;> simp only [Oper.uponIn]
    case value u =>
      obtain ⟨e1, e2⟩ := h3
      rw [e1, e2]
      exact h _ _ hw h2
    case skip =>
      obtain ⟨e1, e2⟩ := h3
      rw [e1, ← e2]
      exact h _ _ hw h2
    case enter f args =>
      obtain ⟨e1, hd, hc⟩ := h3
      rw [e1]
      exact ⟨hd, hc.mono fun e w'' ⟨he, hw''⟩ => by subst he; exact h _ _ hw'' h2⟩
  | halt x w' => simp only [Oper.quietUponIn] at h3
theorem wpOpIn_of_qOpIn_nd {i : Nat} {a : Act} {K : Act → Prop} {K' : Act → World → Prop} {Q' : Exit → Act → World → Prop} {w : World} (hnd : ∀ o ∈ ops, noDefer o = true) (hC : C w) (h : ∀ a w', C w' → K a → K' a w')
    (hh : qOpIn F n P ops C i K a) : wpOpIn F n P ops Q' i K' a w := by
  unfold qOpIn at hh
  unfold wpOpIn
  split
  · rename_i ho; simp only [ho] at hh; exact h _ _ hC hh
  · rename_i o ho
    simp only [ho] at hh
    obtain ⟨ha, hh⟩ := hh
    split
    · rename_i hw; simp only [hw, if_true] at hh; exact wpIn_of_quiet_nd (noDefer_spec (hnd o (Array.mem_of_getElem? ho))) hC h ha hh
    · rename_i hw; simp only [hw] at hh; exact ⟨ha w hC, h _ _ hC hh⟩
theorem wpAnyIn_of_quiet_nd {Q : Act → Prop} {Q' : Exit → Act → World → Prop} (hnd : ∀ o ∈ ops, noDefer o = true) (hQ : ∀ a w, C w → Q a → Q' .normal a w) : ∀ (fuel : Nat) (listed : Array Bool) (a : Act) (w : World), C w →
    wpAnyQIn F n P md ops C Q fuel listed a → wpAnyIn F n P md ops Q' fuel listed a w
  | 0, _, _, _, hw, h => ⟨h.1, hQ _ _ hw h.2⟩
  | fuel + 1, _, _, _, hw, h => ⟨fun h0 => hQ _ _ hw (h.1 h0), fun i hi => wpOpIn_of_qOpIn_nd hnd hw (fun a' w' hw' => wpAnyIn_of_quiet_nd hnd hQ fuel _ a' w' hw') (h.2 i hi)⟩
/-- one walk of the lexical order serves every order, in a round too, where no operation defers -/
theorem wpIn_region_quiet_nd {id : Nat} {Q : Exit → Act → World → Prop} {a : Act} {w : World} {l : List Oper} (hnd : l.all noDefer = true) (hm : P.follows .mixedOrders = true) (hB : Region.lexB .any l.toArray = true)
    (h : wpQuietIn F n P l.toArray (fun w' => ∃ n, w' = w.drewN n) (fun a' => ∀ w', (∃ n, w' = w.drewN n) → Q .normal a' w') l a) : (Code.region id l.toArray true).wpIn F n P Q a w := by
  simp only [Region.lexB, Bool.and_eq_true] at hB
  refine wpIn_region_any hm (wpAnyIn_of_quiet_nd (C := fun w' => ∃ n, w' = w.drewN n) (Q := fun a' => ∀ w', (∃ n, w' = w.drewN n) → Q .normal a' w') (fun o ho => List.all_eq_true.1 hnd o (by simpa using ho)) (fun _ w' hw' h => h w' hw') _ _ _ _ ⟨1, rfl⟩ ?_)
  have := wpAnyQIn_lex (F := F) (n := n) (C := fun w' => ∃ n, w' = w.drewN n) (md := .any) hB.1 l.toArray.toList 0 (Array.replicate l.toArray.size false) a (by simp) (by simpa using hB.2) (by simpa using h)
  simpa using this
end
end Go.Proofs.YtmkjejngnahpeaaGreat
/- A range over a function that has memory of its own; the rounds may write to what X holds of, blocks ahead of the iterator among them. -/
namespace Go.Proofs.YtmkjejngnahpeaaGreat
open Go Go.RowKit

variable {F : Fence} {n : Nat} {P : Program}

/-- what a round keeps: what lay ahead of the iterator, and the iterator's own blocks T -/
abbrev KeptX (X T : Nat → Prop) (W W' : World) : Prop := Only (fun k => X k ∧ ¬ T k) W W'
theorem KeptX.join {X T : Nat → Prop} {A B C : World} (h : KeptX X T A B) (k : KeptX X T B C) : KeptX X T A C := Only.trans h k (fun _ _ h => h)
theorem KeptX.of {X T : Nat → Prop} {A B : World} (h : Below A.heap.size A B) : KeptX X T A B := Only.of_below h (Nat.le_refl _) _
/-- an iterator's contract: T are its own blocks; Gv is what holds of an element when it comes -/
def SeqToldX {α : Type} (F : Fence) (n : Nat) (P : Program) (g : Nat) (lb : Array Value) (encs : α → Array Value) (Gv : Nat → (Nat → Prop) → List α → α → World → Prop) (S Sp : List α → Prop) (N : Nat) (X : Nat → Prop) (w : World) : Prop :=
  ∀ (l : Nat) (J Jx : (Nat → Prop) → List α → World → Prop) (W : World), Below w.heap.size w W →
    (∀ T W1, Below W.heap.size W W1 → (∀ k, T k → W.heap.size ≤ k ∧ k < W1.heap.size) → J T [] W1) →
    (∀ T pre A B, J T pre A → Only T A B → J T pre B) → (∀ T pre A B, Jx T pre A → Only T A B → Jx T pre B) →
    (∀ T pre x Wp W1, (∀ k, T k → W.heap.size ≤ k ∧ k < W1.heap.size) → J T pre Wp → Only T Wp W1 → W.heap.size ≤ Wp.heap.size → Gv Wp.heap.size T pre x W1 → pre.length < N → YieldAt F (n - 1) P l (encs x) W1 fun e W' =>
      (e = .returned (.bool true) ∧ J T (pre ++ [x]) W' ∧ KeptX X T W1 W') ∨ (e = .returned (.bool false) ∧ Jx T (pre ++ [x]) W' ∧ KeptX X T W1 W')) →
    CallsIn F n P g (#[.func (.yield l) #[] #[]] ++ lb) W fun e W' => (∃ v, e = .returned v) ∧ ((∃ T xs, S xs ∧ J T xs W') ∨ (∃ T pre, Sp pre ∧ Jx T pre W'))
theorem SeqToldX.later {α : Type} {g : Nat} {lb : Array Value} {encs : α → Array Value} {Gv : Nat → (Nat → Prop) → List α → α → World → Prop} {S Sp : List α → Prop} {N : Nat} {X : Nat → Prop} {w w' : World}
    (h : SeqToldX F n P g lb encs Gv S Sp N X w) (hb : Below w.heap.size w w') : SeqToldX F n P g lb encs Gv S Sp N X w' :=
  fun l J Jx W hW hs hJ hJx hY => h l J Jx W (hb.trans (hW.mono hb.size)) hs hJ hJx hY
/-- what a round of the statement keeps: beside the iterator's blocks the statement's own two, from b on -/
abbrev KeptSX (X : Nat → Prop) (b : Nat) (T : Nat → Prop) (W W' : World) : Prop := KeptX X (fun k => T k ∨ k = b ∨ k = b + 1) W W'
/-- **THE STATEMENT OVER SUCH AN ITERATOR** -/
theorem wpIn_rangeFunc_toldX {α : Type} {g : Operand} {ps : Array Tmp} {assign body : Code} {Q : Exit → Act → World → Prop} {a : Act} {w : World}
    (hro : F.round = none) (h1 : 1 ≤ n) {gf : Nat} {lb : Array Value} (hg : a.eval g = .func (.func gf) #[] lb) (hFg : F.fn gf) (eg : ∀ args w, (callFunc gf args).run P w = .ok (.enter gf args) w)
    {encs : α → Array Value} {Gv : Nat → (Nat → Prop) → List α → α → World → Prop} {S Sp : List α → Prop} {N : Nat} {X : Nat → Prop} {w0 : World} (hX : ∀ k, w.heap.size ≤ k → X k) (hseq : SeqToldX F (n - 1) P gf lb encs Gv S Sp N X w0) (hb0 : Below w0.heap.size w0 w) (hps : ∀ x, (encs x).size = ps.size)
    (I : (Nat → Prop) → List α → World → Prop) (Ix : Code → (Nat → Prop) → List α → World → Prop)
    (hI : ∀ T pre A B, I T pre A → Only (fun k => T k ∨ k = w.heap.size ∨ k = w.heap.size + 1) A B → I T pre B)
    (hIx : ∀ c T pre A B, Ix c T pre A → Only (fun k => T k ∨ k = w.heap.size ∨ k = w.heap.size + 1) A B → Ix c T pre B)
    (h0 : ∀ T W1, Below w.heap.size w W1 → w.heap.size + 2 ≤ W1.heap.size → (∀ k, T k → w.heap.size + 2 ≤ k ∧ k < W1.heap.size) → I T [] W1)
    (hround : ∀ T pre x Wp W, (∀ k, T k → w.heap.size + 2 ≤ k ∧ k < W.heap.size) → (∃ r, W.heap[w.heap.size + 1]? = some (.loop r)) → W.heap[w.heap.size]? = some (.deferred (some [])) → I T pre Wp → Only T Wp W → w.heap.size + 2 ≤ Wp.heap.size → Gv Wp.heap.size T pre x W → pre.length < N →
      ∀ K : Act → World → Prop, (∀ a' W', KeptSX X w.heap.size T W W' →
        (∀ W2, Only (fun k => k = w.heap.size + 1) W' W2 → (∃ r, W2.heap[w.heap.size + 1]? = some (.loop r)) →
          body.wpIn (F.inRound (w.heap.size + 1)) (n - 1 - 1) P (toldPost (KeptSX X w.heap.size T) (I T) (fun c => Ix c T) (pre ++ [x]) W2) a' W2) → K a' W') →
      assign.wpIn (F.inRound (w.heap.size + 1)) (n - 1 - 1) P (Exit.then K (fun _ _ _ => False)) { tmps := (ps.zip (encs x)).foldl (fun t (p, v) => t.setIfInBounds p v) a.tmps, defers := [] } W)
    (hdone : ∀ T xs W, S xs → I T xs W → W.heap[w.heap.size]? = some (.deferred (some [])) → Q .normal { a with defers := { target := .collected w.heap.size, args := #[] } :: a.defers } W)
    (hstop : ∀ T c pre W, Sp pre → Ix c T pre W → W.heap[w.heap.size]? = some (.deferred (some [])) → c.wpIn F n P Q { a with defers := { target := .collected w.heap.size, args := #[] } :: a.defers } W) :
    (Code.rangeFunc g ps assign body).wpIn F n P Q a w := by
  refine wpIn_rangeFunc fun fn hfn => ?_
  rw [hro]
  obtain ⟨rec, hrec⟩ : ∃ rec : LoopState → Option Code → Loop, rec = fun st pe => { state := st, pending := pe, fn, tmps := a.tmps, params := ps, assign, body, defers := w.heap.size } := ⟨_, rfl⟩
  obtain ⟨V, hV⟩ : ∃ V, (w.alloc (.deferred (some []))).alloc (.loop (rec .ready none)) = V := ⟨_, rfl⟩
  have hVs : V.heap.size = w.heap.size + 2 := by rw [← hV]; simp
  have hVb : Below w.heap.size w V := by rw [← hV]; exact ((Below.refl _ w).alloc (Nat.le_refl _) _).alloc (by simp) _
  have hVl : V.heap[w.heap.size + 1]? = some (.loop (rec .ready none)) := by
    rw [← hV]
    have := World.alloc_heap_new (w.alloc (.deferred (some []))) (.loop (rec .ready none))
    rwa [World.size_alloc] at this
  have hVd : V.heap[w.heap.size]? = some (.deferred (some [])) := by rw [← hV]; exact (Below.heap_alloc _ _ _ (by simp)).trans (World.alloc_heap_new w _)
  refine ⟨w.heap.size + 1, [{ target := .collected w.heap.size, args := #[] }], V, { target := .fn (.func gf) lb, args := #[.func (.yield (w.heap.size + 1)) #[] #[]] }, V, gf, #[.func (.yield (w.heap.size + 1)) #[] #[]] ++ lb, V,
    by rw [← hV, hrec]; exact run_enterLoop_outer _ _ _ _ _, ?_, ?_, by simp [invoke, go_sem, eg], fun _ => h1, ?_⟩
  · simp only [resolve, hg]
    simp [go_sem]
  · intro f' hf'
    simp [Target.leads] at hf'
    subst hf'
    exact hFg
  -- the two blocks of the statement's own, in whatever world the iterator leaves
  have book : ∀ {T : Nat → Prop} {A B : World} {o : Obj} {k : Nat}, (∀ k, T k → w.heap.size + 2 ≤ k) → Only T A B → k < w.heap.size + 2 → A.heap[k]? = some o → B.heap[k]? = some o := fun hT ho hk hA =>
    (ho.block _ (Array.getElem?_eq_some_iff.1 hA).1 (fun h => by have := hT _ h; omega)).trans hA
  have kept : ∀ {T : Nat → Prop} {A B : World} {o : Obj} {k : Nat}, KeptSX X w.heap.size T A B → (k = w.heap.size ∨ k = w.heap.size + 1) → A.heap[k]? = some o → B.heap[k]? = some o := fun ho hk hA =>
    (ho.block _ (Array.getElem?_eq_some_iff.1 hA).1 (fun h => h.2 (.inr hk))).trans hA
  refine (hseq (w.heap.size + 1)
    (fun T pre W => (∀ k, T k → w.heap.size + 2 ≤ k) ∧ I T pre W ∧ W.heap[w.heap.size + 1]? = some (.loop (rec .ready none)) ∧ W.heap[w.heap.size]? = some (.deferred (some [])))
    (fun T pre W => (∀ k, T k → w.heap.size + 2 ≤ k) ∧ ∃ c, Ix c T pre W ∧ W.heap[w.heap.size + 1]? = some (.loop (rec .done (some c))) ∧ W.heap[w.heap.size]? = some (.deferred (some [])))
    V (hb0.trans (hVb.mono hb0.size)) ?start ?abide ?abidex ?round).mono ?behind
  case start =>
    intro T W1 hW1 hT
    rw [hVs] at hT
    have hs := hW1.size
    rw [hVs] at hs
    exact ⟨fun k hk => (hT k hk).1, h0 T W1 (hVb.trans (hW1.mono (by omega))) hs hT, (hW1.block _ (by omega)).trans hVl, (hW1.block _ (by omega)).trans hVd⟩
  case abide =>
    rintro T pre A B ⟨hT, hi, hl, hd⟩ ho
    exact ⟨hT, hI T pre A B hi (ho.mono (fun _ _ h => .inl h)), book hT ho (by omega) hl, book hT ho (by omega) hd⟩
  case abidex =>
    rintro T pre A B ⟨hT, c, hi, hl, hd⟩ ho
    exact ⟨hT, c, hIx c T pre A B hi (ho.mono (fun _ _ h => .inl h)), book hT ho (by omega) hl, book hT ho (by omega) hd⟩
  case round =>
    rintro T pre x Wp W hTW ⟨hT, hi, hlp, hdp⟩ hop hszp hgv hlen
    rw [hVs] at hszp
    have hl := book hT hop (by omega) hlp
    have hd := book hT hop (by omega) hdp
    have hy := run_yield (P := P) (args := encs x) hl (by rw [hrec]; exact hps x)
    rw [hrec] at hy
    refine ⟨fn, _, assign, body, hy, roundIn_of_wpIn hfn (wpIn_mono (hround T pre x Wp W (fun k hk => ⟨hT k hk, (hTW k hk).2⟩) ⟨_, hl⟩ hd hi hop hszp hgv hlen (fun a' W' => KeptSX X w.heap.size T W W' ∧ ∀ W2, Only (fun k => k = w.heap.size + 1) W' W2 → (∃ r, W2.heap[w.heap.size + 1]? = some (.loop r)) → body.wpIn (F.inRound (w.heap.size + 1)) (n - 1 - 1) P (toldPost (KeptSX X w.heap.size T) (I T) (fun c => Ix c T) (pre ++ [x]) W2) a' W2) (fun _ _ h1 h2 => ⟨h1, h2⟩)) ?_)⟩
    clear hy
    rintro e a' Wa hp
    cases e with
    | normal =>
      obtain ⟨hka, hbody⟩ := hp
      have hla := kept hka (.inr rfl) hl
      have hda := kept hka (.inl rfl) hd
      have hlta := (Array.getElem?_eq_some_iff.1 hla).1
      refine ⟨_, run_beginRound hla (by rw [hrec]), ?_⟩
      have hl2 : (Wa.putObj (w.heap.size + 1) (.loop { rec .ready none with state := .busy })).heap[w.heap.size + 1]? = some (.loop { rec .ready none with state := .busy }) := World.putObj_heap_same hlta
      have hd2 : (Wa.putObj (w.heap.size + 1) (.loop { rec .ready none with state := .busy })).heap[w.heap.size]? = some (.deferred (some [])) := (World.putObj_heap_other (by omega)).trans hda
      have hput : ∀ (W' : World) (o : Obj), KeptX X T W' (W'.putObj (w.heap.size + 1) o) := fun W' o => only_put _ W' _ o ⟨hX _ (by omega), fun h => by have := hT _ h; omega⟩
      have hput' : ∀ (W' : World) (o : Obj), Only (fun k => T k ∨ k = w.heap.size ∨ k = w.heap.size + 1) W' (W'.putObj (w.heap.size + 1) o) := fun W' o => only_put _ W' _ o (.inr (.inr rfl))
      have less : ∀ {A B : World}, KeptSX X w.heap.size T A B → KeptX X T A B := fun h => h.mono (fun _ _ hk => ⟨hk.1, fun ht => hk.2 (.inl ht)⟩)
      refine wpIn_mono (hbody _ (only_put _ _ _ _ rfl) ⟨_, hl2⟩) ?_
      have fin : ∀ (jump : Option Code) (W3 : World), KeptSX X w.heap.size T (Wa.putObj (w.heap.size + 1) (.loop { rec .ready none with state := .busy })) W3 →
          (Instr.endRound (w.heap.size + 1) jump).run P W3 = .ok (.bool jump.isNone) (W3.putObj (w.heap.size + 1) (.loop (rec (if jump.isNone then .ready else .done) jump))) ∧
          (W3.putObj (w.heap.size + 1) (.loop (rec (if jump.isNone then .ready else .done) jump))).heap[w.heap.size + 1]? = some (.loop (rec (if jump.isNone then .ready else .done) jump)) ∧
          (W3.putObj (w.heap.size + 1) (.loop (rec (if jump.isNone then .ready else .done) jump))).heap[w.heap.size]? = some (.deferred (some [])) := fun jump W3 hk3 => by
        have hl3 := kept hk3 (.inr rfl) hl2
        have hr := run_endRound (P := P) jump hl3
        rw [hrec] at hr ⊢
        exact ⟨hr, World.putObj_heap_same (Array.getElem?_eq_some_iff.1 hl3).1, (World.putObj_heap_other (by omega)).trans (kept hk3 (.inl rfl) hd2)⟩
      rintro e a3 W3 hp3
      cases e with
      | normal =>
        obtain ⟨hk3, hi3⟩ := hp3
        obtain ⟨hr, hl4, hd4⟩ := fin none W3 hk3
        exact ⟨_, _, hr, .inl ⟨rfl, ⟨hT, hI _ _ _ _ hi3 (hput' _ _), hl4, hd4⟩, (((less hka).join (hput _ _)).join (less hk3)).join (hput _ _)⟩⟩
      | ret =>
        obtain ⟨hk3, hi3⟩ := hp3
        obtain ⟨hr, hl4, hd4⟩ := fin (some .ret) W3 hk3
        exact ⟨_, _, hr, .inr ⟨rfl, ⟨hT, .ret, hIx _ _ _ _ _ hi3 (hput' _ _), hl4, hd4⟩, (((less hka).join (hput _ _)).join (less hk3)).join (hput _ _)⟩⟩
      | exit id =>
        obtain ⟨hk3, hi3⟩ := hp3
        obtain ⟨hr, hl4, hd4⟩ := fin (some (.exit id)) W3 hk3
        exact ⟨_, _, hr, .inr ⟨rfl, ⟨hT, .exit id, hIx _ _ _ _ _ hi3 (hput' _ _), hl4, hd4⟩, (((less hka).join (hput _ _)).join (less hk3)).join (hput _ _)⟩⟩
      | goto t =>
        obtain ⟨hk3, hi3⟩ := hp3
        obtain ⟨hr, hl4, hd4⟩ := fin (some (.goto t)) W3 hk3
        exact ⟨_, _, hr, .inr ⟨rfl, ⟨hT, .goto t, hIx _ _ _ _ _ hi3 (hput' _ _), hl4, hd4⟩, (((less hka).join (hput _ _)).join (less hk3)).join (hput _ _)⟩⟩
      | panic ch => exact hp3.elim
      | outgrown => exact hp3.elim
    | ret => exact hp.elim
    | exit id => exact hp.elim
    | goto t => exact hp.elim
    | panic ch => exact hp.elim
    | outgrown => exact hp.elim
  case behind =>
    rintro e W2 ⟨⟨v, rfl⟩, (⟨T, xs, hS, hT, hi, hl, hd⟩ | ⟨T, pre, hSp, hT, c, hi, hl, hd⟩)⟩
    · exact ⟨none, _, by have := run_endLoop (P := P) hl (by rw [hrec]; simp); rw [hrec] at this; exact this, hdone T xs _ hS (hI _ _ _ _ hi (only_put _ _ _ _ (.inr (.inr rfl)))) ((World.putObj_heap_other (by omega)).trans hd)⟩
    · exact ⟨some c, _, by have := run_endLoop (P := P) hl (by rw [hrec]; simp); rw [hrec] at this; exact this, hstop T c pre _ hSp (hIx _ _ _ _ _ hi (only_put _ _ _ _ (.inr (.inr rfl)))) ((World.putObj_heap_other (by omega)).trans hd)⟩
end Go.Proofs.YtmkjejngnahpeaaGreat
