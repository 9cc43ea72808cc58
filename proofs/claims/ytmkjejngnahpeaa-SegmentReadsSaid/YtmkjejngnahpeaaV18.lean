/- The texts Yb in one. -/
import Derived.Test.YtmkjejngnahpeaaV15
import Derived.Test.YtmkjejngnahpeaaV16
import Derived.Test.YtmkjejngnahpeaaV17
/- segment: what SegmentReads' walk wants: lists of records in memory, abs, parts of records, a segment that an append left as it was. -/
namespace Go.Proofs.Ytmkjejngnahpeaa
open Go Go.RowKit
attribute [local go_sem] Oper.semAt_some

/-- lists of records -/
structure ListsAt (w : World) (v : Value) (ll : List (List Rc)) : Prop where
  row : ∃ vs : List Value, vs.length = ll.length ∧ readAt w 1 v ll.length vs ∧ ∀ i (h : i < ll.length), ∃ oa c, vs[i]? = some (.slice oa ll[i].length c) ∧ RecsAt w (.slice oa ll[i].length c) ll[i] ∧ ll[i].length ≤ 9223372036854775807
theorem ListsAt.below {w w' : World} {v : Value} {ll : List (List Rc)} (h : ListsAt w v ll) (hb : Below w.heap.size w w') : ListsAt w' v ll := by
  obtain ⟨vs, h1, h2, h3⟩ := h.row
  refine ⟨vs, h1, h2.kept (fun k hk _ _ => hb.block k hk), fun i hi => ?_⟩
  obtain ⟨oa, c, g1, g2, g3⟩ := h3 i hi
  exact ⟨oa, c, g1, g2.below hb, g3⟩
theorem ListsAt.at {w : World} {oa : Option Addr} {n c i : Nat} {ll : List (List Rc)} (h : ListsAt w (.slice oa n c) ll) (hn : ll.length = n) (hi : i < ll.length) : ∃ g off ob d, oa = some ⟨g, off, none⟩ ∧ w.cell? ⟨g, off + i, none⟩ = some (.slice ob ll[i].length d) ∧ RecsAt w (.slice ob ll[i].length d) ll[i] ∧ ll[i].length ≤ 9223372036854775807 := by
  subst hn
  obtain ⟨vs, h1, h2, h3⟩ := h.row
  obtain ⟨ob, d, g1, g2, g3⟩ := h3 i hi
  obtain ⟨g, off, rfl⟩ := h2.addr (by omega)
  exact ⟨g, off, ob, d, rfl, rdCell h2 g1, g2, g3⟩
theorem ret_intA {k : IntKind} {a b : Int} (h : a = b) : Ending.returned (.int k a) = .returned (.int k b) := by rw [h]
/-- abs answers a number without its sign -/
def absT (x : Int) : Nat := if x = -9223372036854775808 then 0 else x.natAbs
theorem absT_le {x : Int} (h0 : -9223372036854775808 ≤ x) (h1 : x ≤ 9223372036854775807) : absT x ≤ 9223372036854775807 := by
  unfold absT
  split <;> omega
set_option maxRecDepth 100000 in
set_option maxHeartbeats 1000000 in
theorem abs_b {w : World} {x : Int} (h0 : -9223372036854775808 ≤ x) (h1 : x ≤ 9223372036854775807) :
    Calls Try.prog 29 #[.int .i64 x] w fun e w' => e = .returned (.int .i64 (absT x : Int)) ∧ w' = w := by
  by_cases hx : x < 0
  · by_cases hm : x = -9223372036854775808
    · subst hm
      go_enter Try.func29, Try.ntmps29
      go_wp2_with fail
      go_ret
      exact ⟨ret_intA (by decide +kernel), rfl⟩
    · have HM := Lib.hid hm
      have hp : 0 < -x := by omega
      have hq : -x ≤ 9223372036854775807 := by omega
      clear hm
      go_enter Try.func29, Try.ntmps29
      go_wp2_with fail
      go_ret
      refine ⟨ret_intA ?_, rfl⟩
      unfold absT
      rw [if_neg HM.out]
      exact (Int.max_eq_right (by omega)).trans (by omega)
  · have hp : 0 ≤ x := by omega
    go_enter Try.func29, Try.ntmps29
    go_wp2_with fail
    go_ret
    refine ⟨ret_intA ?_, rfl⟩
    unfold absT
    rw [if_neg (by omega)]
    exact (Int.max_eq_right (by omega)).trans (by omega)
/-- a part of records -/
theorem recsCells_sub (xs : List RcV) (l m : Nat) : ((recsCells xs).drop (l * 3)).take (m * 3) = recsCells ((xs.drop l).take m) := by
  have h1 : ∀ (ys : List RcV) (m : Nat), (recsCells ys).take (m * 3) = recsCells (ys.take m) := fun ys => by
    induction ys with
    | nil => intro m; simp [recsCells]
    | cons a t ih =>
      intro m
      cases m with
      | zero => simp [recsCells]
      | succ m =>
        have e : recsCells (a :: t) = recCells a ++ recsCells t := rfl
        rw [e, List.take_succ_cons, show (m + 1) * 3 = 3 + m * 3 by omega, List.take_append, show recsCells (a :: t.take m) = recCells a ++ recsCells (t.take m) from rfl, ← ih m, List.take_of_length_le (show (recCells a).length ≤ 3 + m * 3 by show 3 ≤ _; omega), show 3 + m * 3 - (recCells a).length = m * 3 by show 3 + m * 3 - 3 = _; omega]
  have h2 : ∀ (ys : List RcV) (l : Nat), (recsCells ys).drop (l * 3) = recsCells (ys.drop l) := fun ys => by
    induction ys with
    | nil => intro l; simp [recsCells]
    | cons a t ih =>
      intro l
      cases l with
      | zero => simp
      | succ l =>
        have e : recsCells (a :: t) = recCells a ++ recsCells t := rfl
        rw [e, List.drop_succ_cons, show (l + 1) * 3 = 3 + l * 3 by omega, List.drop_append, ← ih l, List.drop_of_length_le (show (recCells a).length ≤ 3 + l * 3 by show 3 ≤ _; omega), show 3 + l * 3 - (recCells a).length = l * 3 by show 3 + l * 3 - 3 = _; omega, List.nil_append]
  rw [h2, h1]
theorem RecsIs.sub {w : World} {oa : Option Addr} {n c : Nat} {xs : List RcV} (h : RecsIs w (.slice oa n c) xs) (hn : xs.length = n) {l k : Nat} (hl : l ≤ k) (hk : k ≤ n) : RecsIs w (.slice (if c = l then oa else oa.map (·.add (l * 3))) (k - l) (c - l)) ((xs.drop l).take (k - l)) := by
  subst hn
  have h1 := h.row.sub l k c hl hk (Nat.le_trans hk h.row.cap) (Nat.le_refl _)
  rw [recsCells_sub] at h1
  have e : ((xs.drop l).take (k - l)).length = k - l := by rw [List.length_take, List.length_drop]; omega
  refine ⟨by rw [e]; exact h1, fun x hx => h.each x (List.mem_of_mem_drop (List.mem_of_mem_take hx))⟩
theorem run_recs (oa : Option Addr) (N c l k : Nat) (h1 : l ≤ k) (h2 : k ≤ N) (h3 : N ≤ c) (W : World) : (Instr.slice 36 (.slice oa N c) (some (.int .i64 (l : Int))) (some (.int .i64 (k : Int))) none).run Try.prog W = .ok (.slice (if c = l then oa else oa.map (·.add (l * 3))) (k - l) (c - l)) W := by
  have hs : (sizeOf 154).run Try.prog W = .ok 3 W := by kernel_rfl
  have he : Try.prog.elem 36 = 154 := by kernel_rfl
  rw [run_slice_lh (P := Try.prog) (w := W) 36 oa N c (by rw [he]; exact Try.underlying36) .i64 .i64 l k (by omega) (by omega) (by omega), he, hs]
  simp [Result.andThen, sliced]
section
variable {w w' : World} {S S' : Nat → Prop} {s x q : Nat} {nm : ByteArray} {bn step : Nat} {sv : Value} {sp : List Sp} {bs : List Bat} {d d' : Dk}
/-- the disk has turned, the segment's file has not -/
theorem SegI.turn (h : SegI w S s x q nm bn step sv sp bs d) (hd : DiskAt w' S' q d') (hS : ∀ k, S' k → S k ∨ w.heap.size ≤ k) (ho : Only S w w') (hf : ∃ f, d'.find nm.data.toList = some f ∧ f.bytes = batsT bs) : SegI w' S' s x q nm bn step sv sp bs d' := by
  have hsl := (Array.getElem?_eq_some_iff.1 h.head).1
  have hxl := (Array.getElem?_eq_some_iff.1 h.idx.head).1
  have hvl := h.idx.row.lt
  have nS : ∀ k, k < w.heap.size → ¬ S k → ¬ S' k := fun k hk hn hw => by
    rcases hS k hw with hw | hw
    · exact hn hw
    · omega
  exact {
    head := (ho.block s hsl h.sS).trans h.head
    idx := ⟨(ho.block x hxl h.xS).trans h.idx.head, h.idx.row.kept (fun k hk => ho.block k (hvl k hk) (h.vS k hk))⟩
    spots := h.spots
    chain := h.chain
    disk := hd
    file := hf
    sS := nS s hsl h.sS
    xS := nS x hxl h.xS
    vS := fun k hk => nS k (hvl k hk) (h.vS k hk)
    sx := h.sx
    sv := h.sv
    stp := h.stp
    off := h.off
    nms := h.nms }
theorem append_full {d : Dk} {s b : List UInt8} (hf : d.fates = []) {f : F0} (h : d.find s = some f) (he : (d.append s b).1 ≠ 0) : (d.append s b).2 = d := by
  unfold Dk.append at he ⊢
  rw [h] at he ⊢
  split
  · rfl
  · rename_i h1
    rw [if_neg h1] at he
    dsimp only at he ⊢
    split
    · rfl
    · rename_i h2
      rw [if_neg h2] at he
      exact absurd (by unfold Dk.fate; rw [hf]) he
theorem append_fates {d : Dk} {s b : List UInt8} (hf : d.fates = []) : (d.append s b).2.fates = [] := by
  unfold Dk.append
  split
  · exact hf
  · split
    · exact hf
    · split
      · exact hf
      · show d.fates.tail = []
        rw [hf]
        rfl
theorem create_fates {d : Dk} {s : List UInt8} (hf : d.fates = []) : (d.create s).2.fates = [] := by
  unfold Dk.create
  split
  · exact hf
  · split
    · exact hf
    · split
      · exact hf
      · split
        · show d.fates.tail = []
          rw [hf]; rfl
        · show d.fates.tail = []
          rw [hf]; rfl
end
/-- a segment that was made behind w2 -/
structure SegJ (w2 w : World) (s x q : Nat) (nm : ByteArray) (bn step m : Nat) (bs : List Bat) : Prop where
  seg : ∃ S sv sp d, SegI w S s x q nm bn step sv sp bs d ∧ d.fates = [] ∧ (∀ k, S k → w2.heap.size ≤ k) ∧ ∀ k, sv.ownBlock = some k → w2.heap.size ≤ k
  hs : w2.heap.size ≤ s
  hx : w2.heap.size ≤ x
  below : Below w2.heap.size w2 w
  few : bs.length ≤ m
theorem SegJ.later {w2 w w' : World} {s x q : Nat} {nm : ByteArray} {bn step m : Nat} {bs : List Bat} (h : SegJ w2 w s x q nm bn step m bs) (hb : Below w.heap.size w w') : SegJ w2 w' s x q nm bn step m bs := by
  obtain ⟨S, sv, sp, d, h1, h2, h3, h4⟩ := h.seg
  exact ⟨⟨S, sv, sp, d, h1.later hb, h2, h3, h4⟩, h.hs, h.hx, h.below.trans (hb.mono h.below.size), h.few⟩
/-- what an Append leaves of it -/
theorem AppS.segJ {w2 w w' : World} {S : Nat → Prop} {s x q : Nat} {nm : ByteArray} {bn step m : Nat} {sv : Value} {sp : List Sp} {bs : List Bat} {d : Dk} {base : Int} {l : List Rc} {e : Ending} (h : AppS w S s x q nm bn step sv bs d base l e w')
    (hi : SegI w S s x q nm bn step sv sp bs d) (hf : d.fates = []) (hS : ∀ k, S k → w2.heap.size ≤ k) (hv : ∀ k, sv.ownBlock = some k → w2.heap.size ≤ k) (hs : w2.heap.size ≤ s) (hx : w2.heap.size ≤ x) (hb : Below w2.heap.size w2 w) (hm : bs.length ≤ m) :
    (∃ r, e = .returned r) ∧ ∃ bs', SegJ w2 w' s x q nm bn step (m + 1) bs' := by
  have hj : SegJ w2 w s x q nm bn step m bs := ⟨⟨S, sv, sp, d, hi, hf, hS, hv⟩, hs, hx, hb, hm⟩
  have up : ∀ {W : World} {bs' : List Bat}, SegJ w2 W s x q nm bn step m bs' → SegJ w2 W s x q nm bn step (m + 1) bs' := fun h => { h with few := by have := h.few; omega }
  have hsz := hb.size
  rcases h with ⟨-, he, hbl⟩ | ⟨-, -, he, hbl⟩ | ⟨-, -, hne, he, hd, ho⟩ | ⟨-, hbe, h0, he, S', sv', sp', hS', hsv', hi', ho⟩
  · exact ⟨⟨_, he⟩, bs, up (hj.later hbl)⟩
  · exact ⟨⟨_, he⟩, bs, up (hj.later hbl)⟩
  · obtain ⟨f, hff, hfb⟩ := hi.file
    have hdd := append_full hf hff hne
    rw [hdd] at hd
    have hw : ∀ k, Wid S w w' k → S k ∨ w.heap.size ≤ k := fun k hk => by
      rcases hk with hk | hk
      · exact .inl hk
      · exact .inr hk.1
    exact ⟨⟨_, he⟩, bs, up ⟨⟨Wid S w w', sv, sp, d, hi.turn hd hw ho ⟨f, hff, hfb⟩, hf, fun k hk => by
      rcases hk with hk | hk
      · exact hS k hk
      · have := hk.1; omega, hv⟩, hs, hx, hb.trans (ho.below (fun i hi h => by have := hS i h; omega) hb.size), hm⟩⟩
  · refine ⟨⟨_, he⟩, _, ⟨S', sv', sp', _, hi', append_fates hf, fun k hk => ?_, fun k hk => ?_⟩, hs, hx, hb.trans (ho.below (fun i hi h => ?_) hb.size), by rw [List.length_append]; simp; omega⟩
    · rcases hS' k hk with hk | hk
      · exact hS k hk
      · have := hk.1; omega
    · rcases hsv' k hk with hk | hk
      · exact hv k hk
      · omega
    · rcases h with h | h | h | h
      · have := hS i h; omega
      · omega
      · omega
      · have := hv i h; omega
end Go.Proofs.Ytmkjejngnahpeaa
