/- The texts Le, Lg, Lh in one. -/
import Derived.Test.YtmkjejngnahpeaaX5
import Derived.Test.YtmkjejngnahpeaaX2
import Derived.Test.YtmkjejngnahpeaaC3
import Derived.Test.YtmkjejngnahpeaaX1
/- The document's Crash at a way of the disk, and without picks. -/
namespace Go.Proofs.Ytmkjejngnahpeaa
open Go Go.Maps Go.RowKit

theorem plain_none : ∀ (l : List U0) (o w : List Nat), l.foldl plainStep ⟨o, w, []⟩ = ⟨o ++ ofN l (digT l 0), w ++ digT l 0, []⟩
  | [], o, w => by simp [ofN, digT]
  | ⟨b, m⟩ :: l, o, w => by
    have hd : digT (⟨b, m⟩ :: l) 0 = 0 :: digT l 0 := by simp [digT]
    have hs : plainStep ⟨o, w, []⟩ ⟨b, m⟩ = ⟨o ++ ofOne ⟨b, m⟩ 0, w ++ [0], []⟩ := by
      unfold plainStep ofOne
      have e : ∀ k, nextP k [] = (0, []) := fun k => rfl
      cases b
      · by_cases h : 0 < m
        · simp [e, h]
        · simp [h]
      · simp [e]
    rw [List.foldl_cons, hs, plain_none l, hd, ofN, List.append_assoc, List.append_assoc]
    rfl
theorem plainT_none (l : List U0) : (plainT l []).out = ofN l (digT l 0) := by
  unfold plainT
  rw [plain_none]
  rfl
/-- what the document's crash leaves at picks that may be -/
def RLeft (w : World) (d : Dk) (ps P : List Int) (e : Ending) (w' : World) : Prop :=
  ∃ b op mp cp v2, e = .returned (.tuple #[.pointer (some ⟨b, 0, none⟩), .slice op mp cp, v2, .int .i64 0]) ∧ P.length = mp ∧ readAt w' 1 (.slice op mp cp) mp (intCells P) ∧ RfLite w' b (d.crash ps).files ∧ Below w.heap.size w w' ∧ ∀ k, (Value.slice op mp cp).ownBlock = some k → w.heap.size ≤ k
theorem natCells_i (l : List Nat) : natCells l = intCells (ints l) := by
  unfold natCells intCells ints
  rw [List.map_map]
  rfl
theorem rleft_b {w : World} {S : Nat → Prop} {p : Nat} {d : Dk} (h : RfAt w S p d) {oa : Option Addr} {n c : Nat} {ps P : List Int} (hg : AllGe ps) (hP : P = ints (plainT (unsT d.files) ps).out) (hn : ps.length = n) (hp : readAt w 1 (.slice oa n c) n (intCells ps)) (hm : n ≤ 1000000) (hmx : ∀ x ∈ ps, x ≤ 9223372036854775807) :
    Calls Try.prog 66 #[.pointer (some ⟨p, 0, none⟩), .slice oa n c] w fun e w' => RLeft w d ps P e w' := by
  refine (refCrash_b h hn hp hm hmx).mono ?_
  rintro e w' (⟨hb, -, -⟩ | ⟨-, b, op, mp, cp, oo, mo, co, fv, rfl, h1, h2, hI⟩)
  · exact absurd hg hb
  · have hl := hI.lite
    rw [rcT_files] at hl
    have hpr := hI.prow.read
    rw [h1] at hpr
    rw [rcT_out] at h1 hpr
    subst hP
    exact ⟨b, op, mp, cp, _, rfl, by unfold ints; rw [List.length_map]; exact h1, by rw [← natCells_i]; exact hpr, hl, hI.files.below, hI.plow⟩
/-- without picks: the first way -/
theorem rnone_b {w : World} {S : Nat → Prop} {p : Nat} {d : Dk} (h : RfAt w S p d) :
    Calls Try.prog 66 #[.pointer (some ⟨p, 0, none⟩), .slice none 0 0] w fun e w' => RLeft w d [] (picksOf (unsT d.files) 0) e w' :=
  rleft_b h (fun x hx => by cases hx) (by rw [plainT_none, picksOf_eq]) rfl ⟨rfl, .inl ⟨rfl, none, 0, rfl, fun _ => rfl⟩⟩ (by omega) (fun x hx => by cases hx)
/-- at a way -/
theorem rway_b {w : World} {S : Nat → Prop} {p : Nat} {d : Dk} (h : RfAt w S p d) {oa : Option Addr} {n c j : Nat} (hul : (unsT d.files).length ≤ 4096) (hum : ∀ u ∈ unsT d.files, u.more ≤ 16777216) (hn : (picksOf (unsT d.files) j).length = n) (hp : readAt w 1 (.slice oa n c) n (intCells (picksOf (unsT d.files) j))) :
    Calls Try.prog 66 #[.pointer (some ⟨p, 0, none⟩), .slice oa n c] w fun e w' => RLeft w d (picksOf (unsT d.files) j) (picksOf (unsT d.files) j) e w' :=
  rleft_b h (picksOf_ge _ j) (by rw [plain_way]; exact picksOf_eq _ j) hn hp (by have := picksOf_len hul j; omega) (fun x hx => by have := picksOf_max hum j x hx; omega)
theorem rcStep_there {ps : List Int} {s : RcS} {f : F0} (h : ∀ x ∈ s.fl, x.there = true) : ∀ x ∈ (rcStep ps s f).fl, x.there = true := fun x hx => by
  unfold rcStep at hx
  split at hx
  · rw [rcName_fl] at hx
    exact h x hx
  · unfold rcFile at hx
    rw [rcMore_fl, rcName_fl] at hx
    rcases List.mem_append.1 hx with h1 | h1
    · exact h x h1
    · rw [List.mem_singleton] at h1
      subst h1
      rfl
theorem rcT_there0 (ps : List Int) : ∀ (l : List F0) (s : RcS), (∀ x ∈ s.fl, x.there = true) → ∀ x ∈ (l.foldl (rcStep ps) s).fl, x.there = true
  | [], _, h => h
  | _ :: l, _, h => rcT_there0 ps l _ (rcStep_there h)
/-- the files that a crash leaves are there -/
theorem crash_there (d : Dk) (ps : List Int) : ∀ f ∈ (d.crash ps).files, f.there = true := fun f hf => by
  rw [← rcT_files] at hf
  exact rcT_there0 ps d.files ⟨[], [], []⟩ (fun x hx => by cases hx) f hf
end Go.Proofs.Ytmkjejngnahpeaa
/- Marks of ranges over functions, any number of them: how a frame that has some leaves. -/
namespace Go.Proofs.Ytmkjejngnahpeaa
open Go Go.RowKit

/-- the mark that a range over a function leaves among the deferred calls -/
def markD (k : Nat) : Deferred := { target := .collected k, args := #[] }
/-- the blocks of marks lie there, untouched -/
def MarksAt (W : World) (ks : List Nat) : Prop := ks.Nodup ∧ ∀ k ∈ ks, W.heap[k]? = some (.deferred (some []))
theorem MarksAt.nil {W : World} : MarksAt W [] := ⟨List.nodup_nil, fun _ hk => by cases hk⟩
theorem MarksAt.lt {W : World} {ks : List Nat} (h : MarksAt W ks) : ∀ k ∈ ks, k < W.heap.size := fun k hk => (Array.getElem?_eq_some_iff.1 (h.2 k hk)).1
theorem MarksAt.kept {W W' : World} {ks : List Nat} {X : Nat → Prop} (h : MarksAt W ks) (ho : Only X W W') (hX : ∀ k ∈ ks, ¬ X k) : MarksAt W' ks :=
  ⟨h.1, fun k hk => (ho.block k (h.lt k hk) (hX k hk)).trans (h.2 k hk)⟩
theorem MarksAt.below {W W' : World} {ks : List Nat} (h : MarksAt W ks) (hb : Below W.heap.size W W') : MarksAt W' ks :=
  ⟨h.1, fun k hk => (hb.block k (h.lt k hk)).trans (h.2 k hk)⟩
theorem MarksAt.cons {W' : World} {ks : List Nat} {k : Nat} (h : MarksAt W' ks) (hk : W'.heap[k]? = some (.deferred (some []))) (hlt : ∀ j ∈ ks, j < k) : MarksAt W' (k :: ks) :=
  ⟨List.nodup_cons.2 ⟨fun hm => Nat.lt_irrefl _ (hlt k hm), h.1⟩, fun j hj => by
    rcases List.mem_cons.1 hj with rfl | hj
    · exact hk
    · exact h.2 j hj⟩
/-- a store into a cell leaves the marks -/
theorem MarksAt.setCell {W : World} {ks : List Nat} (h : MarksAt W ks) (p : Addr) (v : Value) : MarksAt (W.setCell p v) ks :=
  ⟨h.1, fun k hk => (KeepsOthers.setCell W p v).same k _ (h.2 k hk) rfl⟩
/-- all marks are unwound -/
theorem leaves_marks {F : Fence} {n : Nat} {P : Program} {fn : Func} {tmps : Array Value} {R : Ending → World → Prop} : ∀ (ks : List Nat) (W : World), MarksAt W ks →
    (∀ W', Only (fun k => k ∈ ks) W W' → (∃ v, (results fn tmps).run P W' = .ok v W' ∧ R (.returned v) W')) → LeavesInM F n P fn tmps R (ks.map markD) .returning W
  | [], W, _, h => h W (Only.refl _ _)
  | k :: ks, W, hm, h => by
    have hk := hm.2 k (List.mem_cons_self ..)
    have hnd := List.nodup_cons.1 hm.1
    refine ⟨by simp, .inl ⟨k, W.putObj k (.deferred none), rfl, run_takeDeferred hk, leaves_marks ks _ ⟨hnd.2, fun j hj => ?_⟩ (fun W' ho => h W' ((only_put _ W k _ (List.mem_cons_self ..)).trans ho (fun j _ hj => List.mem_cons_of_mem _ hj)))⟩⟩
    have hne : j ≠ k := fun e => hnd.1 (e ▸ hj)
    exact (World.putObj_heap_other hne).trans (hm.2 j (List.mem_cons_of_mem _ hj))
end Go.Proofs.Ytmkjejngnahpeaa
/- law08: StopsAll: what stands while one range goes on. -/
namespace Go.Proofs.Ytmkjejngnahpeaa
open Go Go.Maps Go.RowKit Go.Shelf Go.Sort

theorem readAt_lt_own {w : World} {size n : Nat} {v : Value} {xs : List Value} (h : readAt w size v n xs) (h0 : 0 < n) : ∀ k, v.ownBlock = some k → k < w.heap.size := fun k hk => by
  rcases h.2 with ⟨hn, _⟩ | ⟨g, off, cap, rfl, _, hg, _, _⟩
  · omega
  · simp only [Value.ownBlock, Option.some.injEq] at hk
    omega
/-- the statement's boxes while a range goes on: B1 the plain picks, B2 whether there is one more (asked where q), B3 the counter -/
structure R1 (us : List U0) (wA : World) (B1 B2 B3 : Nat) (q : Bool) (T : Nat → Prop) (j : Nat) (V : World) : Prop where
  only : Only (fun k => k = B1 ∨ k = B2 ∨ k = B3) wA V
  plain : ∃ o m c, V.heap[B1]? = some (.cells #[.slice o m c] 32 (0, 0)) ∧ (∀ k, (Value.slice o m c).ownBlock = some k → 0 < m → ¬ T k ∧ k ≠ wA.heap.size ∧ k ≠ wA.heap.size + 1) ∧ (j < prodW us → (picksOf us j).length = m ∧ readAt V 1 (.slice o m c) m (intCells (picksOf us j)))
  more : q = true → V.heap[B2]? = some (.cells #[.bool (decide (j < prodW us))] 4 (0, 0))
  cnt : V.heap[B3]? = some (.cells #[.int .i64 (j : Int)] 3 (0, 0))
  low : ∀ k, T k → wA.heap.size + 2 ≤ k
  b1 : B1 < wA.heap.size
  b2 : B2 < wA.heap.size
  b3 : B3 < wA.heap.size
theorem R1.kept {us : List U0} {wA A B : World} {B1 B2 B3 : Nat} {q : Bool} {T X : Nat → Prop} {j : Nat} (h : R1 us wA B1 B2 B3 q T j A) (ho : Only X A B) (hX : ∀ k, X k → T k ∨ k = wA.heap.size ∨ k = wA.heap.size + 1) : R1 us wA B1 B2 B3 q T j B := by
  have no : ∀ i, i < wA.heap.size → ¬ X i := fun i hi hx => by
    rcases hX i hx with h1 | h1 | h1
    · have := h.low i h1; omega
    · omega
    · omega
  obtain ⟨o, m, c, h1, h2, h3⟩ := h.plain
  exact ⟨h.only.trans ho (fun i hi hx => (no i hi hx).elim), ⟨o, m, c, (ho.block _ (Array.getElem?_eq_some_iff.1 h1).1 (no _ h.b1)).trans h1, h2, fun hj => ⟨(h3 hj).1, (h3 hj).2.kept (fun k hk ho' h0 => ho.block k hk (fun hx => by
    have h4 := h2 k ho' h0
    rcases hX k hx with h5 | h5 | h5
    · exact h4.1 h5
    · exact h4.2.1 h5
    · exact h4.2.2 h5))⟩⟩, fun hq => (ho.block _ (Array.getElem?_eq_some_iff.1 (h.more hq)).1 (no _ h.b2)).trans (h.more hq), (ho.block _ (Array.getElem?_eq_some_iff.1 h.cnt).1 (no _ h.b3)).trans h.cnt, h.low, h.b1, h.b2, h.b3⟩
theorem R1.later {us : List U0} {wA A B : World} {B1 B2 B3 : Nat} {q : Bool} {T : Nat → Prop} {j : Nat} (h : R1 us wA B1 B2 B3 q T j A) (hb : Below A.heap.size A B) : R1 us wA B1 B2 B3 q T j B :=
  h.kept (X := fun _ => False) (Only.of_below hb (Nat.le_refl _) _) (fun _ hf => hf.elim)
/-- a block that is older than the range, and none of the three boxes -/
theorem R1.old {us : List U0} {wA V : World} {B1 B2 B3 : Nat} {q : Bool} {T : Nat → Prop} {j k : Nat} {o : Obj} (h : R1 us wA B1 B2 B3 q T j V) (hk : wA.heap[k]? = some o) (h1 : k ≠ B1) (h2 : k ≠ B2) (h3 : k ≠ B3) : V.heap[k]? = some o :=
  (h.only.block k (Array.getElem?_eq_some_iff.1 hk).1 (fun e => by rcases e with e | e | e <;> omega)).trans hk
/-- all that is older than the boxes -/
theorem R1.below {us : List U0} {w0 wA V : World} {B1 B2 B3 : Nat} {q : Bool} {T : Nat → Prop} {j : Nat} (h : R1 us wA B1 B2 B3 q T j V) (hb : Below w0.heap.size w0 wA) (h1 : w0.heap.size ≤ B1) (h2 : w0.heap.size ≤ B2) (h3 : w0.heap.size ≤ B3) : Below w0.heap.size w0 V :=
  hb.trans (h.only.below (fun i hi e => by rcases e with e | e | e <;> omega) hb.size)
/-- the next one: what Next answered is laid into the boxes, and the counter goes on -/
theorem R1.step {us : List U0} {wA V V1 : World} {B1 B2 B3 : Nat} {q : Bool} {T : Nat → Prop} {j m : Nat} {o : Option Addr} {c : Nat} (h : R1 us wA B1 B2 B3 q T j V) (hb : Below V.heap.size V V1)
    (hd12 : B1 ≠ B2) (hd13 : B1 ≠ B3) (hd23 : B2 ≠ B3) (hT : ∀ k, T k → k < V.heap.size) (hsz : wA.heap.size + 2 ≤ V.heap.size)
    (hown : ∀ k, (Value.slice o m c).ownBlock = some k → V.heap.size ≤ k) (hr : j + 1 < prodW us → (picksOf us (j + 1)).length = m ∧ readAt V1 1 (.slice o m c) m (intCells (picksOf us (j + 1)))) {W : World}
    (hW : W = if q = true then ((V1.setCell ⟨B1, 0, none⟩ (.slice o m c)).setCell ⟨B2, 0, none⟩ (.bool (decide (j + 1 < prodW us)))).setCell ⟨B3, 0, none⟩ (.int .i64 ((j : Int) + 1)) else (V1.setCell ⟨B1, 0, none⟩ (.slice o m c)).setCell ⟨B3, 0, none⟩ (.int .i64 ((j : Int) + 1))) :
    R1 us wA B1 B2 B3 q T (j + 1) W ∧ Only (fun k => k = B1 ∨ k = B2 ∨ k = B3) V1 W := by
  have h1 := h.later hb
  obtain ⟨o', m', c', g1, g2, g3⟩ := h1.plain
  have hlt1 := (Array.getElem?_eq_some_iff.1 g1).1
  have hlt3 := (Array.getElem?_eq_some_iff.1 h1.cnt).1
  have hoS : Only (fun k => k = B1 ∨ k = B2 ∨ k = B3) V1 W := by
    rw [hW]
    split
    · exact ((only_setCell _ _ _ _ _ (.inl rfl)).trans (only_setCell _ _ _ _ _ (.inr (.inl rfl))) (fun _ _ e => e)).trans (only_setCell _ _ _ _ _ (.inr (.inr rfl))) (fun _ _ e => e)
    · exact (only_setCell _ _ _ _ _ (.inl rfl)).trans (only_setCell _ _ _ _ _ (.inr (.inr rfl))) (fun _ _ e => e)
  have hb1W : W.heap[B1]? = some (.cells #[.slice o m c] 32 (0, 0)) := by
    rw [hW]
    split
    · exact (Below.heap_setCell _ _ _ _ hd13).trans ((Below.heap_setCell _ _ _ _ hd12).trans (heap_setCell_here _ g1))
    · exact (Below.heap_setCell _ _ _ _ hd13).trans (heap_setCell_here _ g1)
  have hb3W : W.heap[B3]? = some (.cells #[.int .i64 ((j + 1 : Nat) : Int)] 3 (0, 0)) := by
    have e : ((j + 1 : Nat) : Int) = (j : Int) + 1 := by omega
    rw [hW, e]
    split
    · exact heap_setCell_here _ ((Below.heap_setCell _ _ _ _ hd23.symm).trans ((Below.heap_setCell _ _ _ _ hd13.symm).trans h1.cnt))
    · exact heap_setCell_here _ ((Below.heap_setCell _ _ _ _ hd13.symm).trans h1.cnt)
  have hown' : ∀ k, (Value.slice o m c).ownBlock = some k → 0 < m → ¬ T k ∧ k ≠ wA.heap.size ∧ k ≠ wA.heap.size + 1 := fun k hk _ => by
    have h2 := hown k hk
    exact ⟨fun ht => by have := hT k ht; omega, by omega, by omega⟩
  refine ⟨⟨h1.only.trans hoS (fun _ _ e => e), ⟨o, m, c, hb1W, hown', fun hj => ⟨(hr hj).1, (hr hj).2.kept (fun k hk ho' _ => hoS.block k hk (fun e => ?_))⟩⟩, fun hq => ?_, hb3W, h.low, h.b1, h.b2, h.b3⟩, hoS⟩
  · have h2 := hown k ho'
    have := h.b1
    have := h.b2
    have := h.b3
    rcases e with e | e | e <;> omega
  · rw [hW, if_pos hq]
    exact (Below.heap_setCell _ _ _ _ hd23).trans (heap_setCell_here _ ((Below.heap_setCell _ _ _ _ hd12.symm).trans (h1.more hq)))
/-- Next's answer in one form -/
theorem NextIs.one {w w' : World} {us : List U0} {j : Nat} {e : Ending} (h : NextIs w us j e w') : ∃ o m c, e = .returned (.tuple #[.slice o m c, .bool (decide (j + 1 < prodW us))]) ∧ (∀ k, (Value.slice o m c).ownBlock = some k → w.heap.size ≤ k) ∧ (j + 1 < prodW us → (picksOf us (j + 1)).length = m ∧ readAt w' 1 (.slice o m c) m (intCells (picksOf us (j + 1)))) ∧ Below w.heap.size w w' := by
  obtain ⟨h, hb⟩ := h
  rcases h with ⟨h1, rfl⟩ | ⟨h1, o, m, c, rfl, h2, h3, h4⟩
  · exact ⟨none, 0, 0, by rw [decide_eq_false (by omega)], fun k hk => by simp [Value.ownBlock] at hk, fun h => by omega, hb⟩
  · exact ⟨o, m, c, by rw [decide_eq_true h1], h4, fun _ => ⟨h2, h3⟩, hb⟩
end Go.Proofs.Ytmkjejngnahpeaa
