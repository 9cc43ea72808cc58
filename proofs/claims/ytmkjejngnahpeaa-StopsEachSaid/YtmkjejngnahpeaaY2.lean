/- The texts Kn, Ko in one. -/
import Derived.Test.YtmkjejngnahpeaaY1
import Derived.Test.YtmkjejngnahpeaaB0
import Derived.Test.YtmkjejngnahpeaaZ2
/- law08: StopsEach, the walk. -/
namespace Go.Proofs.Ytmkjejngnahpeaa
open Go Go.Maps Go.RowKit Go.Shelf Go.Sort
attribute [local go_sem] Oper.semAt_some

def ptrCells (qs : List Nat) : List Value := qs.map fun q => .pointer (some ⟨q, 0, none⟩)
theorem ptrCells_snoc (qs : List Nat) (q : Nat) : ptrCells (qs ++ [q]) = ptrCells qs ++ [.pointer (some ⟨q, 0, none⟩)] := by simp [ptrCells]
theorem info_ptr : (Try.prog.info? 37).map (fun i => (i.zero, i.size, i.bytes)) = some (some (.pointer none), 1, 8) := by kernel_rfl
/-- the counter, and the disks seen so far -/
structure SeenI (w7 V : World) (lo : Nat) (us : List U0) (d : Dk) (bk b9 : Nat) (T : Nat → Prop) (qs : List Nat) : Prop where
  cnt : V.heap[bk]? = some (.cells #[.int .i64 (qs.length : Int)] 2 (0, 0))
  all : ∃ oa n c, qs.length = n ∧ V.heap[b9]? = some (.cells #[.slice oa n c] 150 (0, 0)) ∧ rowAt V 37 1 (.slice oa n c) n (ptrCells qs) ∧ (∀ i, (Value.slice oa n c).ownBlock = some i → lo ≤ i ∧ ¬ T i) ∧
    ∀ j (h : j < qs.length), ∃ S, DiskAt V S qs[j] (d.crash (picksOf us j)) ∧ ∀ i, S i → lo ≤ i ∧ ¬ T i ∧ (Value.slice oa n c).ownBlock ≠ some i
  below : Below w7.heap.size w7 V
  low : ∀ k, T k → lo ≤ k
  hbk : bk < b9
  hb9 : b9 + 3 = lo
  hb7 : w7.heap.size ≤ bk
theorem SeenI.kept {w7 V V' : World} {lo : Nat} {us : List U0} {d : Dk} {bk b9 : Nat} {T P : Nat → Prop} {qs : List Nat} (h : SeenI w7 V lo us d bk b9 T qs) (ho : Only P V V') (hP : ∀ i, P i → T i ∨ i = b9 + 1 ∨ i = b9 + 2) : SeenI w7 V' lo us d bk b9 T qs := by
  obtain ⟨oa, n, c, hn, h1, h2, h3, h4⟩ := h.all
  have hb := h.hbk
  have hb9 := h.hb9
  have hb7 := h.hb7
  have no : ∀ i, i < lo → i ≠ b9 + 1 → i ≠ b9 + 2 → ¬ P i := fun i hi h1 h2 hp => by
    rcases hP i hp with h' | h' | h'
    · have := h.low i h'
      omega
    · exact h1 h'
    · exact h2 h'
  have no2 : ∀ i, lo ≤ i → ¬ T i → ¬ P i := fun i hi h1 hp => by
    rcases hP i hp with h | h | h
    · exact h1 h
    · omega
    · omega
  refine ⟨(ho.block _ (Array.getElem?_eq_some_iff.1 h.cnt).1 (no _ (by omega) (by omega) (by omega))).trans h.cnt, ⟨oa, n, c, hn, (ho.block _ (Array.getElem?_eq_some_iff.1 h1).1 (no _ (by omega) (by omega) (by omega))).trans h1, h2.kept (fun k hk => ho.block k (h2.lt k hk) (no2 k (h3 k hk).1 (h3 k hk).2)), h3, fun j hj => ?_⟩, h.below.trans (ho.below (fun i hi => no i (by omega) (by omega) (by omega)) h.below.size), h.low, h.hbk, h.hb9, h.hb7⟩
  obtain ⟨S, g1, g2⟩ := h4 j hj
  exact ⟨S, g1.only2 ho (fun k hk => no2 k (g2 k hk).1 (g2 k hk).2.1), g2⟩
theorem SeenI.later {w7 V V' : World} {lo : Nat} {us : List U0} {d : Dk} {bk b9 : Nat} {T : Nat → Prop} {qs : List Nat} (h : SeenI w7 V lo us d bk b9 T qs) (hb : Below V.heap.size V V') : SeenI w7 V' lo us d bk b9 T qs :=
  h.kept (P := fun _ => False) (Only.of_below hb (Nat.le_refl _) _) (fun _ hf => hf.elim)
/-- one disk more is seen -/
theorem SeenI.step {w7 V w3 : World} {lo : Nat} {us : List U0} {d : Dk} {bk b9 : Nat} {T S : Nat → Prop} {qs : List Nat} {q m : Nat} {oa oa3 : Option Addr} {c c3 : Nat} {o : Obj} (h : SeenI w7 V lo us d bk b9 T qs) (hm : qs.length = m)
    (hbx : V.heap[b9]? = some (.cells #[.slice oa m c] 150 (0, 0))) (hd : DiskAt V S q (d.crash (picksOf us m))) (hS : ∀ i, S i → lo ≤ i ∧ ¬ T i) (hSr : ∀ i, S i → (Value.slice oa m c).ownBlock ≠ some i) (hT : ∀ k, T k → k < V.heap.size) (hlo : lo ≤ V.heap.size)
    (hr : rowAt w3 37 1 (.slice oa3 (m + 1) c3) (m + 1) (ptrCells qs ++ [.pointer (some ⟨q, 0, none⟩)])) (hg : (V.alloc o).grownBy w3 (Value.slice oa m c).ownBlock)
    (hw : (Value.slice oa3 (m + 1) c3).ownBlock = (Value.slice oa m c).ownBlock ∨ (Value.slice oa3 (m + 1) c3).ownBlock = some (V.heap.size + 1)) :
    (w3.heap[b9]? = some (.cells #[.slice oa m c] 150 (0, 0)) ∧ w3.heap[bk]? = some (.cells #[.int .i64 (m : Int)] 2 (0, 0))) ∧ Only (fun k => lo ≤ k ∧ ¬ T k) V w3 ∧
      SeenI w7 ((w3.setCell ⟨b9, 0, none⟩ (.slice oa3 (m + 1) c3)).setCell ⟨bk, 0, none⟩ (.int .i64 ((m : Int) + 1))) lo us d bk b9 T (qs ++ [q]) := by
  subst hm
  obtain ⟨oa', n', c', hn', h1, h2, h3, h4⟩ := h.all
  rw [hbx] at h1
  simp only [Option.some.injEq, Obj.cells.injEq, Array.mk.injEq, List.cons.injEq, Value.slice.injEq, and_true] at h1
  obtain ⟨rfl, rfl, rfl⟩ := h1
  have hb := h.hbk
  have hb9 := h.hb9
  have hb7 := h.hb7
  have hlt9 := (Array.getElem?_eq_some_iff.1 hbx).1
  have hltk := (Array.getElem?_eq_some_iff.1 h.cnt).1
  have hal : Only (fun _ => False) V (V.alloc o) := only_alloc _ _ _
  have hov : Only (fun k => (Value.slice oa qs.length c).ownBlock = some k) V w3 := (hal.mono (fun _ _ hf => hf.elim)).trans (Only.of_grown hg (fun k hk => hk)) (fun _ _ h => h)
  have hkeep : ∀ k, k < V.heap.size → (Value.slice oa qs.length c).ownBlock ≠ some k → w3.heap[k]? = V.heap[k]? := fun k hk hne => hov.block k hk hne
  have h9' := (hkeep b9 hlt9 (fun e => by have := (h3 _ e).1; omega)).trans hbx
  have hk' := (hkeep bk hltk (fun e => by have := (h3 _ e).1; omega)).trans h.cnt
  have hlow3 : ∀ i, (Value.slice oa3 (qs.length + 1) c3).ownBlock = some i → lo ≤ i ∧ ¬ T i := fun i hi => by
    rcases hw with e | e
    · exact h3 i (by rw [← e]; exact hi)
    · rw [hi] at e
      simp only [Option.some.injEq] at e
      refine ⟨by omega, fun ht => by have := hT i ht; omega⟩
  have hset : ∀ k, k ≠ b9 → k ≠ bk → ((w3.setCell ⟨b9, 0, none⟩ (.slice oa3 (qs.length + 1) c3)).setCell ⟨bk, 0, none⟩ (.int .i64 ((qs.length : Int) + 1))).heap[k]? = w3.heap[k]? := fun k h1 h2 => (Below.heap_setCell _ _ _ _ (fun e => h2 e)).trans (Below.heap_setCell _ _ _ _ (fun e => h1 e))
  have hsz3 : V.heap.size ≤ w3.heap.size := hov.size
  have hof : Only (fun k => k = b9 ∨ k = bk) w3 ((w3.setCell ⟨b9, 0, none⟩ (.slice oa3 (qs.length + 1) c3)).setCell ⟨bk, 0, none⟩ (.int .i64 ((qs.length : Int) + 1))) := (only_setCell (fun k => k = b9 ∨ k = bk) _ _ _ _ (.inl rfl)).trans (only_setCell (fun k => k = b9 ∨ k = bk) _ _ _ _ (.inr rfl)) (fun _ _ h => h)
  have hdisk : ∀ {S' : Nat → Prop} {q' : Nat} {d' : Dk}, DiskAt V S' q' d' → (∀ i, S' i → lo ≤ i ∧ ¬ T i ∧ (Value.slice oa qs.length c).ownBlock ≠ some i) → DiskAt ((w3.setCell ⟨b9, 0, none⟩ (.slice oa3 (qs.length + 1) c3)).setCell ⟨bk, 0, none⟩ (.int .i64 ((qs.length : Int) + 1))) S' q' d' := fun g1 g2 =>
    (g1.only2 hov (fun k hk e => (g2 k hk).2.2 e)).only2 hof (fun k hk e => by have := (g2 k hk).1; omega)
  have hfar : ∀ {S' : Nat → Prop} {q' : Nat} {d' : Dk}, DiskAt V S' q' d' → (∀ i, S' i → lo ≤ i ∧ ¬ T i ∧ (Value.slice oa qs.length c).ownBlock ≠ some i) → ∀ i, S' i → lo ≤ i ∧ ¬ T i ∧ (Value.slice oa3 (qs.length + 1) c3).ownBlock ≠ some i := fun g1 g2 i hi => by
    obtain ⟨a1, a2, a3⟩ := g2 i hi
    refine ⟨a1, a2, fun e => ?_⟩
    rcases hw with e2 | e2
    · exact a3 (by rw [← e2]; exact e)
    · rw [e] at e2
      simp only [Option.some.injEq] at e2
      have := g1.low2 i hi
      omega
  refine ⟨⟨h9', hk'⟩, hov.mono (fun k _ e => h3 k e), ?_, ?_, ?_, h.low, h.hbk, h.hb9, h.hb7⟩
  · have e : ((qs ++ [q]).length : Int) = (qs.length : Int) + 1 := by simp
    rw [e]
    refine heap_setCell_here _ ((Below.heap_setCell _ _ _ _ (fun e => ?_)).trans hk')
    dsimp only at e
    omega
  · rw [ptrCells_snoc]
    refine ⟨oa3, qs.length + 1, c3, by simp, (Below.heap_setCell _ _ _ _ (fun e => ?_)).trans (heap_setCell_here _ h9'), hr.kept (fun k hk => hset k (fun e => ?_) (fun e => ?_)), hlow3, fun j hj => ?_⟩
    · dsimp only at e
      omega
    · have := (hlow3 k hk).1
      omega
    · have := (hlow3 k hk).1
      omega
    · rw [List.length_append] at hj
      simp only [List.length_cons, List.length_nil] at hj
      by_cases hjl : j < qs.length
      · obtain ⟨S', g1, g2⟩ := h4 j hjl
        rw [List.getElem_append_left hjl]
        exact ⟨S', hdisk g1 g2, hfar g1 g2⟩
      · obtain rfl : j = qs.length := by omega
        simp only [List.getElem_concat_length]
        have g2 : ∀ i, S i → lo ≤ i ∧ ¬ T i ∧ (Value.slice oa qs.length c).ownBlock ≠ some i := fun i hi => ⟨(hS i hi).1, (hS i hi).2, hSr i hi⟩
        exact ⟨S, hdisk hd g2, hfar hd g2⟩
  · have h5 : Below w7.heap.size w7 w3 := h.below.trans (hov.below (fun i hi e => by have := (h3 i e).1; omega) h.below.size)
    exact (h5.setCell (p := ⟨b9, 0, none⟩) (by show w7.heap.size ≤ b9; omega) _).setCell (p := ⟨bk, 0, none⟩) hb7 _
end Go.Proofs.Ytmkjejngnahpeaa
/- law08: StopsEach, the walk. -/
namespace Go.Proofs.Ytmkjejngnahpeaa
open Go Go.Maps Go.RowKit Go.Shelf Go.Sort
attribute [local go_sem] Oper.semAt_some

theorem natCells_ints (l : List Nat) : natCells l = intCells (ints l) := by
  unfold natCells intCells ints
  rw [List.map_map]
  rfl
def qsOf (pre : List ImV) : List Nat := pre.map (·.q)
set_option maxRecDepth 100000 in
set_option maxHeartbeats 8000000 in
theorem stopsEach_walk {w : World} {v : Value} {l : List OpT} (hs : OpsAt w v l) :
    Calls Try.prog 14 #[v] w fun e w' => e = .returned (.bool true) ∧ Below w.heap.size w w' := by
  obtain ⟨ob, cb, rfl⟩ := hs.row.shape
  obtain ⟨n, hn⟩ : ∃ n, l.length = n := ⟨_, rfl⟩
  obtain ⟨w1, hw1⟩ : ∃ w1 : World, w1 = w.alloc (.cells #[.bool false] 4) := ⟨_, rfl⟩
  obtain ⟨b2, hb2⟩ : ∃ b, b = w.heap.size := ⟨_, rfl⟩
  have hr1 : w1.heap[b2]? = some (.cells #[.bool false] 4 (0, 0)) := by rw [hw1, hb2]; exact alloc_cells _ _ _
  have hbe : Below w.heap.size w w1 := by rw [hw1]; exact (Below.refl _ _).alloc (Nat.le_refl _) _
  have hs1 := hs.below hbe
  have HVB := vast8_b hs1
  have HBO := fun h1 h2 => both_b hs1 h1 h2
  rw [hn] at HVB HBO ⊢
  obtain ⟨vt, hvt⟩ : ∃ b, vast8 l = b := ⟨_, rfl⟩
  rw [hvt] at HVB
  have HVB := Lib.hid HVB
  have HBO := Lib.hid HBO
  have HVT := Lib.hid hvt
  have H1 := Lib.hid (And.intro hr1 hbe)
  have HB2 := Lib.hid hb2
  have HNN := Lib.hid hn
  clear hs hn hs1 hvt hr1 hbe
  refine (callsIn_wide (n := 8)).1 ?_
  have f1 : Fence.wide.fn 70 := trivial
  have f2 : Fence.wide.fn 71 := trivial
  have f3 : Fence.wide.fn 72 := trivial
  have f4 : Fence.wide.fn 74 := trivial
  have f5 : Fence.wide.fn 76 := trivial
  have f6 : Fence.wide.fn 81 := trivial
  have f7 : Fence.wide.fn 75 := trivial
  have f8 : Fence.wide.fn 40 := trivial
  have f9 : Fence.wide.fn 51 := trivial
  have f10 : Fence.wide.fn 78 := trivial
  refine callsIn_of_wp_marks Try.func14 rfl trivial ?_ rfl
  simp only [Try.ntmps14, List.size_toArray, List.length_cons, List.length_nil, Nat.reduceAdd, Nat.reduceSub, Array.replicate_succ, Array.replicate_zero, List.push_toArray, List.append_toArray, List.nil_append, List.cons_append]
  gi_upto_region 1 with fail
  rw [← hw1, ← hb2]
  clear hw1 hb2
  gi_wp2_with fail
  refine (callsIn_wide.2 HVB.out).mono ?_
  rintro e w1' ⟨rfl, hw'⟩
  obtain rfl := hw'.symm
  clear hw'
  cases vt
  · obtain ⟨h100, hlx⟩ := not_vast8 HVT.out
    gi_wp2_with fail
    have h100' := HNN.out ▸ h100
    refine (callsIn_wide.2 (HBO.out h100' hlx)).mono ?_
    rintro e w2 ⟨q, p, rfl, ⟨S1, S2, ht⟩⟩
    have hfa := opsT_fates l ⟨[], [], 0⟩ rfl
    obtain ⟨d, hd⟩ : ∃ d, Dk.opsT ⟨[], [], 0⟩ l = d := ⟨_, rfl⟩
    rw [hd] at ht hfa
    have HF : Hid (d.fates.length ≤ 1000000000) := Lib.hid (by rw [hfa]; simp)
    have HS := Lib.hid (And.intro ht.one.order_of.1 ht.one.sizes)
    obtain ⟨w3, hw3⟩ : ∃ W : World, W = w2.alloc (.cells #[.pointer (some ⟨q, 0, none⟩)] 37) := ⟨_, rfl⟩
    obtain ⟨b3, hb3⟩ : ∃ b, b = w2.heap.size := ⟨_, rfl⟩
    have h33 : w3.heap[b3]? = some (.cells #[.pointer (some ⟨q, 0, none⟩)] 37 (0, 0)) := by rw [hw3, hb3]; exact alloc_cells _ _ _
    have hb23 : Below w2.heap.size w2 w3 := by rw [hw3]; exact (Below.refl _ _).alloc (Nat.le_refl _) _
    have H3 := Lib.hid (And.intro (ht.one.below hb23) (And.intro (ht.below.trans (hb23.mono ht.below.size)) h33))
    have c3 : w3.cell? ⟨b3, 0, none⟩ = some (.pointer (some ⟨q, 0, none⟩)) := cell_of h33 rfl
    gi_upto_region 4 with fail
    rw [← hw3, ← hb3]
    clear ht hfa hd HBO HVB hlx h100 h100' hw3 hb3 h33 hb23
    gi_wp2_with fail
    refine (callsIn_wide.2 (sCount_b H3.out.1 HF.out)).mono ?_
    rintro e w4 ⟨rfl, hb4⟩
    have H4 := Lib.hid (And.intro (H3.out.1.below hb4) (And.intro (H3.out.2.1.trans (hb4.mono H3.out.2.1.size)) ((hb4.block b3 (Array.getElem?_eq_some_iff.1 H3.out.2.2).1).trans H3.out.2.2)))
    clear hb4 c3 H3
    cases hc : countT (unsT d.files) with
    | none => as_aux_lemma =>
      have hcv : countV d = (.int .i64 0, 3) := by unfold countV; rw [hc]; rfl
      have HBL : Hid (Below w1.heap.size w1 (w4.alloc (.cells #[.int .i64 0] 2))) := Lib.hid (H4.out.2.1.alloc H4.out.2.1.size _)
      rw [hcv]
      clear hcv hc
      gi_wp2_with fail
      refine (callsIn_wide.2 (known8_b _)).mono ?_
      rintro e V2 ⟨rfl, hbk⟩
      have hbv : Below w1.heap.size w1 V2 := HBL.out.trans (hbk.mono HBL.out.size)
      have hr2 : V2.heap[b2]? = some (.cells #[.bool false] 4 (0, 0)) := (hbv.block b2 (Array.getElem?_eq_some_iff.1 H1.out.1).1).trans H1.out.1
      have hbw : Below w.heap.size w V2 := H1.out.2.trans (hbv.mono H1.out.2.size)
      have HE := Lib.hid (And.intro hr2 hbw)
      have z2 : V2.frozen? ⟨b2, 0, none⟩ = false := free_of hr2 _
      have k2 : V2.cell? ⟨b2, 0, none⟩ = some (.bool false) := cell_of hr2 rfl
      clear hr2 hbw hbk hbv
      gi_wp2_with fail
      have hr3 : (V2.setCell ⟨b2, 0, none⟩ (.bool true)).heap[b2]? = some (.cells #[.bool true] 4 (0, 0)) := heap_setCell_here _ HE.out.1
      have hcr := cell_of (i := 0) (v := .bool true) hr3 rfl
      have hbz : Below w.heap.size w (V2.setCell ⟨b2, 0, none⟩ (.bool true)) := HE.out.2.setCell (p := ⟨b2, 0, none⟩) (by show w.heap.size ≤ b2; have := HB2.out; omega) _
      exact ⟨.bool true, by simp [results, Try.results14, go_sem, hcr], rfl, hbz⟩
    | some c =>
      have hcv : countV d = (.int .i64 (c : Int), 0) := by unfold countV; rw [hc]; rfl
      have HC := Lib.hid hc
      have hcm := countT_most hc
      have hcm2 : c ≤ 4611686018427387904 := by unfold most62 at hcm; exact hcm
      obtain ⟨w5, hw5⟩ : ∃ W : World, W = w4.alloc (.cells #[.int .i64 (c : Int)] 2) := ⟨_, rfl⟩
      obtain ⟨b5, hb5⟩ : ∃ b, b = w4.heap.size := ⟨_, rfl⟩
      have h55 : w5.heap[b5]? = some (.cells #[.int .i64 (c : Int)] 2 (0, 0)) := by rw [hw5, hb5]; exact alloc_cells _ _ _
      have hb45 : Below w4.heap.size w4 w5 := by rw [hw5]; exact (Below.refl _ _).alloc (Nat.le_refl _) _
      have c5 : w5.cell? ⟨b5, 0, none⟩ = some (.int .i64 (c : Int)) := cell_of h55 rfl
      have H5 := Lib.hid (And.intro (H4.out.1.below hb45) (And.intro (H4.out.2.1.trans (hb45.mono H4.out.2.1.size)) (And.intro ((hb45.block b3 (Array.getElem?_eq_some_iff.1 H4.out.2.2).1).trans H4.out.2.2) h55)))
      have HBL := Lib.hid H5.out.2.1
      rw [hcv]
      gi_upto_region 5 with fail
      rw [← hw5, ← hb5]
      clear hcv hc hcm hw5 hb5 h55 hb45 H4
      by_cases hbig : 400 < c
      · have hd4 : decide ((400 : Int) < (c : Int)) = true := decide_eq_true (by omega)
        gi_wp2_with fail
        refine (callsIn_wide.2 (known8_b _)).mono ?_
        rintro e V2 ⟨rfl, hbk⟩
        have hbv : Below w1.heap.size w1 V2 := HBL.out.trans (hbk.mono HBL.out.size)
        have hr2 : V2.heap[b2]? = some (.cells #[.bool false] 4 (0, 0)) := (hbv.block b2 (Array.getElem?_eq_some_iff.1 H1.out.1).1).trans H1.out.1
        have hbw : Below w.heap.size w V2 := H1.out.2.trans (hbv.mono H1.out.2.size)
        have HE := Lib.hid (And.intro hr2 hbw)
        have z2 : V2.frozen? ⟨b2, 0, none⟩ = false := free_of hr2 _
        have k2 : V2.cell? ⟨b2, 0, none⟩ = some (.bool false) := cell_of hr2 rfl
        clear hr2 hbw hbk hbv
        gi_wp2_with fail
        have hr3 : (V2.setCell ⟨b2, 0, none⟩ (.bool true)).heap[b2]? = some (.cells #[.bool true] 4 (0, 0)) := heap_setCell_here _ HE.out.1
        have hcr := cell_of (i := 0) (v := .bool true) hr3 rfl
        have hbz : Below w.heap.size w (V2.setCell ⟨b2, 0, none⟩ (.bool true)) := HE.out.2.setCell (p := ⟨b2, 0, none⟩) (by show w.heap.size ≤ b2; have := HB2.out; omega) _
        exact ⟨.bool true, by simp [results, Try.results14, go_sem, hcr], rfl, hbz⟩
      · have hd4 : decide ((400 : Int) < (c : Int)) = false := decide_eq_false (by omega)
        have hc4 : c ≤ 400 := by omega
        have c3 : w5.cell? ⟨b3, 0, none⟩ = some (.pointer (some ⟨q, 0, none⟩)) := cell_of H5.out.2.2.1 rfl
        gi_wp2_with fail
        refine (callsIn_wide.2 (sImages_b H5.out.1 HF.out)).mono ?_
        rintro e w7 ⟨bs, bm, rfl, him, hb7⟩
        unfold imagesV
        have HIM := Lib.hid him
        have hbw7 := H5.out.2.1.trans (hb7.mono H5.out.2.1.size)
        have H7 := Lib.hid (And.intro hbw7 (And.intro (H5.out.1.below hb7) (And.intro ((hb7.block b3 (Array.getElem?_eq_some_iff.1 H5.out.2.2.1).1).trans H5.out.2.2.1) ((hb7.block b5 (Array.getElem?_eq_some_iff.1 H5.out.2.2.2).1).trans H5.out.2.2.2))))
        clear hbw7 him hb7 H5 HBL c3 c5 hd4 hbig
        have hnf : ∀ W : World, (binOp .eql 143 (.func (.func 142) #[] #[.pointer (some ⟨bs, 0, none⟩), .pointer (some ⟨bm, 0, none⟩)]) .nilFunc).run Try.prog W = .ok (.bool false) W := fun W => by kernel_rfl
        gi_wp2_with fail
        obtain ⟨w9, hw9⟩ : ∃ W : World, W = (w7.alloc (.cells #[.int .i64 0] 2)).alloc (.cells #[.slice none 0 0] 150) := ⟨_, rfl⟩
        obtain ⟨b8, hb8⟩ : ∃ b, b = w7.heap.size := ⟨_, rfl⟩
        obtain ⟨b9, hb9⟩ : ∃ b, b = w7.heap.size + 1 := ⟨_, rfl⟩
        have hb79 : Below w7.heap.size w7 w9 := by rw [hw9]; exact ((Below.refl _ _).alloc (Nat.le_refl _) _).alloc (by simp) _
        have h98 : w9.heap[b8]? = some (.cells #[.int .i64 0] 2 (0, 0)) := by
          rw [hw9, hb8]
          exact (Below.heap_alloc _ _ _ (by simp)).trans (alloc_cells _ _ _)
        have h99 : w9.heap[b9]? = some (.cells #[.slice none 0 0] 150 (0, 0)) := by
          rw [hw9, hb9]
          have := alloc_cells (w7.alloc (.cells #[.int .i64 0] 2)) #[.slice none 0 0] 150
          rwa [World.size_alloc] at this
        have hsz9 : w9.heap.size = b9 + 1 := by rw [hw9, hb9]; simp
        have hI0 : ∀ T : Nat → Prop, (∀ k, T k → b9 + 3 ≤ k) → SeenI w7 w9 (b9 + 3) (unsT d.files) d b8 b9 T [] := fun T hT =>
          ⟨h98, ⟨none, 0, 0, rfl, h99, ⟨by simp [ptrCells], .inl ⟨rfl, rfl⟩⟩, fun i hi => by simp [Value.ownBlock] at hi, fun j hj => absurd hj (Nat.not_lt_zero j)⟩, hb79, hT, by omega, rfl, by omega⟩
        have H9 := Lib.hid (And.intro hb79 (And.intro hsz9 hI0))
        rw [← hw9, ← hb9, ← hb8]
        have hlen := unsT_len d.files
        have hul : (unsT d.files).length ≤ 4096 := by have := HS.out.2.1; omega
        have hum := unsT_more (fun f hf => (HS.out.2.2 f hf).2)
        have hst := images_told 7 (by omega) bs bm w7 (unsT d.files) d HIM.out hul hum
        have hpc := countT_prod _ 1 c HC.out
        rw [Nat.one_mul] at hpc
        have HU := Lib.hid (And.intro hul (And.intro hum hpc))
        clear hw9 hb8 hb9 hb79 hlen h98 h99 hI0 hul hum hpc hsz9
        refine wpIn_rangeFunc_told (n := 8) (α := ImV) rfl (by omega) (gf := 142) (lb := #[.pointer (some ⟨bs, 0, none⟩), .pointer (some ⟨bm, 0, none⟩)]) rfl trivial (enters_of Try.func142 (by kernel_rfl) rfl) hst H9.out.1 (fun _ => rfl)
          (fun T pre V => SeenI w7 V (b9 + 3) (unsT d.files) d b8 b9 T (qsOf pre)) (fun _ _ _ _ => False) ?I ?Ix ?h0 ?round ?done ?stop
        case I =>
          rintro T pre A B hi ho
          rw [H9.out.2.1] at ho
          exact hi.kept ho (fun i h => h)
        case Ix =>
          rintro c T pre A B hf ho
          exact hf
        case h0 =>
          intro T W1 hb hsz hT
          rw [H9.out.2.1] at hT
          exact (H9.out.2.2 T (fun k hk => (hT k hk).1)).later hb
        case stop =>
          rintro T c0 pre V hS hf hD
          exact hf.elim
        case done => as_aux_lemma =>
          rintro T xs V hS hi hD
          have hS' : xs.length = prodW (unsT d.files) := hS
          have hcnt := hi.cnt
          have hql : (qsOf xs).length = c := by unfold qsOf; rw [List.length_map, hS', HU.out.2.2]
          rw [hql] at hcnt
          have cb8 : V.cell? ⟨b8, 0, none⟩ = some (.int .i64 (c : Int)) := cell_of hcnt rfl
          have cb5 : V.cell? ⟨b5, 0, none⟩ = some (.int .i64 (c : Int)) := cell_of ((hi.below.block b5 (Array.getElem?_eq_some_iff.1 H7.out.2.2.2).1).trans H7.out.2.2.2) rfl
          rw [H9.out.2.1] at hD
          have HV := Lib.hid (And.intro hi.below hD)
          clear hS hS' hcnt hql hi hD hst
          gi_wp2_with fail
          refine (callsIn_wide.2 (known8_b _)).mono ?_
          rintro e V2 ⟨rfl, hbk⟩
          have hb7 : Below w7.heap.size w7 V2 := HV.out.1.trans (hbk.mono HV.out.1.size)
          have hbv : Below w1.heap.size w1 V2 := H7.out.1.trans (hb7.mono H7.out.1.size)
          have hr2 : V2.heap[b2]? = some (.cells #[.bool false] 4 (0, 0)) := (hbv.block b2 (Array.getElem?_eq_some_iff.1 H1.out.1).1).trans H1.out.1
          have hm2 : V2.heap[b9 + 1]? = some (.deferred (some [])) := (hbk.block _ (Array.getElem?_eq_some_iff.1 HV.out.2).1).trans HV.out.2
          have hbw : Below w.heap.size w V2 := H1.out.2.trans (hbv.mono H1.out.2.size)
          have HE := Lib.hid (And.intro hr2 (And.intro hm2 hbw))
          have z2 : V2.frozen? ⟨b2, 0, none⟩ = false := free_of hr2 _
          have k2 : V2.cell? ⟨b2, 0, none⟩ = some (.bool false) := cell_of hr2 rfl
          clear hb7 hr2 hm2 hbw hbk hbv cb8 cb5
          gi_wp2_with fail
          have hm := (KeepsOthers.setCell V2 ⟨b2, 0, none⟩ (.bool true)).same (b9 + 1) _ HE.out.2.1 rfl
          have hr3 : (V2.setCell ⟨b2, 0, none⟩ (.bool true)).heap[b2]? = some (.cells #[.bool true] 4 (0, 0)) := heap_setCell_here _ HE.out.1
          have hg := grownBy_putObj' (V2.setCell ⟨b2, 0, none⟩ (.bool true)) (b9 + 1) (.deferred none)
          have hr4 := (hg.block b2 (Array.getElem?_eq_some_iff.1 hr3).1 (fun e => by
            simp only [Option.some.injEq] at e
            rw [← e, hr3] at hm
            cases hm)).trans hr3
          have hcr := cell_of (i := 0) (v := .bool true) hr4 rfl
          have hbz : Below w.heap.size w (V2.setCell ⟨b2, 0, none⟩ (.bool true)) := HE.out.2.2.setCell (p := ⟨b2, 0, none⟩) (by show w.heap.size ≤ b2; have := HB2.out; omega) _
          have hbz2 := hbz.grown hg hbz.size (fun k e => by
            simp only [Option.some.injEq] at e
            have h1 := H9.out.1.size
            have h2 := H1.out.2.size
            have h3 := H7.out.1.size
            have h4 := H9.out.2.1
            omega)
          rw [H9.out.2.1]
          refine ⟨by simp, .inl ⟨_, _, rfl, run_takeDeferred hm, ?_⟩⟩
          exact ⟨.bool true, by simp [results, Try.results14, go_sem, hcr], rfl, hbz2⟩
        case round =>
          rintro T pre ⟨⟨oa, xn, c1⟩, qx⟩ Wp V hT hrec hdef hip hop hszp hgv hlt K hK
          rw [H9.out.2.1] at hT hrec hdef hK hszp
          obtain ⟨oS, nS, cS, hnS, hbS, hrS, hoS, -⟩ := hip.all
          have hrSl := fun k hk => hrS.lt k hk
          obtain ⟨⟨hxn, hrow, hown⟩, Sx, hdx, hSx⟩ := hgv
          dsimp only at hxn hrow hown hdx
          obtain ⟨j, hj⟩ : ∃ j, pre.length = j := ⟨_, rfl⟩
          rw [hj] at hxn hrow hdx hlt
          obtain ⟨ps, hps⟩ : ∃ ps, picksOf (unsT d.files) j = ps := ⟨_, rfl⟩
          have hpn : ps.length = xn := by rw [← hps]; unfold picksOf; rw [List.length_map, hxn]
          rw [picksOf_cells, hps] at hrow
          rw [hps] at hdx
          have hpl : xn ≤ 10000 := by rw [← hpn, ← hps]; exact picksOf_len HU.out.1 j
          have hpm : ∀ x ∈ ps, x ≤ 9223372036854775807 := fun x hx => by rw [← hps] at hx; have := picksOf_max HU.out.2.1 j x hx; omega
          have hge : AllGe ps := by rw [← hps]; exact picksOf_ge _ j
          have hqj : (qsOf pre).length = j := by unfold qsOf; rw [List.length_map, hj]
          have hjS : nS = j := by rw [← hnS, hqj]
          subst hjS
          obtain ⟨V', hV'⟩ : ∃ V', V' = V.alloc (.cells #[.slice oa xn c1] 72) := ⟨_, rfl⟩
          obtain ⟨B, hB⟩ : ∃ b, b = V.heap.size := ⟨_, rfl⟩
          have hbV : Below V.heap.size V V' := by rw [hV']; exact (Below.refl _ _).alloc (Nat.le_refl _) _
          have hBx : V'.heap[B]? = some (.cells #[.slice oa xn c1] 72 (0, 0)) := by rw [hV', hB]; exact alloc_cells _ _ _
          have hVl : b9 + 2 < V.heap.size := by
            obtain ⟨r, hr⟩ := hrec
            exact (Array.getElem?_eq_some_iff.1 hr).1
          have HK := Lib.hid hK
          have HI := Lib.hid hip
          have HOP := Lib.hid (And.intro hop (And.intro hszp (And.intro (fun k hk => (hT k hk).2) hVl)))
          have HSR := Lib.hid (And.intro hbS (And.intro hrSl hoS))
          have HX := Lib.hid (And.intro hrow hown)
          have HDX := Lib.hid (And.intro hdx hSx)
          have HP := Lib.hid (And.intro hpn (And.intro hpl (And.intro hpm hge)))
          have HJ := Lib.hid (And.intro hj (And.intro hps (And.intro hlt hqj)))
          have HVB := Lib.hid (And.intro hbV (And.intro hBx hB))
          clear hT hrec hdef hip hop hszp hK hnS hbS hrS hoS hrSl hxn hrow hown hdx hSx hlt hst hj hps hpn hpl hpm hge hqj hbV hBx hVl
          unfold encI
          gi_wp2_with fail
          rw [← hV', ← hB]
          clear hV' hB
          refine HK.out _ _ (KeptR.of HVB.out.1) ?_
          intro W2 ho hr2
          -- all that was known ahead of the round holds at its body's head
          have hopV : Only T Wp V' := HOP.out.1.trans (Only.of_below HVB.out.1 (Nat.le_refl _) (fun _ => False)) (fun _ _ hf => hf.elim)
          have hop2 : Only (fun k => T k ∨ k = b9 + 2) Wp W2 := (hopV.mono (fun _ _ h => .inl h)).trans (ho.mono (fun k _ h => .inr h)) (fun _ _ h => h)
          have hi2 : SeenI w7 W2 (b9 + 3) (unsT d.files) d b8 b9 T (qsOf pre) := HI.out.kept hop2 (fun i h => h.elim .inl (fun h => .inr (.inr h)))
          have hV2 : V'.heap.size ≤ W2.heap.size := ho.size
          have hVs : V.heap.size ≤ V'.heap.size := HVB.out.1.size
          have hBV := HVB.out.2.2
          have hVl := HOP.out.2.2.2
          have hb7 := hi2.below
          have hd2 := H7.out.2.1.below hb7
          have hkb : W2.heap[B]? = some (.cells #[.slice oa xn c1] 72 (0, 0)) := (ho.block B (Array.getElem?_eq_some_iff.1 HVB.out.2.1).1 (fun e => by omega)).trans HVB.out.2.1
          have hsp := HOP.out.2.1
          have hrow2 : rowAt W2 3 1 (.slice oa xn c1) xn (intCells ps) := HX.out.1.kept (fun k hk => (ho.block k (Nat.lt_of_lt_of_le (HX.out.1.lt k hk) hVs) (fun e => by have := (HX.out.2 k hk).1; omega)).trans (HVB.out.1.block k (HX.out.1.lt k hk)))
          have hdx2 : DiskAt W2 Sx qx (d.crash ps) := (HDX.out.1.below HVB.out.1).only2 ho (fun k hk e => by have := (HDX.out.2 k hk).1; omega)
          have h5b : W2.heap[b9]? = some (.cells #[.slice oS nS cS] 150 (0, 0)) := (hop2.block b9 (Array.getElem?_eq_some_iff.1 HSR.out.1).1 (fun e => by rcases e with e | e; (have := HI.out.low _ e; omega); omega)).trans HSR.out.1
          have H2 := Lib.hid (And.intro hi2 (And.intro hkb (And.intro hrow2 (And.intro hdx2 (And.intro h5b (And.intro hr2 (show W2.heap.size ≥ b9 + 3 by omega)))))))
          have c3 : W2.cell? ⟨b3, 0, none⟩ = some (.pointer (some ⟨q, 0, none⟩)) := cell_of ((hb7.block b3 (Array.getElem?_eq_some_iff.1 H7.out.2.2.1).1).trans H7.out.2.2.1) rfl
          have kb : W2.cell? ⟨B, 0, none⟩ = some (.slice oa xn c1) := cell_of hkb rfl
          have HT2 : Hid (∀ k, T k → k < W2.heap.size) := Lib.hid (fun k hk => by have := HOP.out.2.2.1 k hk; omega)
          have hn := sNumber_b hd2 HF.out HP.out.1 hrow2.read (by have := HP.out.2.1; omega) HP.out.2.2.1 HP.out.2.2.2
          have hnw := num_way HC.out (j := nS) (by have := HJ.out.2.2.1; exact this)
          rw [HJ.out.2.1] at hnw
          rw [hnw] at hn
          have HN := Lib.hid hn
          clear hopV hop2 hi2 hV2 hVs hBV hVl hb7 hd2 hkb hsp hrow2 hdx2 h5b hn hnw ho hr2
          generalize hQ : toldPost _ _ _ _ _ = Q
          have HQ := Lib.hid hQ
          clear hQ
          gi_wp2_with fail
          refine (CallsIn.inRound _ (callsIn_wide.2 HN.out)).mono ?_
          rintro e W3 ⟨rfl, hb3⟩
          have hi3 := H2.out.1.later hb3
          have hkb3 := (hb3.block B (Array.getElem?_eq_some_iff.1 H2.out.2.1).1).trans H2.out.2.1
          have hrow3 := H2.out.2.2.1.kept (fun k hk => hb3.block k (H2.out.2.2.1.lt k hk))
          have c3' : W3.cell? ⟨b3, 0, none⟩ = some (.pointer (some ⟨q, 0, none⟩)) := cell_of ((hi3.below.block b3 (Array.getElem?_eq_some_iff.1 H7.out.2.2.1).1).trans H7.out.2.2.1) rfl
          have kb' : W3.cell? ⟨B, 0, none⟩ = some (.slice oa xn c1) := cell_of hkb3 rfl
          have HPL := Lib.hid (sPlain_b (H7.out.2.1.below hi3.below) HF.out HP.out.1 hrow3.read (by have := HP.out.2.1; omega) HP.out.2.2.1)
          have H3 := Lib.hid (And.intro hb3 (And.intro hi3 (And.intro hkb3 hrow3)))
          clear hb3 hi3 hkb3 hrow3 c3 kb HN
          gi_wp2_with fail
          refine (CallsIn.inRound _ (callsIn_wide.2 HPL.out)).mono ?_
          rintro e W4 (⟨-, o1, m1, k1, rfl, hm1, hr1, hb4⟩ | ⟨hf, -, -⟩)
          · have hpw := plain_way (unsT d.files) nS
            rw [HJ.out.2.1] at hpw
            rw [hpw] at hm1 hr1
            have hpse : ps = ints (ofN (unsT d.files) (digT (unsT d.files) nS)) := by rw [← picksOf_eq, HJ.out.2.1]
            have hm1' : ps.length = m1 := by rw [hpse]; unfold ints; rw [List.length_map]; exact hm1
            have hr1' : readAt W4 1 (.slice o1 m1 k1) m1 (intCells ps) := by rw [hpse, ← natCells_ints]; exact hr1
            obtain ⟨W5, hW5⟩ : ∃ W, W = W4.alloc (.cells #[.slice o1 m1 k1] 72) := ⟨_, rfl⟩
            obtain ⟨B14, hB14⟩ : ∃ b, b = W4.heap.size := ⟨_, rfl⟩
            have hb45 : Below W4.heap.size W4 W5 := by rw [hW5]; exact (Below.refl _ _).alloc (Nat.le_refl _) _
            have hx14 : W5.heap[B14]? = some (.cells #[.slice o1 m1 k1] 72 (0, 0)) := by rw [hW5, hB14]; exact alloc_cells _ _ _
            have hb35 := hb4.trans (hb45.mono hb4.size)
            have hi5 := H3.out.2.1.later hb35
            have hkb5 := (hb35.block B (Array.getElem?_eq_some_iff.1 H3.out.2.2.1).1).trans H3.out.2.2.1
            have hrow5 := H3.out.2.2.2.kept (fun k hk => hb35.block k (H3.out.2.2.2.lt k hk))
            have hr5 := hr1'.kept (fun k hk _ _ => hb45.block k hk)
            have c35 : W5.cell? ⟨b3, 0, none⟩ = some (.pointer (some ⟨q, 0, none⟩)) := cell_of ((hi5.below.block b3 (Array.getElem?_eq_some_iff.1 H7.out.2.2.1).1).trans H7.out.2.2.1) rfl
            have kb5 : W5.cell? ⟨B, 0, none⟩ = some (.slice oa xn c1) := cell_of hkb5 rfl
            have hcr := crash_b (H7.out.2.1.below hi5.below) oa c1 ps (by rw [HP.out.1]; exact hrow5.read) (by have := HP.out.1; have := HP.out.2.1; omega) HP.out.2.2.1
            rw [HP.out.1] at hcr
            have HCR := Lib.hid hcr
            have H5 := Lib.hid (And.intro (H3.out.1.trans (hb35.mono H3.out.1.size)) (And.intro hi5 (And.intro hkb5 (And.intro hrow5 (And.intro hr5 (And.intro hx14 hm1'))))))
            gi_upto_region 17 with fail
            rw [← hW5, ← hB14]
            clear hpw hpse hm1 hm1' hr1 hr1' hW5 hB14 hb45 hx14 hb35 hi5 hkb5 hrow5 hr5 hcr hb4 c3' kb' HPL H3
            gi_wp2_with fail
            refine (CallsIn.inRound _ (callsIn_wide.2 HCR.out)).mono ?_
            rintro e W6 (⟨hf, -, -⟩ | ⟨-, q2, rfl, hd6, hb6⟩)
            · exact absurd HP.out.2.2.2 hf
            have hb26 := H5.out.1.trans (hb6.mono H5.out.1.size)
            have hi6 := H5.out.2.1.later hb6
            have hcnt := hi6.cnt
            rw [HJ.out.2.2.2] at hcnt
            have hkb6 := (hb6.block B (Array.getElem?_eq_some_iff.1 H5.out.2.2.1).1).trans H5.out.2.2.1
            have hx6 := (hb6.block B14 (Array.getElem?_eq_some_iff.1 H5.out.2.2.2.2.2.1).1).trans H5.out.2.2.2.2.2.1
            have hro := H5.out.2.2.2.1.kept (fun k hk => hb6.block k (H5.out.2.2.2.1.lt k hk))
            have hrp := H5.out.2.2.2.2.1.kept (fun k hk _ _ => hb6.block k hk)
            have k8 : W6.cell? ⟨b8, 0, none⟩ = some (.int .i64 (nS : Int)) := cell_of hcnt rfl
            have k14 : W6.cell? ⟨B14, 0, none⟩ = some (.slice o1 m1 k1) := cell_of hx6 rfl
            have k10 : W6.cell? ⟨B, 0, none⟩ = some (.slice oa xn c1) := cell_of hkb6 rfl
            have hsm := psame_b H5.out.2.2.2.2.2.2 HP.out.1 hrp hro.read (by have := HP.out.1; have := HP.out.2.1; have := H5.out.2.2.2.2.2.2; omega)
            rw [decide_eq_true rfl] at hsm
            have HSM := Lib.hid hsm
            have hdx6 := H2.out.2.2.2.1.below hb26
            have H6 := Lib.hid (And.intro hb26 (And.intro hi6 (And.intro hdx6 hd6)))
            clear hb26 hi6 hcnt hkb6 hx6 hro hrp hsm hdx6 hd6 hb6 c35 kb5 HCR H5
            gi_wp2_with fail
            refine (CallsIn.inRound _ (callsIn_wide.2 HSM.out)).mono ?_
            rintro e W7 ⟨rfl, hb7⟩
            have hsd := same_b (H6.out.2.2.1.below hb7) (H6.out.2.2.2.below hb7)
            rw [decide_eq_true rfl] at hsd
            have HSD := Lib.hid hsd
            have H7' := Lib.hid (And.intro (H6.out.1.trans (hb7.mono H6.out.1.size)) (And.intro (H6.out.2.1.later hb7) (H6.out.2.2.1.below hb7)))
            clear hsd hb7 k8 k14 k10 HSM H6
            gi_wp2_with fail
            refine (CallsIn.inRound _ (callsIn_wide.2 HSD.out)).mono ?_
            rintro e W8 ⟨rfl, hb8⟩
            have H8 := Lib.hid (And.intro (H7'.out.1.trans (hb8.mono H7'.out.1.size)) (And.intro (H7'.out.2.1.later hb8) (H7'.out.2.2.below hb8)))
            clear hb8 HSD H7'
            gi_wp2_with fail
            have hnb : nS ≤ 400 := by
              have h1 := HJ.out.2.2.1
              have h2 := HU.out.2.2
              omega
            gi_loopw [18] (fun i wi => ∃ m : Nat, i = .int .i64 (m : Int) ∧ m ≤ nS ∧ Hid (Below W8.heap.size W8 wi)) (fun i _ => nS - (intOf i).toNat)
            case atStart => exact ⟨0, rfl, Nat.zero_le _, Lib.hid (Below.refl _ _)⟩
            case round => as_aux_lemma =>
              obtain ⟨m, rfl, hm, HW⟩ := hrel
              have hir := H8.out.2.1.later HW.out
              have hb2r : Below W2.heap.size W2 wr := H8.out.1.trans (HW.out.mono H8.out.1.size)
              have hb9r := (hb2r.block b9 (Array.getElem?_eq_some_iff.1 H2.out.2.2.2.2.1).1).trans H2.out.2.2.2.2.1
              have k9 : wr.cell? ⟨b9, 0, none⟩ = some (.slice oS nS cS) := cell_of hb9r rfl
              obtain ⟨oa', n', c', hn', hbx', hrow', hown', hdks⟩ := hir.all
              rw [hb9r] at hbx'
              simp only [Option.some.injEq, Obj.cells.injEq, Array.mk.injEq, List.cons.injEq, Value.slice.injEq, and_true] at hbx'
              obtain ⟨rfl, rfl, rfl⟩ := hbx'
              have hdxr := H8.out.2.2.below HW.out
              by_cases hlt2 : m < nS
              · have hmq : m < (qsOf pre).length := by rw [HJ.out.2.2.2]; exact hlt2
                obtain ⟨Sm, hdm, -⟩ := hdks m hmq
                obtain ⟨qm, hqm⟩ : ∃ x, (qsOf pre)[m] = x := ⟨_, rfl⟩
                rw [hqm] at hdm
                obtain ⟨g, off, rfl⟩ := hrow'.addr (by omega)
                have kq : wr.cell? ⟨g, off + m, none⟩ = some (.pointer (some ⟨qm, 0, none⟩)) := hrow'.read.cellAt (i := m) (by unfold ptrCells; rw [List.getElem?_map, List.getElem?_eq_getElem hmq, hqm]; rfl)
                have hsm := same_b hdm hdxr
                have hne : decide ((d.crash (picksOf (unsT d.files) m)).files = (d.crash ps).files) = false := decide_eq_false (fun e => by
                  rw [← HJ.out.2.1] at e
                  have h1 := HJ.out.2.2.1
                  have := crash_ne HS.out.1 (show m < prodW (unsT d.files) by omega) h1 e
                  omega)
                rw [hne] at hsm
                have HSM := Lib.hid hsm
                clear hmq hdm hqm hrow' hown' hdks hdxr hsm hne hir hb2r hb9r hn'
                gi_wp2_with fail
                refine (CallsIn.inRound _ (callsIn_wide.2 HSM.out)).mono ?_
                rintro e W9 ⟨rfl, hb9'⟩
                have HB9 := Lib.hid (HW.out.trans (hb9'.mono HW.out.size))
                clear hb9'
                gi_wp2_with fail
                exact ⟨⟨m + 1, by simp, by omega, HB9⟩, by simp [intOf]; omega⟩
              · obtain rfl : m = nS := by omega
                have hone : ∀ v ∈ ([.pointer (some ⟨qx, 0, none⟩)] : List Value), v.oneCell' = true := fun v hv => by
                  rw [List.mem_singleton] at hv
                  subst hv
                  rfl
                have hps := HJ.out.2.1
                have hm1 : m ≤ 1000000 := by
                  have h1 := HJ.out.2.2.1
                  have h2 := HU.out.2.2
                  omega
                rw [← hps] at hdxr
                have HST := Lib.hid (fun (w3 : World) (oa3 : Option Addr) (c3 : Nat) (o : Obj) => SeenI.step (w3 := w3) (oa3 := oa3) (c3 := c3) (o := o) hir HJ.out.2.2.2 hb9r hdxr (fun i hi => ⟨by have := (HDX.out.2 i hi).1; have := HOP.out.2.1; omega, (HDX.out.2 i hi).2⟩) (fun i hi e => by have := (HDX.out.2 i hi).1; have := HSR.out.2.1 i e; omega) (fun k hk => Nat.lt_of_lt_of_le (HT2.out k hk) hb2r.size) (by have := H2.out.2.2.2.2.2.2; have := hb2r.size; omega))
                have HRW := Lib.hid (And.intro hrow' hone)
                have HBR := Lib.hid (And.intro hb2r hir.below)
                clear hone hps hdxr hrow' hown' hdks hir hb2r hb9r hn'
                gi_upto_region 26 with (gi_at_builtin; refine wpListIn_append_one rfl (.tmp 117) (.tmp 119) 150 37 rfl Try.underlying150 info_ptr rfl (by omega) HRW.out.1 hm1 [.pointer (some ⟨qx, 0, none⟩)] rfl HRW.out.2 rfl rfl ?_; intro oa3 c3 w3 HR3 HG3 HO3; have hst := HST.out w3 oa3 c3 _ HR3.out HG3.out HO3.out; have y9 : w3.cell? ⟨b9, 0, none⟩ = some (.slice oS m cS) := cell_of hst.1.1 rfl; have z9 : w3.frozen? ⟨b9, 0, none⟩ = false := free_of hst.1.1 _; have HS3 := Lib.hid hst; clear hst)
                obtain ⟨w11, hw11⟩ : ∃ W : World, W = w3.setCell ⟨b9, 0, none⟩ (.slice oa3 (m + 1) c3) := ⟨_, rfl⟩
                have hst := HS3.out
                rw [← hw11] at hst ⊢
                have hlb := H9.out.2.1
                have h79 := H9.out.1.size
                have hb89 : b8 < b9 := hst.2.2.hbk
                have hb78 : w7.heap.size ≤ b8 := hst.2.2.hb7
                have hk11 : w11.heap[b8]? = some (.cells #[.int .i64 (m : Int)] 2 (0, 0)) := by
                  rw [hw11]
                  exact (Below.heap_setCell _ _ _ _ (fun e => by dsimp only at e; omega)).trans hst.1.2
                have hb73 : Below w7.heap.size w7 w3 := HBR.out.2.trans (hst.2.1.below (fun i hi h => by have := h.1; omega) HBR.out.2.size)
                have hb711 : Below w7.heap.size w7 w11 := by rw [hw11]; exact hb73.setCell (p := ⟨b9, 0, none⟩) (by show w7.heap.size ≤ b9; omega) _
                have k8 : w11.cell? ⟨b8, 0, none⟩ = some (.int .i64 (m : Int)) := cell_of hk11 rfl
                have z8 : w11.frozen? ⟨b8, 0, none⟩ = false := free_of hk11 _
                have ho9 : Only (fun k => k = b9) w3 w11 := by rw [hw11]; exact only_setCell (fun k => k = b9) _ _ _ _ rfl
                have HS11 := Lib.hid (And.intro hst.2 (And.intro hb711 (And.intro ho9 (And.intro hb89 hb78))))
                clear hw11 hst hlb h79 hb89 hb78 hk11 hb73 hb711 ho9 y9 z9 HST HR3 HG3 HO3 HS3
                gi_upto_region 27 with fail
                obtain ⟨w12, hw12⟩ : ∃ W : World, W = w11.setCell ⟨b8, 0, none⟩ (.int .i64 ((m : Int) + 1)) := ⟨_, rfl⟩
                have hs12 := HS11.out.1.2
                rw [← hw12] at hs12 ⊢
                have ho8 : Only (fun k => k = b8) w11 w12 := by rw [hw12]; exact only_setCell (fun k => k = b8) _ _ _ _ rfl
                have hcn := hs12.cnt
                have hqe : ((qsOf pre ++ [qx]).length : Int) = (m : Int) + 1 := by rw [List.length_append, HJ.out.2.2.2]; rfl
                rw [hqe] at hcn
                have k812 : w12.cell? ⟨b8, 0, none⟩ = some (.int .i64 ((m : Int) + 1)) := cell_of hcn rfl
                have k512 : w12.cell? ⟨b5, 0, none⟩ = some (.int .i64 (c : Int)) := cell_of ((hs12.below.block b5 (Array.getElem?_eq_some_iff.1 H7.out.2.2.2).1).trans H7.out.2.2.2) rfl
                have hd : decide ((c : Int) < (m : Int) + 1) = false := decide_eq_false (by
                  have h1 := HJ.out.2.2.1
                  have h2 := HU.out.2.2
                  omega)
                have HS12 := Lib.hid (And.intro hs12 ho8)
                clear hw12 hs12 ho8 hcn hqe k8 z8
                gi_wp2_with fail
                rw [← HQ.out]
                refine ⟨?_, ?_⟩
                · have h1 : KeptR w7.heap.size (fun k => T k ∨ k = b9 + 1 ∨ k = b9 + 1 + 1) W2 wr := KeptR.of HBR.out.1
                  have hlo : ∀ k, T k → b9 + 3 ≤ k := HS12.out.1.low
                  have hlb := H9.out.2.1
                  have hb89 := HS11.out.2.2.2.1
                  have hb78 := HS11.out.2.2.2.2
                  refine ((h1.join (HS11.out.1.1.mono (fun k _ h => ⟨by have := h.1; omega, fun e => ?_⟩))).join (HS11.out.2.2.1.mono (fun k _ e => ⟨by omega, fun h => ?_⟩))).join (HS12.out.2.mono (fun k _ e => ⟨by omega, fun h => ?_⟩))
                  · rcases e with e | e | e
                    · exact h.2 e
                    · have := h.1; omega
                    · have := h.1; omega
                  · rcases h with h | h | h
                    · have := hlo k h; omega
                    · omega
                    · omega
                  · rcases h with h | h | h
                    · have := hlo k h; omega
                    · omega
                    · omega
                · have e : qsOf (pre ++ [⟨⟨oa, xn, c1⟩, qx⟩]) = qsOf pre ++ [qx] := by simp [qsOf]
                  show SeenI w7 w12 (b9 + 3) (unsT d.files) d b8 b9 T (qsOf (pre ++ [⟨⟨oa, xn, c1⟩, qx⟩]))
                  rw [e]
                  exact HS12.out.1
          · exact absurd HP.out.2.2.2 hf
  · gi_wp2_with fail
    refine (callsIn_wide.2 (known8_b _)).mono ?_
    rintro e V2 ⟨rfl, hbk⟩
    have hr2 : V2.heap[b2]? = some (.cells #[.bool false] 4 (0, 0)) := (hbk.block b2 (Array.getElem?_eq_some_iff.1 H1.out.1).1).trans H1.out.1
    have hbw : Below w.heap.size w V2 := H1.out.2.trans (hbk.mono H1.out.2.size)
    have HE := Lib.hid (And.intro hr2 hbw)
    have z2 : V2.frozen? ⟨b2, 0, none⟩ = false := free_of hr2 _
    have k2 : V2.cell? ⟨b2, 0, none⟩ = some (.bool false) := cell_of hr2 rfl
    clear hr2 hbw hbk
    gi_wp2_with fail
    have hr3 : (V2.setCell ⟨b2, 0, none⟩ (.bool true)).heap[b2]? = some (.cells #[.bool true] 4 (0, 0)) := heap_setCell_here _ HE.out.1
    have hcr := cell_of (i := 0) (v := .bool true) hr3 rfl
    have hbz : Below w.heap.size w (V2.setCell ⟨b2, 0, none⟩ (.bool true)) := HE.out.2.setCell (p := ⟨b2, 0, none⟩) (by show w.heap.size ≤ b2; have := HB2.out; omega) _
    exact ⟨.bool true, by simp [results, Try.results14, go_sem, hcr], rfl, hbz⟩
end Go.Proofs.Ytmkjejngnahpeaa
