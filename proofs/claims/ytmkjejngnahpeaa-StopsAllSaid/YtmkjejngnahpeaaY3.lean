/- The texts Kr, Kq in one. -/
import Derived.Test.YtmkjejngnahpeaaC5
import Derived.Test.YtmkjejngnahpeaaD8
import Derived.Test.YtmkjejngnahpeaaA7
import Derived.Test.YtmkjejngnahpeaaD6
/- The document's disk: what Crash makes, plainly; how it lies while it is made. -/
namespace Go.Proofs.Ytmkjejngnahpeaa
open Go Go.Maps Go.RowKit

/-- what the document's crash has made so far: files, plain picks, the numbers that they are taken modulo -/
structure RcS where
  fl : List F0
  out : List Nat
  of : List Nat
def pickAt (ps : List Int) (k m : Nat) : Nat := (nextP m (ps.drop k)).1
theorem nextP_drop (ps : List Int) (k m : Nat) : nextP m (ps.drop k) = (pickAt ps k m, ps.drop (k + 1)) := by
  unfold pickAt
  cases h : ps.drop k with
  | nil =>
    have : ps.drop (k + 1) = [] := by
      rw [List.drop_eq_nil_iff] at h ⊢
      omega
    rw [this]
    rfl
  | cons x r =>
    have : ps.drop (k + 1) = r := by
      rw [← List.drop_drop, h]
      rfl
    rw [this]
    rfl
/-- the name's pick -/
def rcName (ps : List Int) (s : RcS) (f : F0) : Bool × RcS :=
  if (unsF f).name = true then (decide (pickAt ps s.out.length 2 ≠ 0), ⟨s.fl, s.out ++ [pickAt ps s.out.length 2], s.of ++ [2]⟩) else (true, s)
/-- the pick of how many bytes stay -/
def rcMore (ps : List Int) (s : RcS) (f : F0) : Nat × RcS :=
  if 0 < (unsF f).more then (pickAt ps s.out.length ((unsF f).more + 1), ⟨s.fl, s.out ++ [pickAt ps s.out.length ((unsF f).more + 1)], s.of ++ [(unsF f).more + 1]⟩) else (0, s)
def rcFile (s : RcS) (f : F0) (m : Nat) : RcS := ⟨s.fl ++ [cutF f m], s.out, s.of⟩
def rcStep (ps : List Int) (s : RcS) (f : F0) : RcS :=
  if (rcName ps s f).1 = false then (rcName ps s f).2 else rcFile (rcMore ps (rcName ps s f).2 f).2 f (rcMore ps (rcName ps s f).2 f).1
def rcT (l : List F0) (ps : List Int) : RcS := l.foldl (rcStep ps) ⟨[], [], []⟩
theorem rcT_succ {l : List F0} {ps : List Int} {j : Nat} (hj : j < l.length) : rcT (l.take (j + 1)) ps = rcStep ps (rcT (l.take j) ps) l[j] := by
  unfold rcT
  rw [List.take_succ_eq_append_getElem hj, List.foldl_append]
  rfl
theorem rcName_keep (ps : List Int) (s : RcS) (f : F0) : keepP f (ps.drop s.out.length) = ((rcName ps s f).1, ps.drop (rcName ps s f).2.out.length) := by
  rw [keep_uns]
  unfold rcName
  split
  · rw [nextP_drop]
    simp
  · rfl
theorem rcMore_more (ps : List Int) (s : RcS) (f : F0) : moreP f (ps.drop s.out.length) = ((rcMore ps s f).1, ps.drop (rcMore ps s f).2.out.length) := by
  rw [more_uns]
  unfold rcMore
  split
  · rw [nextP_drop]
    simp
  · rfl
theorem rcName_fl (ps : List Int) (s : RcS) (f : F0) : (rcName ps s f).2.fl = s.fl := by
  unfold rcName
  split <;> rfl
theorem rcMore_fl (ps : List Int) (s : RcS) (f : F0) : (rcMore ps s f).2.fl = s.fl := by
  unfold rcMore
  split <;> rfl
/-- the files are those that the program's crash leaves -/
theorem rc_crash (ps : List Int) (s : RcS) (f : F0) : crashStep (s.fl, ps.drop s.out.length) f = ((rcStep ps s f).fl, ps.drop (rcStep ps s f).out.length) := by
  unfold crashStep rcStep
  rw [rcName_keep]
  dsimp only
  by_cases h : (rcName ps s f).1 = false
  · rw [if_pos h, if_pos h, rcName_fl]
  · rw [if_neg h, if_neg h, rcMore_more]
    show (s.fl ++ [cutF f _], _) = ((rcMore ps (rcName ps s f).2 f).2.fl ++ [cutF f _], _)
    rw [rcMore_fl, rcName_fl]
    rfl
theorem rcT_crash : ∀ (l : List F0) (ps : List Int) (s : RcS), l.foldl crashStep (s.fl, ps.drop s.out.length) = ((l.foldl (rcStep ps) s).fl, ps.drop (l.foldl (rcStep ps) s).out.length)
  | [], _, _ => rfl
  | f :: l, ps, s => by
    rw [List.foldl_cons, List.foldl_cons, rc_crash]
    exact rcT_crash l ps (rcStep ps s f)
theorem rcT_files (d : Dk) (ps : List Int) : (rcT d.files ps).fl = (d.crash ps).files := by
  have := rcT_crash d.files ps ⟨[], [], []⟩
  show _ = (d.files.foldl crashStep ([], ps)).1
  have e : ps.drop (⟨[], [], []⟩ : RcS).out.length = ps := rfl
  rw [e] at this
  rw [this]
  rfl
/-- the picks are those of the plain stop -/
theorem rc_plain (ps : List Int) (s : RcS) (f : F0) (w : List Nat) : ∃ w', (unsOf f).foldl plainStep ⟨s.out, w, ps.drop s.out.length⟩ = ⟨(rcStep ps s f).out, w', ps.drop (rcStep ps s f).out.length⟩ := by
  have key : plainStep ⟨s.out, w, ps.drop s.out.length⟩ (unsF f) = ⟨(rcStep ps s f).out, (plainStep ⟨s.out, w, ps.drop s.out.length⟩ (unsF f)).ways, ps.drop (rcStep ps s f).out.length⟩ := by
    unfold plainStep rcStep rcName rcMore rcFile
    by_cases hn : (unsF f).name = true
    · simp only [hn, if_true, nextP_drop]
      by_cases h0 : pickAt ps s.out.length 2 = 0
      · simp [h0]
      · by_cases hm : 0 < (unsF f).more
        · simp [h0, hm]
        · simp [h0, hm]
    · by_cases hm : 0 < (unsF f).more
      · simp [hn, hm, nextP_drop]
      · simp [hn, hm]
  by_cases hs : unsOf f = []
  · rw [hs]
    have h2 : (unsF f).name = false ∧ ¬ 0 < (unsF f).more := by
      unfold unsOf at hs
      split at hs
      · cases hs
      · rename_i h
        simp only [Bool.or_eq_true, decide_eq_true_eq, not_or, Bool.not_eq_true] at h
        exact h
    have e : (rcStep ps s f).out = s.out := by
      unfold rcStep rcName rcMore rcFile
      simp [h2.1, h2.2]
    rw [e]
    exact ⟨w, rfl⟩
  · have h1 : unsOf f = [unsF f] := by
      unfold unsOf at hs ⊢
      split
      · rfl
      · rename_i h2
        rw [if_neg h2] at hs
        exact absurd rfl hs
    rw [h1]
    exact ⟨_, key⟩
theorem rcT_plain : ∀ (l : List F0) (ps : List Int) (s : RcS) (w : List Nat), ∃ w', (unsT l).foldl plainStep ⟨s.out, w, ps.drop s.out.length⟩ = ⟨(l.foldl (rcStep ps) s).out, w', ps.drop (l.foldl (rcStep ps) s).out.length⟩
  | [], _, _, w => ⟨w, rfl⟩
  | f :: l, ps, s, w => by
    have e : unsT (f :: l) = unsOf f ++ unsT l := rfl
    obtain ⟨w', h⟩ := rc_plain ps s f w
    rw [e, List.foldl_append, h, List.foldl_cons]
    exact rcT_plain l ps (rcStep ps s f) w'
theorem rcT_out (d : Dk) (ps : List Int) : (rcT d.files ps).out = (plainT (unsT d.files) ps).out := by
  obtain ⟨w', h⟩ := rcT_plain d.files ps ⟨[], [], []⟩ []
  have e : ps.drop (⟨[], [], []⟩ : RcS).out.length = ps := rfl
  rw [e] at h
  show _ = ((unsT d.files).foldl plainStep ⟨[], [], ps⟩).out
  rw [h]
  rfl
theorem rcStep_len (ps : List Int) (s : RcS) (f : F0) : (rcStep ps s f).out.length ≤ s.out.length + 2 ∧ (rcStep ps s f).of.length ≤ s.of.length + 2 ∧ (rcStep ps s f).fl.length ≤ s.fl.length + 1 := by
  have h1 : (rcName ps s f).2.out.length ≤ s.out.length + 1 ∧ (rcName ps s f).2.of.length ≤ s.of.length + 1 ∧ (rcName ps s f).2.fl.length = s.fl.length := by
    unfold rcName
    split <;> simp
  have h2 : ∀ s : RcS, (rcMore ps s f).2.out.length ≤ s.out.length + 1 ∧ (rcMore ps s f).2.of.length ≤ s.of.length + 1 ∧ (rcMore ps s f).2.fl.length = s.fl.length := fun s => by
    unfold rcMore
    split <;> simp
  have h3 := h2 (rcName ps s f).2
  unfold rcStep
  split
  · omega
  · show (rcMore ps (rcName ps s f).2 f).2.out.length ≤ _ ∧ (rcMore ps (rcName ps s f).2 f).2.of.length ≤ _ ∧ ((rcMore ps (rcName ps s f).2 f).2.fl ++ [_]).length ≤ _
    rw [List.length_append]
    simp only [List.length_cons, List.length_nil]
    omega
theorem rcT_len : ∀ (l : List F0) (ps : List Int) (s : RcS), (l.foldl (rcStep ps) s).out.length ≤ s.out.length + 2 * l.length ∧ (l.foldl (rcStep ps) s).of.length ≤ s.of.length + 2 * l.length ∧ (l.foldl (rcStep ps) s).fl.length ≤ s.fl.length + l.length
  | [], _, _ => ⟨Nat.le_refl _, Nat.le_refl _, Nat.le_refl _⟩
  | f :: l, ps, s => by
    have h1 := rcT_len l ps (rcStep ps s f)
    have h2 := rcStep_len ps s f
    rw [List.foldl_cons, List.length_cons]
    omega
/-- how it lies -/
structure RcI (w W : World) (b9 : Nat) (pv ov fv : Value) (s : RcS) : Prop where
  prow : rowAt W 3 1 pv s.out.length (natCells s.out)
  orow : rowAt W 3 1 ov s.of.length (natCells s.of)
  apart : ∀ k, pv.ownBlock = some k → ov.ownBlock ≠ some k
  plow : ∀ k, pv.ownBlock = some k → w.heap.size ≤ k
  olow : ∀ k, ov.ownBlock = some k → w.heap.size ≤ k
  box : W.heap[b9]? = some (.cells #[fv, .slice none 0 0, .int .i64 0] 198 (0, 0))
  files : NewRow w W fv s.fl
  low : w.heap.size ≤ b9
section
variable {w W W' w3 : World} {b9 m : Nat} {pv ov fv : Value} {s : RcS}
theorem RcI.kept (h : RcI w W b9 pv ov fv s) (hb : Below W.heap.size W W') : RcI w W' b9 pv ov fv s :=
  ⟨h.prow.kept (fun k hk => hb.block k (h.prow.lt k hk)), h.orow.kept (fun k hk => hb.block k (h.orow.lt k hk)), h.apart, h.plow, h.olow, (hb.block b9 (Array.getElem?_eq_some_iff.1 h.box).1).trans h.box, h.files.kept hb, h.low⟩
theorem RcI.boxlt (h : RcI w W b9 pv ov fv s) : b9 < W.heap.size := (Array.getElem?_eq_some_iff.1 h.box).1
/-- what an append to a row of numbers leaves -/
theorem grown_other {v : Value} {o : Obj} (hg : (W.alloc o).grownBy w3 v.ownBlock) : ∀ k, k < W.heap.size → v.ownBlock ≠ some k → w3.heap[k]? = W.heap[k]? := fun k hk hne =>
  (hg.block k (by simp; omega) (fun e => hne e.symm)).trans (Below.heap_alloc _ _ k hk)
theorem RcI.others {v : Value} {n : Nat} {xs : List Value} {o : Obj} (h : RcI w W b9 pv ov fv s) (hr : rowAt W 3 1 v n xs) (hlow : ∀ k, v.ownBlock = some k → w.heap.size ≤ k) (hg : (W.alloc o).grownBy w3 v.ownBlock) :
    w3.heap[b9]? = some (.cells #[fv, .slice none 0 0, .int .i64 0] 198 (0, 0)) ∧ NewRow w w3 fv s.fl := by
  have hk := grown_other hg
  refine ⟨(hk b9 h.boxlt (fun e => absurd (row_type hr e h.box) (by decide))).trans h.box, h.files.row.kept (fun k hk1 => hk k (h.files.row.lt k hk1) (fun e => ?_)), h.files.own, ?_⟩
  · rcases h.files.row.2 with ⟨hv, _⟩ | ⟨g, off, cap, cur, fr, hv, hgg, _⟩
    · rw [hv] at hk1
      simp [Value.ownBlock] at hk1
    · rw [hv] at hk1
      simp only [Value.ownBlock, Option.some.injEq] at hk1
      subst hk1
      exact absurd (row_type hr e hgg) (by decide)
  · have hal := h.files.below.alloc h.files.below.size o
    exact hal.grown hg hal.size (fun k hk => hlow k hk)
theorem RcI.plain {oa oa3 : Option Addr} {c c3 x : Nat} {o : Obj} (h : RcI w W b9 (.slice oa m c) ov fv s) (hm : s.out.length = m) (hr : rowAt w3 3 1 (.slice oa3 (m + 1) c3) (m + 1) (natCells s.out ++ [.int .i64 (x : Int)])) (hg : (W.alloc o).grownBy w3 (Value.slice oa m c).ownBlock)
    (hw : (Value.slice oa3 (m + 1) c3).ownBlock = (Value.slice oa m c).ownBlock ∨ (Value.slice oa3 (m + 1) c3).ownBlock = some (W.heap.size + 1)) : RcI w w3 b9 (.slice oa3 (m + 1) c3) ov fv ⟨s.fl, s.out ++ [x], s.of⟩ := by
  obtain ⟨h1, h2⟩ := h.others h.prow h.plow hg
  have hk := grown_other hg
  have hsz := h.files.below.size
  refine ⟨?_, h.orow.kept (fun k hk1 => hk k (h.orow.lt k hk1) (fun e => h.apart k e hk1)), fun k hk1 hk2 => ?_, fun k hk1 => ?_, h.olow, h1, h2, h.low⟩
  · rw [natCells_append, List.length_append, hm]
    exact hr
  · rcases hw with e | e
    · exact h.apart k (by rw [← e]; exact hk1) hk2
    · rw [hk1] at e
      simp only [Option.some.injEq] at e
      have := h.orow.lt k hk2
      omega
  · rcases hw with e | e
    · exact h.plow k (by rw [← e]; exact hk1)
    · rw [hk1] at e
      simp only [Option.some.injEq] at e
      omega
theorem RcI.ofs {oa oa3 : Option Addr} {c c3 x : Nat} {o : Obj} (h : RcI w W b9 pv (.slice oa m c) fv s) (hm : s.of.length = m) (hr : rowAt w3 3 1 (.slice oa3 (m + 1) c3) (m + 1) (natCells s.of ++ [.int .i64 (x : Int)])) (hg : (W.alloc o).grownBy w3 (Value.slice oa m c).ownBlock)
    (hw : (Value.slice oa3 (m + 1) c3).ownBlock = (Value.slice oa m c).ownBlock ∨ (Value.slice oa3 (m + 1) c3).ownBlock = some (W.heap.size + 1)) : RcI w w3 b9 pv (.slice oa3 (m + 1) c3) fv ⟨s.fl, s.out, s.of ++ [x]⟩ := by
  obtain ⟨h1, h2⟩ := h.others h.orow h.olow hg
  have hk := grown_other hg
  have hsz := h.files.below.size
  refine ⟨h.prow.kept (fun k hk1 => hk k (h.prow.lt k hk1) (fun e => h.apart k hk1 e)), ?_, fun k hk1 hk2 => ?_, h.plow, fun k hk1 => ?_, h1, h2, h.low⟩
  · rw [natCells_append, List.length_append, hm]
    exact hr
  · rcases hw with e | e
    · exact h.apart k hk1 (by rw [← e]; exact hk2)
    · rw [hk2] at e
      simp only [Option.some.injEq] at e
      have := h.prow.lt k hk1
      omega
  · rcases hw with e | e
    · exact h.olow k (by rw [← e]; exact hk1)
    · rw [hk1] at e
      simp only [Option.some.injEq] at e
      omega
end
end Go.Proofs.Ytmkjejngnahpeaa
/- The document's disk: Ways. -/
namespace Go.Proofs.Ytmkjejngnahpeaa
open Go Go.Maps Go.RowKit

/-- how many ways the document counts -/
def waysV (d : Dk) : Nat := match countT (unsT d.files) with
  | some c => c
  | none => 4611686018427387905
theorem ways_step {l : List F0} {j x : Nat} (hj : j < l.length) (h : countT (unsT (l.take j)) = some x) : countT (unsT (l.take (j + 1))) = if most62 / (unsF l[j]).ways < x then none else some (x * (unsF l[j]).ways) := by
  have e : unsT (l.take (j + 1)) = unsT (l.take j) ++ unsOf l[j] := by
    rw [List.take_succ_eq_append_getElem hj, unsT_append]
    simp [unsT]
  have hx := countT_most h
  unfold countT at h ⊢
  rw [e, List.foldl_append, h]
  by_cases hs : unsOf l[j] = []
  · have h1 : (unsF l[j]).ways = 1 := by
      unfold unsOf at hs
      split at hs
      · cases hs
      · rename_i h2
        simp only [Bool.or_eq_true, decide_eq_true_eq, not_or, Bool.not_eq_true] at h2
        unfold U0.ways
        rw [h2.1, if_neg (by simp)]
        omega
    rw [hs, h1, Nat.div_one, if_neg (by omega), Nat.mul_one]
    rfl
  · have h1 : unsOf l[j] = [unsF l[j]] := by
      unfold unsOf at hs ⊢
      split
      · rfl
      · rename_i h2
        rw [if_neg h2] at hs
        exact absurd rfl hs
    rw [h1]
    rfl
theorem ways_none {l : List F0} {j : Nat} (h : countT (unsT (l.take j)) = none) : countT (unsT l) = none := by
  have e : unsT l = unsT (l.take j) ++ unsT (l.drop j) := by rw [← unsT_append, List.take_append_drop]
  unfold countT at h ⊢
  rw [e, List.foldl_append, h]
  exact count_none _
set_option maxRecDepth 100000 in
set_option maxHeartbeats 4000000 in
theorem refWays_b {w : World} {S : Nat → Prop} {p : Nat} {d : Dk} (h : RfAt w S p d) :
    Calls Try.prog 73 #[.pointer (some ⟨p, 0, none⟩), .int .i64 4611686018427387904] w fun e w' => e = .returned (.int .i64 (waysV d : Int)) ∧ Below w.heap.size w w' := by
  obtain ⟨rv, fv, h⟩ := h
  obtain ⟨oa, c, rfl, hnc⟩ := h.files.shape
  obtain ⟨N, hN⟩ : ∃ N, d.files.length = N := ⟨_, rfl⟩
  have hN4 : N ≤ 4096 := by rw [← hN]; exact h.few
  have hrow := h.files
  have hhd := h.head
  rw [hN] at hrow hhd
  have H := Lib.hid (And.intro hhd (And.intro hrow h.sizes))
  have HN := Lib.hid hN
  clear h hrow hhd hN hnc
  go_enter Try.func73, Try.ntmps73
  go_wp2_with fail
  go_loopw [5, 6] (fun s i wr => ∃ (j x : Nat), j ≤ N ∧ i = .int .i64 j ∧ s = .int .i64 x ∧ Hid (countT (unsT (d.files.take j)) = some x) ∧ Hid (Below w.heap.size w wr)) (fun _ i wr => N - (intOf i).toNat)
  case atStart => exact ⟨0, 1, Nat.zero_le _, rfl, rfl, Lib.hid (by simp [countT, unsT]), Lib.hid (Below.refl _ _)⟩
  case round =>
    obtain ⟨j, x, hj, rfl, rfl, HC, HB⟩ := hrel
    have c0 : wr.cell? ⟨p, 0, none⟩ = some (.slice oa N c) := cell_of ((HB.out.block p (Array.getElem?_eq_some_iff.1 H.out.1).1).trans H.out.1) rfl
    by_cases hlt : j < N
    · have hjf : j < d.files.length := by rw [HN.out]; exact hlt
      have hrw := H.out.2.1.kept (fun k hk => HB.out.block k (H.out.2.1.lt k hk))
      obtain ⟨g, off, rfl⟩ := hrw.addr (by omega)
      obtain ⟨f, hf⟩ : ∃ x, d.files[j] = x := ⟨_, rfl⟩
      have hsz := H.out.2.2 f (by rw [← hf]; exact List.getElem_mem _)
      obtain ⟨x0, hx0⟩ : ∃ a : ByteArray, a = ⟨f.name.toArray⟩ := ⟨_, rfl⟩
      obtain ⟨x1, hx1⟩ : ∃ a : ByteArray, a = ⟨f.bytes.toArray⟩ := ⟨_, rfl⟩
      obtain ⟨la, hx2⟩ : ∃ a : Nat, a = f.lasts := ⟨_, rfl⟩
      obtain ⟨x3, hx3⟩ : ∃ a, a = f.there := ⟨_, rfl⟩
      obtain ⟨x4, hx4⟩ : ∃ a, a = f.named := ⟨_, rfl⟩
      have hlb : x1.size = f.bytes.length := by rw [hx1]; rfl
      have hxc : rfFile f = [.string x0, .string x1, .int .i64 la, .bool x3, .bool x4] := by
        unfold rfFile
        rw [hx0, hx1, hx2, hx3, hx4]
      have k0 : wr.cell? ⟨g, off + j * 5, none⟩ = some (.string x0) := rf_cell (i := 0) hrw hjf (by omega) (by rw [hf, hxc]; rfl)
      have k1 : wr.cell? ⟨g, off + j * 5 + 1, none⟩ = some (.string x1) := rf_cell (i := 1) hrw hjf (by omega) (by rw [hf, hxc]; rfl)
      have k2 : wr.cell? ⟨g, off + j * 5 + 2, none⟩ = some (.int .i64 la) := rf_cell (i := 2) hrw hjf (by omega) (by rw [hf, hxc]; rfl)
      have k3 : wr.cell? ⟨g, off + j * 5 + 3, none⟩ = some (.bool x3) := rf_cell (i := 3) hrw hjf (by omega) (by rw [hf, hxc]; rfl)
      have k4 : wr.cell? ⟨g, off + j * 5 + 4, none⟩ = some (.bool x4) := rf_cell (i := 4) hrw hjf (by omega) (by rw [hf, hxc]; rfl)
      obtain ⟨W, hW⟩ : ∃ W, (unsF f).ways = W := ⟨_, rfl⟩
      have hst := ways_step hjf HC.out
      rw [hf, hW] at hst
      have HST := Lib.hid hst
      have hWp : 1 ≤ W := by rw [← hW]; exact U0.ways_pos _
      have hwe : W = (if x3 = true then x1.size - la else 0) + 1 + (if (!x3 || !x4) = true then 1 else 0) := by
        rw [← hW, hlb, hx2, hx3, hx4]
        rfl
      have hls : la ≤ x1.size ∧ x1.size ≤ 16777216 := by rw [hlb, hx2]; exact hsz
      have hWm : W ≤ 16777218 := by
        rw [hwe]
        split <;> split <;> omega
      have HWE := Lib.hid hwe
      have hxm := countT_most HC.out
      obtain ⟨lb, hlbe⟩ : ∃ b, x1.size = b := ⟨_, rfl⟩
      rw [hlbe] at hls HWE
      have HIB := Lib.hid (And.intro HB.out (show j < N from hlt))
      clear hst hW hwe hf hsz hx0 hx1 hx2 hx3 hx4 hlb hxc hrw hjf
      go_upto_region 7 with fail
      obtain ⟨w6, hw6⟩ : ∃ V : World, V = wr.alloc (.cells #[.string x0, .string x1, .int .i64 la, .bool x3, .bool x4] 200) := ⟨_, rfl⟩
      obtain ⟨b7, hb7⟩ : ∃ b, b = wr.heap.size := ⟨_, rfl⟩
      have h6 : w6.heap[b7]? = some (.cells #[.string x0, .string x1, .int .i64 la, .bool x3, .bool x4] 200 (0, 0)) := by rw [hw6, hb7]; exact alloc_cells _ _ _
      have hb6 : Below wr.heap.size wr w6 := by rw [hw6]; exact (Below.refl _ _).alloc (Nat.le_refl _) _
      have HB6 := Lib.hid (HB.out.trans (hb6.mono HB.out.size))
      have y1 : w6.cell? ⟨b7, 1, none⟩ = some (.string x1) := cell_of h6 rfl
      have y2 : w6.cell? ⟨b7, 2, none⟩ = some (.int .i64 la) := cell_of h6 rfl
      have y3 : w6.cell? ⟨b7, 3, none⟩ = some (.bool x3) := cell_of h6 rfl
      have y4 : w6.cell? ⟨b7, 4, none⟩ = some (.bool x4) := cell_of h6 rfl
      rw [← hw6, ← hb7]
      clear hw6 hb7 h6 hb6 k0 k1 k2 k3 k4 c0
      obtain ⟨z, hz⟩ : ∃ z : Nat, (if x3 = true then lb - la else 0) = z := ⟨_, rfl⟩
      go_upto_if 26 with fail
      go_cut [8] from 8 to 34 (fun s wx => s = .int .i64 (1 + (z : Int)) ∧ wx = w6)
      case first =>
        cases x3
        · have hz0 : z = 0 := by rw [← hz]; rfl
          subst hz0
          go_wp2_with fail
          go_meet
          exact ⟨rfl, rfl⟩
        · have hzl : z = lb - la := by rw [← hz]; rfl
          go_wp2_with fail
          go_meet
          refine ⟨?_, rfl⟩
          congr 1
          omega
      case rest =>
        obtain ⟨rfl, hwx⟩ := hcut
        rw [hwx]
        clear hwx
        have hzW : W = z + 1 + (if (!x3 || !x4) = true then 1 else 0) := by rw [HWE.out, hz]
        have HZW := Lib.hid hzW
        clear hz hzW
        obtain ⟨bn, hbn⟩ : ∃ b, (!x3 || !x4) = b := ⟨_, rfl⟩
        go_upto_region 9 with fail
        go_cut [42] from 35 to 42 (fun s wx => s = .bool bn ∧ wx = w6)
        case first =>
          cases x3 <;> cases x4 <;> (subst hbn; go_wp2_with fail; go_meet; exact ⟨rfl, rfl⟩)
        case rest =>
          rw [hbn] at HZW
          obtain ⟨rfl, hwx⟩ := hcut
          rw [hwx]
          clear hbn hwx y3 y4
          go_upto_if 42 with fail
          go_cut [8] from 43 to 44 (fun s wx => s = .int .i64 (W : Int) ∧ wx = w6)
          case first =>
            have hz := HZW.out
            cases bn
            · rw [if_neg (by simp)] at hz
              go_wp2_with fail
              go_meet
              refine ⟨?_, rfl⟩
              congr 1
              omega
            · rw [if_pos rfl] at hz
              go_wp2_with fail
              go_meet
              refine ⟨?_, rfl⟩
              congr 1
              omega
          case rest =>
            obtain ⟨rfl, hwx⟩ := hcut
            rw [hwx]
            clear hwx
            have hq : (4611686018427387904 : Int) / (W : Int) = ((most62 / W : Nat) : Int) := by rw [Int.natCast_ediv]; rfl
            by_cases hbig : most62 / W < x
            · have hd : decide ((4611686018427387904 : Int) / (W : Int) < (x : Int)) = true := decide_eq_true (by rw [hq]; omega)
              have HE : Hid (countT (unsT d.files) = none) := Lib.hid (ways_none (j := j + 1) (by rw [HST.out, if_pos hbig]))
              clear hq
              go_wp2_with fail
              go_ret
              exact ⟨by unfold waysV; rw [HE.out]; rfl, HB6.out⟩
            · have hd : decide ((4611686018427387904 : Int) / (W : Int) < (x : Int)) = false := decide_eq_false (by rw [hq]; omega)
              have hkw : x * W ≤ most62 := Nat.le_trans (Nat.mul_le_mul_right _ (by omega)) (Nat.div_mul_le_self _ _)
              obtain ⟨kw, hkwe⟩ : ∃ m, x * W = m := ⟨_, rfl⟩
              have hmul : (x : Int) * (W : Int) = (kw : Int) := by rw [← hkwe]; exact (Int.natCast_mul x W).symm
              have HE : Hid (countT (unsT (d.files.take (j + 1))) = some kw) := Lib.hid (by rw [HST.out, if_neg hbig, hkwe])
              rw [hkwe] at hkw
              unfold most62 at hkw
              clear hq hkwe hbig
              go_wp2_with fail
              exact ⟨⟨j + 1, kw, by omega, by simp, by simp, HE, HB6⟩, by simp [intOf]; omega⟩
    · obtain rfl : j = N := by omega
      have HE : Hid (countT (unsT d.files) = some x) := Lib.hid (by
        have h1 := HC.out
        rwa [List.take_of_length_le (by rw [HN.out]; exact Nat.le_refl _)] at h1)
      go_wp2_with fail
      go_ret
      exact ⟨by unfold waysV; rw [HE.out]; rfl, HB.out⟩
end Go.Proofs.Ytmkjejngnahpeaa
