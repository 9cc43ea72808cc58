/- The texts Mw, Mx, My, Kitf, Kz in one. -/
import Derived.Test.YtmkjejngnahpeaaV11
import Derived.Test.YtmkjejngnahpeaaV12
import Derived.Deep.RegionHeld3
import Derived.ControlIn
import Derived.Scope
import Derived.WalkMore
import Derived.Test.YtmkjejngnahpeaaV10
/- segment: all records of its batches; what a Read collects (plain). -/
namespace Go.Proofs.Ytmkjejngnahpeaa
open Go Go.RowKit

/-- all records of batches, in order -/
def recsT (bs : List Bat) : List Rc := bs.flatMap (·.2)
theorem recsT_len (bs : List Bat) : (recsT bs).length = cntT bs := by
  unfold recsT cntT
  rw [List.length_flatMap]
theorem recsT_append (a b : List Bat) : recsT (a ++ b) = recsT a ++ recsT b := by unfold recsT; rw [List.flatMap_append]
theorem recsT_split (bs : List Bat) (j : Nat) : recsT bs = recsT (bs.take j) ++ recsT (bs.drop j) := by rw [← recsT_append, List.take_append_drop]
/-- the records ahead of a place within a batch -/
theorem recsT_take {bs : List Bat} {j i : Nat} (h : j < bs.length) (hi : i ≤ bs[j].2.length) : (recsT bs).take (cntT (bs.take j) + i) = recsT (bs.take j) ++ bs[j].2.take i := by
  have e : recsT bs = recsT (bs.take j) ++ (bs[j].2 ++ recsT (bs.drop (j + 1))) := by
    rw [recsT_split bs j]
    congr 1
    rw [List.drop_eq_getElem_cons h]
    rfl
  rw [e, ← recsT_len, List.take_append, List.take_of_length_le (by omega), Nat.add_sub_cancel_left, List.take_append_of_le_length hi]
theorem recsT_get {bs : List Bat} {j i : Nat} (h : j < bs.length) (hi : i < bs[j].2.length) : (recsT bs)[cntT (bs.take j) + i]? = some bs[j].2[i] := by
  have e : recsT bs = recsT (bs.take j) ++ (bs[j].2 ++ recsT (bs.drop (j + 1))) := by
    rw [recsT_split bs j]
    congr 1
    rw [List.drop_eq_getElem_cons h]
    rfl
  rw [e, ← recsT_len, List.getElem?_append_right (by omega), Nat.add_sub_cancel_left, List.getElem?_append_left hi, List.getElem?_eq_getElem hi]
theorem bats_drop (bs : List Bat) (j : Nat) : (batsT bs).drop (posT bs j) = batsT (bs.drop j) := by
  rw [bats_split bs j]
  exact List.drop_left' rfl
/-- what has been collected when k records have been gone past, from the i-th on -/
def gotT (R : List Rc) (i k : Nat) : List Rc := (R.take k).drop i
theorem gotT_none {R : List Rc} {i k : Nat} (h : k ≤ i) : gotT R i k = [] := by
  unfold gotT
  rw [List.drop_eq_nil_iff, List.length_take]
  omega
theorem gotT_skip {R : List Rc} {i k : Nat} (h : k < i) : gotT R i (k + 1) = gotT R i k := by
  rw [gotT_none (by omega), gotT_none (by omega)]
theorem gotT_step {R : List Rc} {i k : Nat} {r : Rc} (h : i ≤ k) (hr : R[k]? = some r) : gotT R i (k + 1) = gotT R i k ++ [r] := by
  obtain ⟨hk, rfl⟩ := List.getElem?_eq_some_iff.1 hr
  unfold gotT
  rw [List.take_succ_eq_append_getElem hk, List.drop_append_of_le_length (by rw [List.length_take]; omega)]
theorem gotT_len {R : List Rc} {i k : Nat} (hk : k ≤ R.length) : (gotT R i k).length = k - i := by
  unfold gotT
  rw [List.length_drop, List.length_take]
  omega
/-- what a Read answers -/
def readT (R : List Rc) (i u most : Nat) : List Rc := (R.drop i).take (min (u - i) most)
theorem gotT_fin {R : List Rc} {i u k most : Nat} (hu : u ≤ R.length) (hk : k ≤ u) (hl : (gotT R i k).length ≤ most) (he : k = u ∨ most ≤ (gotT R i k).length) : gotT R i k = readT R i u most := by
  rw [gotT_len (by omega)] at hl he
  unfold gotT readT
  rw [List.drop_take]
  congr 1
  omega
theorem readT_len {R : List Rc} {i u most : Nat} (hu : u ≤ R.length) : (readT R i u most).length = min (u - i) most := by
  unfold readT
  rw [List.length_take, List.length_drop]
  omega
end Go.Proofs.Ytmkjejngnahpeaa
/- segment: Batches. -/
namespace Go.Proofs.Ytmkjejngnahpeaa
open Go Go.RowKit
attribute [local go_sem] Oper.semAt_some

theorem DiskAt.has {w : World} {S : Nat → Prop} {q : Nat} {d : Dk} {s : List UInt8} {f : F0} (h : DiskAt w S q d) (hf : d.find s = some f) : f.name = s ∧ f ∈ d.files ∧ nameOk s = true ∧ f.bytes.length ≤ 16777216 := by
  obtain ⟨mb, fv, L, h⟩ := h
  unfold Dk.find Dk.at at hf
  obtain ⟨hg, -⟩ := Option.filter_eq_some_iff.1 hf
  have hm := List.mem_of_find?_eq_some hg
  have hn : f.name = s := by have := List.find?_some hg; simpa using this
  have hz : f.bytes.length ≤ 16777216 := by
    rw [← h.files] at hm
    obtain ⟨x, hx, rfl⟩ := List.mem_map.1 hm
    exact (h.each x hx).size
  exact ⟨hn, hm, by rw [← hn]; exact h.names f hm, hz⟩
section
variable {w : World} {S : Nat → Prop} {s x q : Nat} {nm : ByteArray} {bn step : Nat} {sv : Value} {sp : List Sp} {bs : List Bat} {d : Dk}
theorem SegI.long (h : SegI w S s x q nm bn step sv sp bs d) : (batsT bs).length ≤ 16777216 := by
  obtain ⟨f, hf, hb⟩ := h.file
  rw [← hb]
  exact (h.disk.has hf).2.2.2
theorem SegI.few (h : SegI w S s x q nm bn step sv sp bs d) : bs.length ≤ 524288 := by
  have h1 := h.long
  have h2 := bats_many bs h.chain.good
  omega
/-- what is read of its file from a place on -/
theorem SegI.reads (h : SegI w S s x q nm bn step sv sp bs d) {p : Nat} (hp : p ≤ (batsT bs).length) : d.read nm.data.toList (p : Int) (((batsT bs).length : Int) - (p : Int)) = ((batsT bs).drop p, 0) := by
  obtain ⟨f, hf, hb⟩ := h.file
  have hh := h.disk.has hf
  unfold Dk.read
  rw [if_neg (by rw [hh.2.2.1]; simp), hf]
  show (if _ then _ else _) = _
  rw [if_neg (by rw [hb]; omega), hb]
  congr 1
  rw [show ((p : Int)).toNat = p from rfl]
  refine List.take_of_length_le ?_
  rw [List.length_drop]
  omega
theorem holdB {w W W' : World} {s o1 o2 o3 : Nat} {x y z : Value} (h : W.cell? ⟨s, o1, none⟩ = some x ∧ W.cell? ⟨s, o2, none⟩ = some y ∧ W.cell? ⟨s, o3, none⟩ = some z ∧ Below w.heap.size w W ∧ s < W.heap.size) (hb : Below W.heap.size W W') :
    W'.cell? ⟨s, o1, none⟩ = some x ∧ W'.cell? ⟨s, o2, none⟩ = some y ∧ W'.cell? ⟨s, o3, none⟩ = some z ∧ Below w.heap.size w W' ∧ s < W'.heap.size :=
  ⟨(hb.cell (p := ⟨s, o1, none⟩) h.2.2.2.2).trans h.1, (hb.cell (p := ⟨s, o2, none⟩) h.2.2.2.2).trans h.2.1, (hb.cell (p := ⟨s, o3, none⟩) h.2.2.2.2).trans h.2.2.1, h.2.2.2.1.trans (hb.mono h.2.2.2.1.size), Nat.lt_of_lt_of_le h.2.2.2.2 hb.size⟩
theorem holdB_drew {w W : World} {s o1 o2 o3 : Nat} {x y z : Value} (h : W.cell? ⟨s, o1, none⟩ = some x ∧ W.cell? ⟨s, o2, none⟩ = some y ∧ W.cell? ⟨s, o3, none⟩ = some z ∧ Below w.heap.size w W ∧ s < W.heap.size) :
    W.drew.cell? ⟨s, o1, none⟩ = some x ∧ W.drew.cell? ⟨s, o2, none⟩ = some y ∧ W.drew.cell? ⟨s, o3, none⟩ = some z ∧ Below w.heap.size w W.drew ∧ s < W.drew.heap.size := holdB h ⟨rfl, rfl, rfl, Nat.le_refl _, fun _ _ => rfl⟩
set_option maxRecDepth 100000 in
set_option maxHeartbeats 2000000 in
theorem batchesS_b (h : SegI w S s x q nm bn step sv sp bs d) :
    Calls Try.prog 27 #[.pointer (some ⟨s, 0, none⟩)] w fun e w' => ∃ b1, e = .returned (.func (.func 150) #[] #[.pointer (some ⟨b1, 0, none⟩)]) ∧ AllOf w' b1 (batsT bs) ∧ Below w.heap.size w w' := by
  have k4 : w.cell? ⟨s, 4, none⟩ = some (.pointer (some ⟨q, 0, none⟩)) := cell_of h.head rfl
  have k5 : w.cell? ⟨s, 5, none⟩ = some (.string nm) := cell_of h.head rfl
  have k2 : w.cell? ⟨s, 2, none⟩ = some (.int .i64 ((batsT bs).length : Int)) := cell_of h.head rfl
  have hrd := h.reads (p := 0) (Nat.zero_le _)
  have hlong := h.long
  obtain ⟨z, hz⟩ : ∃ z, z = (batsT bs).length := ⟨_, rfl⟩
  have e0 : ((z : Int) - ((0 : Nat) : Int)) = (z : Int) := by omega
  rw [← hz, e0, List.drop_zero] at hrd
  rw [← hz] at k2 hlong
  have HR : Hid (∀ W, Below w.heap.size w W → Calls Try.prog 42 #[.pointer (some ⟨q, 0, none⟩), .string nm, .int .i64 0, .int .i64 (z : Int)] W fun e w' => ReadIs W (batsT bs, 0) e w') := Lib.hid (fun W hW => by
    have := read_b (h.disk.belowS hW) nm (Nat.le_trans h.nms (by decide)) ((0 : Nat) : Int) (z : Int) (by decide) (by omega)
    rw [hrd] at this
    exact this)
  have HN := Lib.hid (noneSeg_b k4)
  have hS : w.cell? ⟨s, 4, none⟩ = some (.pointer (some ⟨q, 0, none⟩)) ∧ w.cell? ⟨s, 5, none⟩ = some (.string nm) ∧ w.cell? ⟨s, 2, none⟩ = some (.int .i64 (z : Int)) ∧ Below w.heap.size w w ∧ s < w.heap.size := ⟨k4, k5, k2, Below.refl _ _, World.block_lt_of_cell? w _ k4⟩
  have HZ := Lib.hid (And.intro hz hlong)
  clear h k4 k5 k2 hrd e0 hz hlong
  go_enter Try.func27, Try.ntmps27
  go_wp2_with fail
  refine HN.out.mono ?_
  rintro e w2 ⟨rfl, hw2⟩
  obtain rfl := hw2.symm
  clear hw2
  go_wp2_with fail
  go_region_held3 (fun W => W.cell? ⟨s, 4, none⟩ = some (.pointer (some ⟨q, 0, none⟩)) ∧ W.cell? ⟨s, 5, none⟩ = some (.string nm) ∧ W.cell? ⟨s, 2, none⟩ = some (.int .i64 (z : Int)) ∧ Below w.heap.size w W ∧ s < W.heap.size)
    (first | assumption | exact holdB_drew (by assumption) | exact holdB (by assumption) hba)
    (first | (go_at_call 42; refine (HR.out _ (holdB_drew hS).2.2.2.1).mono ?_; rintro e wa ⟨v, rfl, hv, hvo, hba⟩))
  all_goals
    obtain ⟨oa, c, rfl, -⟩ := hv.shape
    have HB := Lib.hid (And.intro hv (And.intro hvo hba))
    have HA := Lib.hid (recAll_b rfl hv.read (by have := HZ.out; omega))
    rw [← HZ.out.1] at HA ⊢
    clear hv hvo hba hS
    go_wp2_with fail
    refine HA.out.mono ?_
    rintro e wb ⟨b1, rfl, hall, hb⟩
    have HX := Lib.hid (And.intro hall hb)
    clear hall hb
    go_wp2_with fail
    go_ret
    have h1 : Below w.heap.size w wa := (show Below w.heap.size w w.drew from ⟨rfl, rfl, rfl, Nat.le_refl _, fun _ _ => rfl⟩).trans HB.out.2.2
    exact ⟨b1, rfl, HX.out.1, h1.trans (HX.out.2.mono h1.size)⟩
end
end Go.Proofs.Ytmkjejngnahpeaa
/- records in blocks of which P holds; a box that holds such a slice; append to it. -/
namespace Go.Proofs.Ytmkjejngnahpeaa
open Go Go.RowKit
attribute [local go_sem] Oper.semAt_some

/-- records in blocks of which P holds -/
structure RowP (P : Nat → Prop) (W : World) (v : Value) (xs : List RcV) : Prop where
  row : rowAt W 154 3 v xs.length (recsCells xs)
  own : ∀ k, v.ownBlock = some k → P k
  each : ∀ x ∈ xs, rowAt W 5 1 x.kv x.r.key.length (byteCells x.r.key) ∧ rowAt W 5 1 x.vv x.r.val.length (byteCells x.r.val) ∧ (∀ k, x.kv.ownBlock = some k → P k) ∧ (∀ k, x.vv.ownBlock = some k → P k)
theorem RowP.nil (P : Nat → Prop) (W : World) : RowP P W (.slice none 0 0) [] := ⟨⟨rfl, .inl ⟨rfl, rfl⟩⟩, fun k hk => by simp [Value.ownBlock] at hk, fun x hx => (by cases hx)⟩
theorem RNew.rowP {n₀ : Nat} {W : World} {v : Value} {xs : List RcV} (h : RNew n₀ W v xs) : RowP (fun k => n₀ ≤ k) W v xs := ⟨h.row, h.own, h.each⟩
theorem NewR.rowP {w0 W : World} {v : Value} {xs : List RcV} (h : NewR w0 W v xs) : RowP (fun k => w0.heap.size ≤ k) W v xs := ⟨h.row, h.own, h.each⟩
section
variable {P Q : Nat → Prop} {W W' : World} {v : Value} {xs : List RcV}
theorem RowP.is (h : RowP P W v xs) : RecsIs W v xs := ⟨h.row.read, fun x hx => ⟨(h.each x hx).1.read, (h.each x hx).2.1.read⟩⟩
theorem RowP.mono (h : RowP P W v xs) (hP : ∀ k, k < W.heap.size → P k → Q k) : RowP Q W v xs :=
  ⟨h.row, fun k hk => hP k (h.row.lt k hk) (h.own k hk), fun x hx => by
    obtain ⟨h1, h2, h3, h4⟩ := h.each x hx
    exact ⟨h1, h2, fun k hk => hP k (h1.lt k hk) (h3 k hk), fun k hk => hP k (h2.lt k hk) (h4 k hk)⟩⟩
theorem RowP.kept (h : RowP P W v xs) (hk : ∀ k, k < W.heap.size → P k → W'.heap[k]? = W.heap[k]?) : RowP P W' v xs :=
  ⟨h.row.kept (fun k ho => hk k (h.row.lt k ho) (h.own k ho)), h.own, fun x hx => by
    obtain ⟨h1, h2, h3, h4⟩ := h.each x hx
    exact ⟨h1.kept (fun k ho => hk k (h1.lt k ho) (h3 k ho)), h2.kept (fun k ho => hk k (h2.lt k ho) (h4 k ho)), h3, h4⟩⟩
theorem RowP.only {X : Nat → Prop} (h : RowP P W v xs) (ho : Only X W W') (hX : ∀ k, X k → ¬ P k) : RowP P W' v xs :=
  h.kept (fun k hk hp => ho.block k hk (fun hx => hX k hx hp))
theorem RowP.later (h : RowP P W v xs) (hb : Below W.heap.size W W') : RowP P W' v xs := h.kept (fun k hk _ => hb.block k hk)
end
theorem recsCells_append (xs ys : List RcV) : recsCells (xs ++ ys) = recsCells xs ++ recsCells ys := by unfold recsCells; rw [List.flatMap_append]
/-- a box that holds records' slice -/
def OutI (V : World) (b : Nat) (P : Nat → Prop) (l : List Rc) : Prop :=
  ¬ P b ∧ ∃ oa n c xs, xs.map (·.r) = l ∧ xs.length = n ∧ V.heap[b]? = some (.cells #[.slice oa n c] 36 (0, 0)) ∧ RowP P V (.slice oa n c) xs
theorem OutI.kept {V V' : World} {b : Nat} {P X : Nat → Prop} {l : List Rc} (h : OutI V b P l) (ho : Only X V V') (hX : ∀ k, X k → ¬ P k ∧ k ≠ b) : OutI V' b P l := by
  obtain ⟨hn, oa, n, c, xs, h1, h2, h3, h4⟩ := h
  exact ⟨hn, oa, n, c, xs, h1, h2, (ho.block b (Array.getElem?_eq_some_iff.1 h3).1 (fun hx => (hX b hx).2 rfl)).trans h3, h4.only ho (fun k hx => (hX k hx).1)⟩
theorem OutI.later {V V' : World} {b : Nat} {P : Nat → Prop} {l : List Rc} (h : OutI V b P l) (hb : Below V.heap.size V V') : OutI V' b P l :=
  h.kept (Only.of_below hb (Nat.le_refl _) (fun _ => False)) (fun _ hf => hf.elim)
theorem OutI.mono {V : World} {b : Nat} {P Q : Nat → Prop} {l : List Rc} (h : OutI V b P l) (hP : ∀ k, k < V.heap.size → P k → Q k) (hb : ¬ Q b) : OutI V b Q l := by
  obtain ⟨hn, oa, n, c, xs, h1, h2, h3, h4⟩ := h
  exact ⟨hb, oa, n, c, xs, h1, h2, h3, h4.mono hP⟩
/-- more records are appended to a box' slice -/
theorem out_step {V V1 w3 : World} {b n c m c3 : Nat} {oa oa3 : Option Addr} {P : Nat → Prop} {xs ys : List RcV} (h : RowP P V (.slice oa n c) xs) (hn : xs.length = n) (hm : ys.length = m) (hbx : V.heap[b]? = some (.cells #[.slice oa n c] 36 (0, 0))) (hnb : ¬ P b)
    (hys : ∀ x ∈ ys, rowAt V 5 1 x.kv x.r.key.length (byteCells x.r.key) ∧ rowAt V 5 1 x.vv x.r.val.length (byteCells x.r.val) ∧ (∀ k, x.kv.ownBlock = some k → P k) ∧ (∀ k, x.vv.ownBlock = some k → P k))
    (hP : ∀ k, V.heap.size ≤ k → P k) (hV : Below V.heap.size V V1)
    (hr : rowAt w3 154 3 (.slice oa3 (n + m) c3) (n + m) (recsCells xs ++ recsCells ys)) (hg : V1.grownBy w3 (Value.slice oa n c).ownBlock) (ho : (Value.slice oa3 (n + m) c3).ownBlock = (Value.slice oa n c).ownBlock ∨ (Value.slice oa3 (n + m) c3).ownBlock = some V1.heap.size) :
    w3.heap[b]? = some (.cells #[.slice oa n c] 36 (0, 0)) ∧ Only P V w3 ∧ (w3.setCell ⟨b, 0, none⟩ (.slice oa3 (n + m) c3)).heap[b]? = some (.cells #[.slice oa3 (n + m) c3] 36 (0, 0)) ∧ RowP P (w3.setCell ⟨b, 0, none⟩ (.slice oa3 (n + m) c3)) (.slice oa3 (n + m) c3) (xs ++ ys) := by
  subst hn
  subst hm
  have hlt := (Array.getElem?_eq_some_iff.1 hbx).1
  have hov : Only (fun k => (Value.slice oa xs.length c).ownBlock = some k) V w3 := (Only.of_below hV (Nat.le_refl _) _).trans (Only.of_grown hg (fun k hk => hk)) (fun _ _ h => h)
  have hoP : Only P V w3 := hov.mono (fun k _ e => h.own k e)
  have hb3 := (hov.block b hlt (fun e => hnb (h.own b e))).trans hbx
  have keep : ∀ {u : Value} {k : Nat} {cs : List Value}, rowAt V 5 1 u k cs → rowAt w3 5 1 u k cs := fun {u k cs} hu => hu.kept (fun i hi => hov.block i (hu.lt i hi) (hu.types h.row (by decide) hi))
  have hset : ∀ k, k ≠ b → (w3.setCell ⟨b, 0, none⟩ (.slice oa3 (xs.length + ys.length) c3)).heap[k]? = w3.heap[k]? := fun k hk => Below.heap_setCell _ _ _ _ hk
  have h3 : RowP P w3 (.slice oa3 (xs.length + ys.length) c3) (xs ++ ys) := by
    refine ⟨?_, fun k hk => ?_, fun x hx => ?_⟩
    · rw [recsCells_append, List.length_append]
      exact hr
    · rcases ho with e | e
      · exact h.own k (by rw [← e]; exact hk)
      · rw [hk] at e
        simp only [Option.some.injEq] at e
        exact hP k (by have := hV.size; omega)
    · rcases List.mem_append.1 hx with hx | hx
      · obtain ⟨g1, g2, g3, g4⟩ := h.each x hx
        exact ⟨keep g1, keep g2, g3, g4⟩
      · obtain ⟨g1, g2, g3, g4⟩ := hys x hx
        exact ⟨keep g1, keep g2, g3, g4⟩
  exact ⟨hb3, hoP, heap_setCell_here _ hb3, h3.kept (fun k _ hp => hset k (fun e => hnb (e ▸ hp)))⟩
theorem one_rowR (w : World) (e : TypeId) (size : Nat) (ys : List Value) (hy : ys.length = size) : rowAt (w.alloc (.cells ys.toArray e)) e size (.slice (some ⟨w.heap.size, 0, none⟩) 1 1) 1 ys :=
  ⟨by simp [hy], .inr ⟨_, 0, 1, _, _, rfl, alloc_cells _ _ _, Nat.le_refl _, by unfold maxLen; omega, by simp [hy], freeRow_zero _, by subst hy; simp⟩⟩
theorem one_rec (y : RcV) : recsCells [y] = recCells y := by unfold recsCells; simp
theorem recsCells_len (ys : List RcV) : (recsCells ys).length = ys.length * 3 := by
  unfold recsCells
  induction ys with
  | nil => rfl
  | cons a t ih =>
    rw [List.flatMap_cons, List.length_append, ih, List.length_cons]
    show 3 + _ = _
    omega
theorem slice_one {w : World} {e : TypeId} {s n : Nat} {v : Value} {xs : List Value} (h : rowAt w e s v n xs) : v.oneCell' = true := by
  obtain ⟨oa, c, rfl, -⟩ := h.shape
  rfl
theorem slice_one' {w : World} {s n : Nat} {v : Value} {xs : List Value} (h : readAt w s v n xs) : v.oneCell' = true := by
  rcases h.2 with ⟨-, oa, cap, rfl, -⟩ | ⟨g, off, c, rfl, -⟩
  · rfl
  · rfl
/-- all records of a list are appended, in fenced words -/
theorem wpListIn_append_recs {F : Fence} {n : Nat} {w2 : World} {ops : Array Oper} {rest : List Oper} {o : Oper} {a : Act} {Q : Exit → Act → World → Prop} (hgd : o.guard = none) (s x : Operand)
    (ho : o.op = .call { callee := .builtin .append, args := #[s, x], argTypes := #[36, 36] })
    {oa ob : Option Addr} {m c k d : Nat} {xs ys : List RcV} {P : Nat → Prop} (h : RowP P w2 (.slice oa m c) xs) (hxm : xs.length = m) (hm : m ≤ 100000000) (hy : RecsIs w2 (.slice ob k d) ys) (hyk : ys.length = k) (hk : k ≤ 100000000)
    (hs : a.eval s = .slice oa m c) (hx : a.eval x = .slice ob k d)
    (hK : ∀ oa3 c3 w3, Hid (rowAt w3 154 3 (.slice oa3 (m + k) c3) (m + k) (recsCells xs ++ recsCells ys)) → Hid (w2.grownBy w3 (Value.slice oa m c).ownBlock) →
      Hid ((Value.slice oa3 (m + k) c3).ownBlock = (Value.slice oa m c).ownBlock ∨ (Value.slice oa3 (m + k) c3).ownBlock = some w2.heap.size) → wpListIn F n Try.prog ops Q rest (a.put o.dst (.slice oa3 (m + k) c3)) w3) :
    wpListIn F n Try.prog ops Q (o :: rest) a w2 := by
  subst hxm
  subst hyk
  have h1 : ∀ v ∈ recsCells ys, v.oneCell' = true := fun v hv => by
    unfold recsCells at hv
    obtain ⟨y, hym, hv⟩ := List.mem_flatMap.1 hv
    obtain ⟨e1, e2⟩ := hy.each y hym
    simp only [recCells, List.mem_cons, List.not_mem_nil, or_false] at hv
    rcases hv with rfl | rfl | rfl
    · rfl
    · exact slice_one' e1
    · exact slice_one' e2
  refine wpListIn_plain hgd fun K hK' => ?_
  obtain ⟨i, hi, hz, hsz, hbi⟩ := info_parts info_rc
  obtain ⟨v', w3, hrun, r1, r2, r3, r4⟩ := run_append_at (P := Try.prog) w2 36 36 o.type 154 i _ 3 56 Try.underlying36 hi hz hsz hbi rfl _ xs.length (recsCells xs) h.row _ ys.length (recsCells ys) (Src.of_read Try.underlying36 hy.row h1) (by unfold maxLen; omega) (by omega)
  obtain ⟨oa3, c3, rfl, _⟩ := r1.shape
  unfold Oper.wpIn
  refine ⟨?_, ?_⟩
  · simp [Oper.about, ho, resolve, Target.leads, Sem.run_pure]
  · rw [Oper.semAt_plain F _ _ (by rw [ho]; intro c hc'; cases hc')]
    simp [execOp, ho, resolve, invoke, builtin, hs, hx, hrun, Result.andThen]
    exact hK' _ _ (hK oa3 c3 w3 (Lib.hid r1) (Lib.hid r2) (Lib.hid (by simpa using r3)))
/-- what a round over a list of batches has, and keeps -/
structure GotI (w5 V : World) (b n7 : Nat) (T : Nat → Prop) (l : List Rc) : Prop where
  out : OutI V b (fun a => n7 + 2 ≤ a ∧ ¬ T a) l
  below : Below w5.heap.size w5 V
  low : ∀ a, T a → n7 + 2 ≤ a
  hb : w5.heap.size ≤ b ∧ b < n7
theorem GotI.kept {w5 A B : World} {b n7 : Nat} {T P : Nat → Prop} {l : List Rc} (h : GotI w5 A b n7 T l) (ho : Only P A B) (hP : ∀ i, P i → T i ∨ i = n7 ∨ i = n7 + 1) : GotI w5 B b n7 T l := by
  have hb := h.hb
  have no : ∀ i, P i → n7 ≤ i ∧ ¬ (n7 + 2 ≤ i ∧ ¬ T i) := fun i hi => by
    rcases hP i hi with e | e | e
    · exact ⟨by have := h.low i e; omega, fun hh => hh.2 e⟩
    · exact ⟨by omega, fun hh => by omega⟩
    · exact ⟨by omega, fun hh => by omega⟩
  exact ⟨h.out.kept ho (fun k hk => ⟨(no k hk).2, by have := (no k hk).1; omega⟩), h.below.trans (ho.below (fun i hi hp => by have := (no i hp).1; omega) h.below.size), h.low, hb⟩
theorem GotI.later {w5 A B : World} {b n7 : Nat} {T : Nat → Prop} {l : List Rc} (h : GotI w5 A b n7 T l) (hb : Below A.heap.size A B) : GotI w5 B b n7 T l :=
  h.kept (P := fun _ => False) (Only.of_below hb (Nat.le_refl _) _) (fun _ hf => hf.elim)
/-- what holds while a batch' records are gone over -/
structure InI (w5 W2 V : World) (b n7 lo hi : Nat) (T : Nat → Prop) (l : List Rc) (oa : Option Addr) (n c : Nat) (ys : List RcV) : Prop where
  rec' : ys.map (·.r) = l
  len : ys.length = n
  box : V.heap[b]? = some (.cells #[.slice oa n c] 36 (0, 0))
  row : RowP (fun a => n7 + 2 ≤ a ∧ ¬ T a) V (.slice oa n c) ys
  win : ∀ k, (Value.slice oa n c).ownBlock = some k → k < lo ∨ hi ≤ k
  below : Below w5.heap.size w5 V
  low : ∀ a, T a → n7 + 2 ≤ a
  hb : w5.heap.size ≤ b ∧ b < n7
  kept : Only (fun k => (k = b ∨ n7 ≤ k) ∧ ¬ (T k ∨ k = n7 ∨ k = n7 + 1)) W2 V
  old : ∀ k, k < hi → lo ≤ k → V.heap[k]? = W2.heap[k]?
theorem GotI.inI {w5 Wp W2 : World} {b n7 : Nat} {T P : Nat → Prop} {l : List Rc} (h : GotI w5 Wp b n7 T l) (ho : Only P Wp W2) (hP : ∀ i, P i → T i ∨ i = n7 ∨ i = n7 + 1) (hn : n7 + 2 ≤ Wp.heap.size) : ∃ oa n c ys, InI w5 W2 W2 b n7 Wp.heap.size W2.heap.size T l oa n c ys := by
  have h2 := h.kept ho hP
  obtain ⟨-, oa, n, c, ys, h3, h4, h5, h6⟩ := h.out
  have hb := h.hb
  have no : ∀ i, P i → n7 ≤ i ∧ ¬ (n7 + 2 ≤ i ∧ ¬ T i) := fun i hi => by
    rcases hP i hi with e | e | e
    · exact ⟨by have := h.low i e; omega, fun hh => hh.2 e⟩
    · exact ⟨by omega, fun hh => by omega⟩
    · exact ⟨by omega, fun hh => by omega⟩
  exact ⟨oa, n, c, ys, h3, h4, (ho.block b (by omega) (fun hp => by have := (no b hp).1; omega)).trans h5, h6.only ho (fun k hk => (no k hk).2), fun k hk => .inl (h6.row.lt k hk), h2.below, h2.low, hb, Only.refl _ _, fun k _ _ => rfl⟩
theorem InI.got {w5 W2 V : World} {b n7 lo hi : Nat} {T : Nat → Prop} {l : List Rc} {oa : Option Addr} {n c : Nat} {ys : List RcV} (h : InI w5 W2 V b n7 lo hi T l oa n c ys) : GotI w5 V b n7 T l :=
  ⟨⟨fun hh => by have := h.hb; have := hh.1; omega, oa, n, c, ys, h.rec', h.len, h.box, h.row⟩, h.below, h.low, h.hb⟩
theorem InI.size {w5 W2 V : World} {b n7 lo hi : Nat} {T : Nat → Prop} {l : List Rc} {oa : Option Addr} {n c : Nat} {ys : List RcV} (h : InI w5 W2 V b n7 lo hi T l oa n c ys) : n = l.length := by rw [← h.rec', List.length_map, h.len]
theorem InI.later {w5 W2 V V' : World} {b n7 lo hi : Nat} {T : Nat → Prop} {l : List Rc} {oa : Option Addr} {n c : Nat} {ys : List RcV} (h : InI w5 W2 V b n7 lo hi T l oa n c ys) (hb : Below V.heap.size V V') (hV : hi ≤ V.heap.size) : InI w5 W2 V' b n7 lo hi T l oa n c ys :=
  ⟨h.rec', h.len, (hb.block b (Array.getElem?_eq_some_iff.1 h.box).1).trans h.box, h.row.later hb, h.win, h.below.trans (hb.mono h.below.size), h.low, h.hb, h.kept.trans (Only.of_below hb (Nat.le_refl _) _) (fun _ _ h => h), fun k hk hl => (hb.block k (Nat.lt_of_lt_of_le hk hV)).trans (h.old k hk hl)⟩
/-- a record more is appended -/
theorem InI.step {w5 W2 V V1 w3 : World} {b n7 lo hi : Nat} {T : Nat → Prop} {l : List Rc} {oa oa3 : Option Addr} {n c c3 m : Nat} {ys zs : List RcV} (h : InI w5 W2 V b n7 lo hi T l oa n c ys) (hm : zs.length = m)
    (hzs : ∀ x ∈ zs, rowAt V 5 1 x.kv x.r.key.length (byteCells x.r.key) ∧ rowAt V 5 1 x.vv x.r.val.length (byteCells x.r.val) ∧ (∀ k, x.kv.ownBlock = some k → n7 + 2 ≤ k ∧ ¬ T k) ∧ (∀ k, x.vv.ownBlock = some k → n7 + 2 ≤ k ∧ ¬ T k))
    (hV : Below V.heap.size V V1) (hhi : hi ≤ V.heap.size) (hTV : ∀ a, T a → a < V.heap.size) (hn7 : n7 + 2 ≤ V.heap.size) (hlo : n7 ≤ lo)
    (hr : rowAt w3 154 3 (.slice oa3 (n + m) c3) (n + m) (recsCells ys ++ recsCells zs)) (hg : V1.grownBy w3 (Value.slice oa n c).ownBlock) (ho : (Value.slice oa3 (n + m) c3).ownBlock = (Value.slice oa n c).ownBlock ∨ (Value.slice oa3 (n + m) c3).ownBlock = some V1.heap.size) :
    w3.heap[b]? = some (.cells #[.slice oa n c] 36 (0, 0)) ∧ InI w5 W2 (w3.setCell ⟨b, 0, none⟩ (.slice oa3 (n + m) c3)) b n7 lo hi T (l ++ zs.map (·.r)) oa3 (n + m) c3 (ys ++ zs) := by
  have hb := h.hb
  have hnb : ¬ (n7 + 2 ≤ b ∧ ¬ T b) := fun hh => by have := hh.1; omega
  obtain ⟨g1, g2, g3, g4⟩ := out_step (P := fun a => n7 + 2 ≤ a ∧ ¬ T a) h.row h.len hm h.box hnb hzs (fun k hk => ⟨by omega, fun ht => by have := hTV k ht; omega⟩) hV hr hg ho
  have ho3 : Only (fun k => k = b) w3 (w3.setCell ⟨b, 0, none⟩ (.slice oa3 (n + m) c3)) := only_setCell (fun k => k = b) _ b 0 _ rfl
  have hov : Only (fun k => (Value.slice oa n c).ownBlock = some k) V w3 := (Only.of_below hV (Nat.le_refl _) _).trans (Only.of_grown hg (fun k hk => hk)) (fun _ _ h => h)
  refine ⟨g1, by rw [List.map_append, h.rec'], by rw [List.length_append, h.len, hm], g3, g4, fun k hk => ?_, ?_, h.low, hb, ?_, fun k hk hl => ?_⟩
  · rcases ho with e | e
    · exact h.win k (by rw [← e]; exact hk)
    · rw [hk] at e
      simp only [Option.some.injEq] at e
      have := hV.size
      exact .inr (by omega)
  · have h1 := h.below.trans (g2.below (fun i hi hh => by have := hh.1; omega) h.below.size)
    exact h1.setCell (p := ⟨b, 0, none⟩) hb.1 _
  · refine (h.kept.trans (g2.mono (fun k _ hh => ⟨.inr (by have := hh.1; omega), fun e => ?_⟩)) (fun _ _ h => h)).trans (ho3.mono (fun k _ e => ⟨.inl e, fun hh => ?_⟩)) (fun _ _ h => h)
    · rcases e with e | e | e
      · exact hh.2 e
      · have := hh.1; omega
      · have := hh.1; omega
    · rcases hh with hh | hh | hh
      · have := h.low k hh; omega
      · omega
      · omega
  · have hkb : k ≠ b := fun e => by omega
    exact (ho3.block k (Nat.lt_of_lt_of_le (Nat.lt_of_lt_of_le hk hhi) hov.size) hkb).trans ((hov.block k (Nat.lt_of_lt_of_le hk hhi) (fun e => by have := h.win k e; omega)).trans (h.old k hk hl))
end Go.Proofs.Ytmkjejngnahpeaa
/- Kit: a scope through which the run goes without a goto, in fenced words. -/
namespace Go

section
variable {F : Fence} {n : Nat} {P : Program} {b : Frame} {a : Act} {k : List Item} {cs : List Frame} {w : World} {Q : Exit → Act → World → Prop}
theorem stepR_scope {c : Code} : step P (lone (b.atR a (.code (.scope c) :: k)) cs w) = .next (lone (b.atR a (.code c :: .inScope c :: k)) cs w) :=
  step_lone_go (by simp [stepG, stepG.exec, Frame.atR])
theorem stepR_inScope {c : Code} : step P (lone (b.atR a (.inScope c :: k)) cs w) = .next (lone (b.atR a k) cs w) :=
  step_lone_go (by simp [stepG, stepG.exec, Frame.atR])
theorem wpIn_scope {c : Code} (h : c.wpIn F n P (Exit.noGoto Q) a w) : (Code.scope c).wpIn F n P Q a w := by
  intro b k cs hro hb hr
  have h0 : (lone (b.atR a (.code (.scope c) :: k)) cs w).fenced P F := fenced_calm hb hr rfl
  obtain ⟨e, a₁, w₁, hq, harr⟩ := h b (.inScope c :: k) cs hro hb hr
  cases e with
  | normal => exact ⟨.normal, a₁, w₁, hq, .head h0 stepR_scope (StepsIn.trans harr (.one (fenced_calm hb hr rfl) stepR_inScope))⟩
  | exit id' =>
    have hx : exitTo id' (.inScope c :: k) = exitTo id' k := by simp [exitTo]
    exact ⟨.exit id', a₁, w₁, hq, fun k' hk => .head h0 stepR_scope (harr.1 k' (by rw [hx]; exact hk)),
      fun hr' hk => let ⟨k₁, h1, h2⟩ := harr.2 hr' (by rw [hx]; exact hk); ⟨k₁, h1, .head h0 stepR_scope h2⟩⟩
  | goto l => exact hq.elim
  | ret => exact ⟨_, a₁, w₁, hq, .of_steps (.one h0 stepR_scope) harr⟩
  | panic ch => exact ⟨_, a₁, w₁, hq, .of_steps (.one h0 stepR_scope) harr⟩
  | outgrown => exact ⟨_, a₁, w₁, hq, .of_steps (.one h0 stepR_scope) harr⟩
/-- a statement that is left at its end alone -/
theorem wp_onlyR {P : Program} {c : Code} {K : Act → World → Prop} {Q' : Exit → Act → World → Prop} {a : Act} {w : World} (h : c.wp P (Exit.then K (fun _ _ _ => False)) a w) : c.wp P (Exit.then K Q') a w :=
  (wpIn_wide (n := 1)).1 (wpIn_mono (wpIn_wide.2 h) (fun e _ _ hq => by
    cases e with
    | normal => exact hq
    | exit id => exact hq.elim
    | goto l => exact hq.elim
    | ret => exact hq.elim
    | panic ch => exact hq.elim
    | outgrown => exact hq.elim))
end
end Go
/- A range over a function that has memory of its own; the rounds may write to what X holds of, blocks ahead of the iterator among them. -/
namespace Go.Proofs.Ytmkjejngnahpeaa
open Go Go.RowKit

variable {F : Fence} {n : Nat} {P : Program}

/-- what a round keeps: what lay ahead of the iterator, and the iterator's own blocks T -/
abbrev KeptX (X T : Nat → Prop) (W W' : World) : Prop := Only (fun k => X k ∧ ¬ T k) W W'
theorem KeptX.join {X T : Nat → Prop} {A B C : World} (h : KeptX X T A B) (k : KeptX X T B C) : KeptX X T A C := Only.trans h k (fun _ _ h => h)
theorem KeptX.of {X T : Nat → Prop} {A B : World} (h : Below A.heap.size A B) : KeptX X T A B := Only.of_below h (Nat.le_refl _) _
/-- an iterator's contract: T are its own blocks; Gv is what holds of an element when it comes -/
def SeqToldX {α : Type} (F : Fence) (n : Nat) (P : Program) (g : Nat) (lb : Array Value) (encs : α → Array Value) (Gv : Nat → (Nat → Prop) → List α → α → World → Prop) (S Sp : List α → Prop) (N : Nat) (X : Nat → Prop) (w : World) : Prop :=
  ∀ (l : Nat) (J Jx : (Nat → Prop) → List α → World → Prop) (W : World), Below w.heap.size w W →
    (∀ T W1, Below W.heap.size W W1 → (∀ k, T k → W.heap.size ≤ k ∧ k < W1.heap.size) → J T [] W1) →
    (∀ T pre A B, J T pre A → Only T A B → J T pre B) → (∀ T pre A B, Jx T pre A → Only T A B → Jx T pre B) →
    (∀ T pre x Wp W1, (∀ k, T k → W.heap.size ≤ k ∧ k < W1.heap.size) → J T pre Wp → Only T Wp W1 → W.heap.size ≤ Wp.heap.size → Gv Wp.heap.size T pre x W1 → pre.length < N → YieldAt F (n - 1) P l (encs x) W1 fun e W' =>
      (e = .returned (.bool true) ∧ J T (pre ++ [x]) W' ∧ KeptX X T W1 W') ∨ (e = .returned (.bool false) ∧ Jx T (pre ++ [x]) W' ∧ KeptX X T W1 W')) →
    CallsIn F n P g (#[.func (.yield l) #[] #[]] ++ lb) W fun e W' => (∃ v, e = .returned v) ∧ ((∃ T xs, S xs ∧ J T xs W') ∨ (∃ T pre, Sp pre ∧ Jx T pre W'))
theorem SeqToldX.later {α : Type} {g : Nat} {lb : Array Value} {encs : α → Array Value} {Gv : Nat → (Nat → Prop) → List α → α → World → Prop} {S Sp : List α → Prop} {N : Nat} {X : Nat → Prop} {w w' : World}
    (h : SeqToldX F n P g lb encs Gv S Sp N X w) (hb : Below w.heap.size w w') : SeqToldX F n P g lb encs Gv S Sp N X w' :=
  fun l J Jx W hW hs hJ hJx hY => h l J Jx W (hb.trans (hW.mono hb.size)) hs hJ hJx hY
/-- what a round of the statement keeps: beside the iterator's blocks the statement's own two, from b on -/
abbrev KeptSX (X : Nat → Prop) (b : Nat) (T : Nat → Prop) (W W' : World) : Prop := KeptX X (fun k => T k ∨ k = b ∨ k = b + 1) W W'
/-- **THE STATEMENT OVER SUCH AN ITERATOR** -/
theorem wpIn_rangeFunc_toldX {α : Type} {g : Operand} {ps : Array Tmp} {assign body : Code} {Q : Exit → Act → World → Prop} {a : Act} {w : World}
    (hro : F.round = none) (h1 : 1 ≤ n) {gf : Nat} {lb : Array Value} (hg : a.eval g = .func (.func gf) #[] lb) (hFg : F.fn gf) (eg : ∀ args w, (callFunc gf args).run P w = .ok (.enter gf args) w)
    {encs : α → Array Value} {Gv : Nat → (Nat → Prop) → List α → α → World → Prop} {S Sp : List α → Prop} {N : Nat} {X : Nat → Prop} {w0 : World} (hX : ∀ k, w.heap.size ≤ k → X k) (hseq : SeqToldX F (n - 1) P gf lb encs Gv S Sp N X w0) (hb0 : Below w0.heap.size w0 w) (hps : ∀ x, (encs x).size = ps.size)
    (I : (Nat → Prop) → List α → World → Prop) (Ix : Code → (Nat → Prop) → List α → World → Prop)
    (hI : ∀ T pre A B, I T pre A → Only (fun k => T k ∨ k = w.heap.size ∨ k = w.heap.size + 1) A B → I T pre B)
    (hIx : ∀ c T pre A B, Ix c T pre A → Only (fun k => T k ∨ k = w.heap.size ∨ k = w.heap.size + 1) A B → Ix c T pre B)
    (h0 : ∀ T W1, Below w.heap.size w W1 → w.heap.size + 2 ≤ W1.heap.size → (∀ k, T k → w.heap.size + 2 ≤ k ∧ k < W1.heap.size) → I T [] W1)
    (hround : ∀ T pre x Wp W, (∀ k, T k → w.heap.size + 2 ≤ k ∧ k < W.heap.size) → (∃ r, W.heap[w.heap.size + 1]? = some (.loop r)) → W.heap[w.heap.size]? = some (.deferred (some [])) → I T pre Wp → Only T Wp W → w.heap.size + 2 ≤ Wp.heap.size → Gv Wp.heap.size T pre x W → pre.length < N →
      ∀ K : Act → World → Prop, (∀ a' W', KeptSX X w.heap.size T W W' →
        (∀ W2, Only (fun k => k = w.heap.size + 1) W' W2 → (∃ r, W2.heap[w.heap.size + 1]? = some (.loop r)) →
          body.wpIn (F.inRound (w.heap.size + 1)) (n - 1 - 1) P (toldPost (KeptSX X w.heap.size T) (I T) (fun c => Ix c T) (pre ++ [x]) W2) a' W2) → K a' W') →
      assign.wpIn (F.inRound (w.heap.size + 1)) (n - 1 - 1) P (Exit.then K (fun _ _ _ => False)) { tmps := (ps.zip (encs x)).foldl (fun t (p, v) => t.setIfInBounds p v) a.tmps, defers := [] } W)
    (hdone : ∀ T xs W, S xs → I T xs W → W.heap[w.heap.size]? = some (.deferred (some [])) → Q .normal { a with defers := { target := .collected w.heap.size, args := #[] } :: a.defers } W)
    (hstop : ∀ T c pre W, Sp pre → Ix c T pre W → W.heap[w.heap.size]? = some (.deferred (some [])) → c.wpIn F n P Q { a with defers := { target := .collected w.heap.size, args := #[] } :: a.defers } W) :
    (Code.rangeFunc g ps assign body).wpIn F n P Q a w := by
  refine wpIn_rangeFunc fun fn hfn => ?_
  rw [hro]
  obtain ⟨rec, hrec⟩ : ∃ rec : LoopState → Option Code → Loop, rec = fun st pe => { state := st, pending := pe, fn, tmps := a.tmps, params := ps, assign, body, defers := w.heap.size } := ⟨_, rfl⟩
  obtain ⟨V, hV⟩ : ∃ V, (w.alloc (.deferred (some []))).alloc (.loop (rec .ready none)) = V := ⟨_, rfl⟩
  have hVs : V.heap.size = w.heap.size + 2 := by rw [← hV]; simp
  have hVb : Below w.heap.size w V := by rw [← hV]; exact ((Below.refl _ w).alloc (Nat.le_refl _) _).alloc (by simp) _
  have hVl : V.heap[w.heap.size + 1]? = some (.loop (rec .ready none)) := by
    rw [← hV]
    have := World.alloc_heap_new (w.alloc (.deferred (some []))) (.loop (rec .ready none))
    rwa [World.size_alloc] at this
  have hVd : V.heap[w.heap.size]? = some (.deferred (some [])) := by rw [← hV]; exact (Below.heap_alloc _ _ _ (by simp)).trans (World.alloc_heap_new w _)
  refine ⟨w.heap.size + 1, [{ target := .collected w.heap.size, args := #[] }], V, { target := .fn (.func gf) lb, args := #[.func (.yield (w.heap.size + 1)) #[] #[]] }, V, gf, #[.func (.yield (w.heap.size + 1)) #[] #[]] ++ lb, V,
    by rw [← hV, hrec]; exact run_enterLoop_outer _ _ _ _ _, ?_, ?_, by simp [invoke, go_sem, eg], fun _ => h1, ?_⟩
  · simp only [resolve, hg]
    simp [go_sem]
  · intro f' hf'
    simp [Target.leads] at hf'
    subst hf'
    exact hFg
  -- the two blocks of the statement's own, in whatever world the iterator leaves
  have book : ∀ {T : Nat → Prop} {A B : World} {o : Obj} {k : Nat}, (∀ k, T k → w.heap.size + 2 ≤ k) → Only T A B → k < w.heap.size + 2 → A.heap[k]? = some o → B.heap[k]? = some o := fun hT ho hk hA =>
    (ho.block _ (Array.getElem?_eq_some_iff.1 hA).1 (fun h => by have := hT _ h; omega)).trans hA
  have kept : ∀ {T : Nat → Prop} {A B : World} {o : Obj} {k : Nat}, KeptSX X w.heap.size T A B → (k = w.heap.size ∨ k = w.heap.size + 1) → A.heap[k]? = some o → B.heap[k]? = some o := fun ho hk hA =>
    (ho.block _ (Array.getElem?_eq_some_iff.1 hA).1 (fun h => h.2 (.inr hk))).trans hA
  refine (hseq (w.heap.size + 1)
    (fun T pre W => (∀ k, T k → w.heap.size + 2 ≤ k) ∧ I T pre W ∧ W.heap[w.heap.size + 1]? = some (.loop (rec .ready none)) ∧ W.heap[w.heap.size]? = some (.deferred (some [])))
    (fun T pre W => (∀ k, T k → w.heap.size + 2 ≤ k) ∧ ∃ c, Ix c T pre W ∧ W.heap[w.heap.size + 1]? = some (.loop (rec .done (some c))) ∧ W.heap[w.heap.size]? = some (.deferred (some [])))
    V (hb0.trans (hVb.mono hb0.size)) ?start ?abide ?abidex ?round).mono ?behind
  case start =>
    intro T W1 hW1 hT
    rw [hVs] at hT
    have hs := hW1.size
    rw [hVs] at hs
    exact ⟨fun k hk => (hT k hk).1, h0 T W1 (hVb.trans (hW1.mono (by omega))) hs hT, (hW1.block _ (by omega)).trans hVl, (hW1.block _ (by omega)).trans hVd⟩
  case abide =>
    rintro T pre A B ⟨hT, hi, hl, hd⟩ ho
    exact ⟨hT, hI T pre A B hi (ho.mono (fun _ _ h => .inl h)), book hT ho (by omega) hl, book hT ho (by omega) hd⟩
  case abidex =>
    rintro T pre A B ⟨hT, c, hi, hl, hd⟩ ho
    exact ⟨hT, c, hIx c T pre A B hi (ho.mono (fun _ _ h => .inl h)), book hT ho (by omega) hl, book hT ho (by omega) hd⟩
  case round =>
    rintro T pre x Wp W hTW ⟨hT, hi, hlp, hdp⟩ hop hszp hgv hlen
    rw [hVs] at hszp
    have hl := book hT hop (by omega) hlp
    have hd := book hT hop (by omega) hdp
    have hy := run_yield (P := P) (args := encs x) hl (by rw [hrec]; exact hps x)
    rw [hrec] at hy
    refine ⟨fn, _, assign, body, hy, roundIn_of_wpIn hfn (wpIn_mono (hround T pre x Wp W (fun k hk => ⟨hT k hk, (hTW k hk).2⟩) ⟨_, hl⟩ hd hi hop hszp hgv hlen (fun a' W' => KeptSX X w.heap.size T W W' ∧ ∀ W2, Only (fun k => k = w.heap.size + 1) W' W2 → (∃ r, W2.heap[w.heap.size + 1]? = some (.loop r)) → body.wpIn (F.inRound (w.heap.size + 1)) (n - 1 - 1) P (toldPost (KeptSX X w.heap.size T) (I T) (fun c => Ix c T) (pre ++ [x]) W2) a' W2) (fun _ _ h1 h2 => ⟨h1, h2⟩)) ?_)⟩
    clear hy
    rintro e a' Wa hp
    cases e with
    | normal =>
      obtain ⟨hka, hbody⟩ := hp
      have hla := kept hka (.inr rfl) hl
      have hda := kept hka (.inl rfl) hd
      have hlta := (Array.getElem?_eq_some_iff.1 hla).1
      refine ⟨_, run_beginRound hla (by rw [hrec]), ?_⟩
      have hl2 : (Wa.putObj (w.heap.size + 1) (.loop { rec .ready none with state := .busy })).heap[w.heap.size + 1]? = some (.loop { rec .ready none with state := .busy }) := World.putObj_heap_same hlta
      have hd2 : (Wa.putObj (w.heap.size + 1) (.loop { rec .ready none with state := .busy })).heap[w.heap.size]? = some (.deferred (some [])) := (World.putObj_heap_other (by omega)).trans hda
      have hput : ∀ (W' : World) (o : Obj), KeptX X T W' (W'.putObj (w.heap.size + 1) o) := fun W' o => only_put _ W' _ o ⟨hX _ (by omega), fun h => by have := hT _ h; omega⟩
      have hput' : ∀ (W' : World) (o : Obj), Only (fun k => T k ∨ k = w.heap.size ∨ k = w.heap.size + 1) W' (W'.putObj (w.heap.size + 1) o) := fun W' o => only_put _ W' _ o (.inr (.inr rfl))
      have less : ∀ {A B : World}, KeptSX X w.heap.size T A B → KeptX X T A B := fun h => h.mono (fun _ _ hk => ⟨hk.1, fun ht => hk.2 (.inl ht)⟩)
      refine wpIn_mono (hbody _ (only_put _ _ _ _ rfl) ⟨_, hl2⟩) ?_
      have fin : ∀ (jump : Option Code) (W3 : World), KeptSX X w.heap.size T (Wa.putObj (w.heap.size + 1) (.loop { rec .ready none with state := .busy })) W3 →
          (Instr.endRound (w.heap.size + 1) jump).run P W3 = .ok (.bool jump.isNone) (W3.putObj (w.heap.size + 1) (.loop (rec (if jump.isNone then .ready else .done) jump))) ∧
          (W3.putObj (w.heap.size + 1) (.loop (rec (if jump.isNone then .ready else .done) jump))).heap[w.heap.size + 1]? = some (.loop (rec (if jump.isNone then .ready else .done) jump)) ∧
          (W3.putObj (w.heap.size + 1) (.loop (rec (if jump.isNone then .ready else .done) jump))).heap[w.heap.size]? = some (.deferred (some [])) := fun jump W3 hk3 => by
        have hl3 := kept hk3 (.inr rfl) hl2
        have hr := run_endRound (P := P) jump hl3
        rw [hrec] at hr ⊢
        exact ⟨hr, World.putObj_heap_same (Array.getElem?_eq_some_iff.1 hl3).1, (World.putObj_heap_other (by omega)).trans (kept hk3 (.inl rfl) hd2)⟩
      rintro e a3 W3 hp3
      cases e with
      | normal =>
        obtain ⟨hk3, hi3⟩ := hp3
        obtain ⟨hr, hl4, hd4⟩ := fin none W3 hk3
        exact ⟨_, _, hr, .inl ⟨rfl, ⟨hT, hI _ _ _ _ hi3 (hput' _ _), hl4, hd4⟩, (((less hka).join (hput _ _)).join (less hk3)).join (hput _ _)⟩⟩
      | ret =>
        obtain ⟨hk3, hi3⟩ := hp3
        obtain ⟨hr, hl4, hd4⟩ := fin (some .ret) W3 hk3
        exact ⟨_, _, hr, .inr ⟨rfl, ⟨hT, .ret, hIx _ _ _ _ _ hi3 (hput' _ _), hl4, hd4⟩, (((less hka).join (hput _ _)).join (less hk3)).join (hput _ _)⟩⟩
      | exit id =>
        obtain ⟨hk3, hi3⟩ := hp3
        obtain ⟨hr, hl4, hd4⟩ := fin (some (.exit id)) W3 hk3
        exact ⟨_, _, hr, .inr ⟨rfl, ⟨hT, .exit id, hIx _ _ _ _ _ hi3 (hput' _ _), hl4, hd4⟩, (((less hka).join (hput _ _)).join (less hk3)).join (hput _ _)⟩⟩
      | goto t =>
        obtain ⟨hk3, hi3⟩ := hp3
        obtain ⟨hr, hl4, hd4⟩ := fin (some (.goto t)) W3 hk3
        exact ⟨_, _, hr, .inr ⟨rfl, ⟨hT, .goto t, hIx _ _ _ _ _ hi3 (hput' _ _), hl4, hd4⟩, (((less hka).join (hput _ _)).join (less hk3)).join (hput _ _)⟩⟩
      | panic ch => exact hp3.elim
      | outgrown => exact hp3.elim
    | ret => exact hp.elim
    | exit id => exact hp.elim
    | goto t => exact hp.elim
    | panic ch => exact hp.elim
    | outgrown => exact hp.elim
  case behind =>
    rintro e W2 ⟨⟨v, rfl⟩, (⟨T, xs, hS, hT, hi, hl, hd⟩ | ⟨T, pre, hSp, hT, c, hi, hl, hd⟩)⟩
    · exact ⟨none, _, by have := run_endLoop (P := P) hl (by rw [hrec]; simp); rw [hrec] at this; exact this, hdone T xs _ hS (hI _ _ _ _ hi (only_put _ _ _ _ (.inr (.inr rfl)))) ((World.putObj_heap_other (by omega)).trans hd)⟩
    · exact ⟨some c, _, by have := run_endLoop (P := P) hl (by rw [hrec]; simp); rw [hrec] at this; exact this, hstop T c pre _ hSp (hIx _ _ _ _ _ hi (only_put _ _ _ _ (.inr (.inr rfl)))) ((World.putObj_heap_other (by omega)).trans hd)⟩
end Go.Proofs.Ytmkjejngnahpeaa
