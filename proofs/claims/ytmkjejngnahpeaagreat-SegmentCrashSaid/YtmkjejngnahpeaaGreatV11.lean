/- The texts Mw, Mx, My, Kitf, Yf, Mo, Mp, Ea in one. -/
import Derived.Test.YtmkjejngnahpeaaGreatV8
import Derived.Test.YtmkjejngnahpeaaGreatV10
import Derived.Deep.RegionHeld3
import Derived.ControlIn
import Derived.Scope
import Derived.WalkMore
import Derived.Shelf.Abstract
import Derived.Test.YtmkjejngnahpeaaGreatV4
import Derived.Test.YtmkjejngnahpeaaGreatV5
/- segment: all records of its batches; what a Read collects (plain). -/
namespace Go.Proofs.YtmkjejngnahpeaaGreat
open Go Go.RowKit

/-- all records of batches, in order -/
def recsT (bs : List Bat) : List Rc := bs.flatMap (·.2)
theorem recsT_len (bs : List Bat) : (recsT bs).length = cntT bs := by
  unfold recsT cntT
  rw [List.length_flatMap]
theorem recsT_append (a b : List Bat) : recsT (a ++ b) = recsT a ++ recsT b := by unfold recsT; rw [List.flatMap_append]
theorem recsT_split (bs : List Bat) (j : Nat) : recsT bs = recsT (bs.take j) ++ recsT (bs.drop j) := by rw [← recsT_append, List.take_append_drop]
/-- the records ahead of a place within a batch -/
theorem recsT_take {bs : List Bat} {j i : Nat} (h : j < bs.length) (hi : i ≤ bs[j].2.length) : (recsT bs).take (cntT (bs.take j) + i) = recsT (bs.take j) ++ bs[j].2.take i := by
  have e : recsT bs = recsT (bs.take j) ++ (bs[j].2 ++ recsT (bs.drop (j + 1))) := by
    rw [recsT_split bs j]
    congr 1
    rw [List.drop_eq_getElem_cons h]
    rfl
  rw [e, ← recsT_len, List.take_append, List.take_of_length_le (by omega), Nat.add_sub_cancel_left, List.take_append_of_le_length hi]
theorem recsT_get {bs : List Bat} {j i : Nat} (h : j < bs.length) (hi : i < bs[j].2.length) : (recsT bs)[cntT (bs.take j) + i]? = some bs[j].2[i] := by
  have e : recsT bs = recsT (bs.take j) ++ (bs[j].2 ++ recsT (bs.drop (j + 1))) := by
    rw [recsT_split bs j]
    congr 1
    rw [List.drop_eq_getElem_cons h]
    rfl
  rw [e, ← recsT_len, List.getElem?_append_right (by omega), Nat.add_sub_cancel_left, List.getElem?_append_left hi, List.getElem?_eq_getElem hi]
theorem bats_drop (bs : List Bat) (j : Nat) : (batsT bs).drop (posT bs j) = batsT (bs.drop j) := by
  rw [bats_split bs j]
  exact List.drop_left' rfl
/-- what has been collected when k records have been gone past, from the i-th on -/
def gotT (R : List Rc) (i k : Nat) : List Rc := (R.take k).drop i
theorem gotT_none {R : List Rc} {i k : Nat} (h : k ≤ i) : gotT R i k = [] := by
  unfold gotT
  rw [List.drop_eq_nil_iff, List.length_take]
  omega
theorem gotT_skip {R : List Rc} {i k : Nat} (h : k < i) : gotT R i (k + 1) = gotT R i k := by
  rw [gotT_none (by omega), gotT_none (by omega)]
theorem gotT_step {R : List Rc} {i k : Nat} {r : Rc} (h : i ≤ k) (hr : R[k]? = some r) : gotT R i (k + 1) = gotT R i k ++ [r] := by
  obtain ⟨hk, rfl⟩ := List.getElem?_eq_some_iff.1 hr
  unfold gotT
  rw [List.take_succ_eq_append_getElem hk, List.drop_append_of_le_length (by rw [List.length_take]; omega)]
theorem gotT_len {R : List Rc} {i k : Nat} (hk : k ≤ R.length) : (gotT R i k).length = k - i := by
  unfold gotT
  rw [List.length_drop, List.length_take]
  omega
/-- what a Read answers -/
def readT (R : List Rc) (i u most : Nat) : List Rc := (R.drop i).take (min (u - i) most)
theorem gotT_fin {R : List Rc} {i u k most : Nat} (hu : u ≤ R.length) (hk : k ≤ u) (hl : (gotT R i k).length ≤ most) (he : k = u ∨ most ≤ (gotT R i k).length) : gotT R i k = readT R i u most := by
  rw [gotT_len (by omega)] at hl he
  unfold gotT readT
  rw [List.drop_take]
  congr 1
  omega
theorem readT_len {R : List Rc} {i u most : Nat} (hu : u ≤ R.length) : (readT R i u most).length = min (u - i) most := by
  unfold readT
  rw [List.length_take, List.length_drop]
  omega
end Go.Proofs.YtmkjejngnahpeaaGreat
/- segment: Batches. -/
namespace Go.Proofs.YtmkjejngnahpeaaGreat
open Go Go.RowKit
attribute [local go_sem] Oper.semAt_some

theorem DiskAt.has {w : World} {S : Nat → Prop} {q : Nat} {d : Dk} {s : List UInt8} {f : F0} (h : DiskAt w S q d) (hf : d.find s = some f) : f.name = s ∧ f ∈ d.files ∧ nameOk s = true ∧ f.bytes.length ≤ 16777216 := by
  obtain ⟨mb, fv, L, h⟩ := h
  unfold Dk.find Dk.at at hf
  obtain ⟨hg, -⟩ := Option.filter_eq_some_iff.1 hf
  have hm := List.mem_of_find?_eq_some hg
  have hn : f.name = s := by have := List.find?_some hg; simpa using this
  have hz : f.bytes.length ≤ 16777216 := by
    rw [← h.files] at hm
    obtain ⟨x, hx, rfl⟩ := List.mem_map.1 hm
    exact (h.each x hx).size
  exact ⟨hn, hm, by rw [← hn]; exact h.names f hm, hz⟩
section
variable {w : World} {S : Nat → Prop} {s x q : Nat} {nm : ByteArray} {bn step : Nat} {sv : Value} {sp : List Sp} {bs : List Bat} {d : Dk}
theorem SegI.long (h : SegI w S s x q nm bn step sv sp bs d) : (batsT bs).length ≤ 16777216 := by
  obtain ⟨f, hf, hb⟩ := h.file
  rw [← hb]
  exact (h.disk.has hf).2.2.2
theorem SegI.few (h : SegI w S s x q nm bn step sv sp bs d) : bs.length ≤ 524288 := by
  have h1 := h.long
  have h2 := bats_many bs h.chain.good
  omega
/-- what is read of its file from a place on -/
theorem SegI.reads (h : SegI w S s x q nm bn step sv sp bs d) {p : Nat} (hp : p ≤ (batsT bs).length) : d.read nm.data.toList (p : Int) (((batsT bs).length : Int) - (p : Int)) = ((batsT bs).drop p, 0) := by
  obtain ⟨f, hf, hb⟩ := h.file
  have hh := h.disk.has hf
  unfold Dk.read
  rw [if_neg (by rw [hh.2.2.1]; simp), hf]
  show (if _ then _ else _) = _
  rw [if_neg (by rw [hb]; omega), hb]
  congr 1
  rw [show ((p : Int)).toNat = p from rfl]
  refine List.take_of_length_le ?_
  rw [List.length_drop]
  omega
theorem holdB {w W W' : World} {s o1 o2 o3 : Nat} {x y z : Value} (h : W.cell? ⟨s, o1, none⟩ = some x ∧ W.cell? ⟨s, o2, none⟩ = some y ∧ W.cell? ⟨s, o3, none⟩ = some z ∧ Below w.heap.size w W ∧ s < W.heap.size) (hb : Below W.heap.size W W') :
    W'.cell? ⟨s, o1, none⟩ = some x ∧ W'.cell? ⟨s, o2, none⟩ = some y ∧ W'.cell? ⟨s, o3, none⟩ = some z ∧ Below w.heap.size w W' ∧ s < W'.heap.size :=
  ⟨(hb.cell (p := ⟨s, o1, none⟩) h.2.2.2.2).trans h.1, (hb.cell (p := ⟨s, o2, none⟩) h.2.2.2.2).trans h.2.1, (hb.cell (p := ⟨s, o3, none⟩) h.2.2.2.2).trans h.2.2.1, h.2.2.2.1.trans (hb.mono h.2.2.2.1.size), Nat.lt_of_lt_of_le h.2.2.2.2 hb.size⟩
theorem holdB_drew {w W : World} {s o1 o2 o3 : Nat} {x y z : Value} (h : W.cell? ⟨s, o1, none⟩ = some x ∧ W.cell? ⟨s, o2, none⟩ = some y ∧ W.cell? ⟨s, o3, none⟩ = some z ∧ Below w.heap.size w W ∧ s < W.heap.size) :
    W.drew.cell? ⟨s, o1, none⟩ = some x ∧ W.drew.cell? ⟨s, o2, none⟩ = some y ∧ W.drew.cell? ⟨s, o3, none⟩ = some z ∧ Below w.heap.size w W.drew ∧ s < W.drew.heap.size := holdB h ⟨rfl, rfl, rfl, Nat.le_refl _, fun _ _ => rfl⟩
set_option maxRecDepth 100000 in
set_option maxHeartbeats 2000000 in
theorem batchesS_b (h : SegI w S s x q nm bn step sv sp bs d) :
    Calls Tryz.prog 17 #[.pointer (some ⟨s, 0, none⟩)] w fun e w' => ∃ b1, e = .returned (.func (.func 64) #[] #[.pointer (some ⟨b1, 0, none⟩)]) ∧ AllOf w' b1 (batsT bs) ∧ Below w.heap.size w w' := by
  have k4 : w.cell? ⟨s, 4, none⟩ = some (.pointer (some ⟨q, 0, none⟩)) := cell_of h.head rfl
  have k5 : w.cell? ⟨s, 5, none⟩ = some (.string nm) := cell_of h.head rfl
  have k2 : w.cell? ⟨s, 2, none⟩ = some (.int .i64 ((batsT bs).length : Int)) := cell_of h.head rfl
  have hrd := h.reads (p := 0) (Nat.zero_le _)
  have hlong := h.long
  obtain ⟨z, hz⟩ : ∃ z, z = (batsT bs).length := ⟨_, rfl⟩
  have e0 : ((z : Int) - ((0 : Nat) : Int)) = (z : Int) := by omega
  rw [← hz, e0, List.drop_zero] at hrd
  rw [← hz] at k2 hlong
  have HR : Hid (∀ W, Below w.heap.size w W → Calls Tryz.prog 46 #[.pointer (some ⟨q, 0, none⟩), .string nm, .int .i64 0, .int .i64 (z : Int)] W fun e w' => ReadIs W (batsT bs, 0) e w') := Lib.hid (fun W hW => by
    have := read_b (h.disk.belowS hW) nm (Nat.le_trans h.nms (by decide)) ((0 : Nat) : Int) (z : Int) (by decide) (by omega)
    rw [hrd] at this
    exact this)
  have HN := Lib.hid (noneSeg_b k4)
  have hS : w.cell? ⟨s, 4, none⟩ = some (.pointer (some ⟨q, 0, none⟩)) ∧ w.cell? ⟨s, 5, none⟩ = some (.string nm) ∧ w.cell? ⟨s, 2, none⟩ = some (.int .i64 (z : Int)) ∧ Below w.heap.size w w ∧ s < w.heap.size := ⟨k4, k5, k2, Below.refl _ _, World.block_lt_of_cell? w _ k4⟩
  have HZ := Lib.hid (And.intro hz hlong)
  clear h k4 k5 k2 hrd e0 hz hlong
  go_enter Tryz.func17, Tryz.ntmps17
  go_wp2_with fail
  refine HN.out.mono ?_
  rintro e w2 ⟨rfl, hw2⟩
  obtain rfl := hw2.symm
  clear hw2
  go_wp2_with fail
  go_region_held3 (fun W => W.cell? ⟨s, 4, none⟩ = some (.pointer (some ⟨q, 0, none⟩)) ∧ W.cell? ⟨s, 5, none⟩ = some (.string nm) ∧ W.cell? ⟨s, 2, none⟩ = some (.int .i64 (z : Int)) ∧ Below w.heap.size w W ∧ s < W.heap.size)
    (first | assumption | exact holdB_drew (by assumption) | exact holdB (by assumption) hba)
    (first | (go_at_call 46; refine (HR.out _ (holdB_drew hS).2.2.2.1).mono ?_; rintro e wa ⟨v, rfl, hv, hvo, hba⟩))
  all_goals
    obtain ⟨oa, c, rfl, -⟩ := hv.shape
    have HB := Lib.hid (And.intro hv (And.intro hvo hba))
    have HA := Lib.hid (recAll_b rfl hv.read (by have := HZ.out; omega))
    rw [← HZ.out.1] at HA ⊢
    clear hv hvo hba hS
    go_wp2_with fail
    refine HA.out.mono ?_
    rintro e wb ⟨b1, rfl, hall, hb⟩
    have HX := Lib.hid (And.intro hall hb)
    clear hall hb
    go_wp2_with fail
    go_ret
    have h1 : Below w.heap.size w wa := (show Below w.heap.size w w.drew from ⟨rfl, rfl, rfl, Nat.le_refl _, fun _ _ => rfl⟩).trans HB.out.2.2
    exact ⟨b1, rfl, HX.out.1, h1.trans (HX.out.2.mono h1.size)⟩
end
end Go.Proofs.YtmkjejngnahpeaaGreat
/- records in blocks of which P holds; a box that holds such a slice; append to it. -/
namespace Go.Proofs.YtmkjejngnahpeaaGreat
open Go Go.RowKit
attribute [local go_sem] Oper.semAt_some

/-- records in blocks of which P holds -/
structure RowP (P : Nat → Prop) (W : World) (v : Value) (xs : List RcV) : Prop where
  row : rowAt W 60 3 v xs.length (recsCells xs)
  own : ∀ k, v.ownBlock = some k → P k
  each : ∀ x ∈ xs, rowAt W 5 1 x.kv x.r.key.length (byteCells x.r.key) ∧ rowAt W 5 1 x.vv x.r.val.length (byteCells x.r.val) ∧ (∀ k, x.kv.ownBlock = some k → P k) ∧ (∀ k, x.vv.ownBlock = some k → P k)
theorem RowP.nil (P : Nat → Prop) (W : World) : RowP P W (.slice none 0 0) [] := ⟨⟨rfl, .inl ⟨rfl, rfl⟩⟩, fun k hk => by simp [Value.ownBlock] at hk, fun x hx => (by cases hx)⟩
theorem RNew.rowP {n₀ : Nat} {W : World} {v : Value} {xs : List RcV} (h : RNew n₀ W v xs) : RowP (fun k => n₀ ≤ k) W v xs := ⟨h.row, h.own, h.each⟩
theorem NewR.rowP {w0 W : World} {v : Value} {xs : List RcV} (h : NewR w0 W v xs) : RowP (fun k => w0.heap.size ≤ k) W v xs := ⟨h.row, h.own, h.each⟩
section
variable {P Q : Nat → Prop} {W W' : World} {v : Value} {xs : List RcV}
theorem RowP.is (h : RowP P W v xs) : RecsIs W v xs := ⟨h.row.read, fun x hx => ⟨(h.each x hx).1.read, (h.each x hx).2.1.read⟩⟩
theorem RowP.mono (h : RowP P W v xs) (hP : ∀ k, k < W.heap.size → P k → Q k) : RowP Q W v xs :=
  ⟨h.row, fun k hk => hP k (h.row.lt k hk) (h.own k hk), fun x hx => by
    obtain ⟨h1, h2, h3, h4⟩ := h.each x hx
    exact ⟨h1, h2, fun k hk => hP k (h1.lt k hk) (h3 k hk), fun k hk => hP k (h2.lt k hk) (h4 k hk)⟩⟩
theorem RowP.kept (h : RowP P W v xs) (hk : ∀ k, k < W.heap.size → P k → W'.heap[k]? = W.heap[k]?) : RowP P W' v xs :=
  ⟨h.row.kept (fun k ho => hk k (h.row.lt k ho) (h.own k ho)), h.own, fun x hx => by
    obtain ⟨h1, h2, h3, h4⟩ := h.each x hx
    exact ⟨h1.kept (fun k ho => hk k (h1.lt k ho) (h3 k ho)), h2.kept (fun k ho => hk k (h2.lt k ho) (h4 k ho)), h3, h4⟩⟩
theorem RowP.only {X : Nat → Prop} (h : RowP P W v xs) (ho : Only X W W') (hX : ∀ k, X k → ¬ P k) : RowP P W' v xs :=
  h.kept (fun k hk hp => ho.block k hk (fun hx => hX k hx hp))
theorem RowP.later (h : RowP P W v xs) (hb : Below W.heap.size W W') : RowP P W' v xs := h.kept (fun k hk _ => hb.block k hk)
end
theorem recsCells_append (xs ys : List RcV) : recsCells (xs ++ ys) = recsCells xs ++ recsCells ys := by unfold recsCells; rw [List.flatMap_append]
/-- a box that holds records' slice -/
def OutI (V : World) (b : Nat) (P : Nat → Prop) (l : List Rc) : Prop :=
  ¬ P b ∧ ∃ oa n c xs, xs.map (·.r) = l ∧ xs.length = n ∧ V.heap[b]? = some (.cells #[.slice oa n c] 28 (0, 0)) ∧ RowP P V (.slice oa n c) xs
theorem OutI.kept {V V' : World} {b : Nat} {P X : Nat → Prop} {l : List Rc} (h : OutI V b P l) (ho : Only X V V') (hX : ∀ k, X k → ¬ P k ∧ k ≠ b) : OutI V' b P l := by
  obtain ⟨hn, oa, n, c, xs, h1, h2, h3, h4⟩ := h
  exact ⟨hn, oa, n, c, xs, h1, h2, (ho.block b (Array.getElem?_eq_some_iff.1 h3).1 (fun hx => (hX b hx).2 rfl)).trans h3, h4.only ho (fun k hx => (hX k hx).1)⟩
theorem OutI.later {V V' : World} {b : Nat} {P : Nat → Prop} {l : List Rc} (h : OutI V b P l) (hb : Below V.heap.size V V') : OutI V' b P l :=
  h.kept (Only.of_below hb (Nat.le_refl _) (fun _ => False)) (fun _ hf => hf.elim)
theorem OutI.mono {V : World} {b : Nat} {P Q : Nat → Prop} {l : List Rc} (h : OutI V b P l) (hP : ∀ k, k < V.heap.size → P k → Q k) (hb : ¬ Q b) : OutI V b Q l := by
  obtain ⟨hn, oa, n, c, xs, h1, h2, h3, h4⟩ := h
  exact ⟨hb, oa, n, c, xs, h1, h2, h3, h4.mono hP⟩
/-- more records are appended to a box' slice -/
theorem out_step {V V1 w3 : World} {b n c m c3 : Nat} {oa oa3 : Option Addr} {P : Nat → Prop} {xs ys : List RcV} (h : RowP P V (.slice oa n c) xs) (hn : xs.length = n) (hm : ys.length = m) (hbx : V.heap[b]? = some (.cells #[.slice oa n c] 28 (0, 0))) (hnb : ¬ P b)
    (hys : ∀ x ∈ ys, rowAt V 5 1 x.kv x.r.key.length (byteCells x.r.key) ∧ rowAt V 5 1 x.vv x.r.val.length (byteCells x.r.val) ∧ (∀ k, x.kv.ownBlock = some k → P k) ∧ (∀ k, x.vv.ownBlock = some k → P k))
    (hP : ∀ k, V.heap.size ≤ k → P k) (hV : Below V.heap.size V V1)
    (hr : rowAt w3 60 3 (.slice oa3 (n + m) c3) (n + m) (recsCells xs ++ recsCells ys)) (hg : V1.grownBy w3 (Value.slice oa n c).ownBlock) (ho : (Value.slice oa3 (n + m) c3).ownBlock = (Value.slice oa n c).ownBlock ∨ (Value.slice oa3 (n + m) c3).ownBlock = some V1.heap.size) :
    w3.heap[b]? = some (.cells #[.slice oa n c] 28 (0, 0)) ∧ Only P V w3 ∧ (w3.setCell ⟨b, 0, none⟩ (.slice oa3 (n + m) c3)).heap[b]? = some (.cells #[.slice oa3 (n + m) c3] 28 (0, 0)) ∧ RowP P (w3.setCell ⟨b, 0, none⟩ (.slice oa3 (n + m) c3)) (.slice oa3 (n + m) c3) (xs ++ ys) := by
  subst hn
  subst hm
  have hlt := (Array.getElem?_eq_some_iff.1 hbx).1
  have hov : Only (fun k => (Value.slice oa xs.length c).ownBlock = some k) V w3 := (Only.of_below hV (Nat.le_refl _) _).trans (Only.of_grown hg (fun k hk => hk)) (fun _ _ h => h)
  have hoP : Only P V w3 := hov.mono (fun k _ e => h.own k e)
  have hb3 := (hov.block b hlt (fun e => hnb (h.own b e))).trans hbx
  have keep : ∀ {u : Value} {k : Nat} {cs : List Value}, rowAt V 5 1 u k cs → rowAt w3 5 1 u k cs := fun {u k cs} hu => hu.kept (fun i hi => hov.block i (hu.lt i hi) (hu.types h.row (by decide) hi))
  have hset : ∀ k, k ≠ b → (w3.setCell ⟨b, 0, none⟩ (.slice oa3 (xs.length + ys.length) c3)).heap[k]? = w3.heap[k]? := fun k hk => Below.heap_setCell _ _ _ _ hk
  have h3 : RowP P w3 (.slice oa3 (xs.length + ys.length) c3) (xs ++ ys) := by
    refine ⟨?_, fun k hk => ?_, fun x hx => ?_⟩
    · rw [recsCells_append, List.length_append]
      exact hr
    · rcases ho with e | e
      · exact h.own k (by rw [← e]; exact hk)
      · rw [hk] at e
        simp only [Option.some.injEq] at e
        exact hP k (by have := hV.size; omega)
    · rcases List.mem_append.1 hx with hx | hx
      · obtain ⟨g1, g2, g3, g4⟩ := h.each x hx
        exact ⟨keep g1, keep g2, g3, g4⟩
      · obtain ⟨g1, g2, g3, g4⟩ := hys x hx
        exact ⟨keep g1, keep g2, g3, g4⟩
  exact ⟨hb3, hoP, heap_setCell_here _ hb3, h3.kept (fun k _ hp => hset k (fun e => hnb (e ▸ hp)))⟩
theorem one_rowR (w : World) (e : TypeId) (size : Nat) (ys : List Value) (hy : ys.length = size) : rowAt (w.alloc (.cells ys.toArray e)) e size (.slice (some ⟨w.heap.size, 0, none⟩) 1 1) 1 ys :=
  ⟨by simp [hy], .inr ⟨_, 0, 1, _, _, rfl, alloc_cells _ _ _, Nat.le_refl _, by unfold maxLen; omega, by simp [hy], freeRow_zero _, by subst hy; simp⟩⟩
theorem one_rec (y : RcV) : recsCells [y] = recCells y := by unfold recsCells; simp
theorem recsCells_len (ys : List RcV) : (recsCells ys).length = ys.length * 3 := by
  unfold recsCells
  induction ys with
  | nil => rfl
  | cons a t ih =>
    rw [List.flatMap_cons, List.length_append, ih, List.length_cons]
    show 3 + _ = _
    omega
theorem slice_one {w : World} {e : TypeId} {s n : Nat} {v : Value} {xs : List Value} (h : rowAt w e s v n xs) : v.oneCell' = true := by
  obtain ⟨oa, c, rfl, -⟩ := h.shape
  rfl
theorem slice_one' {w : World} {s n : Nat} {v : Value} {xs : List Value} (h : readAt w s v n xs) : v.oneCell' = true := by
  rcases h.2 with ⟨-, oa, cap, rfl, -⟩ | ⟨g, off, c, rfl, -⟩
  · rfl
  · rfl
/-- all records of a list are appended, in fenced words -/
theorem wpListIn_append_recs {F : Fence} {n : Nat} {w2 : World} {ops : Array Oper} {rest : List Oper} {o : Oper} {a : Act} {Q : Exit → Act → World → Prop} (hgd : o.guard = none) (s x : Operand)
    (ho : o.op = .call { callee := .builtin .append, args := #[s, x], argTypes := #[28, 28] })
    {oa ob : Option Addr} {m c k d : Nat} {xs ys : List RcV} {P : Nat → Prop} (h : RowP P w2 (.slice oa m c) xs) (hxm : xs.length = m) (hm : m ≤ 100000000) (hy : RecsIs w2 (.slice ob k d) ys) (hyk : ys.length = k) (hk : k ≤ 100000000)
    (hs : a.eval s = .slice oa m c) (hx : a.eval x = .slice ob k d)
    (hK : ∀ oa3 c3 w3, Hid (rowAt w3 60 3 (.slice oa3 (m + k) c3) (m + k) (recsCells xs ++ recsCells ys)) → Hid (w2.grownBy w3 (Value.slice oa m c).ownBlock) →
      Hid ((Value.slice oa3 (m + k) c3).ownBlock = (Value.slice oa m c).ownBlock ∨ (Value.slice oa3 (m + k) c3).ownBlock = some w2.heap.size) → wpListIn F n Tryz.prog ops Q rest (a.put o.dst (.slice oa3 (m + k) c3)) w3) :
    wpListIn F n Tryz.prog ops Q (o :: rest) a w2 := by
  subst hxm
  subst hyk
  have h1 : ∀ v ∈ recsCells ys, v.oneCell' = true := fun v hv => by
    unfold recsCells at hv
    obtain ⟨y, hym, hv⟩ := List.mem_flatMap.1 hv
    obtain ⟨e1, e2⟩ := hy.each y hym
    simp only [recCells, List.mem_cons, List.not_mem_nil, or_false] at hv
    rcases hv with rfl | rfl | rfl
    · rfl
    · exact slice_one' e1
    · exact slice_one' e2
  refine wpListIn_plain hgd fun K hK' => ?_
  obtain ⟨i, hi, hz, hsz, hbi⟩ := info_parts info_rc
  obtain ⟨v', w3, hrun, r1, r2, r3, r4⟩ := run_append_at (P := Tryz.prog) w2 28 28 o.type 60 i _ 3 56 Tryz.underlying28 hi hz hsz hbi rfl _ xs.length (recsCells xs) h.row _ ys.length (recsCells ys) (Src.of_read Tryz.underlying28 hy.row h1) (by unfold maxLen; omega) (by omega)
  obtain ⟨oa3, c3, rfl, _⟩ := r1.shape
  unfold Oper.wpIn
  refine ⟨?_, ?_⟩
  · simp [Oper.about, ho, resolve, Target.leads, Sem.run_pure]
  · rw [Oper.semAt_plain F _ _ (by rw [ho]; intro c hc'; cases hc')]
    simp [execOp, ho, resolve, invoke, builtin, hs, hx, hrun, Result.andThen]
    exact hK' _ _ (hK oa3 c3 w3 (Lib.hid r1) (Lib.hid r2) (Lib.hid (by simpa using r3)))
/-- what a round over a list of batches has, and keeps -/
structure GotI (w5 V : World) (b n7 : Nat) (T : Nat → Prop) (l : List Rc) : Prop where
  out : OutI V b (fun a => n7 + 2 ≤ a ∧ ¬ T a) l
  below : Below w5.heap.size w5 V
  low : ∀ a, T a → n7 + 2 ≤ a
  hb : w5.heap.size ≤ b ∧ b < n7
theorem GotI.kept {w5 A B : World} {b n7 : Nat} {T P : Nat → Prop} {l : List Rc} (h : GotI w5 A b n7 T l) (ho : Only P A B) (hP : ∀ i, P i → T i ∨ i = n7 ∨ i = n7 + 1) : GotI w5 B b n7 T l := by
  have hb := h.hb
  have no : ∀ i, P i → n7 ≤ i ∧ ¬ (n7 + 2 ≤ i ∧ ¬ T i) := fun i hi => by
    rcases hP i hi with e | e | e
    · exact ⟨by have := h.low i e; omega, fun hh => hh.2 e⟩
    · exact ⟨by omega, fun hh => by omega⟩
    · exact ⟨by omega, fun hh => by omega⟩
  exact ⟨h.out.kept ho (fun k hk => ⟨(no k hk).2, by have := (no k hk).1; omega⟩), h.below.trans (ho.below (fun i hi hp => by have := (no i hp).1; omega) h.below.size), h.low, hb⟩
theorem GotI.later {w5 A B : World} {b n7 : Nat} {T : Nat → Prop} {l : List Rc} (h : GotI w5 A b n7 T l) (hb : Below A.heap.size A B) : GotI w5 B b n7 T l :=
  h.kept (P := fun _ => False) (Only.of_below hb (Nat.le_refl _) _) (fun _ hf => hf.elim)
/-- what holds while a batch' records are gone over -/
structure InI (w5 W2 V : World) (b n7 lo hi : Nat) (T : Nat → Prop) (l : List Rc) (oa : Option Addr) (n c : Nat) (ys : List RcV) : Prop where
  rec' : ys.map (·.r) = l
  len : ys.length = n
  box : V.heap[b]? = some (.cells #[.slice oa n c] 28 (0, 0))
  row : RowP (fun a => n7 + 2 ≤ a ∧ ¬ T a) V (.slice oa n c) ys
  win : ∀ k, (Value.slice oa n c).ownBlock = some k → k < lo ∨ hi ≤ k
  below : Below w5.heap.size w5 V
  low : ∀ a, T a → n7 + 2 ≤ a
  hb : w5.heap.size ≤ b ∧ b < n7
  kept : Only (fun k => (k = b ∨ n7 ≤ k) ∧ ¬ (T k ∨ k = n7 ∨ k = n7 + 1)) W2 V
  old : ∀ k, k < hi → lo ≤ k → V.heap[k]? = W2.heap[k]?
theorem GotI.inI {w5 Wp W2 : World} {b n7 : Nat} {T P : Nat → Prop} {l : List Rc} (h : GotI w5 Wp b n7 T l) (ho : Only P Wp W2) (hP : ∀ i, P i → T i ∨ i = n7 ∨ i = n7 + 1) (hn : n7 + 2 ≤ Wp.heap.size) : ∃ oa n c ys, InI w5 W2 W2 b n7 Wp.heap.size W2.heap.size T l oa n c ys := by
  have h2 := h.kept ho hP
  obtain ⟨-, oa, n, c, ys, h3, h4, h5, h6⟩ := h.out
  have hb := h.hb
  have no : ∀ i, P i → n7 ≤ i ∧ ¬ (n7 + 2 ≤ i ∧ ¬ T i) := fun i hi => by
    rcases hP i hi with e | e | e
    · exact ⟨by have := h.low i e; omega, fun hh => hh.2 e⟩
    · exact ⟨by omega, fun hh => by omega⟩
    · exact ⟨by omega, fun hh => by omega⟩
  exact ⟨oa, n, c, ys, h3, h4, (ho.block b (by omega) (fun hp => by have := (no b hp).1; omega)).trans h5, h6.only ho (fun k hk => (no k hk).2), fun k hk => .inl (h6.row.lt k hk), h2.below, h2.low, hb, Only.refl _ _, fun k _ _ => rfl⟩
theorem InI.got {w5 W2 V : World} {b n7 lo hi : Nat} {T : Nat → Prop} {l : List Rc} {oa : Option Addr} {n c : Nat} {ys : List RcV} (h : InI w5 W2 V b n7 lo hi T l oa n c ys) : GotI w5 V b n7 T l :=
  ⟨⟨fun hh => by have := h.hb; have := hh.1; omega, oa, n, c, ys, h.rec', h.len, h.box, h.row⟩, h.below, h.low, h.hb⟩
theorem InI.size {w5 W2 V : World} {b n7 lo hi : Nat} {T : Nat → Prop} {l : List Rc} {oa : Option Addr} {n c : Nat} {ys : List RcV} (h : InI w5 W2 V b n7 lo hi T l oa n c ys) : n = l.length := by rw [← h.rec', List.length_map, h.len]
theorem InI.later {w5 W2 V V' : World} {b n7 lo hi : Nat} {T : Nat → Prop} {l : List Rc} {oa : Option Addr} {n c : Nat} {ys : List RcV} (h : InI w5 W2 V b n7 lo hi T l oa n c ys) (hb : Below V.heap.size V V') (hV : hi ≤ V.heap.size) : InI w5 W2 V' b n7 lo hi T l oa n c ys :=
  ⟨h.rec', h.len, (hb.block b (Array.getElem?_eq_some_iff.1 h.box).1).trans h.box, h.row.later hb, h.win, h.below.trans (hb.mono h.below.size), h.low, h.hb, h.kept.trans (Only.of_below hb (Nat.le_refl _) _) (fun _ _ h => h), fun k hk hl => (hb.block k (Nat.lt_of_lt_of_le hk hV)).trans (h.old k hk hl)⟩
/-- a record more is appended -/
theorem InI.step {w5 W2 V V1 w3 : World} {b n7 lo hi : Nat} {T : Nat → Prop} {l : List Rc} {oa oa3 : Option Addr} {n c c3 m : Nat} {ys zs : List RcV} (h : InI w5 W2 V b n7 lo hi T l oa n c ys) (hm : zs.length = m)
    (hzs : ∀ x ∈ zs, rowAt V 5 1 x.kv x.r.key.length (byteCells x.r.key) ∧ rowAt V 5 1 x.vv x.r.val.length (byteCells x.r.val) ∧ (∀ k, x.kv.ownBlock = some k → n7 + 2 ≤ k ∧ ¬ T k) ∧ (∀ k, x.vv.ownBlock = some k → n7 + 2 ≤ k ∧ ¬ T k))
    (hV : Below V.heap.size V V1) (hhi : hi ≤ V.heap.size) (hTV : ∀ a, T a → a < V.heap.size) (hn7 : n7 + 2 ≤ V.heap.size) (hlo : n7 ≤ lo)
    (hr : rowAt w3 60 3 (.slice oa3 (n + m) c3) (n + m) (recsCells ys ++ recsCells zs)) (hg : V1.grownBy w3 (Value.slice oa n c).ownBlock) (ho : (Value.slice oa3 (n + m) c3).ownBlock = (Value.slice oa n c).ownBlock ∨ (Value.slice oa3 (n + m) c3).ownBlock = some V1.heap.size) :
    w3.heap[b]? = some (.cells #[.slice oa n c] 28 (0, 0)) ∧ InI w5 W2 (w3.setCell ⟨b, 0, none⟩ (.slice oa3 (n + m) c3)) b n7 lo hi T (l ++ zs.map (·.r)) oa3 (n + m) c3 (ys ++ zs) := by
  have hb := h.hb
  have hnb : ¬ (n7 + 2 ≤ b ∧ ¬ T b) := fun hh => by have := hh.1; omega
  obtain ⟨g1, g2, g3, g4⟩ := out_step (P := fun a => n7 + 2 ≤ a ∧ ¬ T a) h.row h.len hm h.box hnb hzs (fun k hk => ⟨by omega, fun ht => by have := hTV k ht; omega⟩) hV hr hg ho
  have ho3 : Only (fun k => k = b) w3 (w3.setCell ⟨b, 0, none⟩ (.slice oa3 (n + m) c3)) := only_setCell (fun k => k = b) _ b 0 _ rfl
  have hov : Only (fun k => (Value.slice oa n c).ownBlock = some k) V w3 := (Only.of_below hV (Nat.le_refl _) _).trans (Only.of_grown hg (fun k hk => hk)) (fun _ _ h => h)
  refine ⟨g1, by rw [List.map_append, h.rec'], by rw [List.length_append, h.len, hm], g3, g4, fun k hk => ?_, ?_, h.low, hb, ?_, fun k hk hl => ?_⟩
  · rcases ho with e | e
    · exact h.win k (by rw [← e]; exact hk)
    · rw [hk] at e
      simp only [Option.some.injEq] at e
      have := hV.size
      exact .inr (by omega)
  · have h1 := h.below.trans (g2.below (fun i hi hh => by have := hh.1; omega) h.below.size)
    exact h1.setCell (p := ⟨b, 0, none⟩) hb.1 _
  · refine (h.kept.trans (g2.mono (fun k _ hh => ⟨.inr (by have := hh.1; omega), fun e => ?_⟩)) (fun _ _ h => h)).trans (ho3.mono (fun k _ e => ⟨.inl e, fun hh => ?_⟩)) (fun _ _ h => h)
    · rcases e with e | e | e
      · exact hh.2 e
      · have := hh.1; omega
      · have := hh.1; omega
    · rcases hh with hh | hh | hh
      · have := h.low k hh; omega
      · omega
      · omega
  · have hkb : k ≠ b := fun e => by omega
    exact (ho3.block k (Nat.lt_of_lt_of_le (Nat.lt_of_lt_of_le hk hhi) hov.size) hkb).trans ((hov.block k (Nat.lt_of_lt_of_le hk hhi) (fun e => by have := h.win k e; omega)).trans (h.old k hk hl))
end Go.Proofs.YtmkjejngnahpeaaGreat
/- Kit: a scope through which the run goes without a goto, in fenced words. -/
namespace Go

section
variable {F : Fence} {n : Nat} {P : Program} {b : Frame} {a : Act} {k : List Item} {cs : List Frame} {w : World} {Q : Exit → Act → World → Prop}
theorem stepR_scope {c : Code} : step P (lone (b.atR a (.code (.scope c) :: k)) cs w) = .next (lone (b.atR a (.code c :: .inScope c :: k)) cs w) :=
  step_lone_go (by simp [stepG, stepG.exec, Frame.atR])
theorem stepR_inScope {c : Code} : step P (lone (b.atR a (.inScope c :: k)) cs w) = .next (lone (b.atR a k) cs w) :=
  step_lone_go (by simp [stepG, stepG.exec, Frame.atR])
theorem wpIn_scope {c : Code} (h : c.wpIn F n P (Exit.noGoto Q) a w) : (Code.scope c).wpIn F n P Q a w := by
  intro b k cs hro hb hr
  have h0 : (lone (b.atR a (.code (.scope c) :: k)) cs w).fenced P F := fenced_calm hb hr rfl
  obtain ⟨e, a₁, w₁, hq, harr⟩ := h b (.inScope c :: k) cs hro hb hr
  cases e with
  | normal => exact ⟨.normal, a₁, w₁, hq, .head h0 stepR_scope (StepsIn.trans harr (.one (fenced_calm hb hr rfl) stepR_inScope))⟩
  | exit id' =>
    have hx : exitTo id' (.inScope c :: k) = exitTo id' k := by simp [exitTo]
    exact ⟨.exit id', a₁, w₁, hq, fun k' hk => .head h0 stepR_scope (harr.1 k' (by rw [hx]; exact hk)),
      fun hr' hk => let ⟨k₁, h1, h2⟩ := harr.2 hr' (by rw [hx]; exact hk); ⟨k₁, h1, .head h0 stepR_scope h2⟩⟩
  | goto l => exact hq.elim
  | ret => exact ⟨_, a₁, w₁, hq, .of_steps (.one h0 stepR_scope) harr⟩
  | panic ch => exact ⟨_, a₁, w₁, hq, .of_steps (.one h0 stepR_scope) harr⟩
  | outgrown => exact ⟨_, a₁, w₁, hq, .of_steps (.one h0 stepR_scope) harr⟩
/-- a statement that is left at its end alone -/
theorem wp_onlyR {P : Program} {c : Code} {K : Act → World → Prop} {Q' : Exit → Act → World → Prop} {a : Act} {w : World} (h : c.wp P (Exit.then K (fun _ _ _ => False)) a w) : c.wp P (Exit.then K Q') a w :=
  (wpIn_wide (n := 1)).1 (wpIn_mono (wpIn_wide.2 h) (fun e _ _ hq => by
    cases e with
    | normal => exact hq
    | exit id => exact hq.elim
    | goto l => exact hq.elim
    | ret => exact hq.elim
    | panic ch => exact hq.elim
    | outgrown => exact hq.elim))
end
end Go
/- counts and worlds: small laws. -/
namespace Go.Proofs.YtmkjejngnahpeaaGreat
open Go Go.RowKit Go.Shelf
attribute [local go_sem] Oper.semAt_some

theorem len_sum : ∀ l : List Rc, l.length ≤ (l.map Rc.size).sum
  | [] => by simp
  | r :: l => by
    have := len_sum l
    rw [List.map_cons, List.sum_cons, List.length_cons]
    have h2 : 12 ≤ r.size := by unfold Rc.size; omega
    omega
theorem cnt_long : ∀ bs : List Bat, cntT bs ≤ (batsT bs).length
  | [] => by simp [cntT]
  | b :: r => by
    have h1 := cnt_long r
    have e : batsT (b :: r) = batchT b.1 b.2 ++ batsT r := rfl
    have e2 : cntT (b :: r) = b.2.length + cntT r := by simp [cntT]
    have h2 := len_sum b.2
    rw [e, e2, List.length_append, batchT_len]
    unfold rcsSize
    omega
theorem bcell {W w1 : World} (hb : Below W.heap.size W w1) : (∀ b o, b < W.heap.size → w1.cell? ⟨b, o, none⟩ = W.cell? ⟨b, o, none⟩) ∧ (∀ b o, b < W.heap.size → w1.frozen? ⟨b, o, none⟩ = W.frozen? ⟨b, o, none⟩) :=
  ⟨fun b o h => hb.cell (p := ⟨b, o, none⟩) h, fun b o h => hb.frozen (p := ⟨b, o, none⟩) h⟩
theorem bdrew (w : World) : Below w.heap.size w w.drew := ⟨rfl, rfl, rfl, Nat.le_refl _, fun _ _ => rfl⟩
theorem bdrewa (w : World) (o : Obj) : Below w.heap.size w (w.drew.alloc o) := (bdrew w).alloc (Nat.le_refl _) o
end Go.Proofs.YtmkjejngnahpeaaGreat
/- record: Same, SameAll; the document's Large. -/
namespace Go.Proofs.YtmkjejngnahpeaaGreat
open Go Go.RowKit
attribute [local go_sem] Oper.semAt_some

theorem run_string_rdR {P : Program} (w : World) (src dst e : TypeId) (oa : Option Addr) (n c : Nat) (l : List UInt8) (hl : l.length = n) (hs : P.underlying src = some (.slice e)) (he : P.underlying e = some (.int .u8)) (hd : P.underlying dst = some .string)
    (h : readAt w 1 (.slice oa n c) n (byteCells l)) : (convert src dst (.slice oa n c)).run P w = .ok (.string ⟨l.toArray⟩) w := by
  subst hl
  rcases h.2 with ⟨h0, oa', c', hv, hn⟩ | ⟨g, off, c', hv, h0, hg, hc, hj⟩
  · simp only [Value.slice.injEq] at hv
    obtain ⟨rfl, -, rfl⟩ := hv
    have hl : l = [] := List.eq_nil_of_length_eq_zero h0
    subst hl
    cases oa with
    | none => 
      obtain rfl := hn rfl
      exact run_string_row w 0 src dst e _ [] hs he hd ⟨rfl, .inl ⟨rfl, rfl⟩⟩
    | some a => exact run_convert_bytes_back w src dst e a c [] hs he hd fun j hj => by cases hj
  · simp only [Value.slice.injEq] at hv
    obtain ⟨rfl, -, rfl⟩ := hv
    refine run_convert_bytes_back w src dst e ⟨g, off, none⟩ c l hs he hd fun j hj' => ?_
    rw [Go.WideShapes.add_plain]
    exact hj j _ (by simp [byteCells, hj'])
set_option maxHeartbeats 400000 in
theorem bytesEqR_b {w : World} {oa ob : Option Addr} {n c m d : Nat} {a b : List UInt8} (hn : a.length = n) (hm : b.length = m) (ha : readAt w 1 (.slice oa n c) n (byteCells a)) (hb : readAt w 1 (.slice ob m d) m (byteCells b)) :
    Calls Tryz.prog 66 #[.slice oa n c, .slice ob m d] w fun e w' => e = .returned (.bool (decide (a = b))) ∧ w' = w := by
  have h1 := run_string_rdR (P := Tryz.prog) w 58 9 5 oa n c a hn Tryz.underlying58 Tryz.underlying5 Tryz.underlying9 ha
  have h2 := run_string_rdR (P := Tryz.prog) w 58 9 5 ob m d b hm Tryz.underlying58 Tryz.underlying5 Tryz.underlying9 hb
  have he : (a == b) = decide (a = b) := by by_cases h : a = b <;> simp [h]
  have HE := Lib.hid he
  clear ha hb he
  go_enter Tryz.func66, Tryz.ntmps66
  go_wp2_with fail
  go_ret
  refine ⟨?_, rfl⟩
  rw [← HE.out]
  rfl
set_option maxRecDepth 100000 in
set_option maxHeartbeats 1000000 in
/-- two records are the same, where they are -/
theorem recSame_b {w : World} {t1 t2 : Int} {oa ob oc od : Option Addr} {n c m d n2 c2 m2 d2 : Nat} {k1 v1 k2 v2 : List UInt8} (e1 : k1.length = n) (e2 : v1.length = m) (e3 : k2.length = n2) (e4 : v2.length = m2)
    (h1 : readAt w 1 (.slice oa n c) n (byteCells k1)) (h2 : readAt w 1 (.slice ob m d) m (byteCells v1)) (h3 : readAt w 1 (.slice oc n2 c2) n2 (byteCells k2)) (h4 : readAt w 1 (.slice od m2 d2) m2 (byteCells v2)) :
    Calls Tryz.prog 49 #[.agg #[.int .i64 t1, .slice oa n c, .slice ob m d], .agg #[.int .i64 t2, .slice oc n2 c2, .slice od m2 d2]] w fun e w' => e = .returned (.bool (decide (t1 = t2) && decide (k1 = k2) && decide (v1 = v2))) ∧ Below w.heap.size w w' := by
  obtain ⟨w1, hw1⟩ : ∃ W : World, W = (w.alloc (.cells #[.int .i64 t1, .slice oa n c, .slice ob m d] 60)).alloc (.cells #[.int .i64 t2, .slice oc n2 c2, .slice od m2 d2] 60) := ⟨_, rfl⟩
  obtain ⟨b2, hb2⟩ : ∃ b, b = w.heap.size := ⟨_, rfl⟩
  obtain ⟨b3, hb3⟩ : ∃ b, b = w.heap.size + 1 := ⟨_, rfl⟩
  have g2 : w1.heap[b2]? = some (.cells #[.int .i64 t1, .slice oa n c, .slice ob m d] 60 (0, 0)) := by rw [hw1, hb2]; exact (Below.heap_alloc _ _ _ (by simp)).trans (alloc_cells _ _ _)
  have g3 : w1.heap[b3]? = some (.cells #[.int .i64 t2, .slice oc n2 c2, .slice od m2 d2] 60 (0, 0)) := by
    rw [hw1, hb3]
    have := alloc_cells (w.alloc (.cells #[.int .i64 t1, .slice oa n c, .slice ob m d] 60)) #[.int .i64 t2, .slice oc n2 c2, .slice od m2 d2] 60
    rwa [World.size_alloc] at this
  have hbl : Below w.heap.size w w1 := by rw [hw1]; exact ((Below.refl _ _).alloc (Nat.le_refl _) _).alloc (by simp) _
  have q0 : w1.cell? ⟨b2, 0, none⟩ = some (.int .i64 t1) := cell_of g2 rfl
  have q1 : w1.cell? ⟨b2, 1, none⟩ = some (.slice oa n c) := cell_of g2 rfl
  have q2 : w1.cell? ⟨b2, 2, none⟩ = some (.slice ob m d) := cell_of g2 rfl
  have r0 : w1.cell? ⟨b3, 0, none⟩ = some (.int .i64 t2) := cell_of g3 rfl
  have r1 : w1.cell? ⟨b3, 1, none⟩ = some (.slice oc n2 c2) := cell_of g3 rfl
  have r2 : w1.cell? ⟨b3, 2, none⟩ = some (.slice od m2 d2) := cell_of g3 rfl
  have HK := Lib.hid (bytesEqR_b e1 e3 (h1.kept (fun k hk _ _ => hbl.block k hk)) (h3.kept (fun k hk _ _ => hbl.block k hk)))
  have HV := Lib.hid (bytesEqR_b e2 e4 (h2.kept (fun k hk _ _ => hbl.block k hk)) (h4.kept (fun k hk _ _ => hbl.block k hk)))
  have HB := Lib.hid hbl
  clear e1 e2 e3 e4 h1 h2 h3 h4 g2 g3 hbl
  by_cases ht : t1 = t2
  · have dt : (t1 == t2) = true := by rw [beq_iff_eq]; exact ht
    have HT : Hid (decide (t1 = t2) = true) := Lib.hid (decide_eq_true ht)
    clear ht
    by_cases hk : k1 = k2
    · have hk' : decide (k1 = k2) = true := decide_eq_true hk
      rw [hk'] at HK ⊢
      rw [HT.out]
      clear hk hk'
      go_enter Tryz.func49, Tryz.ntmps49
      go_upto_region 1 with fail
      rw [← hw1, ← hb3, ← hb2]
      clear hw1 hb3 hb2
      go_wp2_with fail
      refine HK.out.mono ?_
      rintro e w2 ⟨rfl, hw2⟩
      obtain rfl := hw2.symm
      clear hw2
      go_wp2_with fail
      refine HV.out.mono ?_
      rintro e w2 ⟨rfl, hw2⟩
      obtain rfl := hw2.symm
      clear hw2
      go_wp2_with fail
      go_ret
      exact ⟨by simp, HB.out⟩
    · have hk' : decide (k1 = k2) = false := decide_eq_false hk
      rw [hk'] at HK ⊢
      rw [HT.out]
      clear hk hk'
      go_enter Tryz.func49, Tryz.ntmps49
      go_upto_region 1 with fail
      rw [← hw1, ← hb3, ← hb2]
      clear hw1 hb3 hb2
      go_wp2_with fail
      refine HK.out.mono ?_
      rintro e w2 ⟨rfl, hw2⟩
      obtain rfl := hw2.symm
      clear hw2
      go_wp2_with fail
      go_ret
      exact ⟨by simp, HB.out⟩
  · have dt : (t1 == t2) = false := by rw [beq_eq_false_iff_ne]; exact ht
    have HT : Hid (decide (t1 = t2) = false) := Lib.hid (decide_eq_false ht)
    clear ht
    rw [HT.out]
    go_enter Tryz.func49, Tryz.ntmps49
    go_upto_region 1 with fail
    rw [← hw1, ← hb3, ← hb2]
    clear hw1 hb3 hb2
    go_wp2_with fail
    go_ret
    exact ⟨by simp, HB.out⟩
theorem rc_eq (a b : Rc) : (decide (a.time = b.time) && decide (a.key = b.key) && decide (a.val = b.val)) = decide (a = b) := by
  obtain ⟨t, k, v⟩ := a
  obtain ⟨t', k', v'⟩ := b
  by_cases h1 : t = t' <;> by_cases h2 : k = k' <;> by_cases h3 : v = v' <;> simp [h1, h2, h3]
end Go.Proofs.YtmkjejngnahpeaaGreat
/- record: SameAll; the document's Large. -/
namespace Go.Proofs.YtmkjejngnahpeaaGreat
open Go Go.RowKit
attribute [local go_sem] Oper.semAt_some

set_option maxRecDepth 100000 in
set_option maxHeartbeats 2000000 in
theorem equalFunc_b {w : World} {oa ob : Option Addr} {n c m d : Nat} {xs ys : List RcV} {l k : List Rc} (hl : xs.map (·.r) = l) (hk : ys.map (·.r) = k) (hn : xs.length = n) (hm : ys.length = m) (h1 : RecsIs w (.slice oa n c) xs) (h2 : RecsIs w (.slice ob m d) ys) (hnm : n ≤ 1000000000) :
    Calls Tryz.prog 48 #[.slice oa n c, .slice ob m d, .func (.func 49) #[] #[]] w fun e w' => e = .returned (.bool (decide (l = k))) ∧ Below w.heap.size w w' := by
  have HL := Lib.hid (And.intro hl (And.intro hk (And.intro hn hm)))
  have HLL : Hid (l.length = n ∧ k.length = m) := Lib.hid ⟨by rw [← hl, List.length_map, hn], by rw [← hk, List.length_map, hm]⟩
  have H := Lib.hid (And.intro h1 h2)
  clear hl hk hn hm h1 h2
  by_cases hnm2 : n = m
  case neg =>
    have hd : ((n : Int) == (m : Int)) = false := by rw [beq_eq_false_iff_ne]; omega
    have hne : decide (l = k) = false := decide_eq_false (fun e => by
      have h3 := HLL.out
      rw [e] at h3
      omega)
    have HD := Lib.hid hne
    clear hne
    go_enter Tryz.func48, Tryz.ntmps48
    go_wp2_with fail
    go_ret
    exact ⟨by rw [HD.out]; rfl, Below.refl _ _⟩
  case pos =>
    subst hnm2
    go_enter Tryz.func48, Tryz.ntmps48
    go_wp2_with fail
    go_loopw [17] (fun i wr => ∃ j : Nat, i = .int .i64 (j : Int) ∧ j ≤ n ∧ Hid (l.take j = k.take j ∧ Below w.heap.size w wr)) (fun i _ => n - (intOf i).toNat)
    case atStart => exact ⟨0, rfl, by omega, Lib.hid ⟨by simp, Below.refl _ _⟩⟩
    case round =>
      obtain ⟨j, rfl, hj, HI⟩ := hrel
      by_cases hlt : j < n
      · have hjx : j < xs.length := by rw [HL.out.2.2.1]; exact hlt
        have hjy : j < ys.length := by rw [HL.out.2.2.2]; exact hlt
        have hjl : j < l.length := by rw [HLL.out.1]; exact hlt
        have hjk : j < k.length := by rw [HLL.out.2]; exact hlt
        have g1 := H.out.1.below HI.out.2
        have g2 := H.out.2.below HI.out.2
        have e1 := g1.each xs[j] (List.getElem_mem hjx)
        have e2 := g2.each ys[j] (List.getElem_mem hjy)
        obtain ⟨ga, fa, ka, kc, va, vc, rfl, hkv, hvv, c0, c1, c2⟩ := g1.cells HL.out.2.2.1 hjx
        obtain ⟨gb, fb, kb, kd, vb, vd, rfl, hkw, hvw, d0, d1, d2⟩ := g2.cells HL.out.2.2.2 hjy
        have hx : xs[j].r = l[j] := by simp [← HL.out.1]
        have hy : ys[j].r = k[j] := by simp [← HL.out.2.1]
        rw [hkv, hvv] at e1
        rw [hkw, hvw] at e2
        have e11 : readAt wr 1 (.slice ka xs[j].r.key.length kc) xs[j].r.key.length (byteCells xs[j].r.key) := e1.1
        have e12 : readAt wr 1 (.slice va xs[j].r.val.length vc) xs[j].r.val.length (byteCells xs[j].r.val) := e1.2
        have e21 : readAt wr 1 (.slice kb ys[j].r.key.length kd) ys[j].r.key.length (byteCells ys[j].r.key) := e2.1
        have e22 : readAt wr 1 (.slice vb ys[j].r.val.length vd) ys[j].r.val.length (byteCells ys[j].r.val) := e2.2
        rw [hx] at c0 c1 c2 e11 e12
        rw [hy] at d0 d1 d2 e21 e22
        have HT : Hid (l.take (j + 1) = l.take j ++ [l[j]] ∧ k.take (j + 1) = k.take j ++ [k[j]] ∧ l[j]? = some l[j] ∧ k[j]? = some k[j]) := Lib.hid ⟨List.take_succ_eq_append_getElem hjl, List.take_succ_eq_append_getElem hjk, List.getElem?_eq_getElem hjl, List.getElem?_eq_getElem hjk⟩
        obtain ⟨r, hr⟩ : ∃ r, l[j] = r := ⟨_, rfl⟩
        obtain ⟨s, hs⟩ : ∃ s, k[j] = s := ⟨_, rfl⟩
        rw [hr] at c0 c1 c2 e11 e12 HT
        rw [hs] at d0 d1 d2 e21 e22 HT
        obtain ⟨rt, hrt⟩ : ∃ x, r.time = x := ⟨_, rfl⟩
        obtain ⟨rk, hrk⟩ : ∃ x, r.key.length = x := ⟨_, rfl⟩
        obtain ⟨rv, hrv⟩ : ∃ x, r.val.length = x := ⟨_, rfl⟩
        obtain ⟨st, hst⟩ : ∃ x, s.time = x := ⟨_, rfl⟩
        obtain ⟨sk, hsk⟩ : ∃ x, s.key.length = x := ⟨_, rfl⟩
        obtain ⟨sv, hsv⟩ : ∃ x, s.val.length = x := ⟨_, rfl⟩
        rw [hrt] at c0
        rw [hrk] at c1 e11
        rw [hrv] at c2 e12
        rw [hst] at d0
        rw [hsk] at d1 e21
        rw [hsv] at d2 e22
        have hgb : gb < wr.heap.size := World.block_lt_of_cell? _ _ d0
        have hbA : Below wr.heap.size wr (wr.alloc (.cells #[.int .i64 rt, .slice ka rk kc, .slice va rv vc] 60)) := (Below.refl _ _).alloc (Nat.le_refl _) _
        have d0a := (hbA.cell (p := ⟨gb, fb + j * 3, none⟩) hgb).trans d0
        have d1a := (hbA.cell (p := ⟨gb, fb + j * 3 + 1, none⟩) hgb).trans d1
        have d2a := (hbA.cell (p := ⟨gb, fb + j * 3 + 2, none⟩) hgb).trans d2
        clear hgb hbA
        obtain ⟨w1, hw1⟩ : ∃ W : World, W = (wr.alloc (.cells #[.int .i64 rt, .slice ka rk kc, .slice va rv vc] 60)).alloc (.cells #[.int .i64 st, .slice kb sk kd, .slice vb sv vd] 60) := ⟨_, rfl⟩
        obtain ⟨b8, hb8⟩ : ∃ b, b = wr.heap.size := ⟨_, rfl⟩
        obtain ⟨b9, hb9⟩ : ∃ b, b = wr.heap.size + 1 := ⟨_, rfl⟩
        have q8 : w1.heap[b8]? = some (.cells #[.int .i64 rt, .slice ka rk kc, .slice va rv vc] 60 (0, 0)) := by rw [hw1, hb8]; exact (Below.heap_alloc _ _ _ (by simp)).trans (alloc_cells _ _ _)
        have q9 : w1.heap[b9]? = some (.cells #[.int .i64 st, .slice kb sk kd, .slice vb sv vd] 60 (0, 0)) := by
          rw [hw1, hb9]
          have := alloc_cells (wr.alloc (.cells #[.int .i64 rt, .slice ka rk kc, .slice va rv vc] 60)) #[.int .i64 st, .slice kb sk kd, .slice vb sv vd] 60
          rwa [World.size_alloc] at this
        have hbl : Below wr.heap.size wr w1 := by rw [hw1]; exact ((Below.refl _ _).alloc (Nat.le_refl _) _).alloc (by simp) _
        have hsm := recSame_b (w := w1) (t1 := rt) (t2 := st) hrk hrv hsk hsv (e11.kept (fun i hi _ _ => hbl.block i hi)) (e12.kept (fun i hi _ _ => hbl.block i hi)) (e21.kept (fun i hi _ _ => hbl.block i hi)) (e22.kept (fun i hi _ _ => hbl.block i hi))
        obtain ⟨q, hq⟩ : ∃ q, (decide (rt = st) && decide (r.key = s.key) && decide (r.val = s.val)) = q := ⟨_, rfl⟩
        rw [hq] at hsm
        have HQ : Hid (decide (r = s) = q) := Lib.hid (by rw [← rc_eq, hrt, hst]; exact hq)
        have HSM := Lib.hid hsm
        have HB := Lib.hid hbl
        have y0 : w1.cell? ⟨b8, 0, none⟩ = some (.int .i64 rt) := cell_of q8 rfl
        have y1 : w1.cell? ⟨b8, 1, none⟩ = some (.slice ka rk kc) := cell_of q8 rfl
        have y2 : w1.cell? ⟨b8, 2, none⟩ = some (.slice va rv vc) := cell_of q8 rfl
        have z0 : w1.cell? ⟨b9, 0, none⟩ = some (.int .i64 st) := cell_of q9 rfl
        have z1 : w1.cell? ⟨b9, 1, none⟩ = some (.slice kb sk kd) := cell_of q9 rfl
        have z2 : w1.cell? ⟨b9, 2, none⟩ = some (.slice vb sv vd) := cell_of q9 rfl
        clear hjx hjy hjl hjk g1 g2 e1 e2 hkv hvv hkw hvw hx hy e11 e12 e21 e22 hr hs hrt hrk hrv hst hsk hsv q8 q9 hbl hsm hq
        go_upto_region 7 with fail
        rw [← hw1, ← hb9, ← hb8]
        clear hw1 hb9 hb8 d0a d1a d2a c0 c1 c2 d0 d1 d2
        go_wp2_with fail
        refine HSM.out.mono ?_
        rintro e w2 ⟨rfl, hb2⟩
        have HB2 := Lib.hid (HI.out.2.trans ((HB.out.trans (hb2.mono HB.out.size)).mono HI.out.2.size))
        clear hb2 HSM
        cases q with
        | false =>
          have hne : decide (l = k) = false := decide_eq_false (fun e => by
            have h1 := HT.out.2.2.1
            rw [e, HT.out.2.2.2] at h1
            simp only [Option.some.injEq] at h1
            have h2 := HQ.out
            rw [h1, decide_eq_true rfl] at h2
            cases h2)
          have HD := Lib.hid hne
          clear hne
          go_wp2_with fail
          go_ret
          exact ⟨by rw [HD.out]; rfl, HB2.out⟩
        | true =>
          go_wp2_with fail
          refine ⟨⟨j + 1, by simp, by omega, Lib.hid ⟨?_, HB2.out⟩⟩, by simp [intOf]; omega⟩
          rw [HT.out.1, HT.out.2.1, HI.out.1, of_decide_eq_true HQ.out]
      · obtain rfl : j = n := by omega
        have heq : decide (l = k) = true := decide_eq_true (by
          have h1 := HI.out.1
          rwa [List.take_of_length_le (by rw [HLL.out.1]; exact Nat.le_refl _), List.take_of_length_le (by rw [HLL.out.2]; exact Nat.le_refl _)] at h1)
        have HD := Lib.hid heq
        have HB := Lib.hid HI.out.2
        clear heq HI hlt
        go_wp2_with fail
        go_ret
        exact ⟨by rw [HD.out]; rfl, HB.out⟩
set_option maxHeartbeats 400000 in
theorem sameAll_b {w : World} {oa ob : Option Addr} {n c m d : Nat} {xs ys : List RcV} {l k : List Rc} (hl : xs.map (·.r) = l) (hk : ys.map (·.r) = k) (hn : xs.length = n) (hm : ys.length = m) (h1 : RecsIs w (.slice oa n c) xs) (h2 : RecsIs w (.slice ob m d) ys) (hnm : n ≤ 1000000000) :
    Calls Tryz.prog 18 #[.slice oa n c, .slice ob m d] w fun e w' => e = .returned (.bool (decide (l = k))) ∧ Below w.heap.size w w' := by
  have H := Lib.hid (equalFunc_b hl hk hn hm h1 h2 hnm)
  clear hl hk hn hm h1 h2
  go_enter Tryz.func18, Tryz.ntmps18
  go_wp2_with fail
  refine H.out.mono ?_
  rintro e w2 ⟨rfl, hb⟩
  have HB := Lib.hid hb
  clear hb H
  go_wp2_with fail
  go_ret
  exact ⟨rfl, HB.out⟩
/-- more than is done by a statement -/
def Rc.large (r : Rc) : Bool := decide (9000 < r.key.length) || decide (9000 < r.val.length)
def largeT (n : Nat) (l : List Rc) : Bool := decide (n < l.length) || l.any Rc.large
set_option maxRecDepth 100000 in
set_option maxHeartbeats 1000000 in
theorem large_b {w : World} {oa : Option Addr} {n c : Nat} {xs : List RcV} {l : List Rc} {most : Nat} (hl : xs.map (·.r) = l) (hn : xs.length = n) (h1 : RecsIs w (.slice oa n c) xs) (hm : most ≤ 1000000) (hnm : n ≤ maxLen) :
    Calls Tryz.prog 5 #[.int .i64 (most : Int), .slice oa n c] w fun e w' => e = .returned (.bool (largeT most l)) ∧ w' = w := by
  have hln : l.length = n := by rw [← hl, List.length_map, hn]
  have HL := Lib.hid (And.intro hl (And.intro hn hln))
  have H := Lib.hid h1
  unfold maxLen at hnm
  clear hl hn h1 hln
  by_cases hbig : most < n
  · have hd : decide ((most : Int) < (n : Int)) = true := decide_eq_true (by omega)
    have hd2 : decide (most < n) = true := decide_eq_true hbig
    have HT : Hid (largeT most l = true) := Lib.hid (by unfold largeT; rw [HL.out.2.2, hd2]; rfl)
    go_enter Tryz.func5, Tryz.ntmps5
    go_wp2_with fail
    go_ret
    exact ⟨by rw [HT.out]; rfl, rfl⟩
  · have hd : decide ((most : Int) < (n : Int)) = false := decide_eq_false (by omega)
    have hd2 : decide (most < n) = false := decide_eq_false hbig
    have HT : Hid (largeT most l = l.any Rc.large) := Lib.hid (by unfold largeT; rw [HL.out.2.2, hd2]; rfl)
    go_enter Tryz.func5, Tryz.ntmps5
    go_wp2_with fail
    go_loopw [5] (fun i wr => ∃ j : Nat, i = .int .i64 (j : Int) ∧ j ≤ n ∧ wr = w ∧ Hid ((l.take j).any Rc.large = false)) (fun i _ => n - (intOf i).toNat)
    case atStart => exact ⟨0, rfl, by omega, rfl, Lib.hid (by simp)⟩
    case round =>
      obtain ⟨j, rfl, hj, rfl, HI⟩ := hrel
      by_cases hlt : j < n
      · have hjx : j < xs.length := by rw [HL.out.2.1]; exact hlt
        have hjl : j < l.length := by rw [HL.out.2.2]; exact hlt
        obtain ⟨ga, fa, ka, kc, va, vc, rfl, -, -, c0, c1, c2⟩ := H.out.cells HL.out.2.1 hjx
        have hx : xs[j].r = l[j] := by simp [← HL.out.1]
        rw [hx] at c1 c2
        have HTK : Hid (l.take (j + 1) = l.take j ++ [l[j]] ∧ l[j] ∈ l) := Lib.hid ⟨List.take_succ_eq_append_getElem hjl, List.getElem_mem hjl⟩
        obtain ⟨r, hr⟩ : ∃ r, l[j] = r := ⟨_, rfl⟩
        rw [hr] at c1 c2 HTK
        obtain ⟨rk, hrk⟩ : ∃ x, r.key.length = x := ⟨_, rfl⟩
        obtain ⟨rv, hrv⟩ : ∃ x, r.val.length = x := ⟨_, rfl⟩
        rw [hrk] at c1
        rw [hrv] at c2
        have HR : Hid (r.large = (decide (9000 < rk) || decide (9000 < rv))) := Lib.hid (by unfold Rc.large; rw [hrk, hrv])
        clear hjx hjl hx hr hrk hrv c0
        by_cases h9 : 9000 < rk ∨ 9000 < rv
        · have HTT : Hid (largeT most l = true) := Lib.hid (by
            rw [HT.out]
            refine List.any_eq_true.2 ⟨r, HTK.out.2, ?_⟩
            rw [HR.out]
            rcases h9 with h | h
            · rw [decide_eq_true h]; rfl
            · rw [decide_eq_true h]; simp)
          by_cases hk9 : 9000 < rk
          · have e1 : decide ((9000 : Int) < (rk : Int)) = true := decide_eq_true (by omega)
            have e1' : decide (9000 < rk) = true := decide_eq_true hk9
            go_wp2_with fail
            go_ret
            exact ⟨by rw [HTT.out]; rfl, rfl⟩
          · have e1 : decide ((9000 : Int) < (rk : Int)) = false := decide_eq_false (by omega)
            have e1' : decide (9000 < rk) = false := decide_eq_false hk9
            have e2 : decide ((9000 : Int) < (rv : Int)) = true := decide_eq_true (by omega)
            have e2' : decide (9000 < rv) = true := decide_eq_true (by omega)
            go_wp2_with fail
            go_ret
            exact ⟨by rw [HTT.out]; rfl, rfl⟩
        · have e1 : decide ((9000 : Int) < (rk : Int)) = false := decide_eq_false (by omega)
          have e1' : decide (9000 < rk) = false := decide_eq_false (by omega)
          have e2 : decide ((9000 : Int) < (rv : Int)) = false := decide_eq_false (by omega)
          have e2' : decide (9000 < rv) = false := decide_eq_false (by omega)
          rw [e1', e2'] at HR
          go_wp2_with fail
          refine ⟨⟨j + 1, by simp, by omega, trivial, Lib.hid ?_⟩, by simp [intOf]; omega⟩
          rw [HTK.out.1, List.any_append, HI.out]
          simp [HR.out]
      · obtain rfl : j = n := by omega
        have HTT : Hid (largeT most l = false) := Lib.hid (by
          rw [HT.out]
          have h1 := HI.out
          rwa [List.take_of_length_le (by rw [HL.out.2.2]; exact Nat.le_refl _)] at h1)
        clear HI
        go_wp2_with fail
        go_ret
        exact ⟨by rw [HTT.out]; rfl, rfl⟩
end Go.Proofs.YtmkjejngnahpeaaGreat
/- Disk: New, without fates. -/
namespace Go.Proofs.YtmkjejngnahpeaaGreat
open Go Go.Maps Go.RowKit

set_option maxHeartbeats 400000 in
theorem indexFate_nil (f : Value) (w : World) : Calls Tryz.prog 67 #[.slice none 0 0, f] w fun e w' => e = .returned (.int .i64 (-1)) ∧ w' = w := by
  go_enter Tryz.func67, Tryz.ntmps67
  go_wp2_with fail
  go_loop [8] (fun i => i = .int .i64 0) (fun _ => 0)
  case atStart => rfl
  case round =>
    subst hrel
    go_wp2_with fail
    go_ret
    exact ⟨rfl, rfl⟩
set_option maxHeartbeats 400000 in
theorem containsFate_nil (f : Value) (w : World) : Calls Tryz.prog 50 #[.slice none 0 0, f] w fun e w' => e = .returned (.bool false) ∧ w' = w := by
  go_enter Tryz.func50, Tryz.ntmps50
  go_wp2_with fail
  refine (indexFate_nil f _).mono ?_
  rintro e w' ⟨rfl, rfl⟩
  go_wp2_with fail
  go_ret
  exact ⟨rfl, rfl⟩
set_option maxHeartbeats 400000 in
theorem right_nil (w : World) : Calls Tryz.prog 20 #[.slice none 0 0] w fun e w' => e = .returned (.bool true) ∧ w' = w := by
  go_enter Tryz.func20, Tryz.ntmps20
  go_wp2_with fail
  refine (containsFate_nil _ _).mono ?_
  rintro e w' ⟨rfl, rfl⟩
  go_wp2_with fail
  go_ret
  exact ⟨rfl, rfl⟩
set_option maxHeartbeats 400000 in
theorem cloneFate_nil (w : World) : Calls Tryz.prog 21 #[.slice none 0 0] w fun e w' => e = .returned (.slice none 0 0) ∧ w' = w := by
  have hnil : ∀ W : World, (binOp .eql 61 (.slice none 0 0) (.slice none 0 0)).run Tryz.prog W = .ok (.bool true) W := fun W => by kernel_rfl
  go_enter Tryz.func21, Tryz.ntmps21
  go_wp2_with fail
  go_ret
  exact ⟨rfl, rfl⟩
def Dk.new : Dk := ⟨[], [], 0⟩
theorem disk_new (w : World) : DiskIs ((w.alloc (.map #[] 0)).alloc (.cells #[.map (some w.heap.size), .slice none 0 0, .int .i64 0] 69)) (fun k => w.heap.size ≤ k ∧ k < w.heap.size + 2) (w.heap.size + 1) w.heap.size (.slice none 0 0) [] Dk.new where
  files := rfl
  head := by
    have := alloc_cells (w.alloc (.map #[] 0)) #[.map (some w.heap.size), .slice none 0 0, .int .i64 0] 69
    rw [World.size_alloc] at this
    exact this
  fates := ⟨by simp [fateCells, Dk.new], .inl ⟨rfl, rfl⟩⟩
  map := ⟨_, (World.ownsMap_made w Tryz.prog 9 ptrElem).alloc _, Dic.empty⟩
  each := fun x hx => (by cases hx)
  apart := by simp [diskBlocks, Value.ownBlock]
  foot := fun k hk => by
    simp [diskBlocks, Value.ownBlock] at hk
    omega
  low := fun k hk => by simp; omega
  sorted := by simp [Dk.new]
  names := fun f hf => by simp [Dk.new] at hf
  few := by simp [Dk.new]
set_option maxHeartbeats 400000 in
theorem new_b (w : World) : Calls Tryz.prog 6 #[.slice none 0 0] w fun e w' => ∃ q, e = .returned (.tuple #[.pointer (some ⟨q, 0, none⟩), .int .i64 0]) ∧ DiskAt w' (fun k => w.heap.size ≤ k ∧ k < w'.heap.size) q Dk.new ∧ Below w.heap.size w w' := by
  have hmm := @run_makeMap Tryz.prog
  go_enter Tryz.func6, Tryz.ntmps6
  go_wp2_with fail
  refine (right_nil _).mono ?_
  rintro e w' ⟨rfl, rfl⟩
  go_wp2_with fail
  refine (cloneFate_nil _).mono ?_
  rintro e w1 ⟨rfl, rfl⟩
  go_wp2_with fail
  go_ret2
  refine ⟨_, rfl, ⟨_, _, _, (disk_new w').wider (fun k hk => ⟨hk.1, by simp; omega⟩) (fun k hk => hk.2)⟩, ((Below.refl _ _).alloc (Nat.le_refl _) _).alloc (by simp) _⟩
end Go.Proofs.YtmkjejngnahpeaaGreat
