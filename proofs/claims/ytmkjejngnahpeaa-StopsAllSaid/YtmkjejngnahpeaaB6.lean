/- The texts Fk, Fm, Fn, Fo in one. -/
import Derived.Test.YtmkjejngnahpeaaB4
import Derived.Test.YtmkjejngnahpeaaB5
import Derived.RangeFuncWrites
import Derived.Sort.MapsRangeIn
import Derived.Sort.CutIn
import Derived.Deep.RegionHeld3
import Derived.Shelf.RegionOpen
/- Disk: going over what All tells. -/
namespace Go.Proofs.Ytmkjejngnahpeaa
open Go Go.Maps Go.RowKit Go.Shelf
open Go.Proofs (encStr)
attribute [local go_sem] Oper.semAt_some

def fileV (f : F0) : Value := .agg #[encStr f.name, .int .i64 f.bytes.length, .int .i64 f.lasts, .bool f.there, .bool f.named]
theorem filesCells_get : ∀ {l : List F0} {j i : Nat} (hj : j < l.length) (_ : i < 5), (filesCells l)[j * 5 + i]? = (fileCells l[j])[i]?
  | f :: r, 0, i, _, hi => by
    have : filesCells (f :: r) = fileCells f ++ filesCells r := rfl
    rw [this, List.getElem?_append_left (by simp [fileCells]; omega)]
    simp
  | f :: r, j + 1, i, hj, hi => by
    have : filesCells (f :: r) = fileCells f ++ filesCells r := rfl
    have h5 : (fileCells f).length = 5 := by simp [fileCells]
    rw [this, List.getElem?_append_right (by omega), h5, show (j + 1) * 5 + i - 5 = j * 5 + i by omega, filesCells_get (by simpa using hj) hi]
    simp
set_option maxRecDepth 100000 in
set_option maxHeartbeats 1000000 in
theorem filesIn (F : Fence) (n : Nat) (h7 : F.fn 161) (hro : F.round = none) (hn : 1 ≤ n) (l vb : Nat) (w : World) (fs : List F0) (hsq : SeqAt w vb fs) (hfs : fs.length ≤ 1000000) (J Jx : List F0 → World → Prop) (W : World) (hW : Below w.heap.size w W)
    (hJ : AbidesFrom W.heap.size J)
    (hY : ∀ pre x W1, J pre W1 → pre.length < fs.length → YieldAt F (n - 1) Try.prog l #[fileV x] W1 fun e W' =>
      (e = .returned (.bool true) ∧ J (pre ++ [x]) W' ∧ Below w.heap.size W1 W') ∨ (e = .returned (.bool false) ∧ Jx (pre ++ [x]) W')) (h0 : J [] W) :
    CallsIn F n Try.prog 161 #[.func (.yield l) #[] #[], .pointer (some ⟨vb, 0, none⟩)] W fun e W' => (∃ v, e = .returned v) ∧ (J fs W' ∨ ∃ pre, (∃ r, fs = pre ++ r) ∧ Jx pre W') := by
  obtain ⟨v, hv, hrow⟩ := hsq
  obtain ⟨oa, c, rfl, hnc⟩ := hrow.shape
  obtain ⟨N, hN⟩ : ∃ N, fs.length = N := ⟨_, rfl⟩
  rw [hN] at hv hrow hnc hfs
  have cv : W.cell? ⟨vb, 0, none⟩ = some (.slice oa N c) := cell_of ((hW.block vb (Array.getElem?_eq_some_iff.1 hv).1).trans hv) rfl
  have HR := Lib.hid hrow
  have HN := Lib.hid hN
  have HY := Lib.hid hY
  have HJ := Lib.hid hJ
  have HW := Lib.hid hW
  clear hv hrow hN hY hJ hW
  refine callsIn_of_wp Try.func161 rfl h7 ?_ hro
  simp only [Try.ntmps161, List.size_toArray, List.length_cons, List.length_nil, Nat.reduceAdd, Nat.reduceSub, Array.replicate_succ, Array.replicate_zero, List.push_toArray, List.append_toArray, List.nil_append, List.cons_append]
  gi_wp2
  gi_loopw [7] (fun i wr => ∃ j : Nat, j ≤ N ∧ i = .int .i64 j ∧ J (fs.take j) wr ∧ Below w.heap.size w wr ∧ W.heap.size ≤ wr.heap.size) (fun i wr => N - (intOf i).toNat)
  case atStart => exact ⟨0, Nat.zero_le _, rfl, by simpa using h0, HW.out, Nat.le_refl _⟩
  case round =>
    obtain ⟨j, hj, rfl, hJs, hbw, hWr⟩ := hrel
    by_cases hlt : j < N
    · have hjf : j < fs.length := by rw [HN.out]; exact hlt
      have hrw := HR.out.kept (fun k hk => hbw.block k (HR.out.lt k hk))
      obtain ⟨g, off, rfl⟩ := hrw.addr (by omega)
      obtain ⟨x, hx⟩ : ∃ x, fs[j] = x := ⟨_, rfl⟩
      have hcell : ∀ i, i < 5 → ∀ u, (fileCells x)[i]? = some u → wr.cell? ⟨g, off + (j * 5 + i), none⟩ = some u := fun i hi u hu => by
        have := hrw.cells (g := g) (off := off) rfl (j * 5 + i) u (by rw [filesCells_get hjf hi, hx, hu])
        simpa [Go.WideShapes.add_plain] using this
      have k0 : wr.cell? ⟨g, off + j * 5, none⟩ = some (encStr x.name) := hcell 0 (by omega) _ rfl
      have k1 : wr.cell? ⟨g, off + j * 5 + 1, none⟩ = some (.int .i64 x.bytes.length) := hcell 1 (by omega) _ rfl
      have k2 : wr.cell? ⟨g, off + j * 5 + 2, none⟩ = some (.int .i64 x.lasts) := hcell 2 (by omega) _ rfl
      have k3 : wr.cell? ⟨g, off + j * 5 + 3, none⟩ = some (.bool x.there) := hcell 3 (by omega) _ rfl
      have k4 : wr.cell? ⟨g, off + j * 5 + 4, none⟩ = some (.bool x.named) := hcell 4 (by omega) _ rfl
      obtain ⟨a0, ha0⟩ : ∃ a : ByteArray, encStr x.name = .string a := ⟨_, rfl⟩
      obtain ⟨a1, ha1⟩ : ∃ a : Int, (x.bytes.length : Int) = a := ⟨_, rfl⟩
      obtain ⟨a2, ha2⟩ : ∃ a : Int, (x.lasts : Int) = a := ⟨_, rfl⟩
      obtain ⟨a3, ha3⟩ : ∃ a, x.there = a := ⟨_, rfl⟩
      obtain ⟨a4, ha4⟩ : ∃ a, x.named = a := ⟨_, rfl⟩
      have HV : Hid (fileV x = .agg #[.string a0, .int .i64 a1, .int .i64 a2, .bool a3, .bool a4]) := Lib.hid (by unfold fileV; rw [ha0, ha1, ha2, ha3, ha4])
      rw [ha0] at k0; rw [ha1] at k1; rw [ha2] at k2; rw [ha3] at k3; rw [ha4] at k4
      have HX := Lib.hid hx
      have HJS := Lib.hid hJs
      have HBW := Lib.hid hbw
      obtain ⟨w2, hw2⟩ : ∃ w2 : World, w2 = wr.alloc (.cells #[.string a0, .int .i64 a1, .int .i64 a2, .bool a3, .bool a4] 78) := ⟨_, rfl⟩
      have hg2 : wr.grownBy w2 none := by rw [hw2]; exact World.grownBy_alloc _ _ _
      have hJ2 : J (fs.take j) w2 := HJ.out (fs.take j) wr w2 none hJs hg2 (fun r e => by cases e)
      obtain ⟨fn, tmps, assign, body, hy, hR⟩ := HY.out (fs.take j) x w2 hJ2 (by rw [List.length_take]; omega)
      rw [HV.out] at hy
      have HRD := Lib.hid hR
      have HB2 : Hid (Below w.heap.size w w2 ∧ W.heap.size ≤ w2.heap.size) := Lib.hid ⟨hbw.trans ((below_grown hg2).mono hbw.size), Nat.le_trans hWr hg2.size⟩
      have HTK : Hid (fs.take (j + 1) = fs.take j ++ [x]) := Lib.hid (by rw [List.take_succ_eq_append_getElem hjf, hx])
      clear hcell hrw hx hJs hbw ha0 ha1 ha2 ha3 ha4 hJ2 hg2 hR HJS
      subst hw2
      gi_wp2
      refine HRD.out.mono ?_
      rintro e W3 (⟨rfl, hJ3, hk3⟩ | ⟨rfl, hJx3⟩)
      · have HJ3 : Hid (J (fs.take (j + 1)) W3) := Lib.hid (by rw [HTK.out]; exact hJ3)
        have HB3 : Hid (Below w.heap.size w W3 ∧ W.heap.size ≤ W3.heap.size) := Lib.hid ⟨HB2.out.1.trans hk3, Nat.le_trans HB2.out.2 hk3.size⟩
        clear hJ3 hk3
        gi_wp2
        exact ⟨⟨j + 1, by omega, by simp, HJ3.out, HB3.out.1, HB3.out.2⟩, by simp [intOf]; omega⟩
      · have HX3 : Hid (Jx (fs.take (j + 1)) W3) := Lib.hid (by rw [HTK.out]; exact hJx3)
        clear hJx3
        gi_wp2
        refine bodyPost_ret (results_none rfl _ _ _) rfl ?_
        exact ⟨⟨_, rfl⟩, .inr ⟨fs.take (j + 1), ⟨fs.drop (j + 1), (List.take_append_drop _ _).symm⟩, HX3.out⟩⟩
    · obtain rfl : j = N := by omega
      have HE : Hid (J fs wr) := Lib.hid (by rwa [List.take_of_length_le (by rw [HN.out]; exact Nat.le_refl _)] at hJs)
      clear hJs
      gi_wp2
      go_end0
      exact ⟨⟨_, rfl⟩, .inl HE.out⟩
/-- **going over what All tells** -/
theorem files_stops (F : Fence) (n : Nat) (h7 : F.fn 161) (hro : F.round = none) (hn : 1 ≤ n) (vb : Nat) (w : World) (fs : List F0) (hsq : SeqAt w vb fs) (hfs : fs.length ≤ 1000000) :
    SeqStopsK F n Try.prog 161 #[.pointer (some ⟨vb, 0, none⟩)] (fun x : F0 => #[fileV x]) (Below w.heap.size) (fun ys => ys = fs) (fun pre => ∃ r, fs = pre ++ r) fs.length w := fun l J Jx W hW hJ _ hY h0 =>
  (filesIn F n h7 hro hn l vb w fs hsq hfs J Jx W hW hJ hY h0).mono fun _ _ ⟨he, hj⟩ => ⟨he, hj.imp (fun h => ⟨fs, rfl, h⟩) (fun ⟨pre, hp, h⟩ => ⟨pre, hp, h⟩)⟩
end Go.Proofs.Ytmkjejngnahpeaa
/- Disk: going over the map of files; a file is put into a disk. -/
namespace Go.Proofs.Ytmkjejngnahpeaa
open Go Go.Maps Go.RowKit Go.Shelf
open Go.Proofs (encStr)
attribute [local go_sem] Oper.semAt_some

/-- maps and iterators lie as they lay, but block ob -/
structure WalksBut (ob : Nat) (W W' : World) : Prop where
  size : W.heap.size ≤ W'.heap.size
  same : ∀ (k : Nat) (o : Obj), k ≠ ob → W.heap[k]? = some o → o.isWalk = true → W'.heap[k]? = some o
theorem WalksBut.trans {ob : Nat} {A B C : World} (h : WalksBut ob A B) (k : WalksBut ob B C) : WalksBut ob A C :=
  ⟨Nat.le_trans h.size k.size, fun i o hn hi ho => k.same i o hn (h.same i o hn hi ho) ho⟩
theorem WalksBut.put {ob : Nat} (W : World) (l : Nat) (o o' : Obj) (h : W.heap[l]? = some o) (hw : o.isWalk = false) : WalksBut ob W (W.putObj l o') := by
  have h1 := KeepsWalks.putObj o' h hw
  exact ⟨h1.size, fun k o _ hk ho => h1.same k o hk ho⟩
theorem WalksBut.only {ob : Nat} {W W' : World} (h : Only (fun k => k = ob) W W') : WalksBut ob W W' :=
  ⟨h.size, fun k _ hn hk _ => (h.block k (Array.getElem?_eq_some_iff.1 hk).1 hn).trans hk⟩
theorem ranges_but {w w' : World} {ob b r n : Nat} {D : DataW Unit} {left : Lit → Bool} {cnt : Nat} (h : w.ranges Try.prog 9 ptrElem b r n D left cnt) (hk : WalksBut ob w w') (h1 : b ≠ ob) (h2 : r ≠ ob) : w'.ranges Try.prog 9 ptrElem b r n D left cnt := by
  obtain ⟨es, clock, since, seen, c0, hb, F, hs, hD, hr, rest⟩ := h
  exact ⟨es, clock, since, seen, c0, hk.same b _ h1 hb rfl, F, hs, hD, hk.same r _ h2 hr rfl, rest⟩
abbrev FlOf (L : List Fl) := { x : Fl // x ∈ L }
def encFl (L : List Fl) (x : FlOf L) : Array Value := #[encStr x.1.f.name, .pointer (some ⟨x.1.blk, 0, none⟩)]
/-- all have come, each once -/
def AllCame (L : List Fl) (xs : List (FlOf L)) : Prop := xs.Nodup ∧ ∀ x : FlOf L, x ∈ xs
theorem nodup_sub_lengthP {α : Type} : ∀ {l l' : List α}, l.Nodup → (∀ x ∈ l, x ∈ l') → l.length ≤ l'.length := by
  classical
  intro l l' h1 h2
  exact nodup_sub_length h1 h2
set_option maxRecDepth 100000 in
set_option maxHeartbeats 1000000 in
theorem pairsIn (F : Fence) (n : Nat) (h8 : F.fn 162) (hro : F.round = none) (hn : 1 ≤ n) (l Bm mb ob nn : Nat) (D : DataW Unit) (L : List Fl) (hD : Dic D (pairsF L)) (hnd : (L.map (·.f.name)).Nodup)
    (J Jx : List (FlOf L) → World → Prop) (W : World) (hJ : AbidesFrom W.heap.size J) (hm : W.cell? ⟨Bm, 0, none⟩ = some (.map (some mb))) (hown : W.ownsMap Try.prog 9 ptrElem mb nn D) (hne : mb ≠ ob) (hob : ob < W.heap.size)
    (hY : ∀ pre x W1, J pre W1 → pre.length < L.length → YieldAt F (n - 1) Try.prog l (encFl L x) W1 fun e W' =>
      (e = .returned (.bool true) ∧ J (pre ++ [x]) W' ∧ WalksBut ob W1 W') ∨ (e = .returned (.bool false) ∧ Jx (pre ++ [x]) W')) (h0 : J [] W) :
    CallsIn F n Try.prog 162 #[.func (.yield l) #[] #[], .pointer (some ⟨Bm, 0, none⟩)] W fun e W' => (∃ v, e = .returned v) ∧ ((∃ xs, AllCame L xs ∧ J xs W') ∨ ∃ pre, Jx pre W') := by
  have HD := Lib.hid hD
  have HND := Lib.hid hnd
  have HJ := Lib.hid hJ
  have HY := Lib.hid hY
  clear hD hnd hJ hY
  refine callsIn_of_wp Try.func162 rfl h8 ?_ hro
  simp only [Try.ntmps162, List.size_toArray, List.length_cons, List.length_nil, Nat.reduceAdd, Nat.reduceSub, Array.replicate_succ, Array.replicate_zero, List.push_toArray, List.append_toArray, List.nil_append, List.cons_append]
  gi_wp2_with (gi_at_range; refine wpListIn_range_own _ rfl _ 120 rfl 9 176 (string_keyed Try.underlying9) Try.underlying120 _ mb nn _ rfl hown ?_; intro w0 hrg0 hg0 hs0)
  go_frame
  gi_loopw [3, 4] (fun _ _ wr => ∃ (left : Lit → Bool) (cnt : Nat) (ps : List (FlOf L)), wr.ranges Try.prog 9 ptrElem mb W.heap.size nn D left cnt ∧ Hid (ps.Nodup ∧ ∀ x : FlOf L, x ∈ ps ↔ left (.string x.1.f.name) = false) ∧ J ps wr)
    (fun _ _ wr => wr.rangeLeft mb W.heap.size)
  case atStart =>
    refine ⟨_, _, [], hrg0, Lib.hid ⟨List.nodup_nil, fun x => ?_⟩, HJ.out [] W w0 none h0 hg0 (fun r e => by cases e)⟩
    have : has D (.string x.1.f.name) = true := (HD.out.has x.1.f.name).2 ⟨_, List.mem_map_of_mem (f := fun x : Fl => (x.f.name, x.blk)) x.2, rfl⟩
    rw [this]
    simp
  case round =>
    obtain ⟨left, cnt, ps, hrg, HP, hJs⟩ := hrel
    gi_wp2_with (first
      | (gi_at_next; refine wpListIn_next_ranges _ rfl _ rfl 9 (string_keyed Try.underlying9) ptrElem encStr id (fun key kl hk => by obtain ⟨x, hx, _⟩ := Maps.keyOf_str Try.underlying9 hk; exact ⟨x, hx⟩) (fun v _ _ => ⟨v, rfl⟩) mb W.heap.size nn _ _ _ rfl hrg ?_ ?_)
      | gi_in)
    · intro hc0 hl0
      have HX : Hid (AllCame L ps) := Lib.hid ⟨HP.out.1, fun x => (HP.out.2 x).2 (hl0 _)⟩
      gi_wp2
      go_end0
      exact ⟨⟨_, rfl⟩, .inl ⟨ps, HX.out, hJs⟩⟩
    · intro x c kl yd yp w2 cnt2 hkey hlk hv hat hrg2 hlt hg2 hs2 hen
      obtain ⟨x', ex, rfl, _⟩ := Maps.keyOf_str Try.underlying9 hkey
      obtain rfl : x = x' := encStr_inj ex
      obtain ⟨b, hb, hy⟩ := HD.out.came hat
      have hc : c = .pointer (some ⟨b, 0, none⟩) := ptrElem_val hv hy
      subst hc
      obtain ⟨z, hz, rfl, rfl⟩ := mem_pairsF hb
      obtain ⟨x, hx⟩ : ∃ x : FlOf L, x = ⟨z, hz⟩ := ⟨_, rfl⟩
      have hz1 : z = x.1 := by rw [hx]
      subst hz1
      have hJ2 : J ps w2 := HJ.out ps wr w2 (some W.heap.size) hJs hg2 (fun r e => by cases e; exact ⟨Nat.le_refl _, hrg.iter_walk⟩)
      have hnin : x ∉ ps := fun hin => by
        have := (HP.out.2 x).1 hin
        rw [hlk] at this
        cases this
      have hlen : ps.length < L.length := by
        have h1 : ((ps ++ [x]).map (·.1)).Nodup := by
          rw [List.map_append, List.nodup_append]
          refine ⟨?_, by simp, fun a ha b hb e => ?_⟩
          · exact List.pairwise_map.2 (HP.out.1.imp fun {a b} hab he => hab (Subtype.ext he))
          · obtain ⟨u, hu, rfl⟩ := List.mem_map.1 ha
            simp only [List.map_cons, List.map_nil, List.mem_singleton] at hb
            exact hnin (by rw [← Subtype.ext (e.trans hb)]; exact hu)
        have h2 := nodup_sub_lengthP h1 (l' := L) (fun u hu => by
          obtain ⟨v, _, rfl⟩ := List.mem_map.1 hu
          exact v.2)
        simp at h2
        omega
      obtain ⟨fn, tmps, assign, body, hy', hR⟩ := HY.out ps x w2 hJ2 hlen
      dsimp only [encFl] at hy'
      have HRD := Lib.hid hR
      have HP2 : Hid ((ps ++ [x]).Nodup ∧ ∀ u : FlOf L, u ∈ ps ++ [x] ↔ (left (.string u.1.f.name) && !(Lit.string u.1.f.name).sameKey (.string x.1.f.name)) = false) := Lib.hid ⟨List.nodup_append.2 ⟨HP.out.1, by simp, fun a ha b hb e => by
          simp only [List.mem_singleton] at hb
          exact hnin (by rw [← hb, ← e]; exact ha)⟩, fun u => by
          rw [sameKey_str]
          by_cases hu : u = x
          · rw [hu]; simp
          · have hun : ¬ u.1.f.name = x.1.f.name := fun he => hu (Subtype.ext (eq_of_name HND.out u.2 x.2 he))
            rw [decide_eq_false hun]
            simp [hu, HP.out.2 u]⟩
      clear hs2 hR hat hv hkey hy hb hJ2 hlen hnin hx
      gi_wp2
      refine HRD.out.mono ?_
      rintro e W3 (⟨rfl, hJ3, hk3⟩ | ⟨rfl, hJx3⟩)
      · gi_wp2
        have hrg3 := ranges_but hrg2 hk3 hne (by omega)
        go_roundw
        case rel => exact ⟨_, cnt2, ps ++ [x], hrg3, HP2, hJ3⟩
        case measure => rw [hrg3.left_eq, hrg.left_eq]; exact hlt
      · gi_wp2
        refine bodyPost_ret (results_none rfl _ _ _) rfl ?_
        exact ⟨⟨_, rfl⟩, .inr ⟨ps ++ [x], hJx3⟩⟩
end Go.Proofs.Ytmkjejngnahpeaa
/- Disk: Copy, its parts. -/
namespace Go.Proofs.Ytmkjejngnahpeaa
open Go Go.Maps Go.RowKit Go.Shelf
open Go.Proofs (encStr)
attribute [local go_sem] Oper.semAt_some

theorem pairs_stops (F : Fence) (n : Nat) (h8 : F.fn 162) (hro : F.round = none) (hn : 1 ≤ n) (Bm mb ob nn : Nat) (D : DataW Unit) (L : List Fl) (hD : Dic D (pairsF L)) (hnd : (L.map (·.f.name)).Nodup)
    (w : World) (hBm : w.cell? ⟨Bm, 0, none⟩ = some (.map (some mb))) (hown : w.ownsMap Try.prog 9 ptrElem mb nn D) (hne : mb ≠ ob) (hob : ob < w.heap.size) :
    SeqStopsK F n Try.prog 162 #[.pointer (some ⟨Bm, 0, none⟩)] (encFl L) (WalksBut ob) (AllCame L) (fun _ => True) L.length w := fun l J Jx W hW hJ _ hY h0 =>
  (pairsIn F n h8 hro hn l Bm mb ob nn D L hD hnd J Jx W hJ ((hW.cell (p := ⟨Bm, 0, none⟩) (World.block_lt_of_cell? w _ hBm)).trans hBm) (ownsMap_kept hown (hW.block mb hown.lt)) hne (Nat.lt_of_lt_of_le hob hW.size) hY h0).mono
    fun _ _ ⟨he, hj⟩ => ⟨he, hj.imp id (fun ⟨pre, h⟩ => ⟨pre, trivial, h⟩)⟩
set_option maxRecDepth 100000 in
/-- a new file is put into a disk, by its name -/
theorem DiskIs.put_new {wr w5 w6 : World} {S' : Nat → Prop} {qo mo n' : Nat} {fvo : Value} {Lo : List Fl} {dd : Dk} {x' : Fl} {D : DataW Unit} (h : DiskIs wr S' qo mo fvo Lo dd) (hb : Only (fun _ => False) wr w5) (hx : FlAt w5 x') (hnew : ∀ k ∈ x'.blocks, wr.heap.size ≤ k ∧ k < w5.heap.size) (hnd : x'.blocks.Nodup)
    (hg : w5.grownBy w6 (some mo)) (hm : w6.ownsMap Try.prog 9 ptrElem mo n' (D.put (.string x'.f.name) (.lit (.int .i64 x'.blk)))) (hd : Dic D (pairsF Lo)) (hne : ∀ y ∈ Lo, y.f.name ≠ x'.f.name) (hnm : nameOk x'.f.name = true) (hfew : dd.files.length < 4096) :
    ∃ Lo', DiskIs w6 (fun k => S' k ∨ (wr.heap.size ≤ k ∧ k < w6.heap.size)) qo mo fvo Lo' { dd with files := insF x'.f dd.files } ∧ Lo'.length = Lo.length + 1 := by
  obtain ⟨A, B, rfl, hi⟩ := insF_split x'.f Lo
  have hi' : insF x'.f dd.files = A.map (·.f) ++ x'.f :: B.map (·.f) := by rw [← h.files]; exact hi
  have hmo : mo < wr.heap.size := h.low _ (h.foot _ (by simp [diskBlocks]))
  have hs1 := hb.size
  have hs2 := hg.size
  have ho : Only (fun k => k = mo) wr w6 := (hb.mono (fun _ _ h => h.elim)).trans (Only.of_grown (S := fun k => k = mo) hg (fun k hk => by simp at hk; exact hk.symm)) (fun _ _ h => h)
  have hx6 : FlAt w6 x' := hx.kept (fun k hk => hg.block k (hnew k hk).2 (by have := (hnew k hk).1; simp; omega))
  refine ⟨A ++ x' :: B, h.file_add ho hx6 hm ?_ (fun k hk => ⟨(hnew k hk).1, Nat.lt_of_lt_of_le (hnew k hk).2 hs2⟩) hnd hi' ?_ hnm hfew, by simp; omega⟩
  · refine Dic.put (L := pairsF (A ++ B)) hd _ _ (fun f => ?_) (fun f hf => ?_)
    · simp only [pairsF, List.map_append, List.map_cons, List.mem_append, List.mem_cons]
      constructor
      · rintro (h | h | h) <;> simp [h]
      · rintro (h | h | h) <;> simp [h]
    · obtain ⟨y, hy, rfl⟩ := List.mem_map.1 hf
      exact hne y hy
  · exact insF_sorted _ _ h.sorted (fun g hg' => by
      rw [← h.files] at hg'
      obtain ⟨y, hy, rfl⟩ := List.mem_map.1 hg'
      exact hne y hy)
theorem keep_box {W w5 : World} {tb : Nat} {v : Value} {T : TypeId} (hb : Below W.heap.size W w5) (h : W.heap[tb]? = some (.cells #[v] T (0, 0))) : w5.heap[tb]? = some (.cells #[v] T (0, 0)) ∧
    (∀ o, (w5.alloc o).cell? ⟨tb, 0, none⟩ = some v) ∧ (∀ o, (w5.alloc o).frozen? ⟨tb, 0, none⟩ = false) ∧ (∀ o o', ((w5.alloc o).alloc o').cell? ⟨tb, 0, none⟩ = some v) ∧ (∀ o o', ((w5.alloc o).alloc o').frozen? ⟨tb, 0, none⟩ = false) := by
  have hl := (Array.getElem?_eq_some_iff.1 h).1
  have h5 := (hb.block tb hl).trans h
  have h6 : ∀ o, (w5.alloc o).heap[tb]? = some (.cells #[v] T (0, 0)) := fun o => (Below.heap_alloc _ _ _ (Nat.lt_of_lt_of_le hl hb.size)).trans h5
  have h7 : ∀ o o', ((w5.alloc o).alloc o').heap[tb]? = some (.cells #[v] T (0, 0)) := fun o o' => (Below.heap_alloc _ _ _ (by have := hb.size; simp; omega)).trans (h6 o)
  exact ⟨h5, fun o => cell_of (h6 o) rfl, fun o => free_of (h6 o) _, fun o o' => cell_of (h7 o o') rfl, fun o o' => free_of (h7 o o') _⟩
theorem cs_of {q : Nat} {a b : Value} {w0 W W' : World} (h : W.cell? ⟨q, 1, none⟩ = some a ∧ W.cell? ⟨q, 2, none⟩ = some b ∧ Below w0.heap.size w0 W ∧ q < w0.heap.size) (hb : Below W.heap.size W W') : W'.cell? ⟨q, 1, none⟩ = some a ∧ W'.cell? ⟨q, 2, none⟩ = some b ∧ Below w0.heap.size w0 W' ∧ q < w0.heap.size :=
  have hq : q < W.heap.size := Nat.lt_of_lt_of_le h.2.2.2 h.2.2.1.size
  ⟨(hb.cell (p := ⟨q, 1, none⟩) hq).trans h.1, (hb.cell (p := ⟨q, 2, none⟩) hq).trans h.2.1, h.2.2.1.trans (hb.mono h.2.2.1.size), h.2.2.2⟩
theorem cs_below {q : Nat} {a b : Value} {w0 W : World} (h : W.cell? ⟨q, 1, none⟩ = some a ∧ W.cell? ⟨q, 2, none⟩ = some b ∧ Below w0.heap.size w0 W ∧ q < w0.heap.size) : Below w0.heap.size w0 W := h.2.2.1
theorem cs_call {q : Nat} {a b : Value} {w0 W W' : World} (h : W.cell? ⟨q, 1, none⟩ = some a ∧ W.cell? ⟨q, 2, none⟩ = some b ∧ Below w0.heap.size w0 W ∧ q < w0.heap.size) (hb : Below W.heap.size W W') : Below w0.heap.size w0 W' := (cs_of h hb).2.2.1
theorem below2 {w0 W : World} (o o' : Obj) (h : Below w0.heap.size w0 W) : Below w0.heap.size w0 ((W.alloc o).alloc o') := (h.alloc h.size o).alloc (by have := h.size; simp; omega) o'
theorem below3 {w0 W : World} (o o' o'' : Obj) (h : Below w0.heap.size w0 W) : Below w0.heap.size w0 (((W.alloc o).alloc o').alloc o'') := (below2 o o' h).alloc (by have := h.size; simp; omega) o''
theorem cs_drew {q : Nat} {a b : Value} {w0 W : World} (h : W.cell? ⟨q, 1, none⟩ = some a ∧ W.cell? ⟨q, 2, none⟩ = some b ∧ Below w0.heap.size w0 W ∧ q < w0.heap.size) : W.drew.cell? ⟨q, 1, none⟩ = some a ∧ W.drew.cell? ⟨q, 2, none⟩ = some b ∧ Below w0.heap.size w0 W.drew ∧ q < w0.heap.size := cs_of h ⟨rfl, rfl, rfl, Nat.le_refl _, fun _ _ => rfl⟩
theorem cs_alloc {q : Nat} {a b : Value} {w0 W : World} (o : Obj) (h : W.cell? ⟨q, 1, none⟩ = some a ∧ W.cell? ⟨q, 2, none⟩ = some b ∧ Below w0.heap.size w0 W ∧ q < w0.heap.size) : (W.alloc o).cell? ⟨q, 1, none⟩ = some a ∧ (W.alloc o).cell? ⟨q, 2, none⟩ = some b ∧ Below w0.heap.size w0 (W.alloc o) ∧ q < w0.heap.size := cs_of h ((Below.refl _ _).alloc (Nat.le_refl _) _)
theorem cs_set {q tb : Nat} {a b u : Value} {w0 W : World} (hk : w0.heap.size ≤ tb) (h : W.cell? ⟨q, 1, none⟩ = some a ∧ W.cell? ⟨q, 2, none⟩ = some b ∧ Below w0.heap.size w0 W ∧ q < w0.heap.size) : (W.setCell ⟨tb, 0, none⟩ u).cell? ⟨q, 1, none⟩ = some a ∧ (W.setCell ⟨tb, 0, none⟩ u).cell? ⟨q, 2, none⟩ = some b ∧ Below w0.heap.size w0 (W.setCell ⟨tb, 0, none⟩ u) ∧ q < w0.heap.size := by
  have hb : Below w0.heap.size W (W.setCell ⟨tb, 0, none⟩ u) := (Below.refl _ _).setCell (p := ⟨tb, 0, none⟩) hk u
  exact ⟨(hb.cell (p := ⟨q, 1, none⟩) h.2.2.2).trans h.1, (hb.cell (p := ⟨q, 2, none⟩) h.2.2.2).trans h.2.1, h.2.2.1.trans hb, h.2.2.2⟩
theorem size_drew (w : World) : w.drew.heap.size = w.heap.size := rfl
theorem keep_map {W w5 : World} {b : Nat} {o : Obj} (hb : Below W.heap.size W w5) (h : W.heap[b]? = some o) : w5.heap[b]? = some o := (hb.block b (Array.getElem?_eq_some_iff.1 h).1).trans h
/-- a disk without files was made, and a variable that points to it -/
structure CopyStart (w0 wx : World) (d : Dk) (tb qo mo : Nat) (v : Value) : Prop where
  box : wx.heap[tb]? = some (.cells #[.pointer (some ⟨qo, 0, none⟩)] 37 (0, 0))
  disk : DiskIs wx (fun k => k = qo ∨ k = mo ∨ v.ownBlock = some k) qo mo v [] ⟨[], d.fates, d.steps⟩
  below : Below w0.heap.size w0 wx
  ge : w0.heap.size ≤ tb ∧ w0.heap.size ≤ qo ∧ w0.heap.size ≤ mo ∧ ∀ k, v.ownBlock = some k → w0.heap.size ≤ k
  ne : tb ≠ qo ∧ tb ≠ mo ∧ v.ownBlock ≠ some tb
theorem copy_start {w0 wx : World} {d : Dk} {tb qo mo : Nat} {v : Value} (hbox : wx.heap[tb]? = some (.cells #[.pointer (some ⟨qo, 0, none⟩)] 37 (0, 0))) (hhead : wx.heap[qo]? = some (.cells #[.map (some mo), v, .int .i64 d.steps] 122 (0, 0))) (hmap : wx.heap[mo]? = some (.map #[] 0))
    (hrow : rowAt wx 99 2 v d.fates.length (fateCells d.fates)) (hb : Below w0.heap.size w0 wx) (ge : w0.heap.size ≤ tb ∧ w0.heap.size ≤ qo ∧ w0.heap.size ≤ mo ∧ ∀ k, v.ownBlock = some k → w0.heap.size ≤ k) : CopyStart w0 wx d tb qo mo v := by
  have hv : ∀ k, v.ownBlock = some k → ∃ cur fr, wx.heap[k]? = some (.cells cur 99 fr) := fun k hk => by
    rcases hrow.2 with ⟨rfl, _⟩ | ⟨g, off, c, cur, fr, rfl, hg, _⟩
    · simp [Value.ownBlock] at hk
    · simp only [Value.ownBlock, Option.some.injEq] at hk
      subst hk
      exact ⟨cur, fr, hg⟩
  have hqm : qo ≠ mo := fun e => by rw [e, hmap] at hhead; cases hhead
  have hqv : v.ownBlock ≠ some qo := fun e => by
    obtain ⟨cur, fr, h⟩ := hv qo e
    rw [hhead] at h
    simp at h
  have hmv : v.ownBlock ≠ some mo := fun e => by
    obtain ⟨cur, fr, h⟩ := hv mo e
    rw [hmap] at h
    cases h
  refine ⟨hbox, ⟨rfl, hhead, hrow, ⟨.map [], ?_, Dic.empty⟩, fun x hx => (by cases hx), ?_, fun k hk => ?_, fun k hk => ?_, by simp, fun f hf => (by cases hf), by simp⟩, hb, ge, fun e => ?_, fun e => ?_, fun e => ?_⟩
  · obtain ⟨es, clock, he, F, hs, hD⟩ := World.ownsMap_made wx Try.prog 9 ptrElem
    rw [show (wx.alloc (.map #[] 0)).heap[wx.heap.size]? = some (.map #[] 0) from heap_alloc_new _ _] at he
    cases he
    exact ⟨#[], 0, hmap, F, hs, hD⟩
  · cases ho : v.ownBlock with
    | none => simp [diskBlocks, ho, hqm]
    | some k =>
      have h1 : qo ≠ k := fun e => hqv (by rw [ho, e])
      have h2 : mo ≠ k := fun e => hmv (by rw [ho, e])
      simp [diskBlocks, ho, hqm, h1, h2]
  · simp only [diskBlocks, List.mem_cons, List.flatMap_nil, List.append_nil, Option.mem_toList] at hk
    exact hk
  · rcases hk with rfl | rfl | hk
    · exact (Array.getElem?_eq_some_iff.1 hhead).1
    · exact (Array.getElem?_eq_some_iff.1 hmap).1
    · exact hrow.lt k hk
  · rw [e, hhead] at hbox
    simp at hbox
  · rw [e, hmap] at hbox
    cases hbox
  · obtain ⟨cur, fr, h⟩ := hv tb e
    rw [hbox] at h
    simp at h
/-- a statement that is left at its end alone -/
theorem wp_only {P : Program} {c : Code} {K : Act → World → Prop} {Q' : Exit → Act → World → Prop} {a : Act} {w : World} (h : c.wp P (Exit.then K (fun _ _ _ => False)) a w) : c.wp P (Exit.then K Q') a w :=
  (wpIn_wide (n := 1)).1 (wpIn_mono (wpIn_wide.2 h) (fun e _ _ hq => by
    cases e with
    | normal => exact hq
    | exit id => exact hq.elim
    | goto l => exact hq.elim
    | ret => exact hq.elim
    | panic ch => exact hq.elim
    | outgrown => exact hq.elim))
end Go.Proofs.Ytmkjejngnahpeaa
/- Disk: Copy: a file is copied. -/
namespace Go.Proofs.Ytmkjejngnahpeaa
open Go Go.Maps Go.RowKit Go.Shelf
open Go.Proofs (encStr)

theorem DiskIs.cells_or {w : World} {S : Nat → Prop} {q mb : Nat} {fv : Value} {L : List Fl} {d : Dk} (h : DiskIs w S q mb fv L d) : ∀ k ∈ diskBlocks q mb fv L, k = mb ∨ ∃ cs T fr, w.heap[k]? = some (.cells cs T fr) := fun k hk => by
  simp only [diskBlocks, List.mem_cons, List.mem_append, Option.mem_toList, List.mem_flatMap, Fl.blocks] at hk
  have hrow : ∀ (e : TypeId) (size : Nat) (v : Value) (n : Nat) (xs : List Value), rowAt w e size v n xs → v.ownBlock = some k → ∃ cs T fr, w.heap[k]? = some (.cells cs T fr) := fun e size v n xs hr hv => by
    rcases hr.2 with ⟨rfl, _⟩ | ⟨g, off, c, cur, fr, rfl, hg, _⟩
    · simp [Value.ownBlock] at hv
    · simp only [Value.ownBlock, Option.some.injEq] at hv
      subst hv
      exact ⟨cur, _, fr, hg⟩
  rcases hk with rfl | rfl | hk | ⟨x, hx, hk⟩
  · exact .inr ⟨_, _, _, h.head⟩
  · exact .inl rfl
  · exact .inr (hrow _ _ _ _ _ h.fates hk)
  · rcases hk with rfl | hk
    · exact .inr ⟨_, _, _, (h.each x hx).cells⟩
    · exact .inr (hrow _ _ _ _ _ (h.each x hx).row hk)
/-- what is no cells turns, but not the disk's map -/
theorem DiskIs.own {w w' : World} {S : Nat → Prop} {q mb : Nat} {fv : Value} {L : List Fl} {d : Dk} {row : Option Nat} (h : DiskIs w S q mb fv L d) (hg : w.grownBy w' row) (hr : ∀ r, row = some r → r ≠ mb ∧ ∃ o : Obj, w.heap[r]? = some o ∧ o.isCells = false) : DiskIs w' S q mb fv L d := by
  have h1 : DiskIs w (fun k => k ∈ diskBlocks q mb fv L) q mb fv L d := { h with foot := fun k hk => hk, low := fun k hk => h.low k (h.foot k hk) }
  have h2 := h1.kept (w' := w') (fun k hk => hg.block k (h1.low k hk) (fun e => by
    obtain ⟨hne, o, ho, hc⟩ := hr k e.symm
    rcases h.cells_or k hk with h3 | ⟨cs, T, fr, h3⟩
    · exact hne h3
    · rw [h3] at ho
      cases ho
      simp [Obj.isCells] at hc)) hg.size
  exact h2.wider (fun k hk => h.foot k hk) (fun k hk => Nat.lt_of_lt_of_le (h.low k hk) hg.size)
/-- both disks, while files are copied -/
structure CopyPre (w0 W : World) (S : Nat → Prop) (q mb : Nat) (fv : Value) (L : List Fl) (d : Dk) (tb qo mo : Nat) (fvo : Value) (pre : List (FlOf L)) : Prop where
  old : DiskIs W S q mb fv L d
  only : Only (fun k => k = mo) w0 W
  box : W.heap[tb]? = some (.cells #[.pointer (some ⟨qo, 0, none⟩)] 37 (0, 0))
  head : W.heap[qo]? = some (.cells #[.map (some mo), fvo, .int .i64 d.steps] 122 (0, 0))
  map : ∃ D n, n ≤ pre.length ∧ W.ownsMap Try.prog 9 ptrElem mo n D
  real : pre.Nodup → ∃ Lo fl, DiskIs W (fun k => (k = qo ∨ k = mo ∨ fvo.ownBlock = some k ∨ w0.heap.size ≤ k) ∧ k < W.heap.size) qo mo fvo Lo ⟨fl, d.fates, d.steps⟩ ∧ Lo.length = pre.length ∧ ∀ f, f ∈ fl ↔ ∃ x ∈ pre, f = x.1.f
theorem CopyPre.own {w0 W W' : World} {S : Nat → Prop} {q mb : Nat} {fv : Value} {L : List Fl} {d : Dk} {tb qo mo : Nat} {fvo : Value} {pre : List (FlOf L)} {row : Option Nat} (h : CopyPre w0 W S q mb fv L d tb qo mo fvo pre) (hs : ∀ k, S k → k < w0.heap.size) (ht : tb < w0.heap.size ∧ qo < w0.heap.size ∧ mo < w0.heap.size)
    (hg : W.grownBy W' row) (hr : ∀ r, row = some r → w0.heap.size ≤ r ∧ ∃ o : Obj, W.heap[r]? = some o ∧ o.isCells = false) : CopyPre w0 W' S q mb fv L d tb qo mo fvo pre := by
  have hsz := h.only.size
  have hk : ∀ k, k < w0.heap.size → W'.heap[k]? = W.heap[k]? := fun k hk => hg.block k (by omega) (fun e => by have := (hr k e.symm).1; omega)
  refine ⟨h.old.kept (fun k hk' => hk k (hs k hk')) hg.size, ?_, (hk tb ht.1).trans h.box, (hk qo ht.2.1).trans h.head, ?_, fun hnd => ?_⟩
  · exact h.only.trans (Only.of_grown (S := fun k => w0.heap.size ≤ k) hg (fun k e => (hr k e).1)) (fun i hi hi' => by omega)
  · obtain ⟨D, n, hn, ho⟩ := h.map
    exact ⟨D, n, hn, ownsMap_kept ho (hk mo ht.2.2)⟩
  · obtain ⟨Lo, fl, hd, hl, hf⟩ := h.real hnd
    exact ⟨Lo, fl, (hd.own hg (fun r e => ⟨by have := (hr r e).1; omega, (hr r e).2⟩)).wider (fun k hk => ⟨hk.1, Nat.lt_of_lt_of_le hk.2 hg.size⟩) (fun k hk => hk.2), hl, hf⟩
/-- the map that the next file goes into -/
theorem CopyPre.next {w0 W : World} {S : Nat → Prop} {q mb : Nat} {fv : Value} {L : List Fl} {d : Dk} {tb qo mo : Nat} {fvo : Value} {pre : List (FlOf L)} (h : CopyPre w0 W S q mb fv L d tb qo mo fvo pre) (x : FlOf L) :
    ∃ D n, n ≤ pre.length ∧ W.ownsMap Try.prog 9 ptrElem mo n D ∧ ((pre ++ [x]).Nodup → ∃ Lo fl, DiskIs W (fun k => (k = qo ∨ k = mo ∨ fvo.ownBlock = some k ∨ w0.heap.size ≤ k) ∧ k < W.heap.size) qo mo fvo Lo ⟨fl, d.fates, d.steps⟩ ∧ Lo.length = pre.length ∧ (∀ f, f ∈ fl ↔ ∃ x ∈ pre, f = x.1.f) ∧ Dic D (pairsF Lo)) := by
  by_cases hnd : (pre ++ [x]).Nodup
  · obtain ⟨Lo, fl, hd, hl, hf⟩ := h.real (List.nodup_append.1 hnd).1
    obtain ⟨D, ho, _, hdic⟩ := hd.look
    exact ⟨D, Lo.length, by omega, ho, fun _ => ⟨Lo, fl, hd, hl, hf, hdic⟩⟩
  · obtain ⟨D, n, hn, ho⟩ := h.map
    exact ⟨D, n, hn, ho, fun hc => absurd hc hnd⟩
/-- a file has been copied -/
theorem CopyPre.step {w0 W W1 W2 W3 W4 : World} {S : Nat → Prop} {q mb : Nat} {fv : Value} {L : List Fl} {d : Dk} {tb qo mo n : Nat} {fvo v : Value} {pre : List (FlOf L)} {x : FlOf L} {D : DataW Unit} (h : CopyPre w0 W S q mb fv L d tb qo mo fvo pre) (hs : ∀ k, S k → k < w0.heap.size ∧ k ≠ mo) (ht : tb < w0.heap.size ∧ qo < w0.heap.size ∧ mo < w0.heap.size ∧ tb ≠ mo ∧ qo ≠ mo)
    (hn : n ≤ pre.length) (hreal : (pre ++ [x]).Nodup → ∃ Lo fl, DiskIs W (fun k => (k = qo ∨ k = mo ∨ fvo.ownBlock = some k ∨ w0.heap.size ≤ k) ∧ k < W.heap.size) qo mo fvo Lo ⟨fl, d.fates, d.steps⟩ ∧ Lo.length = pre.length ∧ (∀ f, f ∈ fl ↔ ∃ x ∈ pre, f = x.1.f) ∧ Dic D (pairsF Lo))
    (hW1 : W1 = W.alloc (.cells #[x.1.bv, .int .i64 x.1.f.lasts, .bool x.1.f.there, .bool x.1.f.named] 178)) (hnb : NewBytes W1 W2 v x.1.f.bytes) (hW3 : W3 = W2.setCell ⟨W.heap.size, 0, none⟩ v) (hg : W3.grownBy W4 (some mo))
    (hm : W4.ownsMap Try.prog 9 ptrElem mo (n + 1) (D.put (.string x.1.f.name) (.lit (.int .i64 W.heap.size)))) (hlen : pre.length < L.length) :
    CopyPre w0 W4 S q mb fv L d tb qo mo fvo (pre ++ [x]) ∧ Only (fun k => k = mo) W W4 := by
  obtain ⟨hb, hown, hbl⟩ := hnb
  have hs1 : W1.heap.size = W.heap.size + 1 := by rw [hW1]; simp
  have hs2 := hbl.size
  have hs3 : W3.heap.size = W2.heap.size := by rw [hW3]; simp [World.setCell]
  have hs4 := hg.size
  have hsz := h.only.size
  have hc1 : W1.heap[W.heap.size]? = some (.cells #[x.1.bv, .int .i64 x.1.f.lasts, .bool x.1.f.there, .bool x.1.f.named] 178 (0, 0)) := by rw [hW1]; exact alloc_cells _ _ _
  have hc2 : W2.heap[W.heap.size]? = some (.cells #[x.1.bv, .int .i64 x.1.f.lasts, .bool x.1.f.there, .bool x.1.f.named] 178 (0, 0)) := (hbl.block _ (by omega)).trans hc1
  have hc3 : W3.heap[W.heap.size]? = some (.cells #[v, .int .i64 x.1.f.lasts, .bool x.1.f.there, .bool x.1.f.named] 178 (0, 0)) := by rw [hW3]; exact heap_setCell_here _ hc2
  have ho13 : Only (fun _ => False) W W3 := by
    have h1 : Only (fun _ => False) W W1 := by rw [hW1]; exact only_alloc _ _ _
    have h2 : Only (fun _ => False) W1 W2 := Only.of_below hbl (Nat.le_refl _) _
    have h3 : Only (fun k => k = W.heap.size) W2 W3 := by rw [hW3]; exact only_setCell (fun k => k = W.heap.size) _ _ _ _ rfl
    exact (h1.trans h2 (fun _ _ h => h)).trans h3 (fun i hi he => by omega)
  have ho : Only (fun k => k = mo) W W4 := (ho13.mono (fun _ _ h => h.elim)).trans (Only.of_grown (S := fun k => k = mo) hg (fun k hk => by simp at hk; exact hk.symm)) (fun _ _ h => h)
  have hx3 : FlAt W3 ⟨x.1.f, W.heap.size, v⟩ := by
    have hold := h.old.each x.1 x.2
    refine ⟨hc3, ?_, hold.lasts, hold.size⟩
    refine hb.kept (fun k hk => ?_)
    rw [hW3]
    exact Below.heap_setCell _ _ _ _ (fun e => by dsimp only at e; have := hown k hk; omega)
  have hkeep : ∀ k, k < w0.heap.size → k ≠ mo → W4.heap[k]? = W.heap[k]? := fun k h1 h2 => ho.block k (by omega) h2
  refine ⟨⟨h.old.kept (fun k hk => hkeep k (hs k hk).1 (hs k hk).2) ho.size, h.only.trans ho (fun _ _ h => h), (hkeep tb ht.1 ht.2.2.2.1).trans h.box, (hkeep qo ht.2.1 ht.2.2.2.2).trans h.head, ⟨_, n + 1, by simp; omega, hm⟩, fun hnd => ?_⟩, ho⟩
  obtain ⟨Lo, fl, hd, hl, hf, hdic⟩ := hreal hnd
  have hfl : Lo.map (·.f) = fl := hd.files
  have hne : ∀ y ∈ Lo, y.f.name ≠ x.1.f.name := fun y hy he => by
    obtain ⟨z, hz, hze⟩ := (hf y.f).1 (by rw [← hfl]; exact List.mem_map_of_mem hy)
    have hzx : z.1 = x.1 := eq_of_name h.old.nodup z.2 x.2 (by rw [← hze, he])
    exact (List.nodup_append.1 hnd).2.2 z hz x (by simp) (Subtype.ext hzx)
  have hLl : L.length ≤ 4096 := by
    have h1 := h.old.few
    rw [← h.old.files, List.length_map] at h1
    exact h1
  obtain ⟨Lo', hd', hl'⟩ := hd.put_new (x' := ⟨x.1.f, W.heap.size, v⟩) ho13 hx3 (fun k hk => by
    simp only [Fl.blocks, List.mem_cons, Option.mem_toList] at hk
    rcases hk with rfl | hk
    · omega
    · have h1 := hown k hk
      have h2 := hb.lt k hk
      omega) (by
    cases hv : v.ownBlock with
    | none => simp [Fl.blocks, hv]
    | some k =>
      have h1 := hown k hv
      simp [Fl.blocks, hv]
      omega) hg hm hdic hne (h.old.names x.1.f (by rw [← h.old.files]; exact List.mem_map_of_mem x.2)) (by
    show fl.length < 4096
    rw [← hfl, List.length_map]
    omega)
  refine ⟨Lo', _, hd'.wider (fun k hk => ?_) (fun k hk => hk.2), by rw [hl', hl]; simp, fun f => ?_⟩
  · rcases hk with hk | hk
    · exact ⟨hk.1, Nat.lt_of_lt_of_le hk.2 ho.size⟩
    · exact ⟨by omega, hk.2⟩
  · show f ∈ insF x.1.f fl ↔ _
    rw [mem_insF, hf]
    constructor
    · rintro (rfl | ⟨z, hz, rfl⟩)
      · exact ⟨x, by simp, rfl⟩
      · exact ⟨z, by simp [hz], rfl⟩
    · rintro ⟨z, hz, rfl⟩
      rcases List.mem_append.1 hz with h1 | h1
      · exact .inr ⟨z, h1, rfl⟩
      · simp only [List.mem_singleton] at h1
        exact .inl (by rw [h1])
theorem sorted_ext {l l' : List F0} (h1 : (l.map (·.name)).Pairwise (· < ·)) (h2 : (l'.map (·.name)).Pairwise (· < ·)) (h : ∀ x, x ∈ l ↔ x ∈ l') : l = l' := by
  have hn : ∀ l : List F0, (l.map (·.name)).Pairwise (· < ·) → l.Nodup := fun l hl => (List.pairwise_map.1 hl).imp (fun {a b} hab he => by rw [he] at hab; exact List.lt_irrefl _ hab)
  exact sorted_sub_eq h1 h2 (fun x hx => (h x).1 hx) (Nat.le_antisymm (nodup_sub_length (hn l h1) (fun x hx => (h x).1 hx)) (nodup_sub_length (hn l' h2) (fun x hx => (h x).2 hx)))
/-- all have been copied -/
theorem CopyPre.done {w0 W : World} {S : Nat → Prop} {q mb : Nat} {fv : Value} {L : List Fl} {d : Dk} {tb qo mo : Nat} {fvo : Value} {xs : List (FlOf L)} (h : CopyPre w0 W S q mb fv L d tb qo mo fvo xs) (hx : AllCame L xs) :
    ∃ Lo, DiskIs W (fun k => (k = qo ∨ k = mo ∨ fvo.ownBlock = some k ∨ w0.heap.size ≤ k) ∧ k < W.heap.size) qo mo fvo Lo d := by
  obtain ⟨Lo, fl, hd, _, hf⟩ := h.real hx.1
  have e : fl = d.files := sorted_ext hd.sorted h.old.sorted (fun f => by
    rw [hf, ← h.old.files, List.mem_map]
    constructor
    · rintro ⟨z, _, rfl⟩
      exact ⟨z.1, z.2, rfl⟩
    · rintro ⟨z, hz, rfl⟩
      exact ⟨⟨z, hz⟩, hx.2 _, rfl⟩)
  subst e
  exact ⟨Lo, hd⟩
end Go.Proofs.Ytmkjejngnahpeaa
