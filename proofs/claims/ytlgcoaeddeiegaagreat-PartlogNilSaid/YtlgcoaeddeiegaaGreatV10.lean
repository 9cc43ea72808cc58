/- The texts Mw, Ea, Em, Eo, Ep, Fa, Pp, Pq, Mx0, Pr in one. -/
import Derived.Test.YtlgcoaeddeiegaaGreatV7
import Derived.Test.YtlgcoaeddeiegaaGreatV5
import Derived.Maps.RangeWalk
import Derived.Maps.OwnSet
import Derived.Laws.IdiomRangeMap
import Derived.Deep.LoopGhost
import Derived.Test.YtlgcoaeddeiegaaGreatV8
import Derived.Test.YtlgcoaeddeiegaaGreatV9
import Derived.Deep.RegionHeld3
/- segment: all records of its batches; what a Read collects (plain). -/
namespace Go.Proofs.YtlgcoaeddeiegaaGreat
open Go Go.RowKit

/-- all records of batches, in order -/
def recsT (bs : List Bat) : List Rc := bs.flatMap (·.2)
theorem recsT_len (bs : List Bat) : (recsT bs).length = cntT bs := by
  unfold recsT cntT
  rw [List.length_flatMap]
theorem recsT_append (a b : List Bat) : recsT (a ++ b) = recsT a ++ recsT b := by unfold recsT; rw [List.flatMap_append]
theorem recsT_split (bs : List Bat) (j : Nat) : recsT bs = recsT (bs.take j) ++ recsT (bs.drop j) := by rw [← recsT_append, List.take_append_drop]
/-- the records ahead of a place within a batch -/
theorem recsT_take {bs : List Bat} {j i : Nat} (h : j < bs.length) (hi : i ≤ bs[j].2.length) : (recsT bs).take (cntT (bs.take j) + i) = recsT (bs.take j) ++ bs[j].2.take i := by
  have e : recsT bs = recsT (bs.take j) ++ (bs[j].2 ++ recsT (bs.drop (j + 1))) := by
    rw [recsT_split bs j]
    congr 1
    rw [List.drop_eq_getElem_cons h]
    rfl
  rw [e, ← recsT_len, List.take_append, List.take_of_length_le (by omega), Nat.add_sub_cancel_left, List.take_append_of_le_length hi]
theorem recsT_get {bs : List Bat} {j i : Nat} (h : j < bs.length) (hi : i < bs[j].2.length) : (recsT bs)[cntT (bs.take j) + i]? = some bs[j].2[i] := by
  have e : recsT bs = recsT (bs.take j) ++ (bs[j].2 ++ recsT (bs.drop (j + 1))) := by
    rw [recsT_split bs j]
    congr 1
    rw [List.drop_eq_getElem_cons h]
    rfl
  rw [e, ← recsT_len, List.getElem?_append_right (by omega), Nat.add_sub_cancel_left, List.getElem?_append_left hi, List.getElem?_eq_getElem hi]
theorem bats_drop (bs : List Bat) (j : Nat) : (batsT bs).drop (posT bs j) = batsT (bs.drop j) := by
  rw [bats_split bs j]
  exact List.drop_left' rfl
/-- what has been collected when k records have been gone past, from the i-th on -/
def gotT (R : List Rc) (i k : Nat) : List Rc := (R.take k).drop i
theorem gotT_none {R : List Rc} {i k : Nat} (h : k ≤ i) : gotT R i k = [] := by
  unfold gotT
  rw [List.drop_eq_nil_iff, List.length_take]
  omega
theorem gotT_skip {R : List Rc} {i k : Nat} (h : k < i) : gotT R i (k + 1) = gotT R i k := by
  rw [gotT_none (by omega), gotT_none (by omega)]
theorem gotT_step {R : List Rc} {i k : Nat} {r : Rc} (h : i ≤ k) (hr : R[k]? = some r) : gotT R i (k + 1) = gotT R i k ++ [r] := by
  obtain ⟨hk, rfl⟩ := List.getElem?_eq_some_iff.1 hr
  unfold gotT
  rw [List.take_succ_eq_append_getElem hk, List.drop_append_of_le_length (by rw [List.length_take]; omega)]
theorem gotT_len {R : List Rc} {i k : Nat} (hk : k ≤ R.length) : (gotT R i k).length = k - i := by
  unfold gotT
  rw [List.length_drop, List.length_take]
  omega
/-- what a Read answers -/
def readT (R : List Rc) (i u most : Nat) : List Rc := (R.drop i).take (min (u - i) most)
theorem gotT_fin {R : List Rc} {i u k most : Nat} (hu : u ≤ R.length) (hk : k ≤ u) (hl : (gotT R i k).length ≤ most) (he : k = u ∨ most ≤ (gotT R i k).length) : gotT R i k = readT R i u most := by
  rw [gotT_len (by omega)] at hl he
  unfold gotT readT
  rw [List.drop_take]
  congr 1
  omega
theorem readT_len {R : List Rc} {i u most : Nat} (hu : u ≤ R.length) : (readT R i u most).length = min (u - i) most := by
  unfold readT
  rw [List.length_take, List.length_drop]
  omega
end Go.Proofs.YtlgcoaeddeiegaaGreat
/- Disk: New, without fates. -/
namespace Go.Proofs.YtlgcoaeddeiegaaGreat
open Go Go.Maps Go.RowKit

set_option maxHeartbeats 400000 in
theorem indexFate_nil (f : Value) (w : World) : Calls Tryz.prog 179 #[.slice none 0 0, f] w fun e w' => e = .returned (.int .i64 (-1)) ∧ w' = w := by
  go_enter Tryz.func179, Tryz.ntmps179
  go_wp2_with fail
  go_loop [8] (fun i => i = .int .i64 0) (fun _ => 0)
  case atStart => rfl
  case round =>
    subst hrel
    go_wp2_with fail
    go_ret
    exact ⟨rfl, rfl⟩
set_option maxHeartbeats 400000 in
theorem containsFate_nil (f : Value) (w : World) : Calls Tryz.prog 128 #[.slice none 0 0, f] w fun e w' => e = .returned (.bool false) ∧ w' = w := by
  go_enter Tryz.func128, Tryz.ntmps128
  go_wp2_with fail
  refine (indexFate_nil f _).mono ?_
  rintro e w' ⟨rfl, rfl⟩
  go_wp2_with fail
  go_ret
  exact ⟨rfl, rfl⟩
set_option maxHeartbeats 400000 in
theorem right_nil (w : World) : Calls Tryz.prog 58 #[.slice none 0 0] w fun e w' => e = .returned (.bool true) ∧ w' = w := by
  go_enter Tryz.func58, Tryz.ntmps58
  go_wp2_with fail
  refine (containsFate_nil _ _).mono ?_
  rintro e w' ⟨rfl, rfl⟩
  go_wp2_with fail
  go_ret
  exact ⟨rfl, rfl⟩
set_option maxHeartbeats 400000 in
theorem cloneFate_nil (w : World) : Calls Tryz.prog 59 #[.slice none 0 0] w fun e w' => e = .returned (.slice none 0 0) ∧ w' = w := by
  have hnil : ∀ W : World, (binOp .eql 37 (.slice none 0 0) (.slice none 0 0)).run Tryz.prog W = .ok (.bool true) W := fun W => by kernel_rfl
  go_enter Tryz.func59, Tryz.ntmps59
  go_wp2_with fail
  go_ret
  exact ⟨rfl, rfl⟩
def Dk.new : Dk := ⟨[], [], 0⟩
theorem disk_new (w : World) : DiskIs ((w.alloc (.map #[] 0)).alloc (.cells #[.map (some w.heap.size), .slice none 0 0, .int .i64 0] 120)) (fun k => w.heap.size ≤ k ∧ k < w.heap.size + 2) (w.heap.size + 1) w.heap.size (.slice none 0 0) [] Dk.new where
  files := rfl
  head := by
    have := alloc_cells (w.alloc (.map #[] 0)) #[.map (some w.heap.size), .slice none 0 0, .int .i64 0] 120
    rw [World.size_alloc] at this
    exact this
  fates := ⟨by simp [fateCells, Dk.new], .inl ⟨rfl, rfl⟩⟩
  map := ⟨_, (World.ownsMap_made w Tryz.prog 9 ptrElem).alloc _, Dic.empty⟩
  each := fun x hx => (by cases hx)
  apart := by simp [diskBlocks, Value.ownBlock]
  foot := fun k hk => by
    simp [diskBlocks, Value.ownBlock] at hk
    omega
  low := fun k hk => by simp; omega
  sorted := by simp [Dk.new]
  names := fun f hf => by simp [Dk.new] at hf
  few := by simp [Dk.new]
set_option maxHeartbeats 400000 in
theorem new_b (w : World) : Calls Tryz.prog 14 #[.slice none 0 0] w fun e w' => ∃ q, e = .returned (.tuple #[.pointer (some ⟨q, 0, none⟩), .int .i64 0]) ∧ DiskAt w' (fun k => w.heap.size ≤ k ∧ k < w'.heap.size) q Dk.new ∧ Below w.heap.size w w' := by
  have hmm := @run_makeMap Tryz.prog
  go_enter Tryz.func14, Tryz.ntmps14
  go_wp2_with fail
  refine (right_nil _).mono ?_
  rintro e w' ⟨rfl, rfl⟩
  go_wp2_with fail
  refine (cloneFate_nil _).mono ?_
  rintro e w1 ⟨rfl, rfl⟩
  go_wp2_with fail
  go_ret2
  refine ⟨_, rfl, ⟨_, _, _, (disk_new w').wider (fun k hk => ⟨hk.1, by simp; omega⟩) (fun k hk => hk.2)⟩, ((Below.refl _ _).alloc (Nat.le_refl _) _).alloc (by simp) _⟩
end Go.Proofs.YtlgcoaeddeiegaaGreat
/- Disk: Cut. -/
namespace Go.Proofs.YtlgcoaeddeiegaaGreat
open Go Go.Maps Go.RowKit

def Dk.cut (d : Dk) (s : List UInt8) (n : Int) : Int × Dk :=
  if nameOk s = false then (2, d)
  else match d.find s with
    | none => (171, d)
    | some f => if n < 0 ∨ (f.bytes.length : Int) < n then (4, d)
      else if d.fate.1 ≠ 0 then (d.fate.1, d.next)
      else (0, d.next.turn s fun f => { f with bytes := f.bytes.take n.toNat, lasts := min f.lasts n.toNat })
theorem run_both (oa : Option Addr) (N c E : Nat) (h2 : E ≤ c) (h0 : oa.map (fun x => x.add 0) = oa) (W : World) : (Instr.slice 39 (.slice oa N c) none (some (.int .i64 (E : Int))) (some (.int .i64 (E : Int)))).run Tryz.prog W = .ok (.slice oa E E) W := by
  have hs : (sizeOf 5).run Tryz.prog W = .ok 1 W := by kernel_rfl
  have he : Tryz.prog.elem 39 = 5 := by kernel_rfl
  rw [run_slice_hm (P := Tryz.prog) (w := W) 39 oa N c (by rw [he]; exact Tryz.underlying39) .i64 .i64 E E (by omega) (by omega) (by omega), he, hs]
  simp [Result.andThen, sliced, h0]
theorem rowAt.cap {w : World} {e : TypeId} {size : Nat} {oa : Option Addr} {n cap : Nat} {xs : List Value} (h : rowAt w e size (.slice oa n cap) n xs) (k : Nat) (hk : k ≤ n) : rowAt w e size (.slice oa k k) k (xs.take (k * size)) := by
  obtain ⟨hm, hc⟩ := h.map0
  have h1 := h.sub 0 k k (Nat.zero_le _) hk (Nat.le_refl _) (Nat.le_trans hk hc)
  simp only [Nat.zero_mul, List.drop_zero, Nat.sub_zero] at h1
  rw [hm] at h1
  simpa using h1
/-- a file is cut -/
theorem set_cut {w w2 : World} {S : Nat → Prop} {q mb : Nat} {fv' : Value} {A B : List Fl} {x : Fl} {d1 : Dk} (ho : Only (fun k => k = q) w w2) (h2 : DiskIs w2 S q mb fv' (A ++ x :: B) d1) {oa : Option Addr} {c k : Nat} (hbv : x.bv = .slice oa x.f.bytes.length c) (hk : k ≤ x.f.bytes.length) {v : Int} (hv : v = ((min x.f.lasts k : Nat) : Int))
    {s : List UInt8} {t : F0 → F0} (hs : x.f.name = s) (ht : t x.f = { x.f with bytes := x.f.bytes.take k, lasts := min x.f.lasts k }) (n : Int) :
    OpIs w S q (n, d1.turn s t) (.returned (.int .i64 n)) ((w2.setCell ⟨x.blk, 0, none⟩ (.slice oa k k)).setCell ⟨x.blk, 1, none⟩ (.int .i64 v)) := by
  subst hv
  have hx := h2.each x (by simp)
  have hset : Only (fun k => k = x.blk) w2 ((w2.setCell ⟨x.blk, 0, none⟩ (.slice oa k k)).setCell ⟨x.blk, 1, none⟩ (.int .i64 ((min x.f.lasts k : Nat) : Int))) :=
    (only_setCell (fun k => k = x.blk) w2 x.blk 0 _ rfl).trans (only_setCell (fun k => k = x.blk) _ x.blk 1 _ rfl) (fun _ _ h => h)
  have hown : (Value.slice oa k k).ownBlock = x.bv.ownBlock := by
    rw [hbv]
    cases oa with
    | none => rfl
    | some a => rfl
  have hrow := hx.row
  rw [hbv] at hrow
  have hr2 := hrow.cap k hk
  rw [Nat.mul_one, byteCells_take] at hr2
  have hlen : (x.f.bytes.take k).length = k := by rw [List.length_take]; omega
  refine file_done (x' := ⟨{ x.f with bytes := x.f.bytes.take k, lasts := min x.f.lasts k }, x.blk, .slice oa k k⟩) ho h2 (hset.mono (fun i _ hi => by rw [hi]; simp [Fl.blocks])) rfl rfl ⟨?_, ?_, ?_, ?_⟩ (fun i hi => .inl (by rw [← hown]; exact hi)) hs ht.symm n
  · exact heap_setCell_here _ (heap_setCell_here (w := w2) _ hx.cells)
  · show rowAt _ _ 1 _ (x.f.bytes.take k).length (byteCells (x.f.bytes.take k))
    rw [hlen]
    exact hr2.kept (fun i hi => hset.block i (hr2.lt i hi) (FlAt.own_ne h2 i (by rw [← hown]; exact hi)))
  · show min x.f.lasts k ≤ (x.f.bytes.take k).length
    omega
  · show (x.f.bytes.take k).length ≤ 16777216
    have := hx.size
    omega
set_option maxRecDepth 100000 in
set_option maxHeartbeats 1000000 in
theorem cut_b {w : World} {S : Nat → Prop} {q : Nat} {d : Dk} (h : DiskAt w S q d) (nm : ByteArray) (hs : nm.size ≤ maxLen) (n : Int) :
    Calls Tryz.prog 140 #[.pointer (some ⟨q, 0, none⟩), .string nm, .int .i64 n] w fun e w' => OpIs w S q (d.cut nm.data.toList n) e w' := by
  obtain ⟨mb, fv, L, h⟩ := h
  go_enter Tryz.func140, Tryz.ntmps140
  go_wp2_with fail
  refine (find_b h nm hs).mono ?_
  rintro e w' ⟨hF, rfl⟩
  rcases hF with ⟨hn, rfl⟩ | ⟨hn, hf, rfl⟩ | ⟨hn, A, x, B, rfl, hxn, hxt, hf, rfl⟩
  · have HO : Hid (OpIs w' S q (d.cut nm.data.toList n) (.returned (.int .i64 2)) w') := Lib.hid (by
      rw [show d.cut nm.data.toList n = (2, d) by simp [Dk.cut, hn]]
      exact OpIs.same h 2)
    clear h hn
    go_wp2_with fail
    go_ret
    exact HO.out
  · have HO : Hid (OpIs w' S q (d.cut nm.data.toList n) (.returned (.int .i64 171)) w') := Lib.hid (by
      rw [show d.cut nm.data.toList n = (171, d) by simp [Dk.cut, hn, hf]]
      exact OpIs.same h 171)
    clear h hn hf
    go_wp2_with fail
    go_ret
    exact HO.out
  · have hx0 := h.each x (by simp)
    obtain ⟨oaf, cf, hbv, hnc⟩ := hx0.row.shape
    obtain ⟨N, hnn⟩ : ∃ N, x.f.bytes.length = N := ⟨_, rfl⟩
    obtain ⟨l, hll⟩ : ∃ l, x.f.lasts = l := ⟨_, rfl⟩
    have hxc := hx0.cells
    rw [hbv, hnn] at hxc
    have k0 : w'.cell? ⟨x.blk, 0, none⟩ = some (.slice oaf N cf) := cell_of hxc rfl
    have HBV := Lib.hid (And.intro hbv (And.intro hnn hll))
    have H := Lib.hid h
    have HN := Lib.hid (And.intro hn hf)
    clear h hn hf hxc hx0 hbv hnn hnc hll
    by_cases hbad : n < 0 ∨ (N : Int) < n
    · have HO : Hid (OpIs w' S q (d.cut nm.data.toList n) (.returned (.int .i64 4)) w') := Lib.hid (by
        rw [show d.cut nm.data.toList n = (4, d) by simp [Dk.cut, HN.out.1, HN.out.2, HBV.out.2.1, hbad]]
        exact OpIs.same H.out 4)
      by_cases e1 : n < 0
      · go_wp2_with fail
        go_ret
        exact HO.out
      · have e2 : (N : Int) < n := by omega
        go_wp2_with fail
        go_ret
        exact HO.out
    · obtain ⟨ν, rfl⟩ : ∃ ν : Nat, n = (ν : Int) := ⟨n.toNat, by omega⟩
      have hνN : ν ≤ N := by omega
      have d1 : decide ((ν : Int) < 0) = false := by simp
      have d2 : decide ((N : Int) < (ν : Int)) = false := by simp; omega
      go_wp2_with fail
      refine (step_b H.out).mono ?_
      rintro e w1 ⟨kd, kp, fv', rfl, hkp, h1, ho1⟩
      obtain ⟨er, her⟩ : ∃ er, d.fate.1 = er := ⟨_, rfl⟩
      rw [her]
      have H1 := Lib.hid h1
      have HO1 := Lib.hid ho1
      have HE := Lib.hid her
      clear h1 ho1 hkp her k0 d1 d2
      go_upto_region 7 with fail
      obtain ⟨w2, hw2⟩ : ∃ w2 : World, w2 = w1.alloc (.cells #[.int .i64 kd, .int .i64 kp] 98) := ⟨_, rfl⟩
      obtain ⟨r, hr⟩ : ∃ r, r = w1.heap.size := ⟨_, rfl⟩
      have h2 : DiskIs w2 S q mb fv' (A ++ x :: B) d.next := by rw [hw2]; exact H1.out.below ((Below.refl _ _).alloc (Nat.le_refl _) _)
      have ho2 : Only (fun k => k = q) w' w2 := by rw [hw2]; exact HO1.out.trans (only_alloc (fun k => k = q) _ _) (fun _ _ h => h)
      rw [← hw2, ← hr]
      clear hw2 hr H1 HO1
      by_cases h0 : er = 0
      · subst h0
        have hx := h2.each x (by simp)
        have hxc := hx.cells
        have hxr := hx.row
        rw [HBV.out.1, HBV.out.2.1, HBV.out.2.2] at hxc
        rw [HBV.out.1, HBV.out.2.1] at hxr
        obtain ⟨hm0, hNc⟩ := hxr.map0
        have hsl : ∀ W : World, (Instr.slice 39 (.slice oaf N cf) none (some (.int .i64 (ν : Int))) (some (.int .i64 (ν : Int)))).run Tryz.prog W = .ok (.slice oaf ν ν) W := fun W => run_both oaf N cf ν (by omega) hm0 W
        have k0 : w2.cell? ⟨x.blk, 0, none⟩ = some (.slice oaf N cf) := cell_of hxc rfl
        have z0 : w2.frozen? ⟨x.blk, 0, none⟩ = false := free_of hxc _
        have hc3 := heap_setCell_here (i := 0) (.slice oaf ν ν) hxc
        have k1 : (w2.setCell ⟨x.blk, 0, none⟩ (.slice oaf ν ν)).cell? ⟨x.blk, 1, none⟩ = some (.int .i64 l) := cell_of hc3 rfl
        have z1 : (w2.setCell ⟨x.blk, 0, none⟩ (.slice oaf ν ν)).frozen? ⟨x.blk, 1, none⟩ = false := free_of hc3 _
        have HO : Hid (∀ v : Int, v = ((min l ν : Nat) : Int) → OpIs w' S q (d.cut nm.data.toList ν) (.returned (.int .i64 0)) ((w2.setCell ⟨x.blk, 0, none⟩ (.slice oaf ν ν)).setCell ⟨x.blk, 1, none⟩ (.int .i64 v))) := Lib.hid (fun v hv => by
          have h3 := set_cut ho2 h2 (oa := oaf) (c := cf) (k := ν) HBV.out.1 (by rw [HBV.out.2.1]; exact hνN) (v := v) (by rw [HBV.out.2.2]; exact hv) (s := nm.data.toList) (t := fun f => { f with bytes := f.bytes.take ν, lasts := min f.lasts ν }) hxn rfl 0
          have hb' : ¬ ((ν : Int) < 0 ∨ (N : Int) < (ν : Int)) := hbad
          have e : d.cut nm.data.toList ν = (0, d.next.turn nm.data.toList fun f => { f with bytes := f.bytes.take ν, lasts := min f.lasts ν }) := by
            unfold Dk.cut
            rw [HN.out.1, HN.out.2]
            simp only [HBV.out.2.1, HE.out]
            rw [if_neg (by simp), if_neg hb', if_neg (by simp)]
            rfl
          rw [e]
          exact h3)
        clear h2 ho2 hx hxc hxr hm0 hc3
        go_wp2_with fail
        all_goals (go_ret; refine HO.out _ ?_; omega)
      · have hb0 : (er != 0) = true := by simpa using h0
        have HO : Hid (OpIs w' S q (d.cut nm.data.toList ν) (.returned (.int .i64 er)) w2) := Lib.hid (by
          rw [show d.cut nm.data.toList ν = (er, d.next) by
            unfold Dk.cut
            rw [HN.out.1, HN.out.2]
            simp only [HBV.out.2.1, HE.out]
            rw [if_neg (by simp), if_neg hbad, if_pos h0]]
          exact OpIs.next ho2 h2 er)
        clear h0 h2 ho2
        go_wp2_with fail
        go_ret
        exact HO.out
end Go.Proofs.YtlgcoaeddeiegaaGreat
/- Disk: Remove. -/
namespace Go.Proofs.YtlgcoaeddeiegaaGreat
open Go Go.Maps Go.RowKit

section
variable {w : World} {S : Nat → Prop} {q mb : Nat} {fv : Value} {d : Dk}
/-- a file is struck -/
theorem DiskIs.file_drop {w' : World} {A B : List Fl} {x : Fl} {n' : Nat} {D' : DataW Unit} {fs : List F0} (h : DiskIs w S q mb fv (A ++ x :: B) d) (ho : Only (fun k => k = mb) w w')
    (hm : w'.ownsMap Tryz.prog 9 ptrElem mb n' D') (hd : Dic D' ((A ++ B).map fun x => (x.f.name, x.blk))) (hfs : fs = A.map (·.f) ++ B.map (·.f)) : DiskIs w' S q mb fv (A ++ B) { d with files := fs } := by
  have hp := blocks_perm q mb fv A x B
  have hnd := (List.nodup_append.1 (hp.nodup_iff.1 h.apart)).2.1
  have hin : ∀ k ∈ diskBlocks q mb fv (A ++ B), S k := fun k hk => h.foot k (hp.mem_iff.2 (List.mem_append_right _ hk))
  have hne : ∀ k ∈ diskBlocks q mb fv (A ++ B), k ≠ mb → w'.heap[k]? = w.heap[k]? := fun k hk hk' => ho.block k (h.low k (hin k hk)) hk'
  have hap := hnd
  simp only [diskBlocks, List.nodup_cons, List.mem_cons, not_or] at hap
  have hmb : ∀ k, k ∈ fv.ownBlock.toList ++ (A ++ B).flatMap Fl.blocks → k ≠ mb := fun k hk e => hap.2.1 (e ▸ hk)
  have hfl : d.files = A.map (·.f) ++ x.f :: B.map (·.f) := by rw [← h.files]; simp
  have hsub : fs.Sublist d.files := by
    rw [hfs, hfl]
    exact List.Sublist.append_left (List.sublist_cons_self _ _) _
  have hs2 : (fs.map (·.name)).Pairwise (· < ·) := h.sorted.sublist (hsub.map _)
  exact {
    files := by rw [hfs]; simp
    head := (hne q (by simp [diskBlocks]) (fun e => hap.1.1 e)).trans h.head
    fates := h.fates.kept (fun k hk => hne k (by simp [diskBlocks, hk]) (hmb k (by simp [hk])))
    map := by
      refine ⟨D', ?_, hd⟩
      have h1 := ownsMap_tight hm
      rw [hd.size hm (by
        rw [List.map_map]
        have : ((A ++ B).map (·.f.name)).Pairwise (· < ·) := by rw [hfs] at hs2; simpa [Function.comp_def] using hs2
        exact this.imp (fun {a b} hab he => by rw [he] at hab; exact List.lt_irrefl _ hab))] at h1
      simpa using h1
    each := fun y hy => (h.each y (by
      rcases List.mem_append.1 hy with h1 | h1
      · simp [h1]
      · simp [h1])).kept (fun k hk => by
        have h1 : k ∈ fv.ownBlock.toList ++ (A ++ B).flatMap Fl.blocks := List.mem_append_right _ (List.mem_flatMap.2 ⟨y, hy, hk⟩)
        exact hne k (by simp only [diskBlocks, List.mem_cons]; exact .inr (.inr h1)) (hmb k h1))
    apart := hnd
    foot := hin
    low := fun k hk => Nat.lt_of_lt_of_le (h.low k hk) ho.size
    sorted := hs2
    names := fun f hf => h.names f (hsub.subset hf)
    few := Nat.le_trans hsub.length_le h.few }
end
def Dk.remove (d : Dk) (s : List UInt8) : Int × Dk :=
  if nameOk s = false then (2, d)
  else match d.find s with
    | none => (171, d)
    | some f => if d.fate.1 ≠ 0 then (d.fate.1, d.next)
      else if f.named = true then (0, d.next.turn s fun f => { f with bytes := f.bytes.take f.lasts, there := false })
      else (0, { d.next with files := d.files.filter fun f => f.name != s })
end Go.Proofs.YtlgcoaeddeiegaaGreat
/- Disk: Remove, the call. -/
namespace Go.Proofs.YtlgcoaeddeiegaaGreat
open Go Go.Maps Go.RowKit

theorem filter_list {A B : List Fl} {x : Fl} {d : Dk} {s : List UInt8} (hf : (A ++ x :: B).map (·.f) = d.files) (hs : (d.files.map (·.name)).Pairwise (· < ·)) (hx : x.f.name = s) :
    (d.files.filter fun f => f.name != s) = A.map (·.f) ++ B.map (·.f) ∧ (∀ y ∈ A ++ B, y.f.name ≠ s) := by
  have hnd : (d.files.map (·.name)).Nodup := hs.imp (fun {a b} hab he => by rw [he] at hab; exact List.lt_irrefl _ hab)
  rw [← hf, List.map_append, List.map_cons, List.map_append, List.map_cons] at hnd
  have h2 := List.nodup_append.1 hnd
  have hA : ∀ y ∈ A, y.f.name ≠ s := fun y hy he => h2.2.2 y.f.name (List.mem_map_of_mem (List.mem_map_of_mem hy)) x.f.name (by simp) (by rw [he, hx])
  have hB : ∀ y ∈ B, y.f.name ≠ s := fun y hy he => (List.nodup_cons.1 h2.2.1).1 (by rw [hx, ← he]; exact List.mem_map_of_mem (List.mem_map_of_mem hy))
  refine ⟨?_, fun y hy => ?_⟩
  · rw [← hf, List.map_append, List.map_cons, List.filter_append, List.filter_cons]
    have hxs : (x.f.name != s) = false := by simp [hx]
    rw [hxs]
    have e1 : (A.map (·.f)).filter (fun f => f.name != s) = A.map (·.f) := List.filter_eq_self.2 (fun f hf' => by
      obtain ⟨y, hy, rfl⟩ := List.mem_map.1 hf'
      simpa using hA y hy)
    have e2 : (B.map (·.f)).filter (fun f => f.name != s) = B.map (·.f) := List.filter_eq_self.2 (fun f hf' => by
      obtain ⟨y, hy, rfl⟩ := List.mem_map.1 hf'
      simpa using hB y hy)
    rw [e1, e2]
    rfl
  · rcases List.mem_append.1 hy with h | h
    · exact hA y h
    · exact hB y h
/-- a file is struck from the map -/
theorem set_drop {w w2 w3 : World} {S : Nat → Prop} {q mb n' : Nat} {fv' : Value} {A B : List Fl} {x : Fl} {d d1 : Dk} {D : DataW Unit} {s : List UInt8} (ho : Only (fun k => k = q) w w2) (h2 : DiskIs w2 S q mb fv' (A ++ x :: B) d1) (hd : Dic D ((A ++ x :: B).map fun x => (x.f.name, x.blk)))
    (ht : w2.mapTurned w3 mb) (hm : w3.ownsMap Tryz.prog 9 ptrElem mb n' (D.del (.string s))) (hx : x.f.name = s) (hf : d.files = d1.files) :
    OpIs w S q (0, { d1 with files := d.files.filter fun f => f.name != s }) (.returned (.int .i64 0)) w3 := by
  obtain ⟨e1, e2⟩ := filter_list h2.files h2.sorted hx
  rw [hf, e1]
  have ho3 : Only (fun k => k = mb) w2 w3 := Only.of_grown (S := fun k => k = mb) ht.grown (fun k hk => by simp at hk; exact hk.symm)
  have hd2 : Dic (D.del (.string s)) ((A ++ B).map fun x => (x.f.name, x.blk)) := hd.del s (fun f => by
    constructor
    · intro h
      obtain ⟨y, hy, rfl⟩ := List.mem_map.1 h
      refine ⟨List.mem_map.2 ⟨y, ?_, rfl⟩, e2 y hy⟩
      rcases List.mem_append.1 hy with h1 | h1
      · simp [h1]
      · simp [h1]
    · rintro ⟨h, hne⟩
      obtain ⟨y, hy, rfl⟩ := List.mem_map.1 h
      refine List.mem_map.2 ⟨y, ?_, rfl⟩
      rcases List.mem_append.1 hy with h1 | h1
      · simp [h1]
      · rcases List.mem_cons.1 h1 with rfl | h1
        · exact absurd hx hne
        · simp [h1])
  have h4 := h2.file_drop ho3 hm hd2 rfl
  refine ⟨rfl, ⟨mb, fv', _, h4.wider (fun k hk => .inl hk) (fun k hk => ?_)⟩, ?_⟩
  · rcases hk with hk | hk
    · exact Nat.lt_of_lt_of_le (h2.low k hk) ho3.size
    · exact hk.2
  · exact (ho.mono (fun i _ hi => by rw [hi]; exact h2.q_mem)).trans ho3 (fun i _ hi => by rw [hi]; exact h2.foot _ (by simp [diskBlocks]))
end Go.Proofs.YtlgcoaeddeiegaaGreat
/- Disk: entries that come out of the map; a part of the files. -/
namespace Go.Proofs.YtlgcoaeddeiegaaGreat
open Go Go.Maps Go.RowKit
open Go.Proofs (encStr)

theorem Dic.came {D : DataW Unit} {L : List (List UInt8 × Nat)} (h : Dic D L) {x : List UInt8} {yd : DataW Unit} (hat : ∀ zd, D.atKey (.string x) zd = yd) : ∃ b, (x, b) ∈ L ∧ yd = .lit (.int .i64 b) := by
  cases hh : Maps.has D (.string x) with
  | true =>
    obtain ⟨f, hf, he⟩ := (h.has x).1 hh
    obtain ⟨s, b⟩ := f
    simp only at he
    subst he
    exact ⟨b, hf, by rw [← hat .nil]; exact h.get _ hf _⟩
  | false =>
    have h1 := hat .nil
    have h2 := hat (.lit (.bool true))
    rw [atKey_of_not_has hh] at h1 h2
    rw [← h1] at h2
    cases h2
theorem ptrElem_val {v : Value} {y : DataW Unit × List MemPlace} (h : ptrElem v = some y) {b : Nat} (hy : y.1 = .lit (.int .i64 b)) : v = .pointer (some ⟨b, 0, none⟩) := by
  obtain ⟨y1, ps⟩ := y
  simp only at hy
  subst hy
  exact ptrElem_inv h
theorem wpList_next_dic {ops : Array Oper} {rest : List Oper} {o : Oper} {a : Act} {Q : Exit → Act → World → Prop} (w : World) (hg : o.guard = none) (it : Operand) (hop : o.op = Op.next it false)
    {L : List (List UInt8 × Nat)} {D : DataW Unit} (hD : Dic D L) (mb r n : Nat) (left : Lit → Bool) (cnt : Nat) (hit : a.eval it = .pointer (some ⟨r, 0, none⟩)) (h : w.ranges Tryz.prog 9 ptrElem mb r n D left cnt)
    (hDone : (∀ kl, left kl = false) → wpList Tryz.prog ops Q rest (a.put o.dst (.tuple #[.bool false])) w)
    (hMore : ∀ (s : List UInt8) (b : Nat) (w' : World) (cnt' : Nat), (s, b) ∈ L → left (.string s) = true → w'.ranges Tryz.prog 9 ptrElem mb r n D (fun z => left z && !z.sameKey (.string s)) cnt' → cnt' < cnt →
      w.grownBy w' (some r) → w'.heap.size = w.heap.size → (Instr.entry (.pointer (some ⟨r, 0, none⟩))).run Tryz.prog w' = .ok (.tuple #[encStr s, .pointer (some ⟨b, 0, none⟩)]) w' → Hid (keyOf Tryz.prog 9 (encStr s) = some (.string s)) →
      wpList Tryz.prog ops Q rest (a.put o.dst (.tuple #[.bool true, encStr s, .pointer (some ⟨b, 0, none⟩)])) w') :
    wpList Tryz.prog ops Q (o :: rest) a w := by
  refine wpList_next_ranges w hg it hop 9 (string_keyed Tryz.underlying9) ptrElem encStr id (fun key kl hk => by obtain ⟨x, hx, _⟩ := Maps.keyOf_str Tryz.underlying9 hk; exact ⟨x, hx⟩) (fun v _ _ => ⟨v, rfl⟩) mb r n D left cnt hit h (fun _ hl => hDone hl) ?_
  intro x c kl y w' cnt' hkey hlk hv hat hrg hlt hgr hsz hen
  obtain ⟨x', ex, rfl, _⟩ := Maps.keyOf_str Tryz.underlying9 hkey
  obtain rfl : x = x' := encStr_inj ex
  obtain ⟨b, hb, hy⟩ := hD.came hat
  have hc : c = .pointer (some ⟨b, 0, none⟩) := ptrElem_val hv hy
  subst hc
  exact hMore x b w' cnt' hb hlk hrg hlt hgr hsz hen (Lib.hid hkey)
theorem grown_setC (w : World) (a : Addr) (u : Value) : w.grownBy (w.setCell a u) (some a.block) :=
  ⟨rfl, rfl, rfl, by simp [World.setCell], fun k _ hk => Below.heap_setCell _ _ _ _ (fun e => hk (by rw [e]))⟩
theorem Only.grown {S : Nat → Prop} {w w' : World} (h : Only S w w') {row : Option Nat} (hr : ∀ k, k < w.heap.size → S k → row = some k) : w.grownBy w' row :=
  ⟨h.os, h.tape, h.output, h.size, fun k hk hn => h.block k hk (fun hs => hn (hr k hk hs).symm)⟩
theorem sameKey_str (x y : List UInt8) : (Lit.string x).sameKey (.string y) = decide (x = y) := by
  by_cases h : x = y
  · simp [Lit.sameKey, h]
  · simp [Lit.sameKey, h]
theorem DiskIs.narrow {w : World} {S S' : Nat → Prop} {q mb : Nat} {fv : Value} {L : List Fl} {d : Dk} (h : DiskIs w S' q mb fv L d) (hn : ∀ k, S' k → S k) (hl : ∀ k, S k → k < w.heap.size) : DiskIs w S q mb fv L d :=
  { h with foot := fun k hk => hn k (h.foot k hk), low := hl }
theorem flatMap_sub {α β : Type} (f : α → List β) {l l' : List α} (h : l'.Sublist l) : (l'.flatMap f).Sublist (l.flatMap f) := by
  induction h with
  | slnil => exact List.Sublist.refl _
  | cons a _ ih => exact (ih.trans (List.sublist_append_right _ _))
  | cons_cons a _ ih => exact ih.append_left _
/-- some files are struck -/
theorem DiskIs.files_sub {w w' : World} {S : Nat → Prop} {q mb : Nat} {fv : Value} {L L' : List Fl} {d : Dk} {n' : Nat} {D' : DataW Unit} (h : DiskIs w S q mb fv L d) (hL : L'.Sublist L) (ho : Only (fun k => k = mb) w w')
    (hm : w'.ownsMap Tryz.prog 9 ptrElem mb n' D') (hd : Dic D' (L'.map fun x => (x.f.name, x.blk))) : DiskIs w' S q mb fv L' { d with files := L'.map (·.f) } := by
  have hsb : (diskBlocks q mb fv L').Sublist (diskBlocks q mb fv L) := ((((flatMap_sub Fl.blocks hL).append_left _).cons_cons mb).cons_cons q)
  have hin : ∀ k ∈ diskBlocks q mb fv L', S k := fun k hk => h.foot k (hsb.subset hk)
  have hnd := h.apart.sublist hsb
  have hne : ∀ k ∈ diskBlocks q mb fv L', k ≠ mb → w'.heap[k]? = w.heap[k]? := fun k hk hk' => ho.block k (h.low k (hin k hk)) hk'
  have hap := hnd
  simp only [diskBlocks, List.nodup_cons, List.mem_cons, not_or] at hap
  have hmb : ∀ k, k ∈ fv.ownBlock.toList ++ L'.flatMap Fl.blocks → k ≠ mb := fun k hk e => hap.2.1 (e ▸ hk)
  have hsub : (L'.map (·.f)).Sublist d.files := by rw [← h.files]; exact hL.map _
  have hs2 : ((L'.map (·.f)).map (·.name)).Pairwise (· < ·) := h.sorted.sublist (hsub.map _)
  exact {
    files := rfl
    head := (hne q (by simp [diskBlocks]) (fun e => hap.1.1 e)).trans h.head
    fates := h.fates.kept (fun k hk => hne k (by simp [diskBlocks, hk]) (hmb k (by simp [hk])))
    map := by
      refine ⟨D', ?_, hd⟩
      have h1 := ownsMap_tight hm
      rw [hd.size hm (by
        rw [List.map_map]
        have : (L'.map (·.f.name)).Pairwise (· < ·) := by simpa [Function.comp_def] using hs2
        exact this.imp (fun {a b} hab he => by rw [he] at hab; exact List.lt_irrefl _ hab))] at h1
      simpa using h1
    each := fun y hy => (h.each y (hL.subset hy)).kept (fun k hk => by
        have h1 : k ∈ fv.ownBlock.toList ++ L'.flatMap Fl.blocks := List.mem_append_right _ (List.mem_flatMap.2 ⟨y, hy, hk⟩)
        exact hne k (by simp only [diskBlocks, List.mem_cons]; exact .inr (.inr h1)) (hmb k h1))
    apart := hnd
    foot := hin
    low := fun k hk => Nat.lt_of_lt_of_le (h.low k hk) ho.size
    sorted := hs2
    names := fun f hf => h.names f (hsub.subset hf)
    few := Nat.le_trans hsub.length_le h.few }
def Dk.syncdir (d : Dk) : Int × Dk :=
  if d.fate.1 ≠ 0 then (d.fate.1, d.next)
  else (0, { d.next with files := (d.files.filter (·.there)).map fun f => { f with named := true } })
end Go.Proofs.YtlgcoaeddeiegaaGreat
/- A log of segments, plainly: what each call makes of it and of its disk. -/
namespace Go.Proofs.YtlgcoaeddeiegaaGreat
open Go Go.RowKit

structure Lg where
  ini : List (Nat × List Bat)
  lb : Nat
  lbs : List Bat
  stands : Nat
  dead : Bool
def Lg.segs (g : Lg) : List (Nat × List Bat) := g.ini ++ [(g.lb, g.lbs)]
def Lg.fin (g : Lg) : Nat := g.lb + cntT g.lbs
def Lg.begin (g : Lg) : Nat := match g.ini with
  | [] => g.lb
  | s :: _ => s.1
def Lg.rollT (log : ByteArray) (g : Lg) (d : Dk) : Int × Lg × Dk :=
  if (d.sync (sname log g.lb)).1 ≠ 0 then ((d.sync (sname log g.lb)).1, g, (d.sync (sname log g.lb)).2)
  else if ((d.sync (sname log g.lb)).2.create (sname log g.fin)).1 ≠ 0 then (((d.sync (sname log g.lb)).2.create (sname log g.fin)).1, { g with stands := g.fin }, ((d.sync (sname log g.lb)).2.create (sname log g.fin)).2)
  else (((d.sync (sname log g.lb)).2.create (sname log g.fin)).2.syncdir.1, ⟨g.segs, g.fin, [], g.fin, g.dead⟩, ((d.sync (sname log g.lb)).2.create (sname log g.fin)).2.syncdir.2)
def Lg.addT (log : ByteArray) (g : Lg) (d : Dk) (l : List Rc) : Int × Lg × Dk :=
  ((d.append (sname log g.lb) (batchT (g.fin : Int) l)).1, if (d.append (sname log g.lb) (batchT (g.fin : Int) l)).1 = 0 then { g with lbs := g.lbs ++ [((g.fin : Int), l)] } else g, (d.append (sname log g.lb) (batchT (g.fin : Int) l)).2)
def Lg.pushT (log : ByteArray) (roll : Nat) (g : Lg) (d : Dk) (l : List Rc) : Int × Lg × Dk :=
  if roll ≤ (batsT g.lbs).length then
    if (g.rollT log d).1 ≠ 0 then g.rollT log d else (g.rollT log d).2.1.addT log (g.rollT log d).2.2 l
  else g.addT log d l
def Lg.dies (g : Lg) (e : Int) : Lg := if e = 0 then g else { g with dead := true }
def Lg.appendT (log : ByteArray) (roll : Nat) (g : Lg) (d : Dk) (l : List Rc) : Int × Lg × Dk :=
  if g.dead = true then (9, g, d)
  else if (fitsT l).2 ≠ 0 then ((fitsT l).2, g, d)
  else if (9007199254740992 : Int) < (g.fin : Int) + (l.length : Int) - 1 then (8, g, d)
  else ((g.pushT log roll d l).1, (g.pushT log roll d l).2.1.dies (g.pushT log roll d l).1, (g.pushT log roll d l).2.2)
def Lg.syncT (log : ByteArray) (g : Lg) (d : Dk) : Int × Lg × Dk :=
  if g.dead = true then (9, g, d)
  else if (d.sync (sname log g.lb)).1 ≠ 0 then ((d.sync (sname log g.lb)).1, { g with dead := true }, (d.sync (sname log g.lb)).2)
  else (0, { g with stands := g.fin }, (d.sync (sname log g.lb)).2)

/-- the segments lie behind one another, each of good batches, none but the last empty -/
structure LgOk (g : Lg) : Prop where
  chain : ∀ s ∈ g.segs, Chain s.1 s.2 ∧ s.1 ≤ 9007199254740992
  behind : Behind g.begin (g.segs.map fun s => (s.1, recsT s.2))
  ne : ∀ s ∈ g.ini, s.2 ≠ []
  stands : g.stands ≤ g.fin
/-- each segment's file has just its batches -/
def LgFit (log : ByteArray) (g : Lg) (d : Dk) : Prop := ∀ s ∈ g.segs, ∃ f, d.find (sname log s.1) = some f ∧ f.bytes = batsT s.2
/-- each segment's file begins with its batches -/
def LgFitQ (log : ByteArray) (g : Lg) (d : Dk) : Prop := ∀ s ∈ g.segs, ∃ f tl, d.find (sname log s.1) = some f ∧ f.bytes = batsT s.2 ++ tl
theorem LgFit.toQ {log : ByteArray} {g : Lg} {d : Dk} (h : LgFit log g d) : LgFitQ log g d := fun s hs => by
  obtain ⟨f, h1, h2⟩ := h s hs
  exact ⟨f, [], h1, by rw [h2, List.append_nil]⟩
/-- files that are there stay, with their bytes -/
def KeepsB (d d' : Dk) : Prop := ∀ s f, d.find s = some f → ∃ f', d'.find s = some f' ∧ f'.bytes = f.bytes
theorem KeepsB.refl (d : Dk) : KeepsB d d := fun _ f h => ⟨f, h, rfl⟩
theorem KeepsB.trans {a b c : Dk} (h : KeepsB a b) (k : KeepsB b c) : KeepsB a c := fun s f hf => by
  obtain ⟨f', h1, h2⟩ := h s f hf
  obtain ⟨f'', k1, k2⟩ := k s f' h1
  exact ⟨f'', k1, k2.trans h2⟩
theorem KeepsB.fit {log : ByteArray} {g : Lg} {d d' : Dk} (h : KeepsB d d') (hf : LgFit log g d) : LgFit log g d' := fun s hs => by
  obtain ⟨f, h1, h2⟩ := hf s hs
  obtain ⟨f', k1, k2⟩ := h _ f h1
  exact ⟨f', k1, k2.trans h2⟩
theorem KeepsB.fitQ {log : ByteArray} {g : Lg} {d d' : Dk} (h : KeepsB d d') (hf : LgFitQ log g d) : LgFitQ log g d' := fun s hs => by
  obtain ⟨f, tl, h1, h2⟩ := hf s hs
  obtain ⟨f', k1, k2⟩ := h _ f h1
  exact ⟨f', tl, k1, k2.trans h2⟩
theorem find_turnO {d : Dk} {s s' : List UInt8} (h : s' ≠ s) (t : F0 → F0) (ht : ∀ f, (t f).name = f.name) : (d.turn s t).find s' = d.find s' := by
  unfold Dk.find Dk.at Dk.turn
  congr 1
  show List.find? _ (d.files.map _) = _
  induction d.files with
  | nil => rfl
  | cons f l ih =>
    rw [List.map_cons, List.find?_cons, List.find?_cons, ih]
    by_cases hf : f.name = s
    · have h1 : ((t f).name == s') = false := by rw [ht, hf, beq_eq_false_iff_ne]; exact fun e => h e.symm
      have h2 : (f.name == s') = false := by rw [hf, beq_eq_false_iff_ne]; exact fun e => h e.symm
      rw [if_pos hf, h1, h2]
    · rw [if_neg hf]
theorem find_turnS {d : Dk} {s : List UInt8} (t : F0 → F0) (hn : ∀ f, (t f).name = f.name) (ht : ∀ f, (t f).there = f.there) : (d.turn s t).find s = (d.find s).map t := by
  unfold Dk.find Dk.at Dk.turn
  show Option.filter _ (List.find? _ (d.files.map _)) = _
  rw [turnL_find t s hn]
  cases List.find? (fun f => f.name == s) d.files with
  | none => rfl
  | some f =>
    show Option.filter _ (some (t f)) = Option.map t (Option.filter _ (some f))
    rw [Option.filter_some, Option.filter_some, ht]
    split <;> rfl
theorem keeps_turn {d : Dk} {s : List UInt8} (t : F0 → F0) (hn : ∀ f, (t f).name = f.name) (ht : ∀ f, (t f).there = f.there) (hb : ∀ f, (t f).bytes = f.bytes) : KeepsB d (d.turn s t) := fun s' f hf => by
  by_cases h : s' = s
  · subst h
    exact ⟨t f, by rw [find_turnS t hn ht, hf]; rfl, hb f⟩
  · exact ⟨f, by rw [find_turnO h t hn, hf], rfl⟩
theorem keeps_next {d d' : Dk} (h : KeepsB d d') : KeepsB d.next d' := h
theorem sync_keeps (d : Dk) (s : List UInt8) : KeepsB d (d.sync s).2 := by
  unfold Dk.sync
  split
  · exact KeepsB.refl d
  · split
    · exact KeepsB.refl d
    · exact keeps_turn (d := d.next) _ (fun _ => rfl) (fun _ => rfl) (fun _ => rfl)
theorem insF_find? {f : F0} {s' : List UInt8} (h : f.name ≠ s') : ∀ l : List F0, (insF f l).find? (fun g => g.name == s') = l.find? (fun g => g.name == s')
  | [] => by
    have h1 : (f.name == s') = false := beq_eq_false_iff_ne.2 h
    simp [insF, h1]
  | g :: r => by
    unfold insF
    split
    · rw [List.find?_cons, List.find?_cons, insF_find? h r]
    · have h1 : (f.name == s') = false := beq_eq_false_iff_ne.2 h
      rw [List.find?_cons, h1]
theorem create_keeps (d : Dk) (s : List UInt8) : KeepsB d (d.create s).2 := by
  unfold Dk.create
  split
  · exact KeepsB.refl d
  · split
    · exact KeepsB.refl d
    · rename_i h2
      split
      · exact KeepsB.refl d
      · split
        · exact KeepsB.refl d
        · intro s' f hf
          by_cases h : s = s'
          · subst h
            exact absurd (by
              unfold Dk.find at hf
              obtain ⟨hg, -⟩ := Option.filter_eq_some_iff.1 hf
              rw [hg]
              rfl) h2
          · refine ⟨f, ?_, rfl⟩
            unfold Dk.find Dk.at at hf ⊢
            show Option.filter _ (List.find? _ (insF _ d.files)) = _
            rw [insF_find? (f := ⟨s, [], 0, true, false⟩) h]
            exact hf
theorem find_there {l : List F0} {s : List UInt8} {f : F0} (hs : (l.map (·.name)).Pairwise (· < ·)) (h : (l.find? fun f => f.name == s).filter (·.there) = some f) : ((l.filter (·.there)).map fun f => { f with named := true }).find? (fun f => f.name == s) = some { f with named := true } := by
  obtain ⟨hg, ht⟩ := Option.filter_eq_some_iff.1 h
  clear h
  induction l with
  | nil => cases hg
  | cons g r ih =>
    rw [List.map_cons, List.pairwise_cons] at hs
    rw [List.find?_cons] at hg
    cases hb : g.name == s with
    | true =>
      rw [hb] at hg
      obtain rfl := Option.some.inj hg
      rw [List.filter_cons_of_pos ht, List.map_cons, List.find?_cons]
      show (match g.name == s with | true => _ | false => _) = _
      rw [hb]
    | false =>
      rw [hb] at hg
      by_cases hgt : g.there = true
      · rw [List.filter_cons_of_pos hgt, List.map_cons, List.find?_cons]
        show (match g.name == s with | true => _ | false => _) = _
        rw [hb]
        exact ih hs.2 hg
      · rw [List.filter_cons_of_neg (by simpa using hgt)]
        exact ih hs.2 hg
theorem syncdir_keeps {d : Dk} (hs : (d.files.map (·.name)).Pairwise (· < ·)) : KeepsB d d.syncdir.2 := by
  unfold Dk.syncdir
  split
  · exact KeepsB.refl d
  · intro s f hf
    obtain ⟨-, ht⟩ := Option.filter_eq_some_iff.1 hf
    refine ⟨{ f with named := true }, ?_, rfl⟩
    unfold Dk.find Dk.at at hf ⊢
    rw [find_there hs hf, Option.filter_some]
    exact if_pos ht
theorem append_others {d : Dk} {s s' : List UInt8} (b : List UInt8) (h : s' ≠ s) : (d.append s b).2.find s' = d.find s' := by
  unfold Dk.append
  split
  · rfl
  · split
    · rfl
    · split
      · rfl
      · exact find_turnO (d := d.next) h _ (fun _ => rfl)
/-- what an Append leaves of its own file -/
theorem append_own {d : Dk} {s b : List UInt8} {f : F0} (hf : d.find s = some f) : ∃ f' tl, (d.append s b).2.find s = some f' ∧ f'.bytes = f.bytes ++ tl ∧ ((d.append s b).1 = 0 → nameOk s = true → tl = b) := by
  unfold Dk.append
  split
  · rename_i h
    exact ⟨f, [], hf, by simp, fun h => by cases h⟩
  · rw [hf]
    dsimp only
    split
    · exact ⟨f, [], hf, by simp, fun h => by cases h⟩
    · refine ⟨{ f with bytes := f.bytes ++ (if d.fate.1 = 0 then b else b.take d.fate.2) }, if d.fate.1 = 0 then b else b.take d.fate.2, ?_, rfl, fun h _ => if_pos h⟩
      rw [find_turnS (d := d.next) (fun f => { f with bytes := f.bytes ++ (if d.fate.1 = 0 then b else b.take d.fate.2) }) (fun _ => rfl) (fun _ => rfl)]
      show Option.map _ (d.find s) = _
      rw [hf]
      rfl
end Go.Proofs.YtlgcoaeddeiegaaGreat
/- A log of segments, plainly: what stands behind each call. -/
namespace Go.Proofs.YtlgcoaeddeiegaaGreat
open Go Go.RowKit

def Lg.recs (g : Lg) : List Rc := g.segs.flatMap fun s => recsT s.2
theorem behind_snoc {α : Type} : ∀ (l : List (Nat × List α)) (bn b : Nat) (r : List α), Behind bn (l ++ [(b, r)]) ↔ Behind bn l ∧ b = bn + (l.flatMap (·.2)).length
  | [], bn, b, r => by simp [Behind]
  | (c, m) :: l, bn, b, r => by
    show (c = bn ∧ Behind (bn + m.length) (l ++ [(b, r)])) ↔ (c = bn ∧ Behind (bn + m.length) l) ∧ _
    rw [behind_snoc l, List.flatMap_cons, List.length_append]
    dsimp only
    constructor
    · rintro ⟨h1, h2, h3⟩
      exact ⟨⟨h1, h2⟩, by omega⟩
    · rintro ⟨⟨h1, h2⟩, h3⟩
      exact ⟨h1, h2, by omega⟩
theorem Lg.recs_map (g : Lg) : (g.segs.map fun s => (s.1, recsT s.2)).flatMap (·.2) = g.recs := by
  unfold Lg.recs
  rw [List.flatMap_map]
theorem LgOk.lb_eq {g : Lg} (h : LgOk g) : Behind g.begin (g.ini.map fun s => (s.1, recsT s.2)) ∧ g.lb = g.begin + (g.ini.flatMap fun s => recsT s.2).length := by
  have h1 := h.behind
  unfold Lg.segs at h1
  rw [List.map_append, List.map_cons, List.map_nil, behind_snoc, List.flatMap_map] at h1
  exact h1
theorem LgOk.fin_eq {g : Lg} (h : LgOk g) : g.fin = g.begin + g.recs.length := by
  have h1 := h.lb_eq.2
  unfold Lg.fin Lg.recs Lg.segs
  rw [List.flatMap_append, List.length_append, List.flatMap_cons, List.flatMap_nil, List.append_nil, recsT_len]
  dsimp only
  omega
theorem recsT_ne {bn : Nat} {bs : List Bat} (h : Chain bn bs) (hn : bs ≠ []) : 0 < (recsT bs).length := by
  cases bs with
  | nil => exact absurd rfl hn
  | cons b r =>
    have := (h.good b (List.mem_cons_self ..)).pos.1
    unfold recsT
    rw [List.flatMap_cons, List.length_append]
    omega
/-- bases rise -/
theorem behind_rises : ∀ (l : List (Nat × List Rc)) (bn : Nat), Behind bn l → (∀ s ∈ l.dropLast, 0 < s.2.length) → (∀ s ∈ l, bn ≤ s.1) ∧ (l.map (·.1)).Pairwise (· < ·)
  | [], _, _, _ => ⟨fun s hs => (by cases hs), List.Pairwise.nil⟩
  | [(b, r)], bn, h, _ => ⟨fun s hs => by
      rw [List.mem_singleton] at hs
      subst hs
      exact Nat.le_of_eq h.1.symm, List.pairwise_singleton ..⟩
  | (b, r) :: t :: l, bn, h, hn => by
    obtain ⟨h1, h2⟩ := h
    obtain ⟨g1, g2⟩ := behind_rises (t :: l) _ h2 (fun s hs => hn s (by rw [List.dropLast_cons_cons]; exact List.mem_cons_of_mem _ hs))
    have hr : 0 < r.length := hn (b, r) (by rw [List.dropLast_cons_cons]; exact List.mem_cons_self ..)
    refine ⟨fun s hs => ?_, ?_⟩
    · rcases List.mem_cons.1 hs with rfl | hs
      · exact Nat.le_of_eq h1.symm
      · have := g1 s hs
        omega
    · rw [List.map_cons, List.pairwise_cons]
      refine ⟨fun y hy => ?_, g2⟩
      obtain ⟨s, hs, rfl⟩ := List.mem_map.1 hy
      have := g1 s hs
      show b < s.1
      omega
theorem LgOk.rises {g : Lg} (h : LgOk g) : (g.segs.map (·.1)).Pairwise (· < ·) := by
  have h1 := (behind_rises _ _ h.behind (fun s hs => by
    unfold Lg.segs at hs
    rw [List.map_append, List.map_cons, List.map_nil, List.dropLast_concat] at hs
    obtain ⟨t, ht, rfl⟩ := List.mem_map.1 hs
    exact recsT_ne (h.chain t (by unfold Lg.segs; exact List.mem_append_left _ ht)).1 (h.ne t ht))).2
  rwa [List.map_map] at h1
theorem LgOk.last {g : Lg} (h : LgOk g) : ∀ s ∈ g.ini, s.1 < g.lb := fun s hs => by
  have h1 := h.rises
  unfold Lg.segs at h1
  rw [List.map_append, List.pairwise_append] at h1
  exact h1.2.2 s.1 (List.mem_map_of_mem hs) g.lb (by simp)
theorem LgOk.names {g : Lg} (h : LgOk g) {log : ByteArray} (hlog : loggedB log.data.toList = true) : ∀ s ∈ g.ini, sname log s.1 ≠ sname log g.lb := fun s hs e => by
  have h1 := h.last s hs
  have h2 := sname_inj hlog (h.chain s (by unfold Lg.segs; exact List.mem_append_left _ hs)).2 (h.chain (g.lb, g.lbs) (by unfold Lg.segs; simp)).2 e
  omega
theorem fits_good {base : Int} {l : List Rc} (h : (fitsT l).2 = 0) (h0 : 0 ≤ base) (h1 : base + (l.length : Int) - 1 ≤ 9007199254740992) : GoodB base l ∧ putT base l = (batchT base l, 0) := by
  have hne : l ≠ [] := fun e => by
    subst e
    cases h
  have hl : 1 ≤ l.length := by
    cases l with
    | nil => exact absurd rfl hne
    | cons => simp
  refine put_good ?_
  unfold putT
  have : putOk base l = true := by
    unfold putOk
    rw [h, decide_eq_false (show ¬ (0 : Int) = 2 by decide), decide_eq_false (show ¬ base < 0 by omega), decide_eq_false (show ¬ 9007199254740992 < base by omega), decide_eq_false (show ¬ 9007199254740992 < base + (l.length : Int) - 1 by omega)]
    rfl
  rw [if_neg (by rw [this]; simp), if_neg (by rw [h]; simp)]
theorem LgOk.add {g : Lg} (h : LgOk g) {l : List Rc} (hg : GoodB (g.fin : Int) l) : LgOk { g with lbs := g.lbs ++ [((g.fin : Int), l)] } := by
  have hlast := h.chain (g.lb, g.lbs) (by unfold Lg.segs; simp)
  have hb := h.lb_eq
  refine ⟨fun s hs => ?_, ?_, h.ne, ?_⟩
  · rcases List.mem_append.1 hs with hs | hs
    · exact h.chain s (by unfold Lg.segs; exact List.mem_append_left _ hs)
    · rw [List.mem_singleton] at hs
      subst hs
      exact ⟨hlast.1.snoc hg, hlast.2⟩
  · unfold Lg.segs
    rw [List.map_append, List.map_cons, List.map_nil, behind_snoc, List.flatMap_map]
    exact hb
  · have h1 := h.stands
    show g.stands ≤ g.lb + cntT (g.lbs ++ _)
    rw [cntT_append]
    unfold Lg.fin at h1
    omega
theorem LgOk.rolled {g : Lg} (h : LgOk g) (hne : g.lbs ≠ []) (hf : g.fin ≤ 9007199254740992) : LgOk ⟨g.segs, g.fin, [], g.fin, g.dead⟩ := by
  refine ⟨fun s hs => ?_, ?_, fun s hs => ?_, ?_⟩
  · rcases List.mem_append.1 hs with hs | hs
    · exact h.chain s hs
    · rw [List.mem_singleton] at hs
      subst hs
      exact ⟨Chain.nil _, hf⟩
  · have e : Lg.begin ⟨g.segs, g.fin, [], g.fin, g.dead⟩ = g.begin := by
      show (match g.segs with | [] => _ | s :: _ => s.1) = _
      unfold Lg.begin Lg.segs
      cases g.ini <;> rfl
    rw [e]
    show Behind g.begin ((g.segs ++ [(g.fin, [])]).map _)
    rw [List.map_append, List.map_cons, List.map_nil, behind_snoc, Lg.recs_map]
    exact ⟨h.behind, h.fin_eq⟩
  · rcases List.mem_append.1 hs with hs | hs
    · exact h.ne s hs
    · rw [List.mem_singleton] at hs
      subst hs
      exact hne
  · show g.fin ≤ g.fin + cntT []
    omega
theorem LgOk.standsFin {g : Lg} (h : LgOk g) : LgOk { g with stands := g.fin } := ⟨h.chain, h.behind, h.ne, Nat.le_refl _⟩
theorem LgOk.died {g : Lg} (h : LgOk g) (e : Int) : LgOk (g.dies e) := by
  unfold Lg.dies
  split
  · exact h
  · exact ⟨h.chain, h.behind, h.ne, h.stands⟩
theorem create_new {d : Dk} {s : List UInt8} (h : (d.create s).1 = 0) : ∃ f, (d.create s).2.find s = some f ∧ f.bytes = [] := create_find h
theorem roll_law {log : ByteArray} {g : Lg} {d : Dk} (h : LgOk g) (hf : LgFit log g d) (hs2 : ((d.sync (sname log g.lb)).2.create (sname log g.fin)).2.files.map (·.name) |>.Pairwise (· < ·)) (hne : g.lbs ≠ []) (hfin : g.fin ≤ 9007199254740992) :
    LgOk (g.rollT log d).2.1 ∧ LgFit log (g.rollT log d).2.1 (g.rollT log d).2.2 ∧ (g.rollT log d).2.1.fin = g.fin := by
  have k1 := sync_keeps d (sname log g.lb)
  unfold Lg.rollT
  split
  · exact ⟨h, k1.fit hf, rfl⟩
  · have k2 := create_keeps (d.sync (sname log g.lb)).2 (sname log g.fin)
    split
    · exact ⟨h.standsFin, (k1.trans k2).fit hf, rfl⟩
    · rename_i h0
      have h0 : ((d.sync (sname log g.lb)).2.create (sname log g.fin)).1 = 0 := Classical.byContradiction h0
      have k3 := syncdir_keeps hs2
      refine ⟨h.rolled hne hfin, fun s hs => ?_, by show g.fin + cntT [] = g.fin; rfl⟩
      rcases List.mem_append.1 hs with hs | hs
      · exact ((k1.trans k2).trans k3).fit hf s hs
      · rw [List.mem_singleton] at hs
        subst hs
        obtain ⟨f, h1, h2⟩ := create_new h0
        obtain ⟨f', h3, h4⟩ := k3 _ f h1
        exact ⟨f', h3, h4.trans h2⟩
theorem add_law {log : ByteArray} (hlog : loggedB log.data.toList = true) {g : Lg} {d : Dk} {l : List Rc} (h : LgOk g) (hf : LgFit log g d) (hg : GoodB (g.fin : Int) l) (hnm : nameOk (sname log g.lb) = true) :
    LgOk (g.addT log d l).2.1 ∧ ((g.addT log d l).1 = 0 → LgFit log (g.addT log d l).2.1 (g.addT log d l).2.2) ∧ LgFitQ log (g.addT log d l).2.1 (g.addT log d l).2.2 := by
  unfold Lg.addT
  have hothers : ∀ s ∈ g.ini, ∃ f, (d.append (sname log g.lb) (batchT (g.fin : Int) l)).2.find (sname log s.1) = some f ∧ f.bytes = batsT s.2 := fun s hs => by
    obtain ⟨f, h1, h2⟩ := hf s (by unfold Lg.segs; exact List.mem_append_left _ hs)
    exact ⟨f, by rw [append_others _ (h.names hlog s hs)]; exact h1, h2⟩
  obtain ⟨f0, h1, h2⟩ := hf (g.lb, g.lbs) (by unfold Lg.segs; simp)
  obtain ⟨f', tl, h3, h4, h5⟩ := append_own (b := batchT (g.fin : Int) l) h1
  rw [h2] at h4
  have hfit : (d.append (sname log g.lb) (batchT (g.fin : Int) l)).1 = 0 → LgFit log { g with lbs := g.lbs ++ [((g.fin : Int), l)] } (d.append (sname log g.lb) (batchT (g.fin : Int) l)).2 := fun h0 s hs => by
    rcases List.mem_append.1 hs with hs | hs
    · exact hothers s hs
    · rw [List.mem_singleton] at hs
      subst hs
      refine ⟨f', h3, ?_⟩
      rw [h4, h5 h0 hnm]
      show _ = batsT (g.lbs ++ [((g.fin : Int), l)])
      rw [batsT_append]
      simp [batsT]
  dsimp only
  split
  · rename_i h0
    exact ⟨h.add hg, fun _ => hfit h0, (hfit h0).toQ⟩
  · rename_i h0
    refine ⟨h, fun e => absurd e h0, fun s hs => ?_⟩
    rcases List.mem_append.1 hs with hs | hs
    · obtain ⟨f, g1, g2⟩ := hothers s hs
      exact ⟨f, [], g1, by rw [g2, List.append_nil]⟩
    · rw [List.mem_singleton] at hs
      subst hs
      exact ⟨f', tl, h3, h4⟩
end Go.Proofs.YtlgcoaeddeiegaaGreat
/- segment: what is read of a segment's file. -/
namespace Go.Proofs.YtlgcoaeddeiegaaGreat
open Go Go.RowKit
attribute [local go_sem] Oper.semAt_some

theorem DiskAt.has {w : World} {S : Nat → Prop} {q : Nat} {d : Dk} {s : List UInt8} {f : F0} (h : DiskAt w S q d) (hf : d.find s = some f) : f.name = s ∧ f ∈ d.files ∧ nameOk s = true ∧ f.bytes.length ≤ 16777216 := by
  obtain ⟨mb, fv, L, h⟩ := h
  unfold Dk.find Dk.at at hf
  obtain ⟨hg, -⟩ := Option.filter_eq_some_iff.1 hf
  have hm := List.mem_of_find?_eq_some hg
  have hn : f.name = s := by have := List.find?_some hg; simpa using this
  have hz : f.bytes.length ≤ 16777216 := by
    rw [← h.files] at hm
    obtain ⟨x, hx, rfl⟩ := List.mem_map.1 hm
    exact (h.each x hx).size
  exact ⟨hn, hm, by rw [← hn]; exact h.names f hm, hz⟩
section
variable {w : World} {S : Nat → Prop} {s x q : Nat} {nm : ByteArray} {bn step : Nat} {sv : Value} {sp : List Sp} {bs : List Bat} {d : Dk}
theorem SegQ.long (h : SegQ w S s x q nm bn step sv sp bs d) : (batsT bs).length ≤ 16777216 := by
  obtain ⟨f, tl, hf, hb⟩ := h.begins
  have h1 := (h.disk.has hf).2.2.2
  rw [hb, List.length_append] at h1
  omega
theorem SegI.long (h : SegI w S s x q nm bn step sv sp bs d) : (batsT bs).length ≤ 16777216 := h.toQ.long
theorem SegQ.few (h : SegQ w S s x q nm bn step sv sp bs d) : bs.length ≤ 524288 := by
  have h1 := h.long
  have h2 := bats_many bs h.chain.good
  omega
theorem SegI.few (h : SegI w S s x q nm bn step sv sp bs d) : bs.length ≤ 524288 := h.toQ.few
/-- what is read of its file from a place on -/
theorem SegQ.reads (h : SegQ w S s x q nm bn step sv sp bs d) {p : Nat} (hp : p ≤ (batsT bs).length) : d.read nm.data.toList (p : Int) (((batsT bs).length : Int) - (p : Int)) = ((batsT bs).drop p, 0) := by
  obtain ⟨f, tl, hf, hb⟩ := h.begins
  have hh := h.disk.has hf
  unfold Dk.read
  rw [if_neg (by rw [hh.2.2.1]; simp), hf]
  show (if _ then _ else _) = _
  rw [if_neg (by rw [hb, List.length_append]; omega), hb]
  congr 1
  have e : min (((batsT bs).length : Int) - (p : Int)).toNat ((batsT bs ++ tl).length - p) = ((batsT bs).drop p).length := by
    rw [List.length_append, List.length_drop]
    omega
  rw [show ((p : Int)).toNat = p from rfl, e, List.drop_append_of_le_length hp, List.take_left]
theorem SegI.reads (h : SegI w S s x q nm bn step sv sp bs d) {p : Nat} (hp : p ≤ (batsT bs).length) : d.read nm.data.toList (p : Int) (((batsT bs).length : Int) - (p : Int)) = ((batsT bs).drop p, 0) := h.toQ.reads hp
theorem holdB {w W W' : World} {s o1 o2 o3 : Nat} {x y z : Value} (h : W.cell? ⟨s, o1, none⟩ = some x ∧ W.cell? ⟨s, o2, none⟩ = some y ∧ W.cell? ⟨s, o3, none⟩ = some z ∧ Below w.heap.size w W ∧ s < W.heap.size) (hb : Below W.heap.size W W') :
    W'.cell? ⟨s, o1, none⟩ = some x ∧ W'.cell? ⟨s, o2, none⟩ = some y ∧ W'.cell? ⟨s, o3, none⟩ = some z ∧ Below w.heap.size w W' ∧ s < W'.heap.size :=
  ⟨(hb.cell (p := ⟨s, o1, none⟩) h.2.2.2.2).trans h.1, (hb.cell (p := ⟨s, o2, none⟩) h.2.2.2.2).trans h.2.1, (hb.cell (p := ⟨s, o3, none⟩) h.2.2.2.2).trans h.2.2.1, h.2.2.2.1.trans (hb.mono h.2.2.2.1.size), Nat.lt_of_lt_of_le h.2.2.2.2 hb.size⟩
theorem holdB_drew {w W : World} {s o1 o2 o3 : Nat} {x y z : Value} (h : W.cell? ⟨s, o1, none⟩ = some x ∧ W.cell? ⟨s, o2, none⟩ = some y ∧ W.cell? ⟨s, o3, none⟩ = some z ∧ Below w.heap.size w W ∧ s < W.heap.size) :
    W.drew.cell? ⟨s, o1, none⟩ = some x ∧ W.drew.cell? ⟨s, o2, none⟩ = some y ∧ W.drew.cell? ⟨s, o3, none⟩ = some z ∧ Below w.heap.size w W.drew ∧ s < W.drew.heap.size := holdB h ⟨rfl, rfl, rfl, Nat.le_refl _, fun _ _ => rfl⟩
end
end Go.Proofs.YtlgcoaeddeiegaaGreat
/- A log of segments: how it lies in memory; what is asked of a segment. -/
namespace Go.Proofs.YtlgcoaeddeiegaaGreat
open Go Go.RowKit
attribute [local go_sem] Oper.semAt_some

section
variable {w : World} {s x q : Nat} {nm : ByteArray} {bn step : Nat} {sv : Value} {sp : List Sp} {bs : List Bat}
set_option maxHeartbeats 400000 in
theorem baseM_b (h : SegM w s x q nm bn step sv sp bs) :
    Calls Tryz.prog 79 #[.pointer (some ⟨s, 0, none⟩)] w fun e w' => e = .returned (.int .i64 (bn : Int)) ∧ w' = w := by
  have k4 : w.cell? ⟨s, 4, none⟩ = some (.pointer (some ⟨q, 0, none⟩)) := cell_of h.head rfl
  have k1 : w.cell? ⟨s, 6, none⟩ = some (.int .i64 (bn : Int)) := cell_of h.head rfl
  clear h
  go_enter Tryz.func79, Tryz.ntmps79
  go_wp2_with (go_at_call 147; refine (noneSeg_b k4).mono ?_; rintro e w' ⟨rfl, rfl⟩)
  go_ret
  exact ⟨rfl, rfl⟩
set_option maxHeartbeats 400000 in
theorem sizeM_b (h : SegM w s x q nm bn step sv sp bs) :
    Calls Tryz.prog 75 #[.pointer (some ⟨s, 0, none⟩)] w fun e w' => e = .returned (.int .i64 ((batsT bs).length : Int)) ∧ w' = w := by
  have k4 : w.cell? ⟨s, 4, none⟩ = some (.pointer (some ⟨q, 0, none⟩)) := cell_of h.head rfl
  have k1 : w.cell? ⟨s, 2, none⟩ = some (.int .i64 ((batsT bs).length : Int)) := cell_of h.head rfl
  clear h
  go_enter Tryz.func75, Tryz.ntmps75
  go_wp2_with (go_at_call 147; refine (noneSeg_b k4).mono ?_; rintro e w' ⟨rfl, rfl⟩)
  go_ret
  exact ⟨rfl, rfl⟩
theorem SegM.kept {w' : World} (h : SegM w s x q nm bn step sv sp bs) (hk : ∀ k, k = s ∨ k = x ∨ sv.ownBlock = some k → w'.heap[k]? = w.heap[k]?) : SegM w' s x q nm bn step sv sp bs :=
  { h with head := (hk s (.inl rfl)).trans h.head, idx := ⟨(hk x (.inr (.inl rfl))).trans h.idx.head, h.idx.row.kept (fun k e => hk k (.inr (.inr e)))⟩ }
end
/-- a segment of a log, with the places where it lies -/
structure Sg where
  bn : Nat
  bs : List Bat
  s : Nat
  x : Nat
  sv : Value
  sp : List Sp
def Sg.blocks (a : Sg) : List Nat := a.s :: a.x :: a.sv.ownBlock.toList
def Sg.ptr (a : Sg) : Value := .pointer (some ⟨a.s, 0, none⟩)
def Sg.seg (a : Sg) : Nat × List Bat := (a.bn, a.bs)
def SgIs (w : World) (q : Nat) (log : ByteArray) (step : Nat) (a : Sg) : Prop := SegM w a.s a.x q (segName log a.bn) a.bn step a.sv a.sp a.bs
def logBlocks (lp : Nat) (pv : Value) (G : List Sg) : List Nat := lp :: (pv.ownBlock.toList ++ G.flatMap Sg.blocks)
/-- a log's segments lie there: each for itself, and their row -/
structure LogR (w : World) (T : Nat → Prop) (lp q : Nat) (log : ByteArray) (step : Nat) (L : List Sg) (pv : Value) : Prop where
  row : rowAt w 156 1 pv L.length (L.map Sg.ptr)
  each : ∀ b ∈ L, SgIs w q log step b
  apart : (logBlocks lp pv L).Nodup
  foot : ∀ k ∈ logBlocks lp pv L, T k
  low : ∀ k, T k → k < w.heap.size
  few : L.length ≤ 1000000000
/-- a log's head -/
def logHead (q lp : Nat) (log : ByteArray) (roll step : Nat) (g : Lg) (n : Nat) (pv : Value) (w : World) : Prop :=
  w.heap[lp]? = some (.cells #[.int .i64 (g.begin : Int), .int .i64 (g.fin : Int), .int .i64 (g.stands : Int), .int .i64 (n : Int), .bool g.dead, .pointer (some ⟨q, 0, none⟩), .string log, .int .i64 (roll : Int), .int .i64 (step : Int), pv] 82 (0, 0))
/-- a log lies there: G are its segments but the last one, a is the last -/
structure LogM (w : World) (T : Nat → Prop) (lp q : Nat) (log : ByteArray) (roll step : Nat) (g : Lg) (G : List Sg) (a : Sg) (pv : Value) : Prop where
  head : logHead q lp log roll step g (G.length + 1) pv w
  rest : LogR w T lp q log step (G ++ [a]) pv
  ini : g.ini = G.map Sg.seg
  lb : g.lb = a.bn
  lbs : g.lbs = a.bs
  lsize : log.size ≤ 8
  logd : loggedB log.data.toList = true
  ok : LgOk g
  rollB : 1 ≤ roll ∧ roll ≤ 16711680
  stepB : 1 ≤ step ∧ step ≤ 16777216
section
variable {w w' : World} {T : Nat → Prop} {lp q : Nat} {log : ByteArray} {step : Nat} {L : List Sg} {pv : Value}
theorem LogR.lp_mem (h : LogR w T lp q log step L pv) : T lp := h.foot lp (by simp [logBlocks])
theorem LogR.row_mem (_h : LogR w T lp q log step L pv) {k : Nat} (hk : pv.ownBlock = some k) : k ∈ logBlocks lp pv L := by simp [logBlocks, hk]
theorem LogR.seg_mem {b : Sg} (hb : b ∈ L) {k : Nat} (hk : k = b.s ∨ k = b.x ∨ b.sv.ownBlock = some k) : k ∈ L.flatMap Sg.blocks := by
  refine List.mem_flatMap.2 ⟨b, hb, ?_⟩
  simp only [Sg.blocks, List.mem_cons, Option.mem_toList]
  exact hk
theorem LogR.seg_in {b : Sg} (hb : b ∈ L) {k : Nat} (hk : k = b.s ∨ k = b.x ∨ b.sv.ownBlock = some k) : k ∈ logBlocks lp pv L := by
  simp only [logBlocks, List.mem_cons, List.mem_append]
  exact .inr (.inr (LogR.seg_mem hb hk))
theorem LogR.kept (h : LogR w T lp q log step L pv) (hk : ∀ k, T k → k ≠ lp → w'.heap[k]? = w.heap[k]?) (hsz : w.heap.size ≤ w'.heap.size) : LogR w' T lp q log step L pv := by
  have hn := List.nodup_cons.1 h.apart
  have hne : ∀ k, k ∈ pv.ownBlock.toList ++ L.flatMap Sg.blocks → k ≠ lp := fun k hk e => hn.1 (e ▸ hk)
  exact { h with
    row := h.row.kept (fun k hk' => hk k (h.foot k (h.row_mem hk')) (hne k (by simp [hk'])))
    each := fun b hb => (h.each b hb).kept (fun k hk' => hk k (h.foot k (LogR.seg_in hb hk')) (hne k (List.mem_append_right _ (LogR.seg_mem hb hk'))))
    low := fun k hk' => Nat.lt_of_lt_of_le (h.low k hk') hsz }
theorem LogR.only {X : Nat → Prop} (h : LogR w T lp q log step L pv) (ho : Only X w w') (hX : ∀ k, T k → k ≠ lp → ¬ X k) : LogR w' T lp q log step L pv :=
  h.kept (fun k hk hl => ho.block k (h.low k hk) (hX k hk hl)) ho.size
theorem LogR.wider {T' : Nat → Prop} (h : LogR w T lp q log step L pv) (h1 : ∀ k, T k → T' k) (h2 : ∀ k, T' k → k < w.heap.size) : LogR w T' lp q log step L pv :=
  { h with foot := fun k hk => h1 k (h.foot k hk), low := h2 }
end
section
variable {w w' : World} {T : Nat → Prop} {lp q : Nat} {log : ByteArray} {roll step : Nat} {g : Lg} {G : List Sg} {a : Sg} {pv : Value}
theorem LogM.kept (h : LogM w T lp q log roll step g G a pv) (hk : ∀ k, T k → w'.heap[k]? = w.heap[k]?) (hsz : w.heap.size ≤ w'.heap.size) : LogM w' T lp q log roll step g G a pv :=
  { h with
    head := (hk lp h.rest.lp_mem).trans h.head
    rest := h.rest.kept (fun k hk' _ => hk k hk') hsz }
theorem LogM.low (h : LogM w T lp q log roll step g G a pv) : ∀ k, T k → k < w.heap.size := h.rest.low
theorem LogM.later (h : LogM w T lp q log roll step g G a pv) (hb : Below w.heap.size w w') : LogM w' T lp q log roll step g G a pv :=
  h.kept (fun k hk => hb.block k (h.low k hk)) hb.size
theorem LogM.only {X : Nat → Prop} (h : LogM w T lp q log roll step g G a pv) (ho : Only X w w') (hX : ∀ k, T k → ¬ X k) : LogM w' T lp q log roll step g G a pv :=
  h.kept (fun k hk => ho.block k (h.low k hk) (hX k hk)) ho.size
theorem LogM.wider {T' : Nat → Prop} (h : LogM w T lp q log roll step g G a pv) (h1 : ∀ k, T k → T' k) (h2 : ∀ k, T' k → k < w.heap.size) : LogM w T' lp q log roll step g G a pv :=
  { h with rest := h.rest.wider h1 h2 }
theorem LogM.segs (h : LogM w T lp q log roll step g G a pv) : g.segs = (G ++ [a]).map Sg.seg := by
  unfold Lg.segs
  rw [h.ini, h.lb, h.lbs, List.map_append]
  rfl
theorem LogM.last (h : LogM w T lp q log roll step g G a pv) : SgIs w q log step a := h.rest.each a (by simp)
/-- the head alone is written -/
theorem LogM.headTurn {g' : Lg} (h : LogM w T lp q log roll step g G a pv) (ho : Only (fun k => k = lp) w w') (hh : logHead q lp log roll step g' (G.length + 1) pv w') (e1 : g'.ini = g.ini) (e2 : g'.lb = g.lb) (e3 : g'.lbs = g.lbs) (hok : LgOk g') : LogM w' T lp q log roll step g' G a pv :=
  { h with
    head := hh
    rest := h.rest.only ho (fun _ _ hk e => hk e)
    ini := e1.trans h.ini
    lb := e2.trans h.lb
    lbs := e3.trans h.lbs
    ok := hok }
set_option maxHeartbeats 400000 in
theorem noneLog_b (h : LogM w T lp q log roll step g G a pv) :
    Calls Tryz.prog 71 #[.pointer (some ⟨lp, 0, none⟩)] w fun e w' => e = .returned (.bool false) ∧ w' = w := by
  have k4 : w.cell? ⟨lp, 5, none⟩ = some (.pointer (some ⟨q, 0, none⟩)) := cell_of h.head rfl
  clear h
  go_enter Tryz.func71, Tryz.ntmps71
  go_wp2_with fail
  go_ret
  exact ⟨rfl, rfl⟩
set_option maxHeartbeats 1000000 in
theorem active_b (h : LogM w T lp q log roll step g G a pv) :
    Calls Tryz.prog 74 #[.pointer (some ⟨lp, 0, none⟩)] w fun e w' => e = .returned (.pointer (some ⟨a.s, 0, none⟩)) ∧ Below w.heap.size w w' := by
  have k9 : w.cell? ⟨lp, 9, none⟩ = some pv := cell_of h.head rfl
  obtain ⟨oa, c, rfl, hc⟩ := h.rest.row.shape
  obtain ⟨gb, off, rfl⟩ := h.rest.row.read.addr (by simp)
  have hl : w.cell? ⟨gb, off + G.length, none⟩ = some (.pointer (some ⟨a.s, 0, none⟩)) := by
    have := h.rest.row.cells rfl G.length (.pointer (some ⟨a.s, 0, none⟩)) (by rw [List.map_append, List.getElem?_append_right (by simp)]; simp [Sg.ptr])
    simpa [Go.WideShapes.add_plain] using this
  obtain ⟨n, hn⟩ : ∃ n, n = G.length := ⟨_, rfl⟩
  rw [List.length_append, List.length_singleton] at k9
  rw [← hn] at k9 hl
  have hn1 : n ≤ 1000000000 := by have := h.rest.few; rw [List.length_append] at this; omega
  clear h hc hn
  go_enter Tryz.func74, Tryz.ntmps74
  go_upto_region 1 with fail
  go_region
  all_goals
    go_wp2_with fail
    go_ret
    exact ⟨rfl, rfl, rfl, rfl, Nat.le_refl _, fun _ _ => rfl⟩
end
end Go.Proofs.YtlgcoaeddeiegaaGreat
