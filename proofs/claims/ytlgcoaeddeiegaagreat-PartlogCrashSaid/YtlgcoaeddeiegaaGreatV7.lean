/- The texts Mw, Ea, Em, Eo, Ep, Fa, Pp, Pq, Mx0, Pr, Ps, Fb, Fc, Pu in one. -/
import Derived.Test.YtlgcoaeddeiegaaGreatV5
import Derived.Test.YtlgcoaeddeiegaaGreatV3
import Derived.Maps.RangeWalk
import Derived.Maps.OwnSet
import Derived.Laws.IdiomRangeMap
import Derived.Deep.LoopGhost
import Derived.Test.YtlgcoaeddeiegaaGreatV6
import Derived.Deep.RegionHeld3
import Derived.Defers
import Derived.Recover
/- segment: all records of its batches; what a Read collects (plain). -/
namespace Go.Proofs.YtlgcoaeddeiegaaGreat
open Go Go.RowKit

def recsT (bs : List Bat) : List Rc := bs.flatMap (·.2)
theorem recsT_len (bs : List Bat) : (recsT bs).length = cntT bs := by
  unfold recsT cntT
  rw [List.length_flatMap]
theorem recsT_append (a b : List Bat) : recsT (a ++ b) = recsT a ++ recsT b := by unfold recsT; rw [List.flatMap_append]
theorem recsT_split (bs : List Bat) (j : Nat) : recsT bs = recsT (bs.take j) ++ recsT (bs.drop j) := by rw [← recsT_append, List.take_append_drop]
theorem recsT_get {bs : List Bat} {j i : Nat} (h : j < bs.length) (hi : i < bs[j].2.length) : (recsT bs)[cntT (bs.take j) + i]? = some bs[j].2[i] := by
  have e : recsT bs = recsT (bs.take j) ++ (bs[j].2 ++ recsT (bs.drop (j + 1))) := by
    rw [recsT_split bs j]
    congr 1
    rw [List.drop_eq_getElem_cons h]
    rfl
  rw [e, ← recsT_len, List.getElem?_append_right (by omega), Nat.add_sub_cancel_left, List.getElem?_append_left hi, List.getElem?_eq_getElem hi]
theorem bats_drop (bs : List Bat) (j : Nat) : (batsT bs).drop (posT bs j) = batsT (bs.drop j) := by
  rw [bats_split bs j]
  exact List.drop_left' rfl
def gotT (R : List Rc) (i k : Nat) : List Rc := (R.take k).drop i
theorem gotT_none {R : List Rc} {i k : Nat} (h : k ≤ i) : gotT R i k = [] := by
  unfold gotT
  rw [List.drop_eq_nil_iff, List.length_take]
  omega
theorem gotT_skip {R : List Rc} {i k : Nat} (h : k < i) : gotT R i (k + 1) = gotT R i k := by
  rw [gotT_none (by omega), gotT_none (by omega)]
theorem gotT_step {R : List Rc} {i k : Nat} {r : Rc} (h : i ≤ k) (hr : R[k]? = some r) : gotT R i (k + 1) = gotT R i k ++ [r] := by
  obtain ⟨hk, rfl⟩ := List.getElem?_eq_some_iff.1 hr
  unfold gotT
  rw [List.take_succ_eq_append_getElem hk, List.drop_append_of_le_length (by rw [List.length_take]; omega)]
theorem gotT_len {R : List Rc} {i k : Nat} (hk : k ≤ R.length) : (gotT R i k).length = k - i := by
  unfold gotT
  rw [List.length_drop, List.length_take]
  omega
def readT (R : List Rc) (i u most : Nat) : List Rc := (R.drop i).take (min (u - i) most)
theorem gotT_fin {R : List Rc} {i u k most : Nat} (hu : u ≤ R.length) (hk : k ≤ u) (hl : (gotT R i k).length ≤ most) (he : k = u ∨ most ≤ (gotT R i k).length) : gotT R i k = readT R i u most := by
  rw [gotT_len (by omega)] at hl he
  unfold gotT readT
  rw [List.drop_take]
  congr 1
  omega
theorem readT_len {R : List Rc} {i u most : Nat} (hu : u ≤ R.length) : (readT R i u most).length = min (u - i) most := by
  unfold readT
  rw [List.length_take, List.length_drop]
  omega
end Go.Proofs.YtlgcoaeddeiegaaGreat
/- Disk: New, without fates. -/
namespace Go.Proofs.YtlgcoaeddeiegaaGreat
open Go Go.Maps Go.RowKit

set_option maxHeartbeats 400000 in
theorem indexFate_nil (f : Value) (w : World) : Calls Tryz.prog 179 #[.slice none 0 0, f] w fun e w' => e = .returned (.int .i64 (-1)) ∧ w' = w := by
  go_enter Tryz.func179, Tryz.ntmps179
  go_wp2_with fail
  go_loop [8] (fun i => i = .int .i64 0) (fun _ => 0)
  case atStart => rfl
  case round =>
    subst hrel
    go_wp2_with fail
    go_ret
    exact ⟨rfl, rfl⟩
set_option maxHeartbeats 400000 in
theorem containsFate_nil (f : Value) (w : World) : Calls Tryz.prog 128 #[.slice none 0 0, f] w fun e w' => e = .returned (.bool false) ∧ w' = w := by
  go_enter Tryz.func128, Tryz.ntmps128
  go_wp2_with fail
  refine (indexFate_nil f _).mono ?_
  rintro e w' ⟨rfl, rfl⟩
  go_wp2_with fail
  go_ret
  exact ⟨rfl, rfl⟩
set_option maxHeartbeats 400000 in
theorem right_nil (w : World) : Calls Tryz.prog 58 #[.slice none 0 0] w fun e w' => e = .returned (.bool true) ∧ w' = w := by
  go_enter Tryz.func58, Tryz.ntmps58
  go_wp2_with fail
  refine (containsFate_nil _ _).mono ?_
  rintro e w' ⟨rfl, rfl⟩
  go_wp2_with fail
  go_ret
  exact ⟨rfl, rfl⟩
set_option maxHeartbeats 400000 in
theorem cloneFate_nil (w : World) : Calls Tryz.prog 59 #[.slice none 0 0] w fun e w' => e = .returned (.slice none 0 0) ∧ w' = w := by
  have hnil : ∀ W : World, (binOp .eql 37 (.slice none 0 0) (.slice none 0 0)).run Tryz.prog W = .ok (.bool true) W := fun W => by kernel_rfl
  go_enter Tryz.func59, Tryz.ntmps59
  go_wp2_with fail
  go_ret
  exact ⟨rfl, rfl⟩
def Dk.new : Dk := ⟨[], [], 0⟩
theorem disk_new (w : World) : DiskIs ((w.alloc (.map #[] 0)).alloc (.cells #[.map (some w.heap.size), .slice none 0 0, .int .i64 0] 120)) (fun k => w.heap.size ≤ k ∧ k < w.heap.size + 2) (w.heap.size + 1) w.heap.size (.slice none 0 0) [] Dk.new where
  files := rfl
  head := by
    have := alloc_cells (w.alloc (.map #[] 0)) #[.map (some w.heap.size), .slice none 0 0, .int .i64 0] 120
    rw [World.size_alloc] at this
    exact this
  fates := ⟨by simp [fateCells, Dk.new], .inl ⟨rfl, rfl⟩⟩
  map := ⟨_, (World.ownsMap_made w Tryz.prog 9 ptrElem).alloc _, Dic.empty⟩
  each := fun x hx => (by cases hx)
  apart := by simp [diskBlocks, Value.ownBlock]
  foot := fun k hk => by
    simp [diskBlocks, Value.ownBlock] at hk
    omega
  low := fun k hk => by simp; omega
  sorted := by simp [Dk.new]
  names := fun f hf => by simp [Dk.new] at hf
  few := by simp [Dk.new]
set_option maxHeartbeats 400000 in
theorem new_b (w : World) : Calls Tryz.prog 14 #[.slice none 0 0] w fun e w' => ∃ q, e = .returned (.tuple #[.pointer (some ⟨q, 0, none⟩), .int .i64 0]) ∧ DiskAt w' (fun k => w.heap.size ≤ k ∧ k < w'.heap.size) q Dk.new ∧ Below w.heap.size w w' := by
  have hmm := @run_makeMap Tryz.prog
  go_enter Tryz.func14, Tryz.ntmps14
  go_wp2_with fail
  refine (right_nil _).mono ?_
  rintro e w' ⟨rfl, rfl⟩
  go_wp2_with fail
  refine (cloneFate_nil _).mono ?_
  rintro e w1 ⟨rfl, rfl⟩
  go_wp2_with fail
  go_ret2
  refine ⟨_, rfl, ⟨_, _, _, (disk_new w').wider (fun k hk => ⟨hk.1, by simp; omega⟩) (fun k hk => hk.2)⟩, ((Below.refl _ _).alloc (Nat.le_refl _) _).alloc (by simp) _⟩
end Go.Proofs.YtlgcoaeddeiegaaGreat
/- Disk: Cut. -/
namespace Go.Proofs.YtlgcoaeddeiegaaGreat
open Go Go.Maps Go.RowKit

def Dk.cut (d : Dk) (s : List UInt8) (n : Int) : Int × Dk :=
  if nameOk s = false then (2, d)
  else match d.find s with
    | none => (171, d)
    | some f => if n < 0 ∨ (f.bytes.length : Int) < n then (4, d)
      else if d.fate.1 ≠ 0 then (d.fate.1, d.next)
      else (0, d.next.turn s fun f => { f with bytes := f.bytes.take n.toNat, lasts := min f.lasts n.toNat })
theorem run_both (oa : Option Addr) (N c E : Nat) (h2 : E ≤ c) (h0 : oa.map (fun x => x.add 0) = oa) (W : World) : (Instr.slice 39 (.slice oa N c) none (some (.int .i64 (E : Int))) (some (.int .i64 (E : Int)))).run Tryz.prog W = .ok (.slice oa E E) W := by
  have hs : (sizeOf 5).run Tryz.prog W = .ok 1 W := by kernel_rfl
  have he : Tryz.prog.elem 39 = 5 := by kernel_rfl
  rw [run_slice_hm (P := Tryz.prog) (w := W) 39 oa N c (by rw [he]; exact Tryz.underlying39) .i64 .i64 E E (by omega) (by omega) (by omega), he, hs]
  simp [Result.andThen, sliced, h0]
theorem rowAt.cap {w : World} {e : TypeId} {size : Nat} {oa : Option Addr} {n cap : Nat} {xs : List Value} (h : rowAt w e size (.slice oa n cap) n xs) (k : Nat) (hk : k ≤ n) : rowAt w e size (.slice oa k k) k (xs.take (k * size)) := by
  obtain ⟨hm, hc⟩ := h.map0
  have h1 := h.sub 0 k k (Nat.zero_le _) hk (Nat.le_refl _) (Nat.le_trans hk hc)
  simp only [Nat.zero_mul, List.drop_zero, Nat.sub_zero] at h1
  rw [hm] at h1
  simpa using h1
theorem set_cut {w w2 : World} {S : Nat → Prop} {q mb : Nat} {fv' : Value} {A B : List Fl} {x : Fl} {d1 : Dk} (ho : Only (fun k => k = q) w w2) (h2 : DiskIs w2 S q mb fv' (A ++ x :: B) d1) {oa : Option Addr} {c k : Nat} (hbv : x.bv = .slice oa x.f.bytes.length c) (hk : k ≤ x.f.bytes.length) {v : Int} (hv : v = ((min x.f.lasts k : Nat) : Int))
    {s : List UInt8} {t : F0 → F0} (hs : x.f.name = s) (ht : t x.f = { x.f with bytes := x.f.bytes.take k, lasts := min x.f.lasts k }) (n : Int) :
    OpIs w S q (n, d1.turn s t) (.returned (.int .i64 n)) ((w2.setCell ⟨x.blk, 0, none⟩ (.slice oa k k)).setCell ⟨x.blk, 1, none⟩ (.int .i64 v)) := by
  subst hv
  have hx := h2.each x (by simp)
  have hset : Only (fun k => k = x.blk) w2 ((w2.setCell ⟨x.blk, 0, none⟩ (.slice oa k k)).setCell ⟨x.blk, 1, none⟩ (.int .i64 ((min x.f.lasts k : Nat) : Int))) :=
    (only_setCell (fun k => k = x.blk) w2 x.blk 0 _ rfl).trans (only_setCell (fun k => k = x.blk) _ x.blk 1 _ rfl) (fun _ _ h => h)
  have hown : (Value.slice oa k k).ownBlock = x.bv.ownBlock := by
    rw [hbv]
    cases oa with
    | none => rfl
    | some a => rfl
  have hrow := hx.row
  rw [hbv] at hrow
  have hr2 := hrow.cap k hk
  rw [Nat.mul_one, byteCells_take] at hr2
  have hlen : (x.f.bytes.take k).length = k := by rw [List.length_take]; omega
  refine file_done (x' := ⟨{ x.f with bytes := x.f.bytes.take k, lasts := min x.f.lasts k }, x.blk, .slice oa k k⟩) ho h2 (hset.mono (fun i _ hi => by rw [hi]; simp [Fl.blocks])) rfl rfl ⟨?_, ?_, ?_, ?_⟩ (fun i hi => .inl (by rw [← hown]; exact hi)) hs ht.symm n
  · exact heap_setCell_here _ (heap_setCell_here (w := w2) _ hx.cells)
  · show rowAt _ _ 1 _ (x.f.bytes.take k).length (byteCells (x.f.bytes.take k))
    rw [hlen]
    exact hr2.kept (fun i hi => hset.block i (hr2.lt i hi) (FlAt.own_ne h2 i (by rw [← hown]; exact hi)))
  · show min x.f.lasts k ≤ (x.f.bytes.take k).length
    omega
  · show (x.f.bytes.take k).length ≤ 16777216
    have := hx.size
    omega
set_option maxRecDepth 100000 in
set_option maxHeartbeats 1000000 in
theorem cut_b {w : World} {S : Nat → Prop} {q : Nat} {d : Dk} (h : DiskAt w S q d) (nm : ByteArray) (hs : nm.size ≤ maxLen) (n : Int) :
    Calls Tryz.prog 140 #[.pointer (some ⟨q, 0, none⟩), .string nm, .int .i64 n] w fun e w' => OpIs w S q (d.cut nm.data.toList n) e w' := by
  obtain ⟨mb, fv, L, h⟩ := h
  go_enter Tryz.func140, Tryz.ntmps140
  go_wp2_with fail
  refine (find_b h nm hs).mono ?_
  rintro e w' ⟨hF, rfl⟩
  rcases hF with ⟨hn, rfl⟩ | ⟨hn, hf, rfl⟩ | ⟨hn, A, x, B, rfl, hxn, hxt, hf, rfl⟩
  · have HO : Hid (OpIs w' S q (d.cut nm.data.toList n) (.returned (.int .i64 2)) w') := Lib.hid (by
      rw [show d.cut nm.data.toList n = (2, d) by simp [Dk.cut, hn]]
      exact OpIs.same h 2)
    clear h hn
    go_wp2_with fail
    go_ret
    exact HO.out
  · have HO : Hid (OpIs w' S q (d.cut nm.data.toList n) (.returned (.int .i64 171)) w') := Lib.hid (by
      rw [show d.cut nm.data.toList n = (171, d) by simp [Dk.cut, hn, hf]]
      exact OpIs.same h 171)
    clear h hn hf
    go_wp2_with fail
    go_ret
    exact HO.out
  · have hx0 := h.each x (by simp)
    obtain ⟨oaf, cf, hbv, hnc⟩ := hx0.row.shape
    obtain ⟨N, hnn⟩ : ∃ N, x.f.bytes.length = N := ⟨_, rfl⟩
    obtain ⟨l, hll⟩ : ∃ l, x.f.lasts = l := ⟨_, rfl⟩
    have hxc := hx0.cells
    rw [hbv, hnn] at hxc
    have k0 : w'.cell? ⟨x.blk, 0, none⟩ = some (.slice oaf N cf) := cell_of hxc rfl
    have HBV := Lib.hid (And.intro hbv (And.intro hnn hll))
    have H := Lib.hid h
    have HN := Lib.hid (And.intro hn hf)
    clear h hn hf hxc hx0 hbv hnn hnc hll
    by_cases hbad : n < 0 ∨ (N : Int) < n
    · have HO : Hid (OpIs w' S q (d.cut nm.data.toList n) (.returned (.int .i64 4)) w') := Lib.hid (by
        rw [show d.cut nm.data.toList n = (4, d) by simp [Dk.cut, HN.out.1, HN.out.2, HBV.out.2.1, hbad]]
        exact OpIs.same H.out 4)
      by_cases e1 : n < 0
      · go_wp2_with fail
        go_ret
        exact HO.out
      · have e2 : (N : Int) < n := by omega
        go_wp2_with fail
        go_ret
        exact HO.out
    · obtain ⟨ν, rfl⟩ : ∃ ν : Nat, n = (ν : Int) := ⟨n.toNat, by omega⟩
      have hνN : ν ≤ N := by omega
      have d1 : decide ((ν : Int) < 0) = false := by simp
      have d2 : decide ((N : Int) < (ν : Int)) = false := by simp; omega
      go_wp2_with fail
      refine (step_b H.out).mono ?_
      rintro e w1 ⟨kd, kp, fv', rfl, hkp, h1, ho1⟩
      obtain ⟨er, her⟩ : ∃ er, d.fate.1 = er := ⟨_, rfl⟩
      rw [her]
      have H1 := Lib.hid h1
      have HO1 := Lib.hid ho1
      have HE := Lib.hid her
      clear h1 ho1 hkp her k0 d1 d2
      go_upto_region 7 with fail
      obtain ⟨w2, hw2⟩ : ∃ w2 : World, w2 = w1.alloc (.cells #[.int .i64 kd, .int .i64 kp] 98) := ⟨_, rfl⟩
      obtain ⟨r, hr⟩ : ∃ r, r = w1.heap.size := ⟨_, rfl⟩
      have h2 : DiskIs w2 S q mb fv' (A ++ x :: B) d.next := by rw [hw2]; exact H1.out.below ((Below.refl _ _).alloc (Nat.le_refl _) _)
      have ho2 : Only (fun k => k = q) w' w2 := by rw [hw2]; exact HO1.out.trans (only_alloc (fun k => k = q) _ _) (fun _ _ h => h)
      rw [← hw2, ← hr]
      clear hw2 hr H1 HO1
      by_cases h0 : er = 0
      · subst h0
        have hx := h2.each x (by simp)
        have hxc := hx.cells
        have hxr := hx.row
        rw [HBV.out.1, HBV.out.2.1, HBV.out.2.2] at hxc
        rw [HBV.out.1, HBV.out.2.1] at hxr
        obtain ⟨hm0, hNc⟩ := hxr.map0
        have hsl : ∀ W : World, (Instr.slice 39 (.slice oaf N cf) none (some (.int .i64 (ν : Int))) (some (.int .i64 (ν : Int)))).run Tryz.prog W = .ok (.slice oaf ν ν) W := fun W => run_both oaf N cf ν (by omega) hm0 W
        have k0 : w2.cell? ⟨x.blk, 0, none⟩ = some (.slice oaf N cf) := cell_of hxc rfl
        have z0 : w2.frozen? ⟨x.blk, 0, none⟩ = false := free_of hxc _
        have hc3 := heap_setCell_here (i := 0) (.slice oaf ν ν) hxc
        have k1 : (w2.setCell ⟨x.blk, 0, none⟩ (.slice oaf ν ν)).cell? ⟨x.blk, 1, none⟩ = some (.int .i64 l) := cell_of hc3 rfl
        have z1 : (w2.setCell ⟨x.blk, 0, none⟩ (.slice oaf ν ν)).frozen? ⟨x.blk, 1, none⟩ = false := free_of hc3 _
        have HO : Hid (∀ v : Int, v = ((min l ν : Nat) : Int) → OpIs w' S q (d.cut nm.data.toList ν) (.returned (.int .i64 0)) ((w2.setCell ⟨x.blk, 0, none⟩ (.slice oaf ν ν)).setCell ⟨x.blk, 1, none⟩ (.int .i64 v))) := Lib.hid (fun v hv => by
          have h3 := set_cut ho2 h2 (oa := oaf) (c := cf) (k := ν) HBV.out.1 (by rw [HBV.out.2.1]; exact hνN) (v := v) (by rw [HBV.out.2.2]; exact hv) (s := nm.data.toList) (t := fun f => { f with bytes := f.bytes.take ν, lasts := min f.lasts ν }) hxn rfl 0
          have hb' : ¬ ((ν : Int) < 0 ∨ (N : Int) < (ν : Int)) := hbad
          have e : d.cut nm.data.toList ν = (0, d.next.turn nm.data.toList fun f => { f with bytes := f.bytes.take ν, lasts := min f.lasts ν }) := by
            unfold Dk.cut
            rw [HN.out.1, HN.out.2]
            simp only [HBV.out.2.1, HE.out]
            rw [if_neg (by simp), if_neg hb', if_neg (by simp)]
            rfl
          rw [e]
          exact h3)
        clear h2 ho2 hx hxc hxr hm0 hc3
        go_wp2_with fail
        all_goals (go_ret; refine HO.out _ ?_; omega)
      · have hb0 : (er != 0) = true := by simpa using h0
        have HO : Hid (OpIs w' S q (d.cut nm.data.toList ν) (.returned (.int .i64 er)) w2) := Lib.hid (by
          rw [show d.cut nm.data.toList ν = (er, d.next) by
            unfold Dk.cut
            rw [HN.out.1, HN.out.2]
            simp only [HBV.out.2.1, HE.out]
            rw [if_neg (by simp), if_neg hbad, if_pos h0]]
          exact OpIs.next ho2 h2 er)
        clear h0 h2 ho2
        go_wp2_with fail
        go_ret
        exact HO.out
end Go.Proofs.YtlgcoaeddeiegaaGreat
/- Disk: Remove. -/
namespace Go.Proofs.YtlgcoaeddeiegaaGreat
open Go Go.Maps Go.RowKit

section
variable {w : World} {S : Nat → Prop} {q mb : Nat} {fv : Value} {d : Dk}
theorem DiskIs.file_drop {w' : World} {A B : List Fl} {x : Fl} {n' : Nat} {D' : DataW Unit} {fs : List F0} (h : DiskIs w S q mb fv (A ++ x :: B) d) (ho : Only (fun k => k = mb) w w')
    (hm : w'.ownsMap Tryz.prog 9 ptrElem mb n' D') (hd : Dic D' ((A ++ B).map fun x => (x.f.name, x.blk))) (hfs : fs = A.map (·.f) ++ B.map (·.f)) : DiskIs w' S q mb fv (A ++ B) { d with files := fs } := by
  have hp := blocks_perm q mb fv A x B
  have hnd := (List.nodup_append.1 (hp.nodup_iff.1 h.apart)).2.1
  have hin : ∀ k ∈ diskBlocks q mb fv (A ++ B), S k := fun k hk => h.foot k (hp.mem_iff.2 (List.mem_append_right _ hk))
  have hne : ∀ k ∈ diskBlocks q mb fv (A ++ B), k ≠ mb → w'.heap[k]? = w.heap[k]? := fun k hk hk' => ho.block k (h.low k (hin k hk)) hk'
  have hap := hnd
  simp only [diskBlocks, List.nodup_cons, List.mem_cons, not_or] at hap
  have hmb : ∀ k, k ∈ fv.ownBlock.toList ++ (A ++ B).flatMap Fl.blocks → k ≠ mb := fun k hk e => hap.2.1 (e ▸ hk)
  have hfl : d.files = A.map (·.f) ++ x.f :: B.map (·.f) := by rw [← h.files]; simp
  have hsub : fs.Sublist d.files := by
    rw [hfs, hfl]
    exact List.Sublist.append_left (List.sublist_cons_self _ _) _
  have hs2 : (fs.map (·.name)).Pairwise (· < ·) := h.sorted.sublist (hsub.map _)
  exact {
    files := by rw [hfs]; simp
    head := (hne q (by simp [diskBlocks]) (fun e => hap.1.1 e)).trans h.head
    fates := h.fates.kept (fun k hk => hne k (by simp [diskBlocks, hk]) (hmb k (by simp [hk])))
    map := by
      refine ⟨D', ?_, hd⟩
      have h1 := ownsMap_tight hm
      rw [hd.size hm (by
        rw [List.map_map]
        have : ((A ++ B).map (·.f.name)).Pairwise (· < ·) := by rw [hfs] at hs2; simpa [Function.comp_def] using hs2
        exact this.imp (fun {a b} hab he => by rw [he] at hab; exact List.lt_irrefl _ hab))] at h1
      simpa using h1
    each := fun y hy => (h.each y (by
      rcases List.mem_append.1 hy with h1 | h1
      · simp [h1]
      · simp [h1])).kept (fun k hk => by
        have h1 : k ∈ fv.ownBlock.toList ++ (A ++ B).flatMap Fl.blocks := List.mem_append_right _ (List.mem_flatMap.2 ⟨y, hy, hk⟩)
        exact hne k (by simp only [diskBlocks, List.mem_cons]; exact .inr (.inr h1)) (hmb k h1))
    apart := hnd
    foot := hin
    low := fun k hk => Nat.lt_of_lt_of_le (h.low k hk) ho.size
    sorted := hs2
    names := fun f hf => h.names f (hsub.subset hf)
    few := Nat.le_trans hsub.length_le h.few }
end
def Dk.remove (d : Dk) (s : List UInt8) : Int × Dk :=
  if nameOk s = false then (2, d)
  else match d.find s with
    | none => (171, d)
    | some f => if d.fate.1 ≠ 0 then (d.fate.1, d.next)
      else if f.named = true then (0, d.next.turn s fun f => { f with bytes := f.bytes.take f.lasts, there := false })
      else (0, { d.next with files := d.files.filter fun f => f.name != s })
end Go.Proofs.YtlgcoaeddeiegaaGreat
/- Disk: Remove, the call. -/
namespace Go.Proofs.YtlgcoaeddeiegaaGreat
open Go Go.Maps Go.RowKit

theorem filter_list {A B : List Fl} {x : Fl} {d : Dk} {s : List UInt8} (hf : (A ++ x :: B).map (·.f) = d.files) (hs : (d.files.map (·.name)).Pairwise (· < ·)) (hx : x.f.name = s) :
    (d.files.filter fun f => f.name != s) = A.map (·.f) ++ B.map (·.f) ∧ (∀ y ∈ A ++ B, y.f.name ≠ s) := by
  have hnd : (d.files.map (·.name)).Nodup := hs.imp (fun {a b} hab he => by rw [he] at hab; exact List.lt_irrefl _ hab)
  rw [← hf, List.map_append, List.map_cons, List.map_append, List.map_cons] at hnd
  have h2 := List.nodup_append.1 hnd
  have hA : ∀ y ∈ A, y.f.name ≠ s := fun y hy he => h2.2.2 y.f.name (List.mem_map_of_mem (List.mem_map_of_mem hy)) x.f.name (by simp) (by rw [he, hx])
  have hB : ∀ y ∈ B, y.f.name ≠ s := fun y hy he => (List.nodup_cons.1 h2.2.1).1 (by rw [hx, ← he]; exact List.mem_map_of_mem (List.mem_map_of_mem hy))
  refine ⟨?_, fun y hy => ?_⟩
  · rw [← hf, List.map_append, List.map_cons, List.filter_append, List.filter_cons]
    have hxs : (x.f.name != s) = false := by simp [hx]
    rw [hxs]
    have e1 : (A.map (·.f)).filter (fun f => f.name != s) = A.map (·.f) := List.filter_eq_self.2 (fun f hf' => by
      obtain ⟨y, hy, rfl⟩ := List.mem_map.1 hf'
      simpa using hA y hy)
    have e2 : (B.map (·.f)).filter (fun f => f.name != s) = B.map (·.f) := List.filter_eq_self.2 (fun f hf' => by
      obtain ⟨y, hy, rfl⟩ := List.mem_map.1 hf'
      simpa using hB y hy)
    rw [e1, e2]
    rfl
  · rcases List.mem_append.1 hy with h | h
    · exact hA y h
    · exact hB y h
theorem set_drop {w w2 w3 : World} {S : Nat → Prop} {q mb n' : Nat} {fv' : Value} {A B : List Fl} {x : Fl} {d d1 : Dk} {D : DataW Unit} {s : List UInt8} (ho : Only (fun k => k = q) w w2) (h2 : DiskIs w2 S q mb fv' (A ++ x :: B) d1) (hd : Dic D ((A ++ x :: B).map fun x => (x.f.name, x.blk)))
    (ht : w2.mapTurned w3 mb) (hm : w3.ownsMap Tryz.prog 9 ptrElem mb n' (D.del (.string s))) (hx : x.f.name = s) (hf : d.files = d1.files) :
    OpIs w S q (0, { d1 with files := d.files.filter fun f => f.name != s }) (.returned (.int .i64 0)) w3 := by
  obtain ⟨e1, e2⟩ := filter_list h2.files h2.sorted hx
  rw [hf, e1]
  have ho3 : Only (fun k => k = mb) w2 w3 := Only.of_grown (S := fun k => k = mb) ht.grown (fun k hk => by simp at hk; exact hk.symm)
  have hd2 : Dic (D.del (.string s)) ((A ++ B).map fun x => (x.f.name, x.blk)) := hd.del s (fun f => by
    constructor
    · intro h
      obtain ⟨y, hy, rfl⟩ := List.mem_map.1 h
      refine ⟨List.mem_map.2 ⟨y, ?_, rfl⟩, e2 y hy⟩
      rcases List.mem_append.1 hy with h1 | h1
      · simp [h1]
      · simp [h1]
    · rintro ⟨h, hne⟩
      obtain ⟨y, hy, rfl⟩ := List.mem_map.1 h
      refine List.mem_map.2 ⟨y, ?_, rfl⟩
      rcases List.mem_append.1 hy with h1 | h1
      · simp [h1]
      · rcases List.mem_cons.1 h1 with rfl | h1
        · exact absurd hx hne
        · simp [h1])
  have h4 := h2.file_drop ho3 hm hd2 rfl
  refine ⟨rfl, ⟨mb, fv', _, h4.wider (fun k hk => .inl hk) (fun k hk => ?_)⟩, ?_⟩
  · rcases hk with hk | hk
    · exact Nat.lt_of_lt_of_le (h2.low k hk) ho3.size
    · exact hk.2
  · exact (ho.mono (fun i _ hi => by rw [hi]; exact h2.q_mem)).trans ho3 (fun i _ hi => by rw [hi]; exact h2.foot _ (by simp [diskBlocks]))
end Go.Proofs.YtlgcoaeddeiegaaGreat
/- Disk: entries that come out of the map; a part of the files. -/
namespace Go.Proofs.YtlgcoaeddeiegaaGreat
open Go Go.Maps Go.RowKit
open Go.Proofs (encStr)

theorem Dic.came {D : DataW Unit} {L : List (List UInt8 × Nat)} (h : Dic D L) {x : List UInt8} {yd : DataW Unit} (hat : ∀ zd, D.atKey (.string x) zd = yd) : ∃ b, (x, b) ∈ L ∧ yd = .lit (.int .i64 b) := by
  cases hh : Maps.has D (.string x) with
  | true =>
    obtain ⟨f, hf, he⟩ := (h.has x).1 hh
    obtain ⟨s, b⟩ := f
    simp only at he
    subst he
    exact ⟨b, hf, by rw [← hat .nil]; exact h.get _ hf _⟩
  | false =>
    have h1 := hat .nil
    have h2 := hat (.lit (.bool true))
    rw [atKey_of_not_has hh] at h1 h2
    rw [← h1] at h2
    cases h2
theorem ptrElem_val {v : Value} {y : DataW Unit × List MemPlace} (h : ptrElem v = some y) {b : Nat} (hy : y.1 = .lit (.int .i64 b)) : v = .pointer (some ⟨b, 0, none⟩) := by
  obtain ⟨y1, ps⟩ := y
  simp only at hy
  subst hy
  exact ptrElem_inv h
theorem wpList_next_dic {ops : Array Oper} {rest : List Oper} {o : Oper} {a : Act} {Q : Exit → Act → World → Prop} (w : World) (hg : o.guard = none) (it : Operand) (hop : o.op = Op.next it false)
    {L : List (List UInt8 × Nat)} {D : DataW Unit} (hD : Dic D L) (mb r n : Nat) (left : Lit → Bool) (cnt : Nat) (hit : a.eval it = .pointer (some ⟨r, 0, none⟩)) (h : w.ranges Tryz.prog 9 ptrElem mb r n D left cnt)
    (hDone : (∀ kl, left kl = false) → wpList Tryz.prog ops Q rest (a.put o.dst (.tuple #[.bool false])) w)
    (hMore : ∀ (s : List UInt8) (b : Nat) (w' : World) (cnt' : Nat), (s, b) ∈ L → left (.string s) = true → w'.ranges Tryz.prog 9 ptrElem mb r n D (fun z => left z && !z.sameKey (.string s)) cnt' → cnt' < cnt →
      w.grownBy w' (some r) → w'.heap.size = w.heap.size → (Instr.entry (.pointer (some ⟨r, 0, none⟩))).run Tryz.prog w' = .ok (.tuple #[encStr s, .pointer (some ⟨b, 0, none⟩)]) w' → Hid (keyOf Tryz.prog 9 (encStr s) = some (.string s)) →
      wpList Tryz.prog ops Q rest (a.put o.dst (.tuple #[.bool true, encStr s, .pointer (some ⟨b, 0, none⟩)])) w') :
    wpList Tryz.prog ops Q (o :: rest) a w := by
  refine wpList_next_ranges w hg it hop 9 (string_keyed Tryz.underlying9) ptrElem encStr id (fun key kl hk => by obtain ⟨x, hx, _⟩ := Maps.keyOf_str Tryz.underlying9 hk; exact ⟨x, hx⟩) (fun v _ _ => ⟨v, rfl⟩) mb r n D left cnt hit h (fun _ hl => hDone hl) ?_
  intro x c kl y w' cnt' hkey hlk hv hat hrg hlt hgr hsz hen
  obtain ⟨x', ex, rfl, _⟩ := Maps.keyOf_str Tryz.underlying9 hkey
  obtain rfl : x = x' := encStr_inj ex
  obtain ⟨b, hb, hy⟩ := hD.came hat
  have hc : c = .pointer (some ⟨b, 0, none⟩) := ptrElem_val hv hy
  subst hc
  exact hMore x b w' cnt' hb hlk hrg hlt hgr hsz hen (Lib.hid hkey)
theorem grown_setC (w : World) (a : Addr) (u : Value) : w.grownBy (w.setCell a u) (some a.block) :=
  ⟨rfl, rfl, rfl, by simp [World.setCell], fun k _ hk => Below.heap_setCell _ _ _ _ (fun e => hk (by rw [e]))⟩
theorem Only.grown {S : Nat → Prop} {w w' : World} (h : Only S w w') {row : Option Nat} (hr : ∀ k, k < w.heap.size → S k → row = some k) : w.grownBy w' row :=
  ⟨h.os, h.tape, h.output, h.size, fun k hk hn => h.block k hk (fun hs => hn (hr k hk hs).symm)⟩
theorem sameKey_str (x y : List UInt8) : (Lit.string x).sameKey (.string y) = decide (x = y) := by
  by_cases h : x = y
  · simp [Lit.sameKey, h]
  · simp [Lit.sameKey, h]
theorem DiskIs.narrow {w : World} {S S' : Nat → Prop} {q mb : Nat} {fv : Value} {L : List Fl} {d : Dk} (h : DiskIs w S' q mb fv L d) (hn : ∀ k, S' k → S k) (hl : ∀ k, S k → k < w.heap.size) : DiskIs w S q mb fv L d :=
  { h with foot := fun k hk => hn k (h.foot k hk), low := hl }
theorem flatMap_sub {α β : Type} (f : α → List β) {l l' : List α} (h : l'.Sublist l) : (l'.flatMap f).Sublist (l.flatMap f) := by
  induction h with
  | slnil => exact List.Sublist.refl _
  | cons a _ ih => exact (ih.trans (List.sublist_append_right _ _))
  | cons_cons a _ ih => exact ih.append_left _
theorem DiskIs.files_sub {w w' : World} {S : Nat → Prop} {q mb : Nat} {fv : Value} {L L' : List Fl} {d : Dk} {n' : Nat} {D' : DataW Unit} (h : DiskIs w S q mb fv L d) (hL : L'.Sublist L) (ho : Only (fun k => k = mb) w w')
    (hm : w'.ownsMap Tryz.prog 9 ptrElem mb n' D') (hd : Dic D' (L'.map fun x => (x.f.name, x.blk))) : DiskIs w' S q mb fv L' { d with files := L'.map (·.f) } := by
  have hsb : (diskBlocks q mb fv L').Sublist (diskBlocks q mb fv L) := ((((flatMap_sub Fl.blocks hL).append_left _).cons_cons mb).cons_cons q)
  have hin : ∀ k ∈ diskBlocks q mb fv L', S k := fun k hk => h.foot k (hsb.subset hk)
  have hnd := h.apart.sublist hsb
  have hne : ∀ k ∈ diskBlocks q mb fv L', k ≠ mb → w'.heap[k]? = w.heap[k]? := fun k hk hk' => ho.block k (h.low k (hin k hk)) hk'
  have hap := hnd
  simp only [diskBlocks, List.nodup_cons, List.mem_cons, not_or] at hap
  have hmb : ∀ k, k ∈ fv.ownBlock.toList ++ L'.flatMap Fl.blocks → k ≠ mb := fun k hk e => hap.2.1 (e ▸ hk)
  have hsub : (L'.map (·.f)).Sublist d.files := by rw [← h.files]; exact hL.map _
  have hs2 : ((L'.map (·.f)).map (·.name)).Pairwise (· < ·) := h.sorted.sublist (hsub.map _)
  exact {
    files := rfl
    head := (hne q (by simp [diskBlocks]) (fun e => hap.1.1 e)).trans h.head
    fates := h.fates.kept (fun k hk => hne k (by simp [diskBlocks, hk]) (hmb k (by simp [hk])))
    map := by
      refine ⟨D', ?_, hd⟩
      have h1 := ownsMap_tight hm
      rw [hd.size hm (by
        rw [List.map_map]
        have : (L'.map (·.f.name)).Pairwise (· < ·) := by simpa [Function.comp_def] using hs2
        exact this.imp (fun {a b} hab he => by rw [he] at hab; exact List.lt_irrefl _ hab))] at h1
      simpa using h1
    each := fun y hy => (h.each y (hL.subset hy)).kept (fun k hk => by
        have h1 : k ∈ fv.ownBlock.toList ++ L'.flatMap Fl.blocks := List.mem_append_right _ (List.mem_flatMap.2 ⟨y, hy, hk⟩)
        exact hne k (by simp only [diskBlocks, List.mem_cons]; exact .inr (.inr h1)) (hmb k h1))
    apart := hnd
    foot := hin
    low := fun k hk => Nat.lt_of_lt_of_le (h.low k hk) ho.size
    sorted := hs2
    names := fun f hf => h.names f (hsub.subset hf)
    few := Nat.le_trans hsub.length_le h.few }
def Dk.syncdir (d : Dk) : Int × Dk :=
  if d.fate.1 ≠ 0 then (d.fate.1, d.next)
  else (0, { d.next with files := (d.files.filter (·.there)).map fun f => { f with named := true } })
end Go.Proofs.YtlgcoaeddeiegaaGreat
/- A log of segments, plainly: what each call makes of it and of its disk. -/
namespace Go.Proofs.YtlgcoaeddeiegaaGreat
open Go Go.RowKit

structure Lg where
  ini : List (Nat × List Bat)
  lb : Nat
  lbs : List Bat
  stands : Nat
  dead : Bool
def Lg.segs (g : Lg) : List (Nat × List Bat) := g.ini ++ [(g.lb, g.lbs)]
def Lg.fin (g : Lg) : Nat := g.lb + cntT g.lbs
def Lg.begin (g : Lg) : Nat := match g.ini with
  | [] => g.lb
  | s :: _ => s.1
def Lg.rollT (log : ByteArray) (g : Lg) (d : Dk) : Int × Lg × Dk :=
  if (d.sync (sname log g.lb)).1 ≠ 0 then ((d.sync (sname log g.lb)).1, g, (d.sync (sname log g.lb)).2)
  else if ((d.sync (sname log g.lb)).2.create (sname log g.fin)).1 ≠ 0 then (((d.sync (sname log g.lb)).2.create (sname log g.fin)).1, { g with stands := g.fin }, ((d.sync (sname log g.lb)).2.create (sname log g.fin)).2)
  else (((d.sync (sname log g.lb)).2.create (sname log g.fin)).2.syncdir.1, ⟨g.segs, g.fin, [], g.fin, g.dead⟩, ((d.sync (sname log g.lb)).2.create (sname log g.fin)).2.syncdir.2)
def Lg.addT (log : ByteArray) (g : Lg) (d : Dk) (l : List Rc) : Int × Lg × Dk :=
  ((d.append (sname log g.lb) (batchT (g.fin : Int) l)).1, if (d.append (sname log g.lb) (batchT (g.fin : Int) l)).1 = 0 then { g with lbs := g.lbs ++ [((g.fin : Int), l)] } else g, (d.append (sname log g.lb) (batchT (g.fin : Int) l)).2)
def Lg.pushT (log : ByteArray) (roll : Nat) (g : Lg) (d : Dk) (l : List Rc) : Int × Lg × Dk :=
  if roll ≤ (batsT g.lbs).length then
    if (g.rollT log d).1 ≠ 0 then g.rollT log d else (g.rollT log d).2.1.addT log (g.rollT log d).2.2 l
  else g.addT log d l
def Lg.dies (g : Lg) (e : Int) : Lg := if e = 0 then g else { g with dead := true }
def Lg.appendT (log : ByteArray) (roll : Nat) (g : Lg) (d : Dk) (l : List Rc) : Int × Lg × Dk :=
  if g.dead = true then (9, g, d)
  else if (fitsT l).2 ≠ 0 then ((fitsT l).2, g, d)
  else if (9007199254740992 : Int) < (g.fin : Int) + (l.length : Int) - 1 then (8, g, d)
  else ((g.pushT log roll d l).1, (g.pushT log roll d l).2.1.dies (g.pushT log roll d l).1, (g.pushT log roll d l).2.2)
def Lg.syncT (log : ByteArray) (g : Lg) (d : Dk) : Int × Lg × Dk :=
  if g.dead = true then (9, g, d)
  else if (d.sync (sname log g.lb)).1 ≠ 0 then ((d.sync (sname log g.lb)).1, { g with dead := true }, (d.sync (sname log g.lb)).2)
  else (0, { g with stands := g.fin }, (d.sync (sname log g.lb)).2)

structure LgOk (g : Lg) : Prop where
  chain : ∀ s ∈ g.segs, Chain s.1 s.2 ∧ s.1 ≤ 9007199254740992
  behind : Behind g.begin (g.segs.map fun s => (s.1, recsT s.2))
  ne : ∀ s ∈ g.ini, s.2 ≠ []
  stands : g.stands ≤ g.fin
def LgFit (log : ByteArray) (g : Lg) (d : Dk) : Prop := ∀ s ∈ g.segs, ∃ f, d.find (sname log s.1) = some f ∧ f.bytes = batsT s.2
def LgFitQ (log : ByteArray) (g : Lg) (d : Dk) : Prop := ∀ s ∈ g.segs, ∃ f tl, d.find (sname log s.1) = some f ∧ f.bytes = batsT s.2 ++ tl
theorem LgFit.toQ {log : ByteArray} {g : Lg} {d : Dk} (h : LgFit log g d) : LgFitQ log g d := fun s hs => by
  obtain ⟨f, h1, h2⟩ := h s hs
  exact ⟨f, [], h1, by rw [h2, List.append_nil]⟩
def KeepsB (d d' : Dk) : Prop := ∀ s f, d.find s = some f → ∃ f', d'.find s = some f' ∧ f'.bytes = f.bytes
theorem KeepsB.refl (d : Dk) : KeepsB d d := fun _ f h => ⟨f, h, rfl⟩
theorem KeepsB.trans {a b c : Dk} (h : KeepsB a b) (k : KeepsB b c) : KeepsB a c := fun s f hf => by
  obtain ⟨f', h1, h2⟩ := h s f hf
  obtain ⟨f'', k1, k2⟩ := k s f' h1
  exact ⟨f'', k1, k2.trans h2⟩
theorem KeepsB.fit {log : ByteArray} {g : Lg} {d d' : Dk} (h : KeepsB d d') (hf : LgFit log g d) : LgFit log g d' := fun s hs => by
  obtain ⟨f, h1, h2⟩ := hf s hs
  obtain ⟨f', k1, k2⟩ := h _ f h1
  exact ⟨f', k1, k2.trans h2⟩
theorem find_turnO {d : Dk} {s s' : List UInt8} (h : s' ≠ s) (t : F0 → F0) (ht : ∀ f, (t f).name = f.name) : (d.turn s t).find s' = d.find s' := by
  unfold Dk.find Dk.at Dk.turn
  congr 1
  show List.find? _ (d.files.map _) = _
  induction d.files with
  | nil => rfl
  | cons f l ih =>
    rw [List.map_cons, List.find?_cons, List.find?_cons, ih]
    by_cases hf : f.name = s
    · have h1 : ((t f).name == s') = false := by rw [ht, hf, beq_eq_false_iff_ne]; exact fun e => h e.symm
      have h2 : (f.name == s') = false := by rw [hf, beq_eq_false_iff_ne]; exact fun e => h e.symm
      rw [if_pos hf, h1, h2]
    · rw [if_neg hf]
theorem find_turnS {d : Dk} {s : List UInt8} (t : F0 → F0) (hn : ∀ f, (t f).name = f.name) (ht : ∀ f, (t f).there = f.there) : (d.turn s t).find s = (d.find s).map t := by
  unfold Dk.find Dk.at Dk.turn
  show Option.filter _ (List.find? _ (d.files.map _)) = _
  rw [turnL_find t s hn]
  cases List.find? (fun f => f.name == s) d.files with
  | none => rfl
  | some f =>
    show Option.filter _ (some (t f)) = Option.map t (Option.filter _ (some f))
    rw [Option.filter_some, Option.filter_some, ht]
    split <;> rfl
theorem keeps_turn {d : Dk} {s : List UInt8} (t : F0 → F0) (hn : ∀ f, (t f).name = f.name) (ht : ∀ f, (t f).there = f.there) (hb : ∀ f, (t f).bytes = f.bytes) : KeepsB d (d.turn s t) := fun s' f hf => by
  by_cases h : s' = s
  · subst h
    exact ⟨t f, by rw [find_turnS t hn ht, hf]; rfl, hb f⟩
  · exact ⟨f, by rw [find_turnO h t hn, hf], rfl⟩
theorem sync_keeps (d : Dk) (s : List UInt8) : KeepsB d (d.sync s).2 := by
  unfold Dk.sync
  split
  · exact KeepsB.refl d
  · split
    · exact KeepsB.refl d
    · exact keeps_turn (d := d.next) _ (fun _ => rfl) (fun _ => rfl) (fun _ => rfl)
theorem insF_find? {f : F0} {s' : List UInt8} (h : f.name ≠ s') : ∀ l : List F0, (insF f l).find? (fun g => g.name == s') = l.find? (fun g => g.name == s')
  | [] => by
    have h1 : (f.name == s') = false := beq_eq_false_iff_ne.2 h
    simp [insF, h1]
  | g :: r => by
    unfold insF
    split
    · rw [List.find?_cons, List.find?_cons, insF_find? h r]
    · have h1 : (f.name == s') = false := beq_eq_false_iff_ne.2 h
      rw [List.find?_cons, h1]
theorem create_keeps (d : Dk) (s : List UInt8) : KeepsB d (d.create s).2 := by
  unfold Dk.create
  split
  · exact KeepsB.refl d
  · split
    · exact KeepsB.refl d
    · rename_i h2
      split
      · exact KeepsB.refl d
      · split
        · exact KeepsB.refl d
        · intro s' f hf
          by_cases h : s = s'
          · subst h
            exact absurd (by
              unfold Dk.find at hf
              obtain ⟨hg, -⟩ := Option.filter_eq_some_iff.1 hf
              rw [hg]
              rfl) h2
          · refine ⟨f, ?_, rfl⟩
            unfold Dk.find Dk.at at hf ⊢
            show Option.filter _ (List.find? _ (insF _ d.files)) = _
            rw [insF_find? (f := ⟨s, [], 0, true, false⟩) h]
            exact hf
theorem find_there {l : List F0} {s : List UInt8} {f : F0} (hs : (l.map (·.name)).Pairwise (· < ·)) (h : (l.find? fun f => f.name == s).filter (·.there) = some f) : ((l.filter (·.there)).map fun f => { f with named := true }).find? (fun f => f.name == s) = some { f with named := true } := by
  obtain ⟨hg, ht⟩ := Option.filter_eq_some_iff.1 h
  clear h
  induction l with
  | nil => cases hg
  | cons g r ih =>
    rw [List.map_cons, List.pairwise_cons] at hs
    rw [List.find?_cons] at hg
    cases hb : g.name == s with
    | true =>
      rw [hb] at hg
      obtain rfl := Option.some.inj hg
      rw [List.filter_cons_of_pos ht, List.map_cons, List.find?_cons]
      show (match g.name == s with | true => _ | false => _) = _
      rw [hb]
    | false =>
      rw [hb] at hg
      by_cases hgt : g.there = true
      · rw [List.filter_cons_of_pos hgt, List.map_cons, List.find?_cons]
        show (match g.name == s with | true => _ | false => _) = _
        rw [hb]
        exact ih hs.2 hg
      · rw [List.filter_cons_of_neg (by simpa using hgt)]
        exact ih hs.2 hg
theorem syncdir_keeps {d : Dk} (hs : (d.files.map (·.name)).Pairwise (· < ·)) : KeepsB d d.syncdir.2 := by
  unfold Dk.syncdir
  split
  · exact KeepsB.refl d
  · intro s f hf
    obtain ⟨-, ht⟩ := Option.filter_eq_some_iff.1 hf
    refine ⟨{ f with named := true }, ?_, rfl⟩
    unfold Dk.find Dk.at at hf ⊢
    rw [find_there hs hf, Option.filter_some]
    exact if_pos ht
theorem append_others {d : Dk} {s s' : List UInt8} (b : List UInt8) (h : s' ≠ s) : (d.append s b).2.find s' = d.find s' := by
  unfold Dk.append
  split
  · rfl
  · split
    · rfl
    · split
      · rfl
      · exact find_turnO (d := d.next) h _ (fun _ => rfl)
theorem append_own {d : Dk} {s b : List UInt8} {f : F0} (hf : d.find s = some f) : ∃ f' tl, (d.append s b).2.find s = some f' ∧ f'.bytes = f.bytes ++ tl ∧ ((d.append s b).1 = 0 → nameOk s = true → tl = b) := by
  unfold Dk.append
  split
  · rename_i h
    exact ⟨f, [], hf, by simp, fun h => by cases h⟩
  · rw [hf]
    dsimp only
    split
    · exact ⟨f, [], hf, by simp, fun h => by cases h⟩
    · refine ⟨{ f with bytes := f.bytes ++ (if d.fate.1 = 0 then b else b.take d.fate.2) }, if d.fate.1 = 0 then b else b.take d.fate.2, ?_, rfl, fun h _ => if_pos h⟩
      rw [find_turnS (d := d.next) (fun f => { f with bytes := f.bytes ++ (if d.fate.1 = 0 then b else b.take d.fate.2) }) (fun _ => rfl) (fun _ => rfl)]
      show Option.map _ (d.find s) = _
      rw [hf]
      rfl
end Go.Proofs.YtlgcoaeddeiegaaGreat
/- A log of segments, plainly: what stands behind each call. -/
namespace Go.Proofs.YtlgcoaeddeiegaaGreat
open Go Go.RowKit

def Lg.recs (g : Lg) : List Rc := g.segs.flatMap fun s => recsT s.2
theorem behind_snoc {α : Type} : ∀ (l : List (Nat × List α)) (bn b : Nat) (r : List α), Behind bn (l ++ [(b, r)]) ↔ Behind bn l ∧ b = bn + (l.flatMap (·.2)).length
  | [], bn, b, r => by simp [Behind]
  | (c, m) :: l, bn, b, r => by
    show (c = bn ∧ Behind (bn + m.length) (l ++ [(b, r)])) ↔ (c = bn ∧ Behind (bn + m.length) l) ∧ _
    rw [behind_snoc l, List.flatMap_cons, List.length_append]
    dsimp only
    constructor
    · rintro ⟨h1, h2, h3⟩
      exact ⟨⟨h1, h2⟩, by omega⟩
    · rintro ⟨⟨h1, h2⟩, h3⟩
      exact ⟨h1, h2, by omega⟩
theorem Lg.recs_map (g : Lg) : (g.segs.map fun s => (s.1, recsT s.2)).flatMap (·.2) = g.recs := by
  unfold Lg.recs
  rw [List.flatMap_map]
theorem LgOk.lb_eq {g : Lg} (h : LgOk g) : Behind g.begin (g.ini.map fun s => (s.1, recsT s.2)) ∧ g.lb = g.begin + (g.ini.flatMap fun s => recsT s.2).length := by
  have h1 := h.behind
  unfold Lg.segs at h1
  rw [List.map_append, List.map_cons, List.map_nil, behind_snoc, List.flatMap_map] at h1
  exact h1
theorem LgOk.fin_eq {g : Lg} (h : LgOk g) : g.fin = g.begin + g.recs.length := by
  have h1 := h.lb_eq.2
  unfold Lg.fin Lg.recs Lg.segs
  rw [List.flatMap_append, List.length_append, List.flatMap_cons, List.flatMap_nil, List.append_nil, recsT_len]
  dsimp only
  omega
theorem recsT_ne {bn : Nat} {bs : List Bat} (h : Chain bn bs) (hn : bs ≠ []) : 0 < (recsT bs).length := by
  cases bs with
  | nil => exact absurd rfl hn
  | cons b r =>
    have := (h.good b (List.mem_cons_self ..)).pos.1
    unfold recsT
    rw [List.flatMap_cons, List.length_append]
    omega
theorem behind_rises : ∀ (l : List (Nat × List Rc)) (bn : Nat), Behind bn l → (∀ s ∈ l.dropLast, 0 < s.2.length) → (∀ s ∈ l, bn ≤ s.1) ∧ (l.map (·.1)).Pairwise (· < ·)
  | [], _, _, _ => ⟨fun s hs => (by cases hs), List.Pairwise.nil⟩
  | [(b, r)], bn, h, _ => ⟨fun s hs => by
      rw [List.mem_singleton] at hs
      subst hs
      exact Nat.le_of_eq h.1.symm, List.pairwise_singleton ..⟩
  | (b, r) :: t :: l, bn, h, hn => by
    obtain ⟨h1, h2⟩ := h
    obtain ⟨g1, g2⟩ := behind_rises (t :: l) _ h2 (fun s hs => hn s (by rw [List.dropLast_cons_cons]; exact List.mem_cons_of_mem _ hs))
    have hr : 0 < r.length := hn (b, r) (by rw [List.dropLast_cons_cons]; exact List.mem_cons_self ..)
    refine ⟨fun s hs => ?_, ?_⟩
    · rcases List.mem_cons.1 hs with rfl | hs
      · exact Nat.le_of_eq h1.symm
      · have := g1 s hs
        omega
    · rw [List.map_cons, List.pairwise_cons]
      refine ⟨fun y hy => ?_, g2⟩
      obtain ⟨s, hs, rfl⟩ := List.mem_map.1 hy
      have := g1 s hs
      show b < s.1
      omega
theorem LgOk.rises {g : Lg} (h : LgOk g) : (g.segs.map (·.1)).Pairwise (· < ·) := by
  have h1 := (behind_rises _ _ h.behind (fun s hs => by
    unfold Lg.segs at hs
    rw [List.map_append, List.map_cons, List.map_nil, List.dropLast_concat] at hs
    obtain ⟨t, ht, rfl⟩ := List.mem_map.1 hs
    exact recsT_ne (h.chain t (by unfold Lg.segs; exact List.mem_append_left _ ht)).1 (h.ne t ht))).2
  rwa [List.map_map] at h1
theorem LgOk.last {g : Lg} (h : LgOk g) : ∀ s ∈ g.ini, s.1 < g.lb := fun s hs => by
  have h1 := h.rises
  unfold Lg.segs at h1
  rw [List.map_append, List.pairwise_append] at h1
  exact h1.2.2 s.1 (List.mem_map_of_mem hs) g.lb (by simp)
theorem LgOk.names {g : Lg} (h : LgOk g) {log : ByteArray} (hlog : loggedB log.data.toList = true) : ∀ s ∈ g.ini, sname log s.1 ≠ sname log g.lb := fun s hs e => by
  have h1 := h.last s hs
  have h2 := sname_inj hlog (h.chain s (by unfold Lg.segs; exact List.mem_append_left _ hs)).2 (h.chain (g.lb, g.lbs) (by unfold Lg.segs; simp)).2 e
  omega
theorem fits_good {base : Int} {l : List Rc} (h : (fitsT l).2 = 0) (h0 : 0 ≤ base) (h1 : base + (l.length : Int) - 1 ≤ 9007199254740992) : GoodB base l ∧ putT base l = (batchT base l, 0) := by
  have hne : l ≠ [] := fun e => by
    subst e
    cases h
  have hl : 1 ≤ l.length := by
    cases l with
    | nil => exact absurd rfl hne
    | cons => simp
  refine put_good ?_
  unfold putT
  have : putOk base l = true := by
    unfold putOk
    rw [h, decide_eq_false (show ¬ (0 : Int) = 2 by decide), decide_eq_false (show ¬ base < 0 by omega), decide_eq_false (show ¬ 9007199254740992 < base by omega), decide_eq_false (show ¬ 9007199254740992 < base + (l.length : Int) - 1 by omega)]
    rfl
  rw [if_neg (by rw [this]; simp), if_neg (by rw [h]; simp)]
theorem LgOk.add {g : Lg} (h : LgOk g) {l : List Rc} (hg : GoodB (g.fin : Int) l) : LgOk { g with lbs := g.lbs ++ [((g.fin : Int), l)] } := by
  have hlast := h.chain (g.lb, g.lbs) (by unfold Lg.segs; simp)
  have hb := h.lb_eq
  refine ⟨fun s hs => ?_, ?_, h.ne, ?_⟩
  · rcases List.mem_append.1 hs with hs | hs
    · exact h.chain s (by unfold Lg.segs; exact List.mem_append_left _ hs)
    · rw [List.mem_singleton] at hs
      subst hs
      exact ⟨hlast.1.snoc hg, hlast.2⟩
  · unfold Lg.segs
    rw [List.map_append, List.map_cons, List.map_nil, behind_snoc, List.flatMap_map]
    exact hb
  · have h1 := h.stands
    show g.stands ≤ g.lb + cntT (g.lbs ++ _)
    rw [cntT_append]
    unfold Lg.fin at h1
    omega
theorem LgOk.rolled {g : Lg} (h : LgOk g) (hne : g.lbs ≠ []) (hf : g.fin ≤ 9007199254740992) : LgOk ⟨g.segs, g.fin, [], g.fin, g.dead⟩ := by
  refine ⟨fun s hs => ?_, ?_, fun s hs => ?_, ?_⟩
  · rcases List.mem_append.1 hs with hs | hs
    · exact h.chain s hs
    · rw [List.mem_singleton] at hs
      subst hs
      exact ⟨Chain.nil _, hf⟩
  · have e : Lg.begin ⟨g.segs, g.fin, [], g.fin, g.dead⟩ = g.begin := by
      show (match g.segs with | [] => _ | s :: _ => s.1) = _
      unfold Lg.begin Lg.segs
      cases g.ini <;> rfl
    rw [e]
    show Behind g.begin ((g.segs ++ [(g.fin, [])]).map _)
    rw [List.map_append, List.map_cons, List.map_nil, behind_snoc, Lg.recs_map]
    exact ⟨h.behind, h.fin_eq⟩
  · rcases List.mem_append.1 hs with hs | hs
    · exact h.ne s hs
    · rw [List.mem_singleton] at hs
      subst hs
      exact hne
  · show g.fin ≤ g.fin + cntT []
    omega
theorem LgOk.standsFin {g : Lg} (h : LgOk g) : LgOk { g with stands := g.fin } := ⟨h.chain, h.behind, h.ne, Nat.le_refl _⟩
theorem LgOk.died {g : Lg} (h : LgOk g) (e : Int) : LgOk (g.dies e) := by
  unfold Lg.dies
  split
  · exact h
  · exact ⟨h.chain, h.behind, h.ne, h.stands⟩
theorem create_new {d : Dk} {s : List UInt8} (h : (d.create s).1 = 0) : ∃ f, (d.create s).2.find s = some f ∧ f.bytes = [] := create_find h
theorem roll_law {log : ByteArray} {g : Lg} {d : Dk} (h : LgOk g) (hf : LgFit log g d) (hs2 : ((d.sync (sname log g.lb)).2.create (sname log g.fin)).2.files.map (·.name) |>.Pairwise (· < ·)) (hne : g.lbs ≠ []) (hfin : g.fin ≤ 9007199254740992) :
    LgOk (g.rollT log d).2.1 ∧ LgFit log (g.rollT log d).2.1 (g.rollT log d).2.2 ∧ (g.rollT log d).2.1.fin = g.fin := by
  have k1 := sync_keeps d (sname log g.lb)
  unfold Lg.rollT
  split
  · exact ⟨h, k1.fit hf, rfl⟩
  · have k2 := create_keeps (d.sync (sname log g.lb)).2 (sname log g.fin)
    split
    · exact ⟨h.standsFin, (k1.trans k2).fit hf, rfl⟩
    · rename_i h0
      have h0 : ((d.sync (sname log g.lb)).2.create (sname log g.fin)).1 = 0 := Classical.byContradiction h0
      have k3 := syncdir_keeps hs2
      refine ⟨h.rolled hne hfin, fun s hs => ?_, by show g.fin + cntT [] = g.fin; rfl⟩
      rcases List.mem_append.1 hs with hs | hs
      · exact ((k1.trans k2).trans k3).fit hf s hs
      · rw [List.mem_singleton] at hs
        subst hs
        obtain ⟨f, h1, h2⟩ := create_new h0
        obtain ⟨f', h3, h4⟩ := k3 _ f h1
        exact ⟨f', h3, h4.trans h2⟩
theorem add_law {log : ByteArray} (hlog : loggedB log.data.toList = true) {g : Lg} {d : Dk} {l : List Rc} (h : LgOk g) (hf : LgFit log g d) (hg : GoodB (g.fin : Int) l) (hnm : nameOk (sname log g.lb) = true) :
    LgOk (g.addT log d l).2.1 ∧ ((g.addT log d l).1 = 0 → LgFit log (g.addT log d l).2.1 (g.addT log d l).2.2) ∧ LgFitQ log (g.addT log d l).2.1 (g.addT log d l).2.2 := by
  unfold Lg.addT
  have hothers : ∀ s ∈ g.ini, ∃ f, (d.append (sname log g.lb) (batchT (g.fin : Int) l)).2.find (sname log s.1) = some f ∧ f.bytes = batsT s.2 := fun s hs => by
    obtain ⟨f, h1, h2⟩ := hf s (by unfold Lg.segs; exact List.mem_append_left _ hs)
    exact ⟨f, by rw [append_others _ (h.names hlog s hs)]; exact h1, h2⟩
  obtain ⟨f0, h1, h2⟩ := hf (g.lb, g.lbs) (by unfold Lg.segs; simp)
  obtain ⟨f', tl, h3, h4, h5⟩ := append_own (b := batchT (g.fin : Int) l) h1
  rw [h2] at h4
  have hfit : (d.append (sname log g.lb) (batchT (g.fin : Int) l)).1 = 0 → LgFit log { g with lbs := g.lbs ++ [((g.fin : Int), l)] } (d.append (sname log g.lb) (batchT (g.fin : Int) l)).2 := fun h0 s hs => by
    rcases List.mem_append.1 hs with hs | hs
    · exact hothers s hs
    · rw [List.mem_singleton] at hs
      subst hs
      refine ⟨f', h3, ?_⟩
      rw [h4, h5 h0 hnm]
      show _ = batsT (g.lbs ++ [((g.fin : Int), l)])
      rw [batsT_append]
      simp [batsT]
  dsimp only
  split
  · rename_i h0
    exact ⟨h.add hg, fun _ => hfit h0, (hfit h0).toQ⟩
  · rename_i h0
    refine ⟨h, fun e => absurd e h0, fun s hs => ?_⟩
    rcases List.mem_append.1 hs with hs | hs
    · obtain ⟨f, g1, g2⟩ := hothers s hs
      exact ⟨f, [], g1, by rw [g2, List.append_nil]⟩
    · rw [List.mem_singleton] at hs
      subst hs
      exact ⟨f', tl, h3, h4⟩
end Go.Proofs.YtlgcoaeddeiegaaGreat
/- segment: what is read of a segment's file. -/
namespace Go.Proofs.YtlgcoaeddeiegaaGreat
open Go Go.RowKit
attribute [local go_sem] Oper.semAt_some

theorem DiskAt.has {w : World} {S : Nat → Prop} {q : Nat} {d : Dk} {s : List UInt8} {f : F0} (h : DiskAt w S q d) (hf : d.find s = some f) : f.name = s ∧ f ∈ d.files ∧ nameOk s = true ∧ f.bytes.length ≤ 16777216 := by
  obtain ⟨mb, fv, L, h⟩ := h
  unfold Dk.find Dk.at at hf
  obtain ⟨hg, -⟩ := Option.filter_eq_some_iff.1 hf
  have hm := List.mem_of_find?_eq_some hg
  have hn : f.name = s := by have := List.find?_some hg; simpa using this
  have hz : f.bytes.length ≤ 16777216 := by
    rw [← h.files] at hm
    obtain ⟨x, hx, rfl⟩ := List.mem_map.1 hm
    exact (h.each x hx).size
  exact ⟨hn, hm, by rw [← hn]; exact h.names f hm, hz⟩
section
variable {w : World} {S : Nat → Prop} {s x q : Nat} {nm : ByteArray} {bn step : Nat} {sv : Value} {sp : List Sp} {bs : List Bat} {d : Dk}
theorem SegQ.long (h : SegQ w S s x q nm bn step sv sp bs d) : (batsT bs).length ≤ 16777216 := by
  obtain ⟨f, tl, hf, hb⟩ := h.begins
  have h1 := (h.disk.has hf).2.2.2
  rw [hb, List.length_append] at h1
  omega
theorem SegI.long (h : SegI w S s x q nm bn step sv sp bs d) : (batsT bs).length ≤ 16777216 := h.toQ.long
theorem SegQ.few (h : SegQ w S s x q nm bn step sv sp bs d) : bs.length ≤ 524288 := by
  have h1 := h.long
  have h2 := bats_many bs h.chain.good
  omega
theorem SegI.few (h : SegI w S s x q nm bn step sv sp bs d) : bs.length ≤ 524288 := h.toQ.few
theorem SegQ.reads (h : SegQ w S s x q nm bn step sv sp bs d) {p : Nat} (hp : p ≤ (batsT bs).length) : d.read nm.data.toList (p : Int) (((batsT bs).length : Int) - (p : Int)) = ((batsT bs).drop p, 0) := by
  obtain ⟨f, tl, hf, hb⟩ := h.begins
  have hh := h.disk.has hf
  unfold Dk.read
  rw [if_neg (by rw [hh.2.2.1]; simp), hf]
  show (if _ then _ else _) = _
  rw [if_neg (by rw [hb, List.length_append]; omega), hb]
  congr 1
  have e : min (((batsT bs).length : Int) - (p : Int)).toNat ((batsT bs ++ tl).length - p) = ((batsT bs).drop p).length := by
    rw [List.length_append, List.length_drop]
    omega
  rw [show ((p : Int)).toNat = p from rfl, e, List.drop_append_of_le_length hp, List.take_left]
theorem SegI.reads (h : SegI w S s x q nm bn step sv sp bs d) {p : Nat} (hp : p ≤ (batsT bs).length) : d.read nm.data.toList (p : Int) (((batsT bs).length : Int) - (p : Int)) = ((batsT bs).drop p, 0) := h.toQ.reads hp
end
end Go.Proofs.YtlgcoaeddeiegaaGreat
/- A log of segments: how it lies in memory; what is asked of a segment. -/
namespace Go.Proofs.YtlgcoaeddeiegaaGreat
open Go Go.RowKit
attribute [local go_sem] Oper.semAt_some

section
variable {w : World} {s x q : Nat} {nm : ByteArray} {bn step : Nat} {sv : Value} {sp : List Sp} {bs : List Bat}
set_option maxHeartbeats 400000 in
theorem baseM_b (h : SegM w s x q nm bn step sv sp bs) :
    Calls Tryz.prog 79 #[.pointer (some ⟨s, 0, none⟩)] w fun e w' => e = .returned (.int .i64 (bn : Int)) ∧ w' = w := by
  have k4 : w.cell? ⟨s, 4, none⟩ = some (.pointer (some ⟨q, 0, none⟩)) := cell_of h.head rfl
  have k1 : w.cell? ⟨s, 6, none⟩ = some (.int .i64 (bn : Int)) := cell_of h.head rfl
  clear h
  go_enter Tryz.func79, Tryz.ntmps79
  go_wp2_with (go_at_call 147; refine (noneSeg_b k4).mono ?_; rintro e w' ⟨rfl, rfl⟩)
  go_ret
  exact ⟨rfl, rfl⟩
set_option maxHeartbeats 400000 in
theorem sizeM_b (h : SegM w s x q nm bn step sv sp bs) :
    Calls Tryz.prog 75 #[.pointer (some ⟨s, 0, none⟩)] w fun e w' => e = .returned (.int .i64 ((batsT bs).length : Int)) ∧ w' = w := by
  have k4 : w.cell? ⟨s, 4, none⟩ = some (.pointer (some ⟨q, 0, none⟩)) := cell_of h.head rfl
  have k1 : w.cell? ⟨s, 2, none⟩ = some (.int .i64 ((batsT bs).length : Int)) := cell_of h.head rfl
  clear h
  go_enter Tryz.func75, Tryz.ntmps75
  go_wp2_with (go_at_call 147; refine (noneSeg_b k4).mono ?_; rintro e w' ⟨rfl, rfl⟩)
  go_ret
  exact ⟨rfl, rfl⟩
theorem SegM.kept {w' : World} (h : SegM w s x q nm bn step sv sp bs) (hk : ∀ k, k = s ∨ k = x ∨ sv.ownBlock = some k → w'.heap[k]? = w.heap[k]?) : SegM w' s x q nm bn step sv sp bs :=
  { h with head := (hk s (.inl rfl)).trans h.head, idx := ⟨(hk x (.inr (.inl rfl))).trans h.idx.head, h.idx.row.kept (fun k e => hk k (.inr (.inr e)))⟩ }
end
structure Sg where
  bn : Nat
  bs : List Bat
  s : Nat
  x : Nat
  sv : Value
  sp : List Sp
def Sg.blocks (a : Sg) : List Nat := a.s :: a.x :: a.sv.ownBlock.toList
def Sg.ptr (a : Sg) : Value := .pointer (some ⟨a.s, 0, none⟩)
def Sg.seg (a : Sg) : Nat × List Bat := (a.bn, a.bs)
def SgIs (w : World) (q : Nat) (log : ByteArray) (step : Nat) (a : Sg) : Prop := SegM w a.s a.x q (segName log a.bn) a.bn step a.sv a.sp a.bs
def logBlocks (lp : Nat) (pv : Value) (G : List Sg) : List Nat := lp :: (pv.ownBlock.toList ++ G.flatMap Sg.blocks)
structure LogR (w : World) (T : Nat → Prop) (lp q : Nat) (log : ByteArray) (step : Nat) (L : List Sg) (pv : Value) : Prop where
  row : rowAt w 156 1 pv L.length (L.map Sg.ptr)
  each : ∀ b ∈ L, SgIs w q log step b
  apart : (logBlocks lp pv L).Nodup
  foot : ∀ k ∈ logBlocks lp pv L, T k
  low : ∀ k, T k → k < w.heap.size
  few : L.length ≤ 1000000000
def logHead (q lp : Nat) (log : ByteArray) (roll step : Nat) (g : Lg) (n : Nat) (pv : Value) (w : World) : Prop :=
  w.heap[lp]? = some (.cells #[.int .i64 (g.begin : Int), .int .i64 (g.fin : Int), .int .i64 (g.stands : Int), .int .i64 (n : Int), .bool g.dead, .pointer (some ⟨q, 0, none⟩), .string log, .int .i64 (roll : Int), .int .i64 (step : Int), pv] 82 (0, 0))
structure LogM (w : World) (T : Nat → Prop) (lp q : Nat) (log : ByteArray) (roll step : Nat) (g : Lg) (G : List Sg) (a : Sg) (pv : Value) : Prop where
  head : logHead q lp log roll step g (G.length + 1) pv w
  rest : LogR w T lp q log step (G ++ [a]) pv
  ini : g.ini = G.map Sg.seg
  lb : g.lb = a.bn
  lbs : g.lbs = a.bs
  lsize : log.size ≤ 8
  logd : loggedB log.data.toList = true
  ok : LgOk g
  rollB : 1 ≤ roll ∧ roll ≤ 16711680
  stepB : 1 ≤ step ∧ step ≤ 16777216
section
variable {w w' : World} {T : Nat → Prop} {lp q : Nat} {log : ByteArray} {step : Nat} {L : List Sg} {pv : Value}
theorem LogR.lp_mem (h : LogR w T lp q log step L pv) : T lp := h.foot lp (by simp [logBlocks])
theorem LogR.row_mem (_h : LogR w T lp q log step L pv) {k : Nat} (hk : pv.ownBlock = some k) : k ∈ logBlocks lp pv L := by simp [logBlocks, hk]
theorem LogR.seg_mem {b : Sg} (hb : b ∈ L) {k : Nat} (hk : k = b.s ∨ k = b.x ∨ b.sv.ownBlock = some k) : k ∈ L.flatMap Sg.blocks := by
  refine List.mem_flatMap.2 ⟨b, hb, ?_⟩
  simp only [Sg.blocks, List.mem_cons, Option.mem_toList]
  exact hk
theorem LogR.seg_in {b : Sg} (hb : b ∈ L) {k : Nat} (hk : k = b.s ∨ k = b.x ∨ b.sv.ownBlock = some k) : k ∈ logBlocks lp pv L := by
  simp only [logBlocks, List.mem_cons, List.mem_append]
  exact .inr (.inr (LogR.seg_mem hb hk))
theorem LogR.kept (h : LogR w T lp q log step L pv) (hk : ∀ k, T k → k ≠ lp → w'.heap[k]? = w.heap[k]?) (hsz : w.heap.size ≤ w'.heap.size) : LogR w' T lp q log step L pv := by
  have hn := List.nodup_cons.1 h.apart
  have hne : ∀ k, k ∈ pv.ownBlock.toList ++ L.flatMap Sg.blocks → k ≠ lp := fun k hk e => hn.1 (e ▸ hk)
  exact { h with
    row := h.row.kept (fun k hk' => hk k (h.foot k (h.row_mem hk')) (hne k (by simp [hk'])))
    each := fun b hb => (h.each b hb).kept (fun k hk' => hk k (h.foot k (LogR.seg_in hb hk')) (hne k (List.mem_append_right _ (LogR.seg_mem hb hk'))))
    low := fun k hk' => Nat.lt_of_lt_of_le (h.low k hk') hsz }
theorem LogR.only {X : Nat → Prop} (h : LogR w T lp q log step L pv) (ho : Only X w w') (hX : ∀ k, T k → k ≠ lp → ¬ X k) : LogR w' T lp q log step L pv :=
  h.kept (fun k hk hl => ho.block k (h.low k hk) (hX k hk hl)) ho.size
theorem LogR.wider {T' : Nat → Prop} (h : LogR w T lp q log step L pv) (h1 : ∀ k, T k → T' k) (h2 : ∀ k, T' k → k < w.heap.size) : LogR w T' lp q log step L pv :=
  { h with foot := fun k hk => h1 k (h.foot k hk), low := h2 }
end
section
variable {w w' : World} {T : Nat → Prop} {lp q : Nat} {log : ByteArray} {roll step : Nat} {g : Lg} {G : List Sg} {a : Sg} {pv : Value}
theorem LogM.kept (h : LogM w T lp q log roll step g G a pv) (hk : ∀ k, T k → w'.heap[k]? = w.heap[k]?) (hsz : w.heap.size ≤ w'.heap.size) : LogM w' T lp q log roll step g G a pv :=
  { h with
    head := (hk lp h.rest.lp_mem).trans h.head
    rest := h.rest.kept (fun k hk' _ => hk k hk') hsz }
theorem LogM.low (h : LogM w T lp q log roll step g G a pv) : ∀ k, T k → k < w.heap.size := h.rest.low
theorem LogM.later (h : LogM w T lp q log roll step g G a pv) (hb : Below w.heap.size w w') : LogM w' T lp q log roll step g G a pv :=
  h.kept (fun k hk => hb.block k (h.low k hk)) hb.size
theorem LogM.only {X : Nat → Prop} (h : LogM w T lp q log roll step g G a pv) (ho : Only X w w') (hX : ∀ k, T k → ¬ X k) : LogM w' T lp q log roll step g G a pv :=
  h.kept (fun k hk => ho.block k (h.low k hk) (hX k hk)) ho.size
theorem LogM.wider {T' : Nat → Prop} (h : LogM w T lp q log roll step g G a pv) (h1 : ∀ k, T k → T' k) (h2 : ∀ k, T' k → k < w.heap.size) : LogM w T' lp q log roll step g G a pv :=
  { h with rest := h.rest.wider h1 h2 }
theorem LogM.segs (h : LogM w T lp q log roll step g G a pv) : g.segs = (G ++ [a]).map Sg.seg := by
  unfold Lg.segs
  rw [h.ini, h.lb, h.lbs, List.map_append]
  rfl
theorem LogM.last (h : LogM w T lp q log roll step g G a pv) : SgIs w q log step a := h.rest.each a (by simp)
theorem LogM.headTurn {g' : Lg} (h : LogM w T lp q log roll step g G a pv) (ho : Only (fun k => k = lp) w w') (hh : logHead q lp log roll step g' (G.length + 1) pv w') (e1 : g'.ini = g.ini) (e2 : g'.lb = g.lb) (e3 : g'.lbs = g.lbs) (hok : LgOk g') : LogM w' T lp q log roll step g' G a pv :=
  { h with
    head := hh
    rest := h.rest.only ho (fun _ _ hk e => hk e)
    ini := e1.trans h.ini
    lb := e2.trans h.lb
    lbs := e3.trans h.lbs
    ok := hok }
set_option maxHeartbeats 400000 in
theorem noneLog_b (h : LogM w T lp q log roll step g G a pv) :
    Calls Tryz.prog 71 #[.pointer (some ⟨lp, 0, none⟩)] w fun e w' => e = .returned (.bool false) ∧ w' = w := by
  have k4 : w.cell? ⟨lp, 5, none⟩ = some (.pointer (some ⟨q, 0, none⟩)) := cell_of h.head rfl
  clear h
  go_enter Tryz.func71, Tryz.ntmps71
  go_wp2_with fail
  go_ret
  exact ⟨rfl, rfl⟩
set_option maxHeartbeats 1000000 in
theorem active_b (h : LogM w T lp q log roll step g G a pv) :
    Calls Tryz.prog 74 #[.pointer (some ⟨lp, 0, none⟩)] w fun e w' => e = .returned (.pointer (some ⟨a.s, 0, none⟩)) ∧ Below w.heap.size w w' := by
  have k9 : w.cell? ⟨lp, 9, none⟩ = some pv := cell_of h.head rfl
  obtain ⟨oa, c, rfl, hc⟩ := h.rest.row.shape
  obtain ⟨gb, off, rfl⟩ := h.rest.row.read.addr (by simp)
  have hl : w.cell? ⟨gb, off + G.length, none⟩ = some (.pointer (some ⟨a.s, 0, none⟩)) := by
    have := h.rest.row.cells rfl G.length (.pointer (some ⟨a.s, 0, none⟩)) (by rw [List.map_append, List.getElem?_append_right (by simp)]; simp [Sg.ptr])
    simpa [Go.WideShapes.add_plain] using this
  obtain ⟨n, hn⟩ : ∃ n, n = G.length := ⟨_, rfl⟩
  rw [List.length_append, List.length_singleton] at k9
  rw [← hn] at k9 hl
  have hn1 : n ≤ 1000000000 := by have := h.rest.few; rw [List.length_append] at this; omega
  clear h hc hn
  go_enter Tryz.func74, Tryz.ntmps74
  go_upto_region 1 with fail
  go_region
  all_goals
    go_wp2_with fail
    go_ret
    exact ⟨rfl, rfl, rfl, rfl, Nat.le_refl _, fun _ _ => rfl⟩
end
end Go.Proofs.YtlgcoaeddeiegaaGreat
/- partlog: must, caught, dies. -/
namespace Go.Proofs.YtlgcoaeddeiegaaGreat
open Go Go.RowKit
attribute [local go_sem] Oper.semAt_some

def stopV (e : Int) : Value := .iface 241 (.agg #[.int .i64 e])
set_option maxHeartbeats 400000 in
theorem must_ok (w : World) : Calls Tryz.prog 65 #[.int .i64 0] w fun e w' => e = .returned (.tuple #[]) ∧ w' = w := by
  go_enter Tryz.func65, Tryz.ntmps65
  go_wp2_with fail
  go_end0
  exact ⟨rfl, rfl⟩
set_option maxHeartbeats 400000 in
theorem must_no {er : Int} (h : er ≠ 0) (w : World) : Calls Tryz.prog 65 #[.int .i64 er] w fun e w' => e = .panicked [{ v := stopV er, recovered := false }] ∧ w' = w := by
  have hc : (er == 0) = false := beq_eq_false_iff_ne.2 h
  have d1 : (er != 0) = true := by unfold bne; rw [hc]; rfl
  clear hc h
  go_enter Tryz.func65, Tryz.ntmps65
  go_wp2_with fail
  exact ⟨rfl, rfl, rfl⟩
set_option maxRecDepth 100000 in
set_option maxHeartbeats 1000000 in
theorem caughtIdle_b {w : World} {a : Value} :
    CallsD Tryz.prog 62 #[a] .returning w fun e u' w' => e = .returned (.tuple #[]) ∧ u' = .returning ∧ w' = w := by
  refine callsD_of_wpS Tryz.func62 rfl fun c₀ cs hu => ?_
  apply wpS_seq
  apply wpS_region
  simp [wpOpsS, go_sem, recoverD, hu, Tryz.ntmps62, Exit.thenS]
  refine wpS_of_wp ?_
  go_wp2_with fail
  cases c₀
  simp_all [bodyPostS, results, Tryz.results62]
set_option maxRecDepth 100000 in
set_option maxHeartbeats 1000000 in
theorem caughtStop_b {w : World} {b : Nat} {x : Value} {er : Int} {older : List PanicEntry} (h : w.heap[b]? = some (.cells #[x] 28 (0, 0))) :
    CallsD Tryz.prog 62 #[.pointer (some ⟨b, 0, none⟩)] (.panicking ({ v := stopV er, recovered := false } :: older)) w fun e u' w' =>
      e = .returned (.tuple #[]) ∧ u' = .panicking ({ v := stopV er, recovered := true } :: older) ∧ w'.heap[b]? = some (.cells #[.int .i64 er] 28 (0, 0)) ∧ Only (fun k => k = b) w w' := by
  unfold stopV
  refine callsD_of_wpS Tryz.func62 rfl fun c₀ cs hu => ?_
  apply wpS_seq
  apply wpS_region
  simp [wpOpsS, go_sem, recoverD, hu, Tryz.ntmps62, Exit.thenS]
  refine wpS_of_wp ?_
  simp only [Array.replicate_succ, Array.replicate_zero, List.push_toArray, List.nil_append, List.cons_append]
  have hta : ∀ W : World, (Instr.typeAssert (.iface 241 (.agg #[.int .i64 er])) 20 241 true).run Tryz.prog W = .ok (.tuple #[.agg #[.int .i64 er], .bool true]) W := fun W => by kernel_rfl
  go_upto_region 7 with fail
  obtain ⟨w1, hw1⟩ : ∃ W : World, W = w.alloc (.cells #[.int .i64 er] 241) := ⟨_, rfl⟩
  obtain ⟨b5, hb5⟩ : ∃ b, b = w.heap.size := ⟨_, rfl⟩
  have h5 : w1.heap[b5]? = some (.cells #[.int .i64 er] 241 (0, 0)) := by rw [hw1, hb5]; exact alloc_cells _ _ _
  have hb1 : Below w.heap.size w w1 := by rw [hw1]; exact (Below.refl _ _).alloc (Nat.le_refl _) _
  have g2 := (hb1.block b (Array.getElem?_eq_some_iff.1 h).1).trans h
  have H := Lib.hid (And.intro g2 hb1)
  have HU := Lib.hid hu
  have k5 : w1.cell? ⟨b5, 0, none⟩ = some (.int .i64 er) := cell_of h5 rfl
  have k2 : w1.cell? ⟨b, 0, none⟩ = some x := cell_of g2 rfl
  have z2 : w1.frozen? ⟨b, 0, none⟩ = false := free_of g2 _
  have n5 : b5 ≠ b := by have := (Array.getElem?_eq_some_iff.1 h).1; omega
  have n6 := n5.symm
  rw [← hw1, ← hb5]
  clear hw1 hb5 h5 hb1 g2 h hta hu
  go_wp2_with fail
  refine ⟨rfl, _, rfl, _, results_none rfl _ _ _, rfl, rfl, heap_setCell_here _ H.out.1, ?_⟩
  exact (Only.of_below H.out.2 (Nat.le_refl _) (fun k => k = b)).trans (only_setCell (fun k => k = b) _ b 0 (.int .i64 er) rfl) (fun _ _ e => e)
set_option maxRecDepth 100000 in
set_option maxHeartbeats 1000000 in
theorem diesOk_b {w : World} {lp b : Nat} {u : FrameMode} (h : w.heap[b]? = some (.cells #[.int .i64 0] 28 (0, 0))) :
    CallsD Tryz.prog 73 #[.pointer (some ⟨lp, 0, none⟩), .pointer (some ⟨b, 0, none⟩)] u w fun e u' w' => u' = u ∧ e = .returned (.tuple #[]) ∧ w' = w := by
  have k : w.cell? ⟨b, 0, none⟩ = some (.int .i64 0) := cell_of h rfl
  refine CallsD.mono (R := fun e u' w' => u' = u ∧ e = .returned (.tuple #[]) ∧ w' = w) ?_ (fun _ _ _ h => h)
  go_enter_d Tryz.func73, Tryz.ntmps73
  go_wp2_with fail
  go_end0
  exact ⟨rfl, rfl⟩
set_option maxRecDepth 100000 in
set_option maxHeartbeats 1000000 in
theorem diesNo_b {w : World} {lp b : Nat} {u : FrameMode} {er : Int} (he : er ≠ 0) (h : w.heap[b]? = some (.cells #[.int .i64 er] 28 (0, 0))) {cs : Array Value} {x : Value} (hl : w.heap[lp]? = some (.cells cs 82 (0, 0))) (hx : cs[4]? = some x) :
    CallsD Tryz.prog 73 #[.pointer (some ⟨lp, 0, none⟩), .pointer (some ⟨b, 0, none⟩)] u w fun e u' w' => u' = u ∧ e = .returned (.tuple #[]) ∧ w' = w.setCell ⟨lp, 4, none⟩ (.bool true) := by
  have k : w.cell? ⟨b, 0, none⟩ = some (.int .i64 er) := cell_of h rfl
  have k4 : w.cell? ⟨lp, 4, none⟩ = some x := cell_of hl hx
  have z4 : w.frozen? ⟨lp, 4, none⟩ = false := free_of hl _
  have hc : (er == 0) = false := beq_eq_false_iff_ne.2 he
  have d1 : (er != 0) = true := by unfold bne; rw [hc]; rfl
  clear hc he h hl hx
  refine CallsD.mono (R := fun e u' w' => u' = u ∧ e = .returned (.tuple #[]) ∧ w' = w.setCell ⟨lp, 4, none⟩ (.bool true)) ?_ (fun _ _ _ h => h)
  go_enter_d Tryz.func73, Tryz.ntmps73
  go_wp2_with fail
  go_end0
  exact ⟨rfl, rfl⟩
end Go.Proofs.YtlgcoaeddeiegaaGreat
/- Disk: SyncDir: what is gone is struck from the map. -/
namespace Go.Proofs.YtlgcoaeddeiegaaGreat
open Go Go.Maps Go.RowKit
open Go.Proofs (encStr)

set_option maxHeartbeats 400000 in
theorem gone_b {w : World} {x : Fl} (s : Value) {b : Bool} (hb : x.f.there = b) (h : FlAt w x) : Calls Tryz.prog 137 #[s, .pointer (some ⟨x.blk, 0, none⟩)] w fun e w' => e = .returned (.bool (!b)) ∧ w' = w := by
  have c2 : w.cell? ⟨x.blk, 2, none⟩ = some (.bool b) := by rw [← hb]; exact cell_of h.cells rfl
  clear h hb
  go_enter Tryz.func137, Tryz.ntmps137
  go_wp2_with fail
  go_ret
  exact ⟨rfl, rfl⟩
def stayF (left : Lit → Bool) (L : List Fl) : List Fl := L.filter fun x => x.f.there || left (.string x.f.name)
theorem stayF_sub (left : Lit → Bool) (L : List Fl) : (stayF left L).Sublist L := List.filter_sublist
def pairsF (L : List Fl) : List (List UInt8 × Nat) := L.map fun x => (x.f.name, x.blk)
theorem mem_pairsF {L : List Fl} {s : List UInt8} {b : Nat} (h : (s, b) ∈ pairsF L) : ∃ x ∈ L, x.f.name = s ∧ x.blk = b := by
  obtain ⟨x, hx, he⟩ := List.mem_map.1 h
  simp only [Prod.mk.injEq] at he
  exact ⟨x, hx, he.1, he.2⟩
theorem eq_of_name {L : List Fl} (hnd : (L.map (·.f.name)).Nodup) {x y : Fl} (hx : x ∈ L) (hy : y ∈ L) (h : x.f.name = y.f.name) : x = y := by
  induction L with
  | nil => cases hx
  | cons a l ih =>
    rw [List.map_cons, List.nodup_cons] at hnd
    rcases List.mem_cons.1 hx with hx1 | hx1
    · rcases List.mem_cons.1 hy with hy1 | hy1
      · rw [hx1, hy1]
      · exact absurd (by rw [← hx1, h]; exact List.mem_map_of_mem (f := fun x : Fl => x.f.name) hy1) hnd.1
    · rcases List.mem_cons.1 hy with hy1 | hy1
      · exact absurd (by rw [← hy1, ← h]; exact List.mem_map_of_mem (f := fun x : Fl => x.f.name) hx1) hnd.1
      · exact ih hnd.2 hx1 hy1
theorem stay_there {L : List Fl} (hnd : (L.map (·.f.name)).Nodup) {left : Lit → Bool} {x : Fl} (hx : x ∈ L) (ht : x.f.there = true) : stayF (fun z => left z && !z.sameKey (.string x.f.name)) L = stayF left L := by
  refine List.filter_congr fun y hy => ?_
  by_cases he : y.f.name = x.f.name
  · rw [eq_of_name hnd hy hx he, ht]; rfl
  · show (y.f.there || (left _ && !_)) = _
    rw [sameKey_str, decide_eq_false he]; simp
theorem stay_gone {L : List Fl} (hnd : (L.map (·.f.name)).Nodup) {left : Lit → Bool} {x : Fl} (hx : x ∈ L) (ht : x.f.there = false) (f : List UInt8 × Nat) : f ∈ pairsF (stayF (fun z => left z && !z.sameKey (.string x.f.name)) L) ↔ f ∈ pairsF (stayF left L) ∧ f.1 ≠ x.f.name := by
  simp only [pairsF, stayF, List.mem_map, List.mem_filter]
  constructor
  · rintro ⟨y, ⟨hy, hk⟩, rfl⟩
    have hne : y.f.name ≠ x.f.name := fun he => by
      rw [eq_of_name hnd hy hx he, ht, sameKey_str] at hk
      simp at hk
    refine ⟨⟨y, ⟨hy, ?_⟩, rfl⟩, hne⟩
    rw [sameKey_str, decide_eq_false hne] at hk
    simpa using hk
  · rintro ⟨⟨y, ⟨hy, hk⟩, rfl⟩, hne⟩
    refine ⟨y, ⟨hy, ?_⟩, rfl⟩
    rw [sameKey_str, decide_eq_false hne]
    simpa using hk
set_option maxRecDepth 100000 in
set_option maxHeartbeats 1000000 in
theorem delGone_b {w : World} {S : Nat → Prop} {q mb : Nat} {fv : Value} {L : List Fl} {d : Dk} (h : DiskIs w S q mb fv L d) :
    Calls Tryz.prog 136 #[.map (some mb), .func (.func 137) #[] #[]] w fun e w' => e = .returned (.tuple #[]) ∧
      (∃ n' D, w'.ownsMap Tryz.prog 9 ptrElem mb n' D ∧ Dic D (pairsF (L.filter (·.f.there)))) ∧ Only (fun k => k = mb) w w' := by
  obtain ⟨D0, hown, hsz, hd⟩ := h.look
  have hnd := h.nodup
  have hmS : S mb := h.foot mb (by simp [diskBlocks])
  have hmb : mb < w.heap.size := h.low _ hmS
  have hxb : ∀ x ∈ L, ∀ k ∈ x.blocks, k < w.heap.size ∧ k ≠ mb := fun x hx k hk => by
    have hk' : k ∈ L.flatMap Fl.blocks := List.mem_flatMap.2 ⟨x, hx, hk⟩
    have h1 := h.apart
    simp only [diskBlocks, List.nodup_cons] at h1
    exact ⟨h.low k (h.foot k (by simp only [diskBlocks, List.mem_cons, List.mem_append]; exact .inr (.inr (.inr hk')))), fun e => h1.2.1 (by rw [← e]; exact List.mem_append_right _ hk')⟩
  have HX := Lib.hid hxb
  have HE := Lib.hid h.each
  have HND := Lib.hid hnd
  have HD : Hid (Dic D0 (pairsF L)) := Lib.hid hd
  clear h hd hnd hxb hmS hsz
  go_enter Tryz.func136, Tryz.ntmps136
  go_wp2_with (at_range; refine wpList_range_own _ rfl _ 118 rfl 9 175 (string_keyed Tryz.underlying9) Tryz.underlying118 ptrElem mb _ _ rfl hown ?_; intro w0 hrg0 hg0 hs0)
  go_frame
  go_loopw [8] (fun _ wr => ∃ (left : Lit → Bool) (cnt : Nat) (D : DataW Unit), wr.ranges Tryz.prog 9 ptrElem mb w.heap.size L.length D left cnt ∧ Hid (Dic D (pairsF (stayF left L))) ∧ Only (fun k => k = mb) w wr)
    (fun _ wr => wr.rangeLeft mb w.heap.size)
  case atStart =>
    refine ⟨_, _, _, hrg0, Lib.hid ?_, Only.of_grown (S := fun k => k = mb) (hg0.but (some mb)) (fun k hk => by simp at hk; exact hk.symm)⟩
    have e : stayF (has D0) L = L := List.filter_eq_self.2 fun x hx => by
      rw [(HD.out.has x.f.name).2 ⟨_, List.mem_map_of_mem (f := fun x : Fl => (x.f.name, x.blk)) hx, rfl⟩]
      simp
    rw [e]
    exact HD.out
  case round =>
    obtain ⟨left, cnt, D, hrg, HDC, ho⟩ := hrel
    go_wp2_with (at_next; refine wpList_next_dic _ rfl _ rfl HDC.out mb w.heap.size L.length left cnt rfl hrg ?_ ?_)
    · intro hl0
      go_wp2
      go_end0
      refine ⟨rfl, ⟨_, D, hrg.owns, ?_⟩, ho⟩
      have e : stayF left L = L.filter (·.f.there) := List.filter_congr fun x _ => by rw [hl0]; simp
      rw [← e]
      exact HDC.out
    · intro s b w1 cnt1 hmem hls hrg1 hlt hg1 hs1 hen HKEY
      obtain ⟨x, hx, rfl, rfl⟩ := mem_pairsF hmem
      have hxL : x ∈ L := (stayF_sub left L).subset hx
      have ho1 : Only (fun k => k = mb) w w1 := ho.trans (Only.of_grown (S := fun k => k = w.heap.size) hg1 (fun k hk => by simp at hk; exact hk.symm)) (fun i hi he => by omega)
      have HFX : Hid (FlAt w1 x) := Lib.hid ((HE.out x hxL).kept (fun k hk => ho1.block k (HX.out x hxL k hk).1 (HX.out x hxL k hk).2))
      obtain ⟨th, hth⟩ : ∃ th, x.f.there = th := ⟨_, rfl⟩
      cases th
      · have HT : Hid (Dic (D.del (.string x.f.name)) (pairsF (stayF (fun z => left z && !z.sameKey (.string x.f.name)) L))) := Lib.hid (HDC.out.del _ (stay_gone HND.out hxL hth))
        go_wp2_with (first
          | (go_at_call 137; refine (gone_b _ hth HFX.out).mono ?_; rintro e w2 ⟨rfl, rfl⟩)
          | (at_delete; refine wpList_delete_ranges _ rfl _ _ 118 9 rfl 175 (string_keyed Tryz.underlying9) Tryz.underlying118 ptrElem mb w.heap.size L.length _ _ _ rfl hrg1 _ _ rfl HKEY.out ?_; intro w3 cnt3 hrg3 hle hturn; go_frame))
        rw [strike_twice] at hrg3
        go_roundw
        case rel => exact ⟨_, cnt3, _, hrg3, HT, ho1.trans (Only.of_grown (S := fun k => k = mb) hturn.grown (fun k hk => by simp at hk; exact hk.symm)) (fun _ _ h => h)⟩
        case measure => rw [hrg3.left_eq, hrg.left_eq]; omega
      · have HT : Hid (Dic D (pairsF (stayF (fun z => left z && !z.sameKey (.string x.f.name)) L))) := Lib.hid (by rw [stay_there HND.out hxL hth]; exact HDC.out)
        go_wp2_with (go_at_call 137; refine (gone_b _ hth HFX.out).mono ?_; rintro e w2 ⟨rfl, rfl⟩)
        go_roundw
        case rel => exact ⟨_, cnt1, D, hrg1, HT, ho1⟩
        case measure => rw [hrg1.left_eq, hrg.left_eq]; exact hlt
end Go.Proofs.YtlgcoaeddeiegaaGreat
/- Disk: SyncDir. -/
namespace Go.Proofs.YtlgcoaeddeiegaaGreat
open Go Go.Maps Go.RowKit
open Go.Proofs (encStr)

def nameF (x : Fl) : Fl := { x with f := { x.f with named := true } }
def namedF (left : Lit → Bool) (x : Fl) : Fl := if left (.string x.f.name) = true then x else nameF x
theorem named_split {L : List Fl} (hnd : (L.map (·.f.name)).Nodup) {left : Lit → Bool} {x : Fl} (hx : x ∈ L) (hl : left (.string x.f.name) = true) :
    ∃ A B, L.map (namedF left) = A ++ x :: B ∧ L.map (namedF fun z => left z && !z.sameKey (.string x.f.name)) = A ++ nameF x :: B := by
  obtain ⟨A, B, rfl⟩ := List.append_of_mem hx
  have hne : ∀ y, y ∈ A ∨ y ∈ B → y.f.name ≠ x.f.name := fun y hy he => by
    rw [List.map_append, List.map_cons] at hnd
    have h2 := List.nodup_append.1 hnd
    rcases hy with hy | hy
    · exact h2.2.2 y.f.name (List.mem_map_of_mem (f := fun x : Fl => x.f.name) hy) x.f.name (by simp) he
    · exact (List.nodup_cons.1 h2.2.1).1 (by rw [← he]; exact List.mem_map_of_mem (f := fun x : Fl => x.f.name) hy)
  have hc : ∀ l : List Fl, (∀ y ∈ l, y.f.name ≠ x.f.name) → l.map (namedF fun z => left z && !z.sameKey (.string x.f.name)) = l.map (namedF left) := fun l hl => List.map_congr_left fun y hy => by
    show (if (left (.string y.f.name) && !(Lit.string y.f.name).sameKey (.string x.f.name)) = true then y else nameF y) = if left (.string y.f.name) = true then y else nameF y
    rw [sameKey_str, decide_eq_false (hl y hy)]
    simp
  refine ⟨A.map (namedF left), B.map (namedF left), ?_, ?_⟩
  · rw [List.map_append, List.map_cons]
    congr 2
    unfold namedF
    rw [hl]
    rfl
  · rw [List.map_append, List.map_cons, hc A (fun y hy => hne y (.inl hy)), hc B (fun y hy => hne y (.inr hy))]
    congr 2
    show (if (left (.string x.f.name) && !(Lit.string x.f.name).sameKey (.string x.f.name)) = true then x else nameF x) = nameF x
    rw [sameKey_str]
    simp
theorem set_named {w : World} {S : Nat → Prop} {q mb : Nat} {fv : Value} {A B : List Fl} {x : Fl} {d : Dk} (h : DiskIs w S q mb fv (A ++ x :: B) d) :
    DiskIs (w.setCell ⟨x.blk, 3, none⟩ (.bool true)) S q mb fv (A ++ nameF x :: B) { d with files := (A ++ nameF x :: B).map (·.f) } := by
  have hx := h.each x (by simp)
  have hset : Only (fun k => k = x.blk) w (w.setCell ⟨x.blk, 3, none⟩ (.bool true)) := only_setCell (fun k => k = x.blk) w x.blk 3 _ rfl
  have h1 := h.file_turn (x' := nameF x) rfl rfl (hset.mono (fun i _ hi => by rw [hi]; simp [Fl.blocks])) ⟨heap_setCell_here (w := w) _ hx.cells, hx.row.kept (fun k hk => hset.block k (hx.row.lt k hk) (FlAt.own_ne h k hk)), hx.lasts, hx.size⟩ (fun k hk => .inl hk)
  have e : (A ++ nameF x :: B).map (·.f) = A.map (·.f) ++ (nameF x).f :: B.map (·.f) := by simp
  rw [e]
  refine h1.narrow (fun k hk => ?_) (fun k hk => ?_)
  · rcases hk with hk | hk
    · exact hk
    · have h2 : (w.setCell ⟨x.blk, 3, none⟩ (.bool true)).heap.size = w.heap.size := by simp [World.setCell]
      omega
  · have := h.low k hk
    simpa [World.setCell] using this
theorem syncdir_plain {L : List Fl} {d : Dk} {left : Lit → Bool} (hl : ∀ k, left k = false) (hf : d.fate.1 = 0) (hL : L.map (·.f) = d.files.filter (·.there)) :
    d.syncdir = (0, { d.next with files := (L.map (namedF left)).map (·.f) }) := by
  unfold Dk.syncdir
  rw [hf, if_neg (by simp), ← hL, List.map_map, List.map_map]
  have e : L.map ((fun f : F0 => { f with named := true }) ∘ fun x : Fl => x.f) = L.map ((fun x : Fl => x.f) ∘ namedF left) := List.map_congr_left fun x _ => by simp [namedF, hl, nameF]
  rw [e]
set_option maxRecDepth 100000 in
set_option maxHeartbeats 1000000 in
theorem syncdir_b {w : World} {S : Nat → Prop} {q : Nat} {d : Dk} (h : DiskAt w S q d) :
    Calls Tryz.prog 66 #[.pointer (some ⟨q, 0, none⟩)] w fun e w' => OpIs w S q d.syncdir e w' := by
  obtain ⟨mb, fv, L, h⟩ := h
  have H := Lib.hid h
  clear h
  go_enter Tryz.func66, Tryz.ntmps66
  go_wp2_with fail
  refine (none_b H.out).mono ?_
  rintro e w' ⟨rfl, rfl⟩
  go_wp2_with fail
  refine (step_b H.out).mono ?_
  rintro e w1 ⟨kd, kp, fv', rfl, hkp, h1, ho1⟩
  obtain ⟨er, her⟩ : ∃ er, d.fate.1 = er := ⟨_, rfl⟩
  rw [her]
  have H1 := Lib.hid h1
  have HO1 := Lib.hid ho1
  have HE := Lib.hid her
  clear h1 ho1 hkp her
  go_upto_region 4 with fail
  obtain ⟨w2, hw2⟩ : ∃ w2 : World, w2 = w1.alloc (.cells #[.int .i64 kd, .int .i64 kp] 98) := ⟨_, rfl⟩
  obtain ⟨r, hr⟩ : ∃ r, r = w1.heap.size := ⟨_, rfl⟩
  have h2 : DiskIs w2 S q mb fv' L d.next := by rw [hw2]; exact H1.out.below ((Below.refl _ _).alloc (Nat.le_refl _) _)
  have ho2 : Only (fun k => k = q) w' w2 := by rw [hw2]; exact HO1.out.trans (only_alloc (fun k => k = q) _ _) (fun _ _ h => h)
  rw [← hw2, ← hr]
  clear hw2 hr H1 HO1
  have H2 := Lib.hid h2
  have HO2 := Lib.hid ho2
  clear h2 ho2
  by_cases h0 : er = 0
  · subst h0
    have c0 : w2.cell? ⟨q, 0, none⟩ = some (.map (some mb)) := cell_of H2.out.head rfl
    go_wp2_with fail
    refine (delGone_b H2.out).mono ?_
    rintro e w3 ⟨rfl, ⟨n', D, hown, hdic⟩, ho3⟩
    have h3 := H2.out.files_sub (L' := L.filter (·.f.there)) List.filter_sublist ho3 hown hdic
    obtain ⟨Lt, hLt⟩ : ∃ Lt, Lt = L.filter (·.f.there) := ⟨_, rfl⟩
    rw [← hLt] at h3 hdic
    have c0 : w3.cell? ⟨q, 0, none⟩ = some (.map (some mb)) := cell_of h3.head rfl
    have hown3 := ownsMap_tight hown
    have hnd := h3.nodup
    rw [hdic.size hown (by unfold pairsF; rw [List.map_map]; exact hnd)] at hown3
    have HDIC := Lib.hid hdic
    have HND := Lib.hid hnd
    have H3 := Lib.hid h3
    have HO3 : Hid (Only S w' w3) := Lib.hid ((HO2.out.mono (fun i _ hi => by rw [hi]; exact H2.out.q_mem)).trans ho3 (fun i _ hi => by rw [hi]; exact H2.out.foot _ (by simp [diskBlocks])))
    have HLT : Hid (Lt.map (·.f) = d.files.filter (·.there)) := Lib.hid (by
      rw [hLt]
      have : d.files = L.map (·.f) := H2.out.files.symm
      rw [this, List.filter_map]
      rfl)
    have hmb3 : Hid (mb < w3.heap.size) := Lib.hid hown3.lt
    have HSS : Hid (∀ k, S k → k < w3.heap.size) := Lib.hid h3.low
    clear hown hdic ho3 h3 hnd hLt H2 HO2
    go_wp2_with (at_range; refine wpList_range_own _ rfl _ 118 rfl 9 175 (string_keyed Tryz.underlying9) Tryz.underlying118 ptrElem mb _ _ rfl hown3 ?_; intro w4 hrg4 hg4 hs4)
    go_frame
    go_loopw [27] (fun _ wr => ∃ (left : Lit → Bool) (cnt : Nat), wr.ranges Tryz.prog 9 ptrElem mb w3.heap.size (pairsF Lt).length D left cnt ∧ Hid (DiskIs wr S q mb fv' (Lt.map (namedF left)) { d.next with files := (Lt.map (namedF left)).map (·.f) }) ∧ Hid (Only S w' wr))
      (fun _ wr => wr.rangeLeft mb w3.heap.size)
    case atStart =>
      have ho4 : Only (fun _ => False) w3 w4 := Only.of_grown (S := fun _ => False) hg4 (fun k hk => by simp at hk)
      refine ⟨_, _, hrg4, Lib.hid ?_, Lib.hid (HO3.out.trans ho4 (fun i _ hi => hi.elim))⟩
      have e : Lt.map (namedF (has D)) = Lt := by
        refine (List.map_congr_left fun x hx => ?_).trans (List.map_id _)
        have : has D (.string x.f.name) = true := (HDIC.out.has x.f.name).2 ⟨_, List.mem_map_of_mem (f := fun x : Fl => (x.f.name, x.blk)) hx, rfl⟩
        simp [namedF, this]
      rw [e]
      exact H3.out.only ho4 (fun _ _ h => h)
    case round =>
      obtain ⟨left, cnt, hrg, HDI, HO⟩ := hrel
      go_wp2_with (at_next; refine wpList_next_dic _ rfl _ rfl HDIC.out mb w3.heap.size _ left cnt rfl hrg ?_ ?_)
      · intro hl0
        have HX : Hid (OpIs w' S q d.syncdir (.returned (.int .i64 0)) wr) := Lib.hid (by
          rw [syncdir_plain hl0 HE.out HLT.out]
          refine ⟨rfl, ⟨mb, fv', _, HDI.out.wider (fun k hk => .inl hk) (fun k hk => ?_)⟩, HO.out⟩
          rcases hk with hk | hk
          · exact HDI.out.low k hk
          · exact hk.2)
        go_wp2_with fail
        go_ret
        exact HX.out
      · intro s b w5 cnt5 hmem hls hrg5 hlt hg5 hs5 hen HKEY
        obtain ⟨x, hx, rfl, rfl⟩ := mem_pairsF hmem
        obtain ⟨A, B, hAB, hAB'⟩ := named_split HND.out hx hls
        have hdi := HDI.out
        rw [hAB] at hdi
        have ho5 : Only (fun k => k = w3.heap.size) wr w5 := Only.of_grown (S := fun k => k = w3.heap.size) hg5 (fun k hk => by simp at hk; exact hk.symm)
        have hd5 := hdi.only ho5 (fun k hk he => by have := HSS.out k hk; omega)
        have hxc := (hd5.each x (by simp)).cells
        have k3 : w5.cell? ⟨x.blk, 3, none⟩ = some (.bool x.f.named) := cell_of hxc rfl
        have z3 : w5.frozen? ⟨x.blk, 3, none⟩ = false := free_of hxc _
        have hdn := set_named hd5
        obtain ⟨w6, hw6⟩ : ∃ w6 : World, w6 = w5.setCell ⟨x.blk, 3, none⟩ (.bool true) := ⟨_, rfl⟩
        rw [← hw6] at hdn
        have hxS : S x.blk := hd5.x_mem x.blk (by simp [Fl.blocks])
        have hxne : x.blk ≠ mb := fun e => by
          have h1 := (blocks_perm q mb fv' A x B).nodup_iff.1 hd5.apart
          exact not_mem_of_nodup_append h1 (k := x.blk) (by simp [Fl.blocks]) (by rw [e]; simp [diskBlocks])
        have hrg6 : w6.ranges Tryz.prog 9 ptrElem mb w3.heap.size (pairsF Lt).length D (fun z => left z && !z.sameKey (.string x.f.name)) cnt5 := by
          rw [hw6]
          exact hrg5.kept (grown_setC w5 ⟨x.blk, 3, none⟩ _) (by simp; omega) (by have := HSS.out _ hxS; simp; omega)
        have HO6 : Hid (Only S w' w6) := Lib.hid (by
          rw [hw6]
          exact (HO.out.trans ho5 (fun i hi he => by have := HO3.out.size; omega)).trans (only_setCell S _ _ _ _ hxS) (fun _ _ h => h))
        have HDN : Hid (DiskIs w6 S q mb fv' (Lt.map (namedF fun z => left z && !z.sameKey (.string x.f.name))) { d.next with files := (Lt.map (namedF fun z => left z && !z.sameKey (.string x.f.name))).map (·.f) }) := Lib.hid (by rw [hAB']; exact hdn)
        clear hdi ho5 hd5 hdn hxc hAB hAB'
        go_wp2_with fail
        rw [← hw6]
        go_roundw
        case rel => exact ⟨_, _, hrg6, HDN, HO6⟩
        case measure => rw [hrg6.left_eq, hrg.left_eq]; exact hlt
  · have hb0 : (er != 0) = true := by simpa using h0
    have HO : Hid (OpIs w' S q d.syncdir (.returned (.int .i64 er)) w2) := Lib.hid (by
      rw [show d.syncdir = (er, d.next) by
        unfold Dk.syncdir
        rw [HE.out, if_pos h0]]
      exact OpIs.next HO2.out H2.out er)
    clear h0
    go_wp2_with fail
    go_ret
    exact HO.out
end Go.Proofs.YtlgcoaeddeiegaaGreat
/- partlog: right; a step of the log's last segment: Sync. -/
namespace Go.Proofs.YtlgcoaeddeiegaaGreat
open Go Go.RowKit
attribute [local go_sem] Oper.semAt_some

def rightT (roll step : Int) : Bool := decide (1 ≤ roll) && decide (roll ≤ 16711680) && decide (1 ≤ step) && decide (step ≤ 16777216)
set_option maxRecDepth 100000 in
set_option maxHeartbeats 2000000 in
theorem logRight_b {log : ByteArray} (hl : log.size ≤ 8) (hlog : loggedB log.data.toList = true) (roll step : Int) (w : World) :
    Calls Tryz.prog 60 #[.string log, .agg #[.int .i64 roll, .int .i64 step]] w fun e w' => e = .returned (.bool (rightT roll step)) ∧ Below w.heap.size w w' := by
  obtain ⟨w1, hw1⟩ : ∃ W : World, W = w.alloc (.cells #[.int .i64 roll, .int .i64 step] 23) := ⟨_, rfl⟩
  obtain ⟨b, hb⟩ : ∃ b, b = w.heap.size := ⟨_, rfl⟩
  have g1 : w1.heap[b]? = some (.cells #[.int .i64 roll, .int .i64 step] 23 (0, 0)) := by rw [hw1, hb]; exact alloc_cells _ _ _
  have hb1 : Below w.heap.size w w1 := by rw [hw1]; exact (Below.refl _ _).alloc (Nat.le_refl _) _
  have HN := Lib.hid (name_ok log 0 w1 hl hlog (by omega))
  have H1 := Lib.hid (And.intro g1 hb1)
  obtain ⟨nm, hnm⟩ : ∃ nm : ByteArray, nm = ⟨(log.data.toList ++ 45 :: hex 14 0).toArray⟩ := ⟨_, rfl⟩
  rw [← hnm] at HN
  clear g1 hb1 hnm
  go_enter Tryz.func60, Tryz.ntmps60
  go_upto_region 1 with fail
  rw [← hw1, ← hb]
  clear hw1 hb
  go_wp2_with fail
  refine HN.out.mono ?_
  rintro e w2 ⟨rfl, hb2⟩
  have g2 := (hb2.block b (Array.getElem?_eq_some_iff.1 H1.out.1).1).trans H1.out.1
  have k0 : w2.cell? ⟨b, 0, none⟩ = some (.int .i64 roll) := cell_of g2 rfl
  have k1 : w2.cell? ⟨b, 1, none⟩ = some (.int .i64 step) := cell_of g2 rfl
  have H2 := Lib.hid (H1.out.2.trans (hb2.mono H1.out.2.size))
  obtain ⟨z1, h1⟩ : ∃ z, decide (1 ≤ roll) = z := ⟨_, rfl⟩
  obtain ⟨z2, h2⟩ : ∃ z, decide (roll ≤ 16711680) = z := ⟨_, rfl⟩
  obtain ⟨z3, h3⟩ : ∃ z, decide (1 ≤ step) = z := ⟨_, rfl⟩
  obtain ⟨z4, h4⟩ : ∃ z, decide (step ≤ 16777216) = z := ⟨_, rfl⟩
  have HZ : Hid (rightT roll step = (z1 && z2 && z3 && z4)) := Lib.hid (by unfold rightT; rw [h1, h2, h3, h4])
  clear g2 hb2 HN
  cases z1
  · clear h2 h3 h4
    go_wp2_with fail
    go_ret
    exact ⟨by rw [HZ.out]; rfl, H2.out⟩
  cases z2
  · clear h3 h4
    go_wp2_with fail
    go_ret
    exact ⟨by rw [HZ.out]; rfl, H2.out⟩
  cases z3
  · clear h4
    go_wp2_with fail
    go_ret
    exact ⟨by rw [HZ.out]; rfl, H2.out⟩
  cases z4
  · go_wp2_with fail
    go_ret
    exact ⟨by rw [HZ.out]; rfl, H2.out⟩
  · go_wp2_with fail
    go_ret
    exact ⟨by rw [HZ.out]; rfl, H2.out⟩
end Go.Proofs.YtlgcoaeddeiegaaGreat
