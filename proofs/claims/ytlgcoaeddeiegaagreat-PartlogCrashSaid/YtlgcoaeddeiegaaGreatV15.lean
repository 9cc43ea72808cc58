/- The texts Zc, Er, Es, Et, Eu, Ev, Ff, Fg, Fh, Fi, Pv, Str, Px, Py, Pt, Xb, Xd in one. -/
import Derived.Test.YtlgcoaeddeiegaaGreatV14
import Derived.Test.YtlgcoaeddeiegaaGreatV12
import Derived.Test.YtlgcoaeddeiegaaGreatV7
import Derived.Test.YtlgcoaeddeiegaaGreatV13
import Derived.Test.YtlgcoaeddeiegaaGreatV5
import Derived.Test.YtlgcoaeddeiegaaGreatV2
import Derived.RangeFuncCalls
import Derived.RangeFuncLeaves
import Derived.RangeFuncFrom
import Derived.Shelf.Abstract
import Derived.Shelf.RegionOpen
import Derived.OwnWalkIn
import Derived.TacticsInMore
import Derived.LoopNIn
import Derived.LoopIn
import Derived.Test.YtlgcoaeddeiegaaGreatV8
/- segment: Open. -/
namespace Go.Proofs.YtlgcoaeddeiegaaGreat
open Go Go.RowKit
attribute [local go_sem] Oper.semAt_some

theorem Chain.take {bn : Nat} {L : List Bat} (h : Chain bn L) (j : Nat) : Chain bn (L.take j) := by
  refine ⟨fun i hi => ?_, fun b hb => h.good b (List.mem_of_mem_take hb)⟩
  rw [List.length_take] at hi
  rw [List.getElem_take, List.take_take, Nat.min_eq_left (by omega)]
  exact h.base i (by omega)
theorem Chain.snocT {bn : Nat} {L : List Bat} (h : Chain bn L) {j : Nat} (hj : j < L.length) : L.take j ++ [(((bn + cntT (L.take j) : Nat) : Int), L[j].2)] = L.take (j + 1) := by
  rw [List.take_succ_eq_append_getElem hj, ← h.base j hj]
def OpenJ (w1 : World) (b11 x step bn : Nat) (L : List Bat) (j : Nat) (W : World) : Prop :=
  ∃ sv sp, W.heap[b11]? = some (.cells #[.pointer (some ⟨x, 0, none⟩)] 246 (0, 0)) ∧ IdxI W x step sv sp ∧ SpotsOk bn (L.take j) sp ∧ (∀ k, sv.ownBlock = some k → w1.heap.size ≤ k) ∧ Only (fun k => k = x) w1 W
set_option maxRecDepth 100000 in
set_option maxHeartbeats 1000000 in
theorem tellA_b {w1 W : World} {b11 x step bn j : Nat} {L : List Bat} (hch : Chain bn L) (hbl : (batsT L).length ≤ 16777216) (hst : 1 ≤ step) (hj : j < L.length) (hx : x < w1.heap.size) (hJ : OpenJ w1 b11 x step bn L j W) (hbx : b11 ≠ x) (hb11 : b11 < w1.heap.size) :
    Calls Tryz.prog 142 #[.int .i64 (posT L j : Int), .int .i64 L[j].1, .pointer (some ⟨b11, 0, none⟩)] W fun e W' => (∃ v, e = .returned v) ∧ OpenJ w1 b11 x step bn L (j + 1) W' ∧ W.heap.size ≤ W'.heap.size ∧ TypeKept 48 W W' ∧ TypeKept 5 W W' := by
  obtain ⟨sv, sp, h1, h2, h3, h4, h5⟩ := hJ
  have hct := hch.take j
  have hb := hch.base j hj
  have hg := hch.good _ (List.getElem_mem hj)
  have hpj : posT (L.take j) (L.take j).length = posT L j := by rw [posT_all]; rfl
  have hpl : (batsT (L.take j)).length ≤ 16777216 := by
    have h := bats_split L j
    have h2 : (batsT L).length = (batsT (L.take j)).length + (batsT (L.drop j)).length := by rw [h, List.length_append]
    omega
  have hhi : bn + cntT (L.take j) ≤ 9007199254740992 := by
    have h1 := hg.high
    have h2 := hg.pos.1
    rw [hb] at h1
    omega
  have hfew : sp.length ≤ 1000000 := by
    have h1 := h3.len
    have h2 := bats_many _ hct.good
    omega
  have had := idxAdd_b h2 (spMay_next hct h3 hhi hpl) hfew hst
  have hsn := SpotsOk.snoc (step := step) (l := L[j].2) hct h3
  rw [hch.snocT hj] at hsn
  rw [hpj] at had hsn
  dsimp only at had
  rw [← hb] at had
  obtain ⟨bs, hbs⟩ : ∃ b : Int, b = L[j].1 := ⟨_, rfl⟩
  obtain ⟨p, hp⟩ : ∃ p : Nat, p = posT L j := ⟨_, rfl⟩
  have HS := Lib.hid hsn
  have c11 : W.cell? ⟨b11, 0, none⟩ = some (.pointer (some ⟨x, 0, none⟩)) := cell_of h1 rfl
  have HAD := Lib.hid had
  have H := Lib.hid (And.intro h1 (And.intro h2 (And.intro h4 h5)))
  rw [← hbs, ← hp] at *
  clear h1 h2 h3 h4 h5 hct hb hg hpj hpl hhi hfew had hsn
  go_enter Tryz.func142, Tryz.ntmps142
  go_wp2_with fail
  refine HAD.out.mono ?_
  rintro e W' ⟨sv', rfl, hi', ho', hov'⟩
  have HI := Lib.hid (And.intro hi' (And.intro ho' hov'))
  clear hi' ho' hov' HAD
  go_wp2_with fail
  go_end0
  have hrow := H.out.2.1.row
  have keep : ∀ (T : TypeId), 262 ≠ T → 311 ≠ T → TypeKept T W W' := fun T h1 h2 k cs fr hk => HI.out.2.1.block k (Array.getElem?_eq_some_iff.1 hk).1 (fun e => by
    rcases e with e | e
    · subst e
      rw [H.out.2.1.head] at hk
      simp only [Option.some.injEq, Obj.cells.injEq] at hk
      exact h2 hk.2.1
    · exact hrow.notX hk h1 e)
  refine ⟨⟨_, rfl⟩, ⟨sv', _, ?_, HI.out.1, HS.out, fun k hk => ?_, ?_⟩, HI.out.2.1.size, keep _ (by decide) (by decide), keep _ (by decide) (by decide)⟩
  · refine (HI.out.2.1.block b11 (Array.getElem?_eq_some_iff.1 H.out.1).1 (fun e => ?_)).trans H.out.1
    rcases e with e | e
    · exact hbx e
    · have := H.out.2.2.1 b11 e; omega
  · rcases HI.out.2.2 k hk with e | e
    · exact H.out.2.2.1 k e
    · exact Nat.le_trans H.out.2.2.2.size e
  · exact H.out.2.2.2.trans HI.out.2.1 (fun k hk e => by
      rcases e with e | e
      · exact e
      · have := H.out.2.2.1 k e; omega)
end Go.Proofs.YtlgcoaeddeiegaaGreat
/- Disk: are fates such as may be. -/
namespace Go.Proofs.YtlgcoaeddeiegaaGreat
open Go Go.Maps Go.RowKit

def badFate (x : Int × Int) : Bool := decide (x.1 < 0) || decide (2 < x.1)
set_option maxRecDepth 100000 in
set_option maxHeartbeats 400000 in
theorem badFate_b (k n : Int) (w : World) : Calls Tryz.prog 129 #[.agg #[.int .i64 k, .int .i64 n]] w fun e w' => e = .returned (.bool (badFate (k, n))) ∧ Below w.heap.size w w' := by
  go_enter Tryz.func129, Tryz.ntmps129
  go_upto_region 1 with fail
  obtain ⟨w1, hw1⟩ : ∃ w1 : World, w1 = w.alloc (.cells #[.int .i64 k, .int .i64 n] 98) := ⟨_, rfl⟩
  obtain ⟨r, hr⟩ : ∃ r, r = w.heap.size := ⟨_, rfl⟩
  have hr1 : w1.heap[r]? = some (.cells #[.int .i64 k, .int .i64 n] 98 (0, 0)) := by rw [hw1, hr]; exact alloc_cells _ _ _
  have HB : Hid (Below w.heap.size w w1) := Lib.hid (by rw [hw1]; exact (Below.refl _ _).alloc (Nat.le_refl _) _)
  rw [← hr, ← hw1]
  clear hw1 hr
  have c0 : w1.cell? ⟨r, 0, none⟩ = some (.int .i64 k) := cell_of hr1 rfl
  by_cases h1 : k < 0
  · have d1 : decide (k < 0) = true := by simpa using h1
    have HV : Hid (badFate (k, n) = true) := Lib.hid (by simp [badFate, h1])
    clear h1
    go_wp2_with fail
    go_ret
    exact ⟨by rw [HV.out]; rfl, HB.out⟩
  · have d1 : decide (k < 0) = false := by simpa using h1
    have HV : Hid (badFate (k, n) = decide (2 < k)) := Lib.hid (by simp [badFate]; omega)
    clear h1
    go_wp2_with fail
    go_ret
    exact ⟨by rw [HV.out]; rfl, HB.out⟩
theorem fate_cells (l : List (Int × Int)) (k : Nat) (h : k < l.length) : (fateCells l)[2 * k]? = some (.int .i64 l[k].1) ∧ (fateCells l)[2 * k + 1]? = some (.int .i64 l[k].2) := by
  induction l generalizing k with
  | nil => simp at h
  | cons x r ih =>
    cases k with
    | zero => exact ⟨rfl, rfl⟩
    | succ k =>
      have := ih k (by simpa using h)
      rw [fateCells_cons, show 2 * (k + 1) = 2 * k + 1 + 1 by omega]
      simpa using this
set_option maxRecDepth 100000 in
set_option maxHeartbeats 400000 in
theorem indexFate_b {w : World} {oa : Option Addr} {n c : Nat} {l : List (Int × Int)} (hn : l.length = n) (h : readAt w 2 (.slice oa n c) n (fateCells l)) (hm : n ≤ 1000000000) :
    Calls Tryz.prog 179 #[.slice oa n c, .func (.func 129) #[] #[]] w fun e w' => ∃ i : Int, e = .returned (.int .i64 i) ∧ (l.any badFate = false → i = -1) ∧ (l.any badFate = true → 0 ≤ i) ∧ Below w.heap.size w w' := by
  have H := Lib.hid h
  clear h
  go_enter Tryz.func179, Tryz.ntmps179
  go_wp2_with fail
  go_loopw [8] (fun i wr => ∃ k : Nat, k ≤ n ∧ i = .int .i64 k ∧ (l.take k).any badFate = false ∧ Below w.heap.size w wr) (fun i _ => n - (intOf i).toNat)
  case atStart => exact ⟨0, Nat.zero_le _, rfl, by simp, Below.refl _ _⟩
  case round =>
    obtain ⟨k, hk, rfl, hge, hbr⟩ := hrel
    by_cases hlt : k < n
    · obtain ⟨g, off, rfl⟩ := H.out.addr (by omega)
      obtain ⟨x, hx⟩ : ∃ x, l[k]'(by omega) = x := ⟨_, rfl⟩
      have hfc := fate_cells l k (by omega)
      rw [hx] at hfc
      have hgl := H.out.lt (by omega) g rfl
      have hc0 : wr.cell? ⟨g, off + k * 2, none⟩ = some (.int .i64 x.1) := by
        have h1 := H.out.cells (g := g) (off := off) rfl (2 * k) _ hfc.1
        rw [Go.WideShapes.add_plain, Nat.mul_comm] at h1
        rw [← h1]
        exact cell_kept_at (hbr.block g hgl)
      have hc1 : wr.cell? ⟨g, off + k * 2 + 1, none⟩ = some (.int .i64 x.2) := by
        have h1 := H.out.cells (g := g) (off := off) rfl (2 * k + 1) _ hfc.2
        rw [Go.WideShapes.add_plain, Nat.mul_comm, ← Nat.add_assoc] at h1
        rw [← h1]
        exact cell_kept_at (hbr.block g hgl)
      have HX : Hid (badFate x = false → (l.take (k + 1)).any badFate = false) := Lib.hid fun h0 => by
        rw [List.take_succ_eq_append_getElem (by omega), List.any_append, hge, hx]
        simp [h0]
      have HY : Hid (badFate x = true → l.any badFate = true) := Lib.hid fun h0 => List.any_eq_true.2 ⟨x, by rw [← hx]; exact List.getElem_mem _, h0⟩
      have HBR := Lib.hid hbr
      obtain ⟨x1, x2⟩ := x
      clear hge hx hfc hbr hgl
      go_wp2_with (go_at_call 129; refine (badFate_b x1 x2 _).mono ?_; rintro e w' ⟨rfl, hb'⟩; have HB' := Lib.hid hb'; clear hb')
      · go_ret
        exact ⟨_, rfl, fun ha => (by rw [HY.out (by assumption)] at ha; cases ha), fun _ => by omega, HBR.out.trans (HB'.out.mono HBR.out.size)⟩
      · exact ⟨⟨k + 1, by omega, by simp, HX.out (by assumption), HBR.out.trans (HB'.out.mono HBR.out.size)⟩, by simp [intOf]; omega⟩
    · obtain rfl : k = n := by omega
      have HA : Hid (l.any badFate = false) := Lib.hid (by rwa [List.take_of_length_le (by omega)] at hge)
      have HBR := Lib.hid hbr
      clear hge hbr
      go_wp2_with fail
      go_ret
      exact ⟨_, rfl, fun _ => rfl, fun h => (by rw [HA.out] at h; cases h), HBR.out⟩
end Go.Proofs.YtlgcoaeddeiegaaGreat
/- Disk: are all fates right; a copy of fates. -/
namespace Go.Proofs.YtlgcoaeddeiegaaGreat
open Go Go.Maps Go.RowKit

set_option maxHeartbeats 400000 in
theorem containsFate_b {w : World} {oa : Option Addr} {n c : Nat} {l : List (Int × Int)} (hn : l.length = n) (h : readAt w 2 (.slice oa n c) n (fateCells l)) (hm : n ≤ 1000000000) :
    Calls Tryz.prog 128 #[.slice oa n c, .func (.func 129) #[] #[]] w fun e w' => e = .returned (.bool (l.any badFate)) ∧ Below w.heap.size w w' := by
  go_enter Tryz.func128, Tryz.ntmps128
  go_wp2_with fail
  refine (indexFate_b hn h hm).mono ?_
  rintro e w1 ⟨i, rfl, h1, h2, hb⟩
  have hd : decide ((0 : Int) ≤ i) = l.any badFate := by
    cases hb : l.any badFate with
    | false =>
      have := h1 hb
      simp
      omega
    | true =>
      have := h2 hb
      simpa using this
  have HB := Lib.hid hb
  have HD := Lib.hid hd
  clear h h1 h2 hb hd
  go_wp2_with fail
  go_ret
  exact ⟨by rw [← HD.out]; rfl, HB.out⟩
set_option maxHeartbeats 400000 in
theorem right_b {w : World} {oa : Option Addr} {n c : Nat} {l : List (Int × Int)} (hn : l.length = n) (h : readAt w 2 (.slice oa n c) n (fateCells l)) (hm : n ≤ 1000000000) :
    Calls Tryz.prog 58 #[.slice oa n c] w fun e w' => e = .returned (.bool (!l.any badFate)) ∧ Below w.heap.size w w' := by
  go_enter Tryz.func58, Tryz.ntmps58
  go_wp2_with fail
  refine (containsFate_b hn h hm).mono ?_
  rintro e w1 ⟨rfl, hb⟩
  obtain ⟨b, hbb⟩ : ∃ b, l.any badFate = b := ⟨_, rfl⟩
  rw [hbb]
  have HB := Lib.hid hb
  have HBB := Lib.hid hbb
  clear h hb hbb
  go_wp2_with fail
  go_ret
  exact ⟨by rw [HBB.out]; rfl, HB.out⟩
theorem info_fate : (Tryz.prog.info? 98).map (fun i => (i.zero, i.size, i.bytes)) = some (some (.agg #[.int .i64 0, .int .i64 0]), 2, 16) := by kernel_rfl
theorem fateCells_one (l : List (Int × Int)) : ∀ v ∈ fateCells l, v.oneCell' = true := by
  intro v hv
  obtain ⟨x, _, hx⟩ := List.mem_flatMap.1 hv
  simp only [List.mem_cons, List.not_mem_nil, or_false] at hx
  rcases hx with rfl | rfl <;> rfl
theorem emptyRowF (w : World) (T : TypeId) (size : Nat) : hasRow (w.alloc (.cells #[] T)) w.heap.size T size (.slice (some ⟨w.heap.size, 0, none⟩) 0 0) 0 [] :=
  ⟨by simp, .inr ⟨_, 0, #[], (0, 0), rfl, Nat.le_refl _, heap_alloc_new _ _, Nat.le_refl _, Nat.zero_le _, by simp, fun j hj => by simp at hj, by simp⟩⟩
set_option maxRecDepth 100000 in
set_option maxHeartbeats 400000 in
theorem cloneFate_b {w : World} {oa : Option Addr} {n c : Nat} {l : List (Int × Int)} (hn : l.length = n) (h : readAt w 2 (.slice oa n c) n (fateCells l)) (hm : n ≤ 1000000000) :
    Calls Tryz.prog 59 #[.slice oa n c] w fun e w' => ∃ v, e = .returned v ∧ rowAt w' 98 2 v n (fateCells l) ∧ (∀ k, v.ownBlock = some k → w.heap.size ≤ k) ∧ Below w.heap.size w w' := by
  cases oa with
  | none =>
    rcases h.2 with ⟨h0, _, _, hv, hc0⟩ | ⟨g, off, c, hv, _⟩
    · simp only [Value.slice.injEq] at hv
      obtain ⟨rfl, -, rfl⟩ := hv
      obtain rfl := hc0 rfl
      subst h0
      have H := Lib.hid h
      refine (cloneFate_nil w).mono ?_
      rintro e w' ⟨rfl, rfl⟩
      exact ⟨_, rfl, ⟨H.out.1, .inl ⟨rfl, rfl⟩⟩, fun k hk => by simp [Value.ownBlock] at hk, Below.refl _ _⟩
    · simp at hv
  | some ad =>
    have hnil : ∀ W : World, (binOp .eql 37 (.slice (some ad) n c) (.slice none 0 0)).run Tryz.prog W = .ok (.bool false) W := fun W => by kernel_rfl
    have HS : Hid (Src Tryz.prog (w.alloc (.cells #[] 98)) 2 37 (.slice (some ad) n c) n (fateCells l)) := Lib.hid (Src.of_read Tryz.underlying37 (h.kept (fun k hl _ _ => Below.heap_alloc _ _ k hl)) (fateCells_one _))
    clear h
    go_enter Tryz.func59, Tryz.ntmps59
    go_wp2_with (at_builtin; refine wpList_append_at _ rfl (.tmp 5) (.tmp 6) 37 37 rfl 98 (.agg #[.int .i64 0, .int .i64 0]) 2 16 Tryz.underlying37 info_fate rfl _ 0 _ rfl (rowAt.of_row (emptyRowF w _ _)) _ n _ rfl HS.out (by unfold maxLen; omega) (by omega) ?_; intro v' w3 hr hg hown _; have HR := Lib.hid hr; have HG : Hid ((w.alloc (.cells #[] 98)).grownBy w3 (some w.heap.size)) := Lib.hid hg; have HOWN : Hid (v'.ownBlock = some w.heap.size ∨ v'.ownBlock = some (w.alloc (.cells #[] 98)).heap.size) := Lib.hid hown; clear hr hg hown)
    go_ret
    refine ⟨v', rfl, ?_, fun k hk => ?_, ?_⟩
    · have := HR.out
      rw [Nat.zero_add, List.nil_append] at this
      exact this
    · have h1 := HOWN.out
      rw [hk] at h1
      simp at h1
      omega
    · exact ((Below.refl _ _).alloc (Nat.le_refl _) _).grown HG.out (by simp) (fun k hk => by simp at hk; omega)
end Go.Proofs.YtlgcoaeddeiegaaGreat
/- Disk: New, with any fates. -/
namespace Go.Proofs.YtlgcoaeddeiegaaGreat
open Go Go.Maps Go.RowKit

theorem disk_newF {w w2 w3 : World} {v : Value} {l : List (Int × Int)} (hw2 : w2 = w.alloc (.map #[] 0)) (hb : Below w2.heap.size w2 w3) (hr : rowAt w3 98 2 v l.length (fateCells l)) (hv : ∀ k, v.ownBlock = some k → w2.heap.size ≤ k) :
    DiskIs (w3.alloc (.cells #[.map (some w.heap.size), v, .int .i64 0] 120)) (fun k => w.heap.size ≤ k ∧ k < w3.heap.size + 1) w3.heap.size w.heap.size v [] ⟨[], l, 0⟩ := by
  have hs2 : w2.heap.size = w.heap.size + 1 := by rw [hw2]; simp
  have hs3 := hb.size
  have hm2 : w2.ownsMap Tryz.prog 9 ptrElem w.heap.size 0 (.map []) := by rw [hw2]; exact World.ownsMap_made w Tryz.prog 9 ptrElem
  have hm3 := ownsMap_kept hm2 (hb.block w.heap.size (by omega))
  have hvb : ∀ k, v.ownBlock = some k → w.heap.size + 1 ≤ k ∧ k < w3.heap.size := fun k hk => ⟨by have := hv k hk; omega, hr.lt k hk⟩
  exact {
    files := rfl
    head := alloc_cells _ _ _
    fates := hr.kept (fun k hk => Below.heap_alloc _ _ k (hr.lt k hk))
    map := ⟨_, hm3.alloc _, Dic.empty⟩
    each := fun x hx => (by cases hx)
    apart := by
      cases ho : v.ownBlock with
      | none =>
        simp [diskBlocks, ho]
        omega
      | some k =>
        have := hvb k ho
        simp [diskBlocks, ho]
        omega
    foot := fun k hk => by
      simp only [diskBlocks, List.mem_cons, List.flatMap_nil, List.append_nil, Option.mem_toList] at hk
      rcases hk with rfl | rfl | hk
      · omega
      · omega
      · have := hvb k hk
        omega
    low := fun k hk => by simp; omega
    sorted := by simp
    names := fun f hf => by simp at hf
    few := by simp }
set_option maxHeartbeats 400000 in
theorem newF_b {w : World} {oa : Option Addr} {n c : Nat} {l : List (Int × Int)} (hn : l.length = n) (h : readAt w 2 (.slice oa n c) n (fateCells l)) (hm : n ≤ 1000000000) (hok : l.any badFate = false) :
    Calls Tryz.prog 14 #[.slice oa n c] w fun e w' => ∃ q, e = .returned (.tuple #[.pointer (some ⟨q, 0, none⟩), .int .i64 0]) ∧ DiskAt w' (fun k => w.heap.size ≤ k ∧ k < w'.heap.size) q ⟨[], l, 0⟩ ∧ Below w.heap.size w w' := by
  have hmm := @run_makeMap Tryz.prog
  go_enter Tryz.func14, Tryz.ntmps14
  go_wp2_with fail
  refine (right_b hn h hm).mono ?_
  rintro e w1 ⟨rfl, hb1⟩
  rw [hok]
  have H1 := Lib.hid (h.kept (fun k hl _ _ => hb1.block k hl))
  have HB1 := Lib.hid hb1
  clear h hb1
  go_upto_region 3 with fail
  go_wp2_with fail
  have hbm : Below w1.heap.size w1 (w1.alloc (.map #[] 0)) := (Below.refl _ _).alloc (Nat.le_refl _) _
  refine (cloneFate_b hn (H1.out.kept (fun k hl _ _ => hbm.block k hl)) hm).mono ?_
  rintro e w3 ⟨v, rfl, hr3, hv3, hb3⟩
  obtain ⟨oav, cv, rfl, _⟩ := hr3.shape
  subst hn
  have hdn := disk_newF rfl hb3 hr3 hv3
  have hs3 := hb3.size
  have HD := Lib.hid hdn
  have HB3 := Lib.hid (And.intro hb3 (And.intro hbm hs3))
  clear hr3 hv3 hb3 hbm hdn hs3
  go_wp2_with fail
  go_ret2
  have h1 := HB1.out.size
  have h3 := HB3.out.2.2
  simp at h3
  refine ⟨_, rfl, ⟨_, _, _, HD.out.wider (fun k hk => ⟨by omega, by simp; omega⟩) (fun k hk => hk.2)⟩, ?_⟩
  exact (HB1.out.trans ((HB3.out.2.1.trans (HB3.out.1.mono HB3.out.2.1.size)).mono h1)).alloc (by omega) _
end Go.Proofs.YtlgcoaeddeiegaaGreat
/- Disk: the fates are written. -/
namespace Go.Proofs.YtlgcoaeddeiegaaGreat
open Go Go.Maps Go.RowKit

section
variable {w : World} {S : Nat → Prop} {q mb : Nat} {fv : Value} {L : List Fl} {d : Dk}
end
end Go.Proofs.YtlgcoaeddeiegaaGreat
/- Disk: Feed. -/
namespace Go.Proofs.YtlgcoaeddeiegaaGreat
open Go Go.Maps Go.RowKit

end Go.Proofs.YtlgcoaeddeiegaaGreat
/- Disk: rows that are written; the names of files that are there: looked through. -/
namespace Go.Proofs.YtlgcoaeddeiegaaGreat
open Go Go.Maps Go.RowKit
open Go.Proofs (encStr)

section
variable {w : World} {e : TypeId} {n cap g off : Nat} {xs : List Value}
theorem rowAt.parts (h : rowAt w e 1 (.slice (some ⟨g, off, none⟩) n cap) n xs) : ∃ cur fr, w.heap[g]? = some (.cells cur e fr) ∧ n ≤ cap ∧ cap ≤ maxLen ∧ off + cap ≤ cur.size ∧ freeRow fr cur.size ∧ (cur.toList.drop off).take n = xs := by
  rcases h.2 with ⟨hv, _⟩ | ⟨g', o', c', cur, fr, hv, hg, hn, hm, hs, hf, ht⟩
  · cases hv
  · simp only [Value.slice.injEq, Option.some.injEq, Addr.mk.injEq] at hv
    obtain ⟨⟨rfl, rfl, -⟩, -, rfl⟩ := hv
    exact ⟨cur, fr, hg, hn, hm, by simpa using hs, hf, by simpa using ht⟩
theorem rowAt.mk' {cur : Array Value} {fr : Nat × Nat} (hg : w.heap[g]? = some (.cells cur e fr)) (hn : n ≤ cap) (hm : cap ≤ maxLen) (hs : off + cap ≤ cur.size) (hf : freeRow fr cur.size) (ht : (cur.toList.drop off).take n = xs) : rowAt w e 1 (.slice (some ⟨g, off, none⟩) n cap) n xs := by
  refine ⟨?_, .inr ⟨g, off, cap, cur, fr, rfl, hg, hn, hm, by simpa using hs, hf, by simpa using ht⟩⟩
  rw [← ht, List.length_take, List.length_drop, Array.length_toList]
  omega
theorem rowAt.free (h : rowAt w e 1 (.slice (some ⟨g, off, none⟩) n cap) n xs) {i : Nat} (hi : i < n) : w.frozen? ⟨g, off + i, none⟩ = false := by
  obtain ⟨cur, fr, hg, hn, _, hs, hf, _⟩ := h.parts
  simp only [World.frozen?, hg]
  exact hf _ (by omega)
theorem rowAt.cell1 (h : rowAt w e 1 (.slice (some ⟨g, off, none⟩) n cap) n xs) {i : Nat} {u : Value} (hu : xs[i]? = some u) : w.cell? ⟨g, off + i, none⟩ = some u := by
  have := h.cells (g := g) (off := off) rfl i u hu
  simpa [Go.WideShapes.add_plain] using this
theorem rowAt.set (h : rowAt w e 1 (.slice (some ⟨g, off, none⟩) n cap) n xs) {i : Nat} (u : Value) : rowAt (w.setCell ⟨g, off + i, none⟩ u) e 1 (.slice (some ⟨g, off, none⟩) n cap) n (xs.set i u) := by
  obtain ⟨cur, fr, hg, hn, hm, hs, hf, ht⟩ := h.parts
  refine rowAt.mk' (heap_setCell_here u hg) hn hm (by simpa using hs) (by simpa using hf) ?_
  rw [Array.toList_setIfInBounds, ← ht, List.drop_set, if_neg (by omega), ← List.take_set]
  congr 2
  omega
theorem rowAt.short (h : rowAt w e 1 (.slice (some ⟨g, off, none⟩) n cap) n xs) {i : Nat} (hi : i ≤ n) : rowAt w e 1 (.slice (some ⟨g, off, none⟩) i cap) i (xs.take i) := by
  obtain ⟨cur, fr, hg, hn, hm, hs, hf, ht⟩ := h.parts
  refine rowAt.mk' hg (by omega) hm hs hf ?_
  rw [← ht, List.take_take]
  congr 1
  omega
end
theorem zeroString (W : World) : (zeroValue 9).run Tryz.prog W = .ok (.string ⟨#[]⟩) W := by kernel_rfl
theorem run_clear_at {w : World} {n cap g off : Nat} {xs : List Value} (h : rowAt w 9 1 (.slice (some ⟨g, off, none⟩) n cap) n xs) {i : Nat} (hi : i ≤ n) :
    ∃ w', (Builtin.clear_ #[43] 0 #[.slice (if cap = i then some ⟨g, off, none⟩ else some ⟨g, off + i, none⟩) (n - i) (cap - i)]).run Tryz.prog w = .ok (.tuple #[]) w' ∧
      rowAt w' 9 1 (.slice (some ⟨g, off, none⟩) i cap) i (xs.take i) ∧ w.grownBy w' (some g) := by
  obtain ⟨cur, fr, hg, hn, hm, hs, hf, ht⟩ := h.parts
  by_cases hin : n = i
  · subst hin
    refine ⟨w, ?_, h.short (Nat.le_refl _), World.grownBy.refl _ _⟩
    rw [Nat.sub_self]
    split <;> simp [Builtin.clear_, run_underlying Tryz.underlying43]
  · have hne : ¬ cap = i := by omega
    rw [if_neg hne]
    obtain ⟨m, hmm⟩ : ∃ m, n - i = m + 1 := ⟨n - i - 1, by omega⟩
    rw [hmm]
    have hz := zeroString
    have hfit : off + i + (List.replicate (m + 1) (Value.string ⟨#[]⟩)).length ≤ cur.size := by rw [List.length_replicate]; omega
    have hst := run_storeCells_fr Tryz.prog g (off + i) 9 fr (List.replicate (m + 1) (Value.string ⟨#[]⟩)) 0 cur w hg hf (by simpa using hfit) (fun v hv => by rw [List.eq_of_mem_replicate hv]; rfl)
    simp only [Nat.add_zero] at hst
    obtain ⟨C, hC⟩ : ∃ C, C = (cur.toList.take (off + i) ++ List.replicate (m + 1) (Value.string ⟨#[]⟩) ++ cur.toList.drop (off + i + (List.replicate (m + 1) (Value.string ⟨#[]⟩)).length)).toArray := ⟨_, rfl⟩
    rw [← hC] at hst
    have hCs : C.size = cur.size := by
      rw [hC]
      simp only [List.size_toArray, List.length_append, List.length_take, List.length_drop, Array.length_toList]
      omega
    have hzc : (Builtin.zeroCells (Value.string ⟨#[]⟩).cells (m + 1)).toList = List.replicate (m + 1) (Value.string ⟨#[]⟩) := by
      show (Builtin.zeroCells #[Value.string ⟨#[]⟩] (m + 1)).toList = _
      simp only [Builtin.zeroCells]
      apply List.ext_getElem
      · simp
      · intro i h1 h2
        simp [Nat.mod_one]
    refine ⟨w.setRow g C, ?_, rowAt.mk' (setRow_heap w g cur C _ fr hg) (by omega) hm (by rw [hCs]; exact hs) (by rw [hCs]; exact hf) ?_, ⟨rfl, rfl, rfl, by simp, fun k _ hk => setRow_other w g k _ (fun e => hk (by simp [e]))⟩⟩
    · simp [Builtin.clear_, run_underlying Tryz.underlying43, hz, hzc, hst]
    · rw [hC, ← ht]
      simp only [List.append_assoc]
      rw [List.drop_append_of_le_length (by rw [List.length_take, Array.length_toList]; omega), List.take_append_of_le_length (by rw [List.length_drop, List.length_take, Array.length_toList]; omega), List.drop_take, List.take_take, List.take_take]
      congr 1
      omega
set_option maxHeartbeats 400000 in
theorem name1_b {w : World} {S : Nat → Prop} {q mb : Nat} {fv : Value} {L : List Fl} {d : Dk} (h : DiskIs w S q mb fv L d) {x : Fl} (hx : x ∈ L) {b : Nat} (hb : w.cell? ⟨b, 0, none⟩ = some (.pointer (some ⟨q, 0, none⟩))) :
    Calls Tryz.prog 181 #[encStr x.f.name, .pointer (some ⟨b, 0, none⟩)] w fun e w' => e = .returned (.bool (!x.f.there)) ∧ w' = w := by
  obtain ⟨nm, hnm⟩ : ∃ nm : ByteArray, nm = ⟨x.f.name.toArray⟩ := ⟨_, rfl⟩
  have hnmd : nm.data.toList = x.f.name := by rw [hnm]
  have hsz : nm.size ≤ maxLen := by
    have h3 := h.names x.f (by rw [← h.files]; exact List.mem_map_of_mem hx)
    simp only [nameOk, Bool.and_eq_true, decide_eq_true_eq] at h3
    have h4 : nm.size = x.f.name.length := by rw [← hnmd]; exact Array.length_toList.symm
    unfold maxLen
    omega
  have henc : encStr x.f.name = .string nm := by rw [hnm]
  rw [henc]
  have hlk := h.lookup1_some hx hsz hnmd.symm
  have c0 : w.cell? ⟨q, 0, none⟩ = some (.map (some mb)) := cell_of h.head rfl
  obtain ⟨th, hth⟩ : ∃ th, x.f.there = th := ⟨_, rfl⟩
  have c2 : w.cell? ⟨x.blk, 2, none⟩ = some (.bool th) := by rw [← hth]; exact cell_of (h.each x hx).cells rfl
  rw [hth]
  clear h hnm hnmd hsz henc hth
  go_enter Tryz.func181, Tryz.ntmps181
  go_wp2_with fail
  go_ret
  exact ⟨rfl, rfl⟩
end Go.Proofs.YtlgcoaeddeiegaaGreat
/- Disk: Names. -/
namespace Go.Proofs.YtlgcoaeddeiegaaGreat
open Go Go.Maps Go.RowKit
open Go.Proofs (encStr)

def encN (L : List Fl) : List Value := L.map fun x => encStr x.f.name
def AllThere (L : List Fl) : Prop := ∀ x ∈ L, x.f.there = true
theorem AllThere.snoc {L : List Fl} {k : Nat} (h : k < L.length) (ha : AllThere (L.take k)) (hc : L[k].f.there = true) : AllThere (L.take (k + 1)) := by
  intro x hx
  rw [List.take_succ_eq_append_getElem h, List.mem_append, List.mem_singleton] at hx
  rcases hx with hx | rfl
  · exact ha x hx
  · exact hc
set_option maxRecDepth 100000 in
set_option maxHeartbeats 400000 in
theorem indexGone_b {w : World} {S : Nat → Prop} {q mb : Nat} {fv : Value} {L : List Fl} {d : Dk} (h : DiskIs w S q mb fv L d) {b : Nat} (hb : w.cell? ⟨b, 0, none⟩ = some (.pointer (some ⟨q, 0, none⟩)))
    {oa : Option Addr} {n c : Nat} (hn : L.length = n) (hr : rowAt w 9 1 (.slice oa n c) n (encN L)) (hm : n ≤ 1000000000) :
    Calls Tryz.prog 208 #[.slice oa n c, .func (.func 181) #[] #[.pointer (some ⟨b, 0, none⟩)]] w fun e w' => ∃ i : Int, e = .returned (.int .i64 i) ∧ ((i = -1 ∧ AllThere L) ∨ ∃ k : Nat, ∃ h : k < L.length, i = (k : Int) ∧ AllThere (L.take k) ∧ L[k].f.there = false) ∧ w' = w := by
  have H := Lib.hid h
  have HR := Lib.hid hr
  have HB := Lib.hid hb
  clear h hr hb
  go_enter Tryz.func208, Tryz.ntmps208
  go_wp2_with fail
  go_loop [8] (fun i => ∃ k : Nat, k ≤ n ∧ i = .int .i64 k ∧ AllThere (L.take k)) (fun i => n - (intOf i).toNat)
  case atStart => exact ⟨0, Nat.zero_le _, rfl, fun x hx => by simp at hx⟩
  case round =>
    obtain ⟨k, hk, rfl, hge⟩ := hrel
    by_cases hlt : k < n
    · obtain ⟨g, off, rfl⟩ := HR.out.addr (by omega)
      have hkL : k < L.length := by omega
      obtain ⟨x, hx⟩ : ∃ x, L[k] = x := ⟨_, rfl⟩
      have hxm : x ∈ L := by rw [← hx]; exact List.getElem_mem _
      have hcx : w.cell? ⟨g, off + k, none⟩ = some (encStr x.f.name) := HR.out.cell1 (by simp [encN, hkL, hx])
      have HXM := Lib.hid hxm
      obtain ⟨th, hth⟩ : ∃ th, x.f.there = th := ⟨_, rfl⟩
      have HC : Hid (Calls Tryz.prog 181 #[encStr x.f.name, .pointer (some ⟨b, 0, none⟩)] w fun e w' => e = .returned (.bool (!th)) ∧ w' = w) := Lib.hid (by rw [← hth]; exact name1_b H.out hxm HB.out)
      obtain ⟨sv, hsv⟩ : ∃ sv : ByteArray, encStr x.f.name = .string sv := ⟨_, rfl⟩
      rw [hsv] at hcx HC
      cases th
      · have HX : Hid (∃ h : k < L.length, AllThere (L.take k) ∧ L[k].f.there = false) := Lib.hid ⟨hkL, hge, by rw [hx]; exact hth⟩
        clear hge hx hxm hth hsv
        go_wp2_with (go_at_call 181; refine HC.out.mono ?_; rintro e w' ⟨rfl, rfl⟩)
        go_ret
        exact ⟨_, rfl, .inr ⟨k, HX.out.1, rfl, HX.out.2⟩, rfl⟩
      · have HX : Hid (AllThere (L.take (k + 1))) := Lib.hid (AllThere.snoc hkL hge (by rw [hx]; exact hth))
        clear hge hx hxm hth hsv
        go_wp2_with (go_at_call 181; refine HC.out.mono ?_; rintro e w' ⟨rfl, rfl⟩)
        exact ⟨⟨k + 1, by omega, by simp, HX.out⟩, by simp [intOf]; omega⟩
    · obtain rfl : k = n := by omega
      have HA : Hid (AllThere L) := Lib.hid (by rwa [List.take_of_length_le (by omega)] at hge)
      clear hge
      go_wp2_with fail
      go_ret
      exact ⟨_, rfl, .inl ⟨rfl, HA.out⟩, rfl⟩
structure Parted (L : List Fl) (m k : Nat) (xs : List Value) : Prop where
  len : xs.length = L.length
  kept : xs.take k = encN ((L.take m).filter (·.f.there))
  k : k = ((L.take m).filter (·.f.there)).length
  rest : ∀ j, m ≤ j → xs[j]? = (encN L)[j]?
theorem Parted.start {L : List Fl} {k : Nat} (hk : k < L.length) (ha : AllThere (L.take k)) (hc : L[k].f.there = false) : Parted L (k + 1) k (encN L) := by
  have e : (L.take (k + 1)).filter (·.f.there) = L.take k := by
    rw [List.take_succ_eq_append_getElem hk, List.filter_append, List.filter_eq_self.2 (fun x hx => ha x hx)]
    simp [hc]
  exact ⟨by simp [encN], by rw [e]; simp [encN, List.map_take], by rw [e, List.length_take]; omega, fun _ _ => rfl⟩
theorem Parted.skip {L : List Fl} {m k : Nat} {xs : List Value} (h : Parted L m k xs) (hm : m < L.length) (hc : L[m].f.there = false) : Parted L (m + 1) k xs := by
  have e : (L.take (m + 1)).filter (·.f.there) = (L.take m).filter (·.f.there) := by
    rw [List.take_succ_eq_append_getElem hm, List.filter_append]
    simp [hc]
  exact ⟨h.len, by rw [e]; exact h.kept, by rw [e]; exact h.k, fun j hj => h.rest j (by omega)⟩
theorem Parted.lt {L : List Fl} {m k : Nat} {xs : List Value} (h : Parted L m k xs) : k ≤ m := by
  have h1 := h.k
  have h2 := List.length_filter_le (fun x : Fl => x.f.there) (L.take m)
  rw [List.length_take] at h2
  omega
theorem Parted.keep {L : List Fl} {m k : Nat} {xs : List Value} (h : Parted L m k xs) (hm : m < L.length) (hc : L[m].f.there = true) : Parted L (m + 1) (k + 1) (xs.set k (encStr L[m].f.name)) := by
  have e : (L.take (m + 1)).filter (·.f.there) = (L.take m).filter (·.f.there) ++ [L[m]] := by
    rw [List.take_succ_eq_append_getElem hm, List.filter_append]
    simp [hc]
  have hkm := h.lt
  have hkx : k < xs.length := by rw [h.len]; omega
  refine ⟨by simp [h.len], ?_, by rw [e, List.length_append, ← h.k]; rfl, fun j hj => ?_⟩
  · rw [e, List.take_succ_eq_append_getElem (by simpa using hkx)]
    simp only [List.getElem_set_self, List.take_set_of_le (Nat.le_refl k)]
    rw [h.kept]
    simp [encN]
  · rw [List.getElem?_set_ne (by omega)]
    exact h.rest j (by omega)
theorem take_run {oa : Option Addr} {n c : Nat} (i : Nat) (hi : i ≤ c) (h0 : oa.map (fun x => x.add 0) = oa) (W : World) : (Instr.slice 43 (.slice oa n c) none (some (.int .i64 (i : Int))) none).run Tryz.prog W = .ok (.slice oa i c) W := by
  have hs : (sizeOf 9).run Tryz.prog W = .ok 1 W := by kernel_rfl
  have he : Tryz.prog.elem 43 = 9 := by kernel_rfl
  rw [run_slice_h (P := Tryz.prog) (w := W) 43 oa n c (by rw [he]; exact Tryz.underlying43) .i64 i (by omega) (by omega), he, hs]
  simp [Result.andThen, sliced, h0]
theorem drop_run (g off n c i : Nat) (hi : i ≤ n) (W : World) : (Instr.slice 43 (.slice (some ⟨g, off, none⟩) n c) (some (.int .i64 (i : Int))) none none).run Tryz.prog W = .ok (.slice (if c = i then some ⟨g, off, none⟩ else some ⟨g, off + i, none⟩) (n - i) (c - i)) W := by
  have hs : (sizeOf 9).run Tryz.prog W = .ok 1 W := by kernel_rfl
  have he : Tryz.prog.elem 43 = 9 := by kernel_rfl
  rw [run_slice_l (P := Tryz.prog) (w := W) 43 (some ⟨g, off, none⟩) n c (by rw [he]; exact Tryz.underlying43) .i64 i (by omega) (by omega), he, hs]
  simp [Result.andThen, sliced, Go.WideShapes.add_plain]
end Go.Proofs.YtlgcoaeddeiegaaGreat
/- Disk: Names, the walk. -/
namespace Go.Proofs.YtlgcoaeddeiegaaGreat
open Go Go.Maps Go.RowKit
open Go.Proofs (encStr)

theorem encN_take_filter {L : List Fl} {m k : Nat} {xs : List Value} (h : Parted L m k xs) (hm : L.length ≤ m) : xs.take k = encN (L.filter (·.f.there)) ∧ k = (L.filter (·.f.there)).length := by
  have h1 := h.kept
  have h2 := h.k
  rw [List.take_of_length_le hm] at h1 h2
  exact ⟨h1, h2⟩
set_option maxRecDepth 100000 in
set_option maxHeartbeats 1000000 in
theorem deleteGone_b {w : World} {S : Nat → Prop} {q mb : Nat} {fv : Value} {L : List Fl} {d : Dk} (h : DiskIs w S q mb fv L d) {b : Nat} (hb : w.cell? ⟨b, 0, none⟩ = some (.pointer (some ⟨q, 0, none⟩)))
    {v : Value} {n : Nat} (hn : L.length = n) (hr : rowAt w 9 1 v n (encN L)) (hm : n ≤ 1000000000) (hv : ∀ k, v.ownBlock = some k → ¬ S k ∧ k ≠ b) :
    Calls Tryz.prog 180 #[v, .func (.func 181) #[] #[.pointer (some ⟨b, 0, none⟩)]] w fun e w' => ∃ v', e = .returned v' ∧ rowAt w' 9 1 v' (L.filter (·.f.there)).length (encN (L.filter (·.f.there))) ∧ v'.ownBlock = v.ownBlock ∧ w.grownBy w' v.ownBlock := by
  obtain ⟨oa, c, rfl, hnc⟩ := hr.shape
  have H := Lib.hid h
  have HR := Lib.hid hr
  have HB := Lib.hid hb
  have HV := Lib.hid hv
  have HN := Lib.hid hn
  have hbl : b < w.heap.size := World.block_lt_of_cell? w _ hb
  have hm0 := hr.map0.1
  clear h hr hb hv hn
  go_enter Tryz.func180, Tryz.ntmps180
  go_wp2_with fail
  refine (indexGone_b H.out HB.out HN.out HR.out hm).mono ?_
  rintro e w' ⟨i, rfl, hi, rfl⟩
  rcases hi with ⟨rfl, ha⟩ | ⟨k, hk, rfl, ha, hc⟩
  · have e : L.filter (·.f.there) = L := List.filter_eq_self.2 ha
    have HE := Lib.hid e
    clear ha e
    go_wp2_with fail
    go_ret
    exact ⟨_, rfl, by rw [HE.out, HN.out]; exact HR.out, rfl, World.grownBy.refl _ _⟩
  · have hkn : k < n := by rw [← HN.out]; exact hk
    obtain ⟨g, off, rfl⟩ := HR.out.addr (by omega)
    have hgS := HV.out g rfl
    have hgl : g < w'.heap.size := HR.out.lt g rfl
    have HP := Lib.hid (Parted.start hk ha hc)
    have hk1 : ¬ ((k : Int) = -1) := by omega
    have hk2 : (((k : Nat) : Int) == -1) = false := by simp
    clear ha hc hk
    go_wp2_with fail
    go_loopw [5, 6] (fun i j wr => ∃ (m k : Nat) (xs : List Value), i = .int .i64 k ∧ j = .int .i64 m ∧ m ≤ n ∧ k < m ∧ Hid (Parted L m k xs) ∧ Hid (rowAt wr 9 1 (.slice (some ⟨g, off, none⟩) n c) n xs) ∧ Hid (Only (fun x => x = g) w' wr))
      (fun i j wr => n - (intOf j).toNat)
    case atStart => exact ⟨k + 1, k, _, rfl, by simp, by omega, by omega, HP, HR, Lib.hid (Only.refl _ _)⟩
    case round =>
      obtain ⟨m, k', xs, rfl, rfl, hmn, hkm, HPA, HRO, HO⟩ := hrel
      by_cases hlt : m < n
      · have hmL : m < L.length := by rw [HN.out]; exact hlt
        obtain ⟨x, hx⟩ : ∃ x, L[m] = x := ⟨_, rfl⟩
        have hxm : x ∈ L := by rw [← hx]; exact List.getElem_mem _
        have hcx : wr.cell? ⟨g, off + m, none⟩ = some (encStr x.f.name) := HRO.out.cell1 (by rw [HPA.out.rest m (Nat.le_refl _)]; simp [encN, hmL, hx])
        have hkx : k' < xs.length := by rw [HPA.out.len]; omega
        have hck : wr.cell? ⟨g, off + k', none⟩ = some (xs[k']) := HRO.out.cell1 (by simp [hkx])
        have hfk : wr.frozen? ⟨g, off + k', none⟩ = false := HRO.out.free (by omega)
        obtain ⟨th, hth⟩ : ∃ th, x.f.there = th := ⟨_, rfl⟩
        have hdw := H.out.only HO.out (fun j hj he => hgS.1 (he ▸ hj))
        have hbw : wr.cell? ⟨b, 0, none⟩ = some (.pointer (some ⟨q, 0, none⟩)) := by rw [← HB.out]; exact cell_kept_at (HO.out.block b hbl (fun he => hgS.2 he.symm))
        have HC : Hid (Calls Tryz.prog 181 #[encStr x.f.name, .pointer (some ⟨b, 0, none⟩)] wr fun e w' => e = .returned (.bool (!th)) ∧ w' = wr) := Lib.hid (by rw [← hth]; exact name1_b hdw hxm hbw)
        have HXE : Hid (L[m].f.there = th ∧ encStr L[m].f.name = encStr x.f.name) := Lib.hid ⟨by rw [hx]; exact hth, by rw [hx]⟩
        obtain ⟨sv, hsv⟩ : ∃ sv : ByteArray, encStr x.f.name = .string sv := ⟨_, rfl⟩
        rw [hsv] at hcx HC HXE
        clear hx hxm hth hdw hbw hsv
        cases th
        · have HPN := Lib.hid (HPA.out.skip hmL HXE.out.1)
          go_wp2_with (go_at_call 181; refine HC.out.mono ?_; rintro e w' ⟨rfl, rfl⟩)
          exact ⟨⟨m + 1, k', xs, rfl, by simp, by omega, by omega, HPN, HRO, HO⟩, by simp [intOf]; omega⟩
        · have HPN := Lib.hid (HPA.out.keep hmL HXE.out.1)
          have HRN : Hid (rowAt (wr.setCell ⟨g, off + k', none⟩ (.string sv)) 9 1 (.slice (some ⟨g, off, none⟩) n c) n (xs.set k' (encStr L[m].f.name))) := Lib.hid (by rw [HXE.out.2]; exact HRO.out.set _)
          have HON : Hid (Only (fun x => x = g) w' (wr.setCell ⟨g, off + k', none⟩ (.string sv))) := Lib.hid (HO.out.trans (only_setCell (fun x => x = g) _ _ _ _ rfl) (fun _ _ h => h))
          go_wp2_with (go_at_call 181; refine HC.out.mono ?_; rintro e w' ⟨rfl, rfl⟩)
          exact ⟨⟨m + 1, k' + 1, _, by simp, by simp, by omega, by omega, HPN, HRN, HON⟩, by simp [intOf]; omega⟩
      · obtain rfl : m = n := by omega
        obtain ⟨w9, hclr, hr9, hg9⟩ := run_clear_at HRO.out (i := k') (by omega)
        obtain ⟨hx1, hx2⟩ := encN_take_filter HPA.out (by rw [HN.out]; exact Nat.le_refl _)
        have hdrop := fun W => drop_run g off m c k' (by omega) W
        rw [if_neg (show ¬ c = k' by omega)] at hclr
        simp only [if_neg (show ¬ c = k' by omega)] at hdrop
        have htake := fun W => take_run (oa := some ⟨g, off, none⟩) (n := m) (c := c) k' (by omega) rfl W
        have HX : Hid (rowAt w9 9 1 (.slice (some ⟨g, off, none⟩) k' c) k' (encN (L.filter (·.f.there))) ∧ k' = (L.filter (·.f.there)).length) := Lib.hid ⟨by rw [← hx1]; exact hr9, hx2⟩
        have HG9 : Hid (w'.grownBy w9 (some g)) := Lib.hid ((Only.grown HO.out (fun k _ hk => by rw [hk])).andThen hg9 (fun j hj => by cases hj; exact Or.inr rfl))
        clear hx1 hx2 hr9 hg9
        go_wp2_with fail
        go_ret
        exact ⟨_, rfl, by rw [← HX.out.2]; exact HX.out.1, rfl, HG9.out⟩
end Go.Proofs.YtlgcoaeddeiegaaGreat
/- Disk: Names. -/
namespace Go.Proofs.YtlgcoaeddeiegaaGreat
open Go Go.Maps Go.RowKit
open Go.Proofs (encStr)

def Dk.names (d : Dk) : List (List UInt8) := (d.files.filter (·.there)).map (·.name)
theorem encN_names {L : List Fl} {d : Dk} (h : L.map (·.f) = d.files) : encN (L.filter (·.f.there)) = d.names.map encStr ∧ (L.filter (·.f.there)).length = d.names.length := by
  have e : d.names = (L.filter (·.f.there)).map (·.f.name) := by
    unfold Dk.names
    rw [← h, List.filter_map, List.map_map]
    rfl
  rw [e]
  exact ⟨by simp [encN, List.map_map, Function.comp_def], by simp⟩
set_option maxRecDepth 100000 in
set_option maxHeartbeats 1000000 in
theorem Names_b {w : World} {S : Nat → Prop} {q : Nat} {d : Dk} (h : DiskAt w S q d) :
    Calls Tryz.prog 130 #[.pointer (some ⟨q, 0, none⟩)] w fun e w' => ∃ v, e = .returned v ∧ rowAt w' 9 1 v d.names.length (d.names.map encStr) ∧ (∀ k, v.ownBlock = some k → w.heap.size ≤ k) ∧ Below w.heap.size w w' := by
  obtain ⟨mb, fv, L, h⟩ := h
  obtain ⟨hE1, hE2⟩ := encN_names h.files
  have HE := Lib.hid (And.intro hE1 hE2)
  have hlen : L.length ≤ 4096 := by
    have h1 := h.few
    rw [← h.files, List.length_map] at h1
    exact h1
  have HLN := Lib.hid hlen
  clear hE1 hE2 hlen
  go_enter Tryz.func130, Tryz.ntmps130
  go_upto_region 1 with fail
  obtain ⟨w1, hw1⟩ : ∃ w1 : World, w1 = w.alloc (.cells #[.pointer (some ⟨q, 0, none⟩)] 27) := ⟨_, rfl⟩
  obtain ⟨b, hb⟩ : ∃ b, b = w.heap.size := ⟨_, rfl⟩
  have hc1 : w1.heap[b]? = some (.cells #[.pointer (some ⟨q, 0, none⟩)] 27 (0, 0)) := by rw [hw1, hb]; exact alloc_cells _ _ _
  have hb1 : Below w.heap.size w w1 := by rw [hw1]; exact (Below.refl _ _).alloc (Nat.le_refl _) _
  rw [← hb, ← hw1]
  have HB1 := Lib.hid hb1
  have H1 := Lib.hid (h.below hb1)
  have HBB := Lib.hid hb
  clear hw1 hb hb1 h
  have c0 : w1.cell? ⟨b, 0, none⟩ = some (.pointer (some ⟨q, 0, none⟩)) := cell_of hc1 rfl
  have HC1 := Lib.hid hc1
  clear hc1
  go_wp2_with fail
  refine (names_b H1.out).mono ?_
  rintro e w2 ⟨v, rfl, hrow, hnil, hb2⟩
  have hr2 := rowAt.of_row (hasRow.of_own hrow)
  have hlow := (hasRow.of_own hrow).lt
  have hbl : b < w1.heap.size := (Array.getElem?_eq_some_iff.1 HC1.out).1
  have hc2 : w2.cell? ⟨b, 0, none⟩ = some (.pointer (some ⟨q, 0, none⟩)) := cell_of ((hb2.block b hbl).trans HC1.out) rfl
  have HD : Hid (Calls Tryz.prog 180 #[v, .func (.func 181) #[] #[.pointer (some ⟨b, 0, none⟩)]] w2 fun e w' => ∃ v', e = .returned v' ∧ rowAt w' 9 1 v' (L.filter (·.f.there)).length (encN (L.filter (·.f.there))) ∧ v'.ownBlock = v.ownBlock ∧ w2.grownBy w' v.ownBlock) := Lib.hid
    (deleteGone_b (H1.out.below hb2) hc2 rfl hr2 (by have := HLN.out; omega) (fun k hk => ⟨fun hs => by
      have h1 := H1.out.low k hs
      have h2 := (hlow k hk).1
      omega, fun e => by have h2 := (hlow k hk).1; omega⟩))
  have HB2 : Hid (Below w.heap.size w w2 ∧ w1.heap.size ≤ w2.heap.size) := Lib.hid ⟨HB1.out.trans (hb2.mono HB1.out.size), hb2.size⟩
  have HLOW := Lib.hid hlow
  clear hrow hnil hb2 hr2 hlow hc2 c0 hbl
  go_wp2_with fail
  refine HD.out.mono ?_
  rintro e w3 ⟨v', rfl, hr3, hv3, hg3⟩
  have hb3 : Below w.heap.size w w3 := HB2.out.1.grown hg3 HB2.out.1.size (fun k hk => by
    have h1 := (HLOW.out k hk).1
    have h2 := HB1.out.size
    omega)
  have HR : Hid (rowAt w3 9 1 v' d.names.length (d.names.map encStr)) := Lib.hid (by rw [← HE.out.1, ← HE.out.2]; exact hr3)
  have HV : Hid (∀ k, v'.ownBlock = some k → w.heap.size ≤ k) := Lib.hid (fun k hk => by
    rw [hv3] at hk
    have h1 := (HLOW.out k hk).1
    have h2 := HB1.out.size
    omega)
  have HB3 := Lib.hid hb3
  clear hr3 hv3 hg3 hb3
  go_wp2_with fail
  go_ret
  exact ⟨_, rfl, HR.out, HV.out, HB3.out⟩
end Go.Proofs.YtlgcoaeddeiegaaGreat
/- slices.Values at elements of one cell: the iterator tells a row, in order. -/
namespace Go.Proofs.YtlgcoaeddeiegaaGreat
open Go Go.RowKit Go.Shelf
attribute [local go_sem] Oper.semAt_some

def ValsAt (w : World) (T e : TypeId) (vb : Nat) (xs : List Value) : Prop := ∃ v, w.heap[vb]? = some (.cells #[v] T (0, 0)) ∧ rowAt w e 1 v xs.length xs
theorem ValsAt.later {w w' : World} {T e : TypeId} {vb : Nat} {xs : List Value} (h : ValsAt w T e vb xs) (hb : Below w.heap.size w w') : ValsAt w' T e vb xs := by
  obtain ⟨v, h1, h2⟩ := h
  exact ⟨v, (hb.block vb (Array.getElem?_eq_some_iff.1 h1).1).trans h1, h2.kept (fun k hk => hb.block k (h2.lt k hk))⟩
def encOne (x : Value) : Array Value := #[x]
set_option maxHeartbeats 400000 in
theorem valuesStrs_b (w : World) (oa : Option Addr) (n c : Nat) : Calls Tryz.prog 132 #[.slice oa n c] w fun e w' => e = .returned (.func (.func 184) #[] #[.pointer (some ⟨w.heap.size, 0, none⟩)]) ∧ w' = w.alloc (.cells #[.slice oa n c] 43) := by
  go_enter Tryz.func132, Tryz.ntmps132
  go_wp2_with fail
  go_ret
  exact ⟨rfl, rfl⟩
theorem valuesStrs_at {w : World} {v : Value} {xs : List Value} (h : rowAt w 9 1 v xs.length xs) : ValsAt (w.alloc (.cells #[v] 43)) 43 9 w.heap.size xs :=
  ⟨v, alloc_cells _ _ _, h.kept (fun k hk => Below.heap_alloc _ _ k (h.lt k hk))⟩
set_option maxRecDepth 100000 in
set_option maxHeartbeats 1000000 in
theorem valsStrs_in (n : Nat) (hn : 1 ≤ n) (l vb : Nat) (w : World) (xs : List Value) (hsq : ValsAt w 43 9 vb xs) (hfs : xs.length ≤ 1000000000) (J Jx : Nat → World → Prop) (W : World) (hW : Below w.heap.size w W)
    (hJ : ∀ j A B, J j A → Below A.heap.size A B → J j B)
    (hY : ∀ j (hj : j < xs.length) W1, J j W1 → YieldAt Fence.wide (n - 1) Tryz.prog l #[xs[j]] W1 fun e W' =>
      (e = .returned (.bool true) ∧ J (j + 1) W' ∧ Below w.heap.size W1 W') ∨ (e = .returned (.bool false) ∧ Jx (j + 1) W')) (h0 : J 0 W) :
    CallsIn Fence.wide n Tryz.prog 184 #[.func (.yield l) #[] #[], .pointer (some ⟨vb, 0, none⟩)] W fun e W' => (∃ v, e = .returned v) ∧ (J xs.length W' ∨ ∃ j, j ≤ xs.length ∧ Jx j W') := by
  obtain ⟨v, hv, hrow⟩ := hsq
  obtain ⟨oa, c, rfl, hnc⟩ := hrow.shape
  obtain ⟨N, hN⟩ : ∃ N, xs.length = N := ⟨_, rfl⟩
  rw [hN] at hv hrow hnc hfs
  have cv : W.cell? ⟨vb, 0, none⟩ = some (.slice oa N c) := cell_of ((hW.block vb (Array.getElem?_eq_some_iff.1 hv).1).trans hv) rfl
  have HR := Lib.hid hrow
  have HN := Lib.hid hN
  have HY := Lib.hid hY
  have HJ := Lib.hid hJ
  have HW := Lib.hid hW
  clear hv hrow hN hY hJ hW
  refine callsIn_of_wp Tryz.func184 rfl trivial ?_ rfl
  simp only [Tryz.ntmps184, List.size_toArray, List.length_cons, List.length_nil, Nat.reduceAdd, Nat.reduceSub, Array.replicate_succ, Array.replicate_zero, List.push_toArray, List.append_toArray, List.nil_append, List.cons_append]
  gi_wp2
  gi_loopw [7] (fun i wr => ∃ j : Nat, j ≤ N ∧ i = .int .i64 j ∧ J j wr ∧ Below w.heap.size w wr ∧ W.heap.size ≤ wr.heap.size) (fun i wr => N - (intOf i).toNat)
  case atStart => exact ⟨0, Nat.zero_le _, rfl, h0, HW.out, Nat.le_refl _⟩
  case round =>
    obtain ⟨j, hj, rfl, hJs, hbw, hWr⟩ := hrel
    by_cases hlt : j < N
    · have hjf : j < xs.length := by rw [HN.out]; exact hlt
      have hrw := HR.out.kept (fun k hk => hbw.block k (HR.out.lt k hk))
      obtain ⟨g, off, rfl⟩ := hrw.addr (by omega)
      obtain ⟨x, hx⟩ : ∃ x, xs[j] = x := ⟨_, rfl⟩
      have k0 : wr.cell? ⟨g, off + j, none⟩ = some x := by
        have := hrw.cells (g := g) (off := off) rfl j x (by rw [← hx]; exact List.getElem?_eq_getElem hjf)
        simpa [Go.WideShapes.add_plain] using this
      obtain ⟨fn, tmps, assign, body, hy, hR⟩ := HY.out j hjf wr hJs
      rw [hx] at hy
      have HRD := Lib.hid hR
      have HB2 : Hid (Below w.heap.size w wr ∧ W.heap.size ≤ wr.heap.size) := Lib.hid ⟨hbw, hWr⟩
      clear hrw hx hJs hbw hR
      gi_wp2
      refine HRD.out.mono ?_
      rintro e W3 (⟨rfl, hJ3, hk3⟩ | ⟨rfl, hJx3⟩)
      · have HJ3 : Hid (J (j + 1) W3) := Lib.hid hJ3
        have HB3 : Hid (Below w.heap.size w W3 ∧ W.heap.size ≤ W3.heap.size) := Lib.hid ⟨HB2.out.1.trans hk3, Nat.le_trans HB2.out.2 hk3.size⟩
        clear hJ3 hk3
        gi_wp2
        exact ⟨⟨j + 1, by omega, by simp, HJ3.out, HB3.out.1, HB3.out.2⟩, by simp [intOf]; omega⟩
      · have HX3 : Hid (Jx (j + 1) W3) := Lib.hid hJx3
        clear hJx3
        gi_wp2
        refine bodyPost_ret (results_none rfl _ _ _) rfl ?_
        exact ⟨⟨_, rfl⟩, .inr ⟨j + 1, by rw [HN.out]; omega, HX3.out⟩⟩
    · obtain rfl : j = N := by omega
      have HE : Hid (J xs.length wr) := Lib.hid (by rw [HN.out]; exact hJs)
      clear hJs
      gi_wp2
      go_end0
      exact ⟨⟨_, rfl⟩, .inl HE.out⟩
theorem valsStrs_told (n : Nat) (hn : 1 ≤ n) (vb : Nat) (w : World) (xs : List Value) (hsq : ValsAt w 43 9 vb xs) (hfs : xs.length ≤ 1000000000) :
    SeqTold Fence.wide n Tryz.prog 184 #[.pointer (some ⟨vb, 0, none⟩)] encOne (fun _ _ pre x _ => xs[pre.length]? = some x ∧ pre = xs.take pre.length) (fun ys => ys = xs) (fun pre => pre.length ≤ xs.length) xs.length w := fun l J Jx W hW hs hJ hJx hY => by
  refine (valsStrs_in n hn l vb w xs hsq hfs (fun j V => J (fun _ => False) (xs.take j) V ∧ W.heap.size ≤ V.heap.size) (fun j V => Jx (fun _ => False) (xs.take j) V ∧ j ≤ xs.length) W hW (fun j A B h hb => ⟨hJ _ _ A B h.1 (Only.of_below hb (Nat.le_refl _) _), Nat.le_trans h.2 hb.size⟩) (fun j hj W1 h1 => ?_) ⟨by
    have := hs (fun _ => False) W (Below.refl _ _) (fun _ hf => hf.elim)
    rwa [List.take_zero], Nat.le_refl _⟩).mono ?_
  · have htl : (xs.take j).length = j := by rw [List.length_take]; omega
    have ht1 : xs.take j ++ [xs[j]] = xs.take (j + 1) := (List.take_succ_eq_append_getElem hj).symm
    refine (hY (fun _ => False) (xs.take j) xs[j] W1 W1 (fun _ hf => hf.elim) h1.1 (Only.refl _ _) h1.2 ⟨by rw [htl]; exact List.getElem?_eq_getElem hj, by rw [htl]⟩ (by rw [htl]; exact hj)).mono (fun e W' hr => ?_)
    rcases hr with ⟨h3, h4, h5⟩ | ⟨h3, h4, h5⟩
    · exact .inl ⟨h3, ⟨by rw [ht1] at h4; exact h4, Nat.le_trans h1.2 h5.size⟩, h5.below (fun i hi hc => by have := hc.1; omega) (Nat.le_trans hW.size h1.2)⟩
    · exact .inr ⟨h3, by rw [ht1] at h4; exact h4, hj⟩
  · rintro e W' ⟨he, h⟩
    refine ⟨he, ?_⟩
    rcases h with h | ⟨j, hj, h⟩
    · exact .inl ⟨fun _ => False, xs, rfl, by have := h.1; rwa [List.take_length] at this⟩
    · exact .inr ⟨fun _ => False, xs.take j, by show (xs.take j).length ≤ xs.length; rw [List.length_take]; omega, h.1⟩
end Go.Proofs.YtlgcoaeddeiegaaGreat
/- Rows of strings: one is appended. -/
namespace Go.Proofs.YtlgcoaeddeiegaaGreat
open Go Go.RowKit

theorem info_strR : (Tryz.prog.info? 9).map (fun i => (i.zero, i.size, i.bytes)) = some (some (.string ⟨#[]⟩), 1, 16) := by kernel_rfl
theorem str_row (w : World) (a : Value) : rowAt (w.alloc (.cells #[a] 9)) 9 1 (.slice (some ⟨w.heap.size, 0, none⟩) 1 1) 1 [a] :=
  ⟨rfl, .inr ⟨_, 0, 1, _, _, rfl, alloc_cells _ _ _, Nat.le_refl _, by unfold maxLen; omega, by simp, freeRow_zero _, rfl⟩⟩
theorem wpList_append_str {w2 : World} {ops : Array Oper} {rest : List Oper} {o : Oper} {a : Act} {Q : Exit → Act → World → Prop} (hgd : o.guard = none) (s x : Operand)
    (ho : o.op = .call { callee := .builtin .append, args := #[s, x], argTypes := #[43, 43] })
    {oa : Option Addr} {m c : Nat} {xs : List Value} {nm : ByteArray} (h : rowAt w2 9 1 (.slice oa m c) m xs) (hm : m ≤ 1000000)
    (hs : a.eval s = .slice oa m c) (hx : a.eval x = .slice (some ⟨w2.heap.size, 0, none⟩) 1 1)
    (hK : ∀ oa3 c3 w3, Hid (rowAt w3 9 1 (.slice oa3 (m + 1) c3) (m + 1) (xs ++ [.string nm])) → Hid ((w2.alloc (.cells #[.string nm] 9)).grownBy w3 (Value.slice oa m c).ownBlock) →
      Hid ((Value.slice oa3 (m + 1) c3).ownBlock = (Value.slice oa m c).ownBlock ∨ (Value.slice oa3 (m + 1) c3).ownBlock = some (w2.heap.size + 1)) → wpList Tryz.prog ops Q rest (a.put o.dst (.slice oa3 (m + 1) c3)) w3) :
    wpList Tryz.prog ops Q (o :: rest) a (w2.alloc (.cells #[.string nm] 9)) := by
  refine wpList_append_at _ hgd s x 43 43 ho 9 (.string ⟨#[]⟩) 1 16 Tryz.underlying43 info_strR rfl _ m xs hs (h.kept (fun k hk => Below.heap_alloc _ _ k (h.lt k hk))) _ 1 _ hx (Src.of_row Tryz.underlying43 (str_row w2 (.string nm)) (fun v hv => by rw [List.mem_singleton] at hv; subst hv; rfl)) (by unfold maxLen; omega) (by omega) ?_
  intro v' w3 hr hg hown _
  obtain ⟨oa3, c3, rfl, _⟩ := hr.shape
  exact hK oa3 c3 w3 (Lib.hid hr) (Lib.hid hg) (Lib.hid (by simpa using hown))
end Go.Proofs.YtlgcoaeddeiegaaGreat
/- slices.AppendSeq, Collect, Sorted at strings, of a row that is told. -/
namespace Go.Proofs.YtlgcoaeddeiegaaGreat
open Go Go.Maps Go.RowKit Go.Shelf Go.Sort
open Go.Proofs (encStr)
attribute [local go_sem] Oper.semAt_some

structure CollI (w4 W : World) (b : Nat) (T : Nat → Prop) (xs : List Value) : Prop where
  below : Below w4.heap.size w4 W
  box : ∃ oa c, W.heap[b]? = some (.cells #[.slice oa xs.length c] 43 (0, 0)) ∧ rowAt W 9 1 (.slice oa xs.length c) xs.length xs ∧ (∀ k, (Value.slice oa xs.length c).ownBlock = some k → b + 3 ≤ k ∧ ¬ T k)
  low : ∀ k, T k → b + 3 ≤ k
  at' : b = w4.heap.size
theorem CollI.kept {w4 A B : World} {b : Nat} {T X : Nat → Prop} {xs : List Value} (h : CollI w4 A b T xs) (ho : Only X A B) (hX : ∀ k, X k → T k ∨ k = b + 1 ∨ k = b + 2) : CollI w4 B b T xs := by
  obtain ⟨oa, c, h1, h2, h3⟩ := h.box
  refine ⟨h.below.trans (ho.below (fun i hi e => ?_) h.below.size), ⟨oa, c, (ho.block _ (Array.getElem?_eq_some_iff.1 h1).1 (fun e => ?_)).trans h1, h2.kept (fun k hk => ho.block k (h2.lt k hk) (fun e => ?_)), h3⟩, h.low, h.at'⟩
  · have := h.at'
    rcases hX i e with e | e | e
    · have := h.low i e; omega
    · omega
    · omega
  · rcases hX _ e with e | e | e
    · have := h.low _ e; omega
    · omega
    · omega
  · have := h3 k hk
    rcases hX k e with e | e | e
    · exact this.2 e
    · omega
    · omega
set_option maxRecDepth 100000 in
set_option maxHeartbeats 8000000 in
theorem appendSeq_b {w : World} {gf : Nat} {lb : Array Value} {l : List Value} {w0 : World} (hFg : Fence.wide.fn gf) (eg : ∀ args w, (callFunc gf args).run Tryz.prog w = .ok (.enter gf args) w) (hs : ∀ v ∈ l, ∃ s : ByteArray, v = .string s) (hl : l.length ≤ 1000000)
    (hst : SeqTold Fence.wide 7 Tryz.prog gf lb encOne (fun _ _ pre x _ => l[pre.length]? = some x ∧ pre = l.take pre.length) (fun ys => ys = l) (fun pre => pre.length ≤ l.length) l.length w0) (hb0 : Below w0.heap.size w0 w) :
    Calls Tryz.prog 209 #[.slice none 0 0, .func (.func gf) #[] lb] w fun e w' => ∃ v, e = .returned v ∧ rowAt w' 9 1 v l.length l ∧ (∀ k, v.ownBlock = some k → w.heap.size ≤ k) ∧ Below w.heap.size w w' := by
  obtain ⟨w1, hw1⟩ : ∃ V : World, V = w.alloc (.cells #[.slice none 0 0] 43) := ⟨_, rfl⟩
  obtain ⟨b2, hb2⟩ : ∃ b, b = w.heap.size := ⟨_, rfl⟩
  have hbl : Below w.heap.size w w1 := by rw [hw1]; exact (Below.refl _ _).alloc (Nat.le_refl _) _
  have h2 : w1.heap[b2]? = some (.cells #[.slice none 0 0] 43 (0, 0)) := by rw [hw1, hb2]; exact alloc_cells _ _ _
  have hs1 : w1.heap.size = b2 + 1 := by rw [hw1, hb2]; simp
  have H := Lib.hid (And.intro hbl (And.intro h2 (And.intro hs1 (And.intro hb2 (And.intro hs (And.intro hl hb0))))))
  clear hs hbl h2 hs1
  refine (callsIn_wide (n := 8)).1 ?_
  refine callsIn_of_wp_marks Tryz.func209 rfl trivial ?_ rfl
  simp only [Tryz.ntmps209, List.size_toArray, List.length_cons, List.length_nil, Nat.reduceAdd, Nat.reduceSub, Array.replicate_succ, Array.replicate_zero, List.push_toArray, List.append_toArray, List.nil_append, List.cons_append]
  gi_upto_region 1 with fail
  rw [← hw1, ← hb2]
  clear hw1 hb2
  gi_wp2_with fail
  refine wpIn_rangeFunc_told (n := 8) (α := Value) rfl (by omega) (gf := gf) (lb := lb) rfl hFg eg hst (hb0.trans (H.out.1.mono hb0.size)) (fun _ => rfl)
    (fun T pre V => CollI w V b2 T pre) (fun _ _ _ _ => False) ?I ?Ix ?h0 ?round ?done ?stop
  case I =>
    rintro T pre A B hi ho
    rw [H.out.2.2.1] at ho
    exact hi.kept ho (fun k hk => hk)
  case Ix =>
    rintro c T pre A B hf ho
    exact hf
  case h0 =>
    intro T W1 hb hsz hT
    rw [H.out.2.2.1] at hT
    exact ⟨H.out.1.trans (hb.mono H.out.1.size), ⟨none, 0, (hb.block b2 (Array.getElem?_eq_some_iff.1 H.out.2.1).1).trans H.out.2.1, ⟨rfl, .inl ⟨rfl, rfl⟩⟩, fun k hk => by simp [Value.ownBlock] at hk⟩, fun k hk => by have := (hT k hk).1; omega, H.out.2.2.2.1⟩
  case stop =>
    rintro T c0 pre V hS hf hD
    exact hf.elim
  case done =>
    rintro T xs V hS hi hD
    have hS' : xs = l := hS
    subst hS'
    obtain ⟨oa, c, h1, h2, h3⟩ := hi.box
    rw [H.out.2.2.1] at hD ⊢
    have k2 : V.cell? ⟨b2, 0, none⟩ = some (.slice oa xs.length c) := cell_of h1 rfl
    have HI := Lib.hid (And.intro hi (And.intro h1 (And.intro h2 (And.intro h3 hD))))
    obtain ⟨n, hn⟩ : ∃ n, n = xs.length := ⟨_, rfl⟩
    rw [← hn] at k2
    have HN := Lib.hid hn
    clear hS hi h1 h2 h3 hD hst hn
    gi_wp2_with fail
    have hm := HI.out.2.2.2.2
    have hg := grownBy_putObj' V (b2 + 1) (.deferred none)
    refine ⟨by simp, .inl ⟨_, _, rfl, run_takeDeferred hm, ?_⟩⟩
    refine ⟨.slice oa n c, by simp [results, Tryz.results209, go_sem], ?_⟩
    rw [HN.out]
    refine ⟨_, rfl, HI.out.2.2.1.kept (fun k hk => hg.block k (HI.out.2.2.1.lt k hk) (fun e => by
      simp only [Option.some.injEq] at e
      have := (HI.out.2.2.2.1 k hk).1; omega)), fun k hk => by have := (HI.out.2.2.2.1 k hk).1; have := H.out.2.2.2.1; omega, HI.out.1.below.grown hg HI.out.1.below.size (fun k e => by
      simp only [Option.some.injEq] at e
      have := H.out.2.2.2.1; omega)⟩
  case round =>
    rintro T pre x Wp V hT hrec hdef hip hop hszp hgv hlt K hK
    rw [H.out.2.2.1] at hT hrec hdef hK hszp
    obtain ⟨hgx, -⟩ := hgv
    obtain ⟨nm, rfl⟩ := H.out.2.2.2.2.1 x (List.mem_of_getElem? hgx)
    rw [show encOne (Value.string nm) = #[.string nm] from rfl]
    obtain ⟨n, hn⟩ : ∃ n, pre.length = n := ⟨_, rfl⟩
    have hVl : b2 + 2 < V.heap.size := by
      obtain ⟨r, hr⟩ := hrec
      exact (Array.getElem?_eq_some_iff.1 hr).1
    have HK := Lib.hid hK
    have HI := Lib.hid (And.intro hip (And.intro hop (And.intro hn hVl)))
    have HT := Lib.hid (fun k hk => (hT k hk).2)
    have hn6 : n < 1000000 := by have := H.out.2.2.2.2.2.1; omega
    clear hT hrec hdef hip hop hgx hlt hK hszp hVl hn hst
    gi_wp2_with fail
    refine HK.out _ _ (Only.refl _ _) ?_
    intro W2 ho hr2
    have hop2 : Only (fun k => T k ∨ k = b2 + 2) Wp W2 := (HI.out.2.1.mono (fun _ _ h => .inl h)).trans (ho.mono (fun k _ h => .inr h)) (fun _ _ h => h)
    have hi2 : CollI w W2 b2 T pre := HI.out.1.kept hop2 (fun k hk => by
      rcases hk with hk | hk
      · exact .inl hk
      · exact .inr (.inr hk))
    obtain ⟨oa, c, g1, g2, g3⟩ := hi2.box
    rw [HI.out.2.2.1] at g1 g2 g3
    have k2 : W2.cell? ⟨b2, 0, none⟩ = some (.slice oa n c) := cell_of g1 rfl
    have f2 : W2.frozen? ⟨b2, 0, none⟩ = false := free_of g1 _
    have hone : ∀ v ∈ ([.string nm] : List Value), v.oneCell' = true := by
      intro v hv
      simp only [List.mem_cons, List.not_mem_nil, or_false] at hv
      rcases hv with rfl
      rfl
    generalize hQ : toldPost _ _ _ _ _ = Q
    have HQ := Lib.hid hQ
    have HVW := Lib.hid ho.size
    have H2 := Lib.hid (And.intro hi2 (And.intro g1 (And.intro g2 (And.intro g3 (show b2 + 2 < W2.heap.size from Nat.lt_of_lt_of_le HI.out.2.2.2 ho.size)))))
    clear hop2 hi2 g1 g2 g3 hQ ho hr2
    gi_wp2_with (gi_at_builtin; refine wpListIn_append_one rfl (.tmp 8) (.tmp 10) 43 9 rfl Tryz.underlying43 info_strR rfl (by omega) H2.out.2.2.1 (by omega) [.string nm] rfl hone rfl rfl ?_; intro oa3 c3 w3 HR3 HG3 HO3; have hb3 := (HG3.out.block b2 (by have := H2.out.2.2.2.2; simp; omega) (fun e => by have := H2.out.2.2.2.1 b2 e.symm; omega)).trans ((Below.heap_alloc _ _ _ (by have := H2.out.2.2.2.2; omega)).trans H2.out.2.1); have kb : w3.cell? ⟨b2, 0, none⟩ = some (.slice oa n c) := cell_of hb3 rfl; have fb : w3.frozen? ⟨b2, 0, none⟩ = false := free_of hb3 _; have HB3 := Lib.hid hb3; clear hb3)
    rw [← HQ.out]
    have hg4 : Only (fun k => (Value.slice oa n c).ownBlock = some k) W2 w3 := (Only.of_below ((Below.refl _ W2).alloc (Nat.le_refl _) (.cells #[.string nm] 9)) (Nat.le_refl _) _).trans (Only.of_grown HG3.out (fun k e => e)) (fun _ _ e => e)
    have hs4 : Only (fun k => k = b2) w3 (w3.setCell ⟨b2, 0, none⟩ (.slice oa3 (n + 1) c3)) := only_setCell (fun k => k = b2) _ b2 0 _ rfl
    have hown3 : ∀ k, (Value.slice oa3 (n + 1) c3).ownBlock = some k → (Value.slice oa n c).ownBlock = some k ∨ k = W2.heap.size + 1 := fun k hk => by
      rcases HO3.out with e | e
      · exact .inl (by rw [← e]; exact hk)
      · rw [hk] at e
        simp only [Option.some.injEq] at e
        exact .inr e
    have e0 := H.out.2.2.2.1
    have e1 := H.out.2.2.2.2.2.2.size
    have hbig := H2.out.2.2.2.2
    have e5 := H.out.2.2.1
    have ho4 : Only (fun k => (Value.slice oa n c).ownBlock = some k ∨ k = b2) W2 (w3.setCell ⟨b2, 0, none⟩ (.slice oa3 (n + 1) c3)) := (hg4.mono (fun _ _ e => .inl e)).trans hs4 (fun _ _ e => .inr e)
    have hl1 : (pre ++ [Value.string nm]).length = n + 1 := by rw [List.length_append, HI.out.2.2.1]; rfl
    refine ⟨ho4.mono (fun k _ hk => ?_), ?_, ?_, ?_, ?_⟩
    · rcases hk with hk | hk
      · have := H2.out.2.2.2.1 k hk
        refine ⟨by omega, fun e => ?_⟩
        rcases e with e | e | e
        · exact this.2 e
        · omega
        · omega
      · subst hk
        refine ⟨by omega, fun e => ?_⟩
        rcases e with e | e | e
        · have := H2.out.1.low k e; omega
        · omega
        · omega
    · exact H2.out.1.below.trans (ho4.below (fun i hi e => by
        rcases e with e | e
        · have := H2.out.2.2.2.1 i e; omega
        · omega) H2.out.1.below.size)
    · rw [hl1]
      refine ⟨oa3, c3, heap_setCell_here _ HB3.out, HR3.out.kept (fun k hk => Below.heap_setCell _ _ _ _ (fun e => by
        have e : k = b2 := e
        rcases hown3 k hk with e2 | e2
        · have := H2.out.2.2.2.1 k e2; omega
        · omega)), fun k hk => ?_⟩
      rcases hown3 k hk with e2 | e2
      · exact H2.out.2.2.2.1 k e2
      · refine ⟨by omega, fun e => ?_⟩
        have := HT.out k e
        have := HVW.out
        omega
    · exact H2.out.1.low
    · exact H2.out.1.at'
end Go.Proofs.YtlgcoaeddeiegaaGreat
/- slices.Sorted at strings, of a row that is told and sorted already. -/
namespace Go.Proofs.YtlgcoaeddeiegaaGreat
open Go Go.Maps Go.RowKit Go.Shelf Go.Sort
open Go.Proofs (encStr)
attribute [local go_sem] Oper.semAt_some

theorem rowAt.holds {w : World} {e : TypeId} {g off c : Nat} {l : List (List UInt8)} (h : rowAt w e 1 (.slice (some ⟨g, off, none⟩) l.length c) l.length (l.map encStr)) : Holds encStr w g off l.toArray := by
  intro j hj
  have hj' : j < l.length := by simpa using hj
  have h1 := h.cells rfl j (encStr l[j]) (by rw [List.getElem?_map, List.getElem?_eq_getElem hj']; rfl)
  have e1 : (l.toArray)[j]! = l[j] := by rw [getElem!_pos _ j hj]; simp
  rw [e1]
  refine ⟨by simpa [Go.WideShapes.add_plain] using h1, ?_⟩
  rcases h.2 with ⟨hn, -⟩ | ⟨g', off', cap, cur, fr, hv, hg, h1, h2, h3, hf, -⟩
  · cases hn
  · simp only [Value.slice.injEq, Option.some.injEq, Addr.mk.injEq] at hv
    obtain ⟨⟨rfl, rfl, -⟩, -, rfl⟩ := hv
    have hfr := hf (off + j) (by omega)
    unfold World.frozen?
    rw [hg]
    simpa using hfr
theorem below_sorted (w : World) (n : Nat) (os : Array Obj) : Below w.heap.size w (grow (Sort.ahead w n) os) :=
  ⟨rfl, rfl, rfl, by simp [grow, Sort.ahead], fun k hk => by simp [grow, Sort.ahead, Array.getElem?_append_left hk]⟩
theorem sort_b {w : World} {oa : Option Addr} {n c : Nat} {l : List (List UInt8)} (hn : l.length = n) (h : rowAt w 9 1 (.slice oa n c) n (l.map encStr)) (hs : l.Pairwise (fun a b => leB a b = true)) (hl : n ≤ 1000000) :
    Calls Tryz.prog 183 #[.slice oa n c] w fun e w' => e = .returned (.tuple #[]) ∧ Below w.heap.size w w' := by
  subst hn
  by_cases h0 : l.length = 0
  · rw [h0]
    refine (AnyM.slices_Sort_string_none sortL oa c w).mono ?_
    rintro e w' ⟨rfl, rfl⟩
    exact ⟨rfl, Below.refl _ _⟩
  · obtain ⟨g, off, rfl⟩ := h.read.addr (by omega)
    have hH := h.holds
    have hgl : g < w.heap.size := h.lt g rfl
    refine (AnyM.slices_Sort_string sortL g off c l w hH hgl (by omega)).mono ?_
    rintro e w' ⟨rfl, k, os, rfl⟩
    refine ⟨rfl, ?_⟩
    have e1 : (l.mergeSort fun x y => decide (x ≤ y)) = l := mergeSort_self hs
    rw [e1, putRow_self encStr (Sort.ahead w k) g off l.toArray (fun j hj => hH j hj)]
    exact below_sorted w k os
set_option maxRecDepth 100000 in
set_option maxHeartbeats 1000000 in
theorem collect_b {w : World} {gf : Nat} {lb : Array Value} {l : List Value} {w0 : World} (hFg : Fence.wide.fn gf) (eg : ∀ args w, (callFunc gf args).run Tryz.prog w = .ok (.enter gf args) w) (hs : ∀ v ∈ l, ∃ s : ByteArray, v = .string s) (hl : l.length ≤ 1000000)
    (hst : SeqTold Fence.wide 7 Tryz.prog gf lb encOne (fun _ _ pre x _ => l[pre.length]? = some x ∧ pre = l.take pre.length) (fun ys => ys = l) (fun pre => pre.length ≤ l.length) l.length w0) (hb0 : Below w0.heap.size w0 w) :
    Calls Tryz.prog 182 #[.func (.func gf) #[] lb] w fun e w' => ∃ v, e = .returned v ∧ rowAt w' 9 1 v l.length l ∧ (∀ k, v.ownBlock = some k → w.heap.size ≤ k) ∧ Below w.heap.size w w' := by
  have HA := Lib.hid (appendSeq_b hFg eg hs hl hst hb0)
  clear hst
  go_enter Tryz.func182, Tryz.ntmps182
  go_wp2_with fail
  refine HA.out.mono ?_
  rintro e w1 ⟨v, rfl, h1, h2, h3⟩
  have H := Lib.hid (And.intro h1 (And.intro h2 h3))
  clear h1 h2 h3
  go_wp2_with fail
  go_ret
  exact ⟨v, rfl, H.out⟩
set_option maxRecDepth 100000 in
set_option maxHeartbeats 1000000 in
theorem sorted_b {w : World} {gf : Nat} {lb : Array Value} {l : List (List UInt8)} {w0 : World} (hFg : Fence.wide.fn gf) (eg : ∀ args w, (callFunc gf args).run Tryz.prog w = .ok (.enter gf args) w) (hl : l.length ≤ 1000000) (hs : l.Pairwise (fun a b => leB a b = true))
    (hst : SeqTold Fence.wide 7 Tryz.prog gf lb encOne (fun _ _ pre x _ => (l.map encStr)[pre.length]? = some x ∧ pre = (l.map encStr).take pre.length) (fun ys => ys = l.map encStr) (fun pre => pre.length ≤ (l.map encStr).length) (l.map encStr).length w0) (hb0 : Below w0.heap.size w0 w) :
    Calls Tryz.prog 131 #[.func (.func gf) #[] lb] w fun e w' => ∃ v, e = .returned v ∧ rowAt w' 9 1 v l.length (l.map encStr) ∧ (∀ k, v.ownBlock = some k → w.heap.size ≤ k) ∧ Below w.heap.size w w' := by
  have HA := Lib.hid (collect_b hFg eg (l := l.map encStr) (fun v hv => by
    obtain ⟨s, -, rfl⟩ := List.mem_map.1 hv
    exact ⟨_, rfl⟩) (by rw [List.length_map]; exact hl) hst hb0)
  have HS := Lib.hid hs
  clear hst hs
  go_enter Tryz.func131, Tryz.ntmps131
  go_wp2_with fail
  refine HA.out.mono ?_
  rintro e w1 ⟨v, rfl, h1, h2, h3⟩
  rw [List.length_map] at h1
  obtain ⟨oa, c, rfl, -⟩ := h1.shape
  obtain ⟨n, hn⟩ : ∃ n, l.length = n := ⟨_, rfl⟩
  rw [hn] at h1 h2 hl ⊢
  have hst := sort_b hn h1 HS.out hl
  have HC := Lib.hid hst
  have H := Lib.hid (And.intro h1 (And.intro h2 h3))
  have HN := Lib.hid hn
  clear h1 h2 h3 hn hst
  go_wp2_with fail
  refine HC.out.mono ?_
  rintro e w2 ⟨rfl, hb2⟩
  have HB := Lib.hid hb2
  clear hb2
  go_wp2_with fail
  go_ret
  rw [HN.out]
  exact ⟨.slice oa n c, rfl, H.out.1.kept (fun k hk => HB.out.block k (H.out.1.lt k hk)), H.out.2.1, H.out.2.2.trans (HB.out.mono H.out.2.2.size)⟩
end Go.Proofs.YtlgcoaeddeiegaaGreat
/- partlog: the names of a log's files. -/
namespace Go.Proofs.YtlgcoaeddeiegaaGreat
open Go Go.Maps Go.RowKit
open Go.Proofs (encStr)
attribute [local go_sem] Oper.semAt_some

def Dk.namesOf (d : Dk) (log : ByteArray) : List (List UInt8) := d.names.filter (ofLog log)
def namesUp (log : ByteArray) (l : List (List UInt8)) (t : Nat) : List Value := ((l.take t).filter (ofLog log)).map encStr
theorem namesUp_succ {log : ByteArray} {l : List (List UInt8)} {t : Nat} (h : t < l.length) : namesUp log l (t + 1) = if ofLog log l[t] then namesUp log l t ++ [encStr l[t]] else namesUp log l t := by
  unfold namesUp
  rw [List.take_succ_eq_append_getElem h, List.filter_append, List.map_append]
  cases hb : ofLog log l[t] <;> simp [hb]
theorem parse_of (s log : ByteArray) (w : World) (hs : s.size ≤ maxLen) : Calls Tryz.prog 19 #[.string s] w fun e w' => ∃ (a : ByteArray) (b : Int) (o : Bool), e = .returned (.tuple #[.string a, .int .i64 b, .bool o]) ∧ ((o && (a.toList == log.toList)) = ofLog log s.data.toList) ∧ Below w.heap.size w w' := by
  have he : (s.extract 0 (s.size - 15)).toList = s.data.toList.take (s.data.toList.length - 15) := by
    rw [ByteArray.toList_eq]
    simp
  cases hk : okName s.data.toList with
  | true =>
    refine (parse_true s _ _ w hs hk rfl rfl).mono ?_
    rintro e w' ⟨rfl, hb⟩
    refine ⟨_, _, _, rfl, ?_, hb⟩
    unfold ofLog
    rw [hk, he, ByteArray.toList_eq]
  | false =>
    refine (parse_false s w hs hk).mono ?_
    rintro e w' ⟨rfl, hb⟩
    refine ⟨_, _, _, rfl, ?_, hb⟩
    unfold ofLog
    rw [hk]
    rfl
theorem name_max {s : List UInt8} (h : nameOk s = true) : s.length ≤ 32 := by
  unfold nameOk at h
  simp only [Bool.and_eq_true, decide_eq_true_eq] at h
  exact h.2
set_option maxRecDepth 100000 in
set_option maxHeartbeats 2000000 in
theorem logNames_b {w : World} {S : Nat → Prop} {q : Nat} {d : Dk} (h : DiskAt w S q d) (log : ByteArray) :
    Calls Tryz.prog 63 #[.pointer (some ⟨q, 0, none⟩), .string log] w fun e w' => ∃ v, e = .returned v ∧ rowAt w' 9 1 v (d.namesOf log).length ((d.namesOf log).map encStr) ∧ (∀ k, v.ownBlock = some k → w.heap.size ≤ k) ∧ Below w.heap.size w w' := by
  have hnm : ∀ x ∈ d.names, x.length ≤ 32 := fun x hx => by
    obtain ⟨mb, fv, L, h⟩ := h
    unfold Dk.names at hx
    obtain ⟨f, hf, rfl⟩ := List.mem_map.1 hx
    exact name_max (h.names f (List.mem_filter.1 hf).1)
  have hso : (d.namesOf log).Pairwise (fun a b => leB a b = true) := by
    obtain ⟨mb, fv, L, h⟩ := h
    have h1 : (d.namesOf log).Sublist (d.files.map (·.name)) := (List.filter_sublist).trans (show d.names.Sublist _ from (List.filter_sublist (p := fun f : F0 => f.there) (l := d.files)).map (fun f : F0 => f.name))
    exact (h.sorted.sublist h1).imp (fun {a b} hab => by simpa [leB] using List.le_of_lt hab)
  have hfw : d.names.length ≤ 4096 := by
    obtain ⟨mb, fv, L, h⟩ := h
    unfold Dk.names
    rw [List.length_map]
    exact Nat.le_trans (List.length_filter_le _ _) h.few
  obtain ⟨N, hN⟩ : ∃ N, d.names.length = N := ⟨_, rfl⟩
  rw [hN] at hfw
  have HN := Lib.hid (And.intro hnm (And.intro hso hN))
  have HNM := Lib.hid (Names_b h)
  clear h hnm hso hN
  go_enter Tryz.func63, Tryz.ntmps63
  go_wp2_with fail
  refine HNM.out.mono ?_
  rintro e w1 ⟨v, rfl, hr, hown, hb⟩
  obtain ⟨oa, c, rfl, -⟩ := hr.shape
  rw [HN.out.2.2] at hr hown ⊢
  have H1 := Lib.hid (And.intro hr (And.intro hown hb))
  clear hr hown hb HNM
  go_wp2_with fail
  go_loopw [5, 14] (fun s5 s14 wr => ∃ (t k : Nat) (oz : Option Addr) (cz : Nat), s14 = .int .i64 (t : Int) ∧ s5 = .slice oz k cz ∧ t ≤ N ∧ k ≤ t ∧ Hid (rowAt wr 9 1 (.slice oz k cz) k (namesUp log d.names t) ∧ (∀ j, (Value.slice oz k cz).ownBlock = some j → w1.heap.size ≤ j) ∧ Below w1.heap.size w1 wr)) (fun _ s14 _ => N - (intOf s14).toNat)
  case atStart => exact ⟨0, 0, none, 0, rfl, rfl, Nat.zero_le _, Nat.le_refl _, Lib.hid ⟨⟨rfl, .inl ⟨rfl, rfl⟩⟩, fun j hj => by simp [Value.ownBlock] at hj, Below.refl _ _⟩⟩
  case round =>
    obtain ⟨t, k, oz, cz, rfl, rfl, ht, hkt, HR⟩ := hrel
    by_cases hlt : t < N
    · have hi : t < d.names.length := by rw [HN.out.2.2]; exact hlt
      have hrw := H1.out.1.kept (fun k hk => HR.out.2.2.block k (H1.out.1.lt k hk))
      obtain ⟨g, off, rfl⟩ := hrw.read.addr (by omega)
      obtain ⟨nm, hnm⟩ : ∃ a : ByteArray, a = ⟨(d.names[t]).toArray⟩ := ⟨_, rfl⟩
      have hnd : nm.data.toList = d.names[t] := by rw [hnm]
      have k0 : wr.cell? ⟨g, off + t, none⟩ = some (.string nm) := by
        have := hrw.cells rfl t (encStr d.names[t]) (by rw [List.getElem?_map, List.getElem?_eq_getElem hi]; rfl)
        rw [hnm]
        simpa [Go.WideShapes.add_plain] using this
      have hsz : nm.size ≤ maxLen := by
        have h1 := HN.out.1 _ (List.getElem_mem hi)
        rw [← hnd] at h1
        have : nm.data.toList.length = nm.size := by simp
        unfold maxLen
        omega
      have hs := namesUp_succ (log := log) hi
      rw [← hnd, show encStr nm.data.toList = .string nm from rfl] at hs
      have HS := Lib.hid hs
      have HP := Lib.hid (parse_of nm log wr hsz)
      clear hrw hnm hnd hsz hs hi
      go_wp2_with fail
      refine HP.out.mono ?_
      rintro e w2 ⟨a, b, o, rfl, hof, hb2⟩
      have hrow2 := HR.out.1.kept (fun k hk => hb2.block k (HR.out.1.lt k hk))
      have H2 := Lib.hid (And.intro hrow2 (And.intro hb2 hof))
      clear hrow2 hb2 HP
      cases ho : ofLog log nm.data.toList with
      | false =>
        rw [ho] at hof
        have hst : Hid (rowAt w2 9 1 (.slice oz k cz) k (namesUp log d.names (t + 1)) ∧ (∀ j, (Value.slice oz k cz).ownBlock = some j → w1.heap.size ≤ j) ∧ Below w1.heap.size w1 w2) := Lib.hid ⟨by rw [HS.out, ho]; exact H2.out.1, HR.out.2.1, HR.out.2.2.trans (H2.out.2.1.mono HR.out.2.2.size)⟩
        clear ho
        cases o
        · clear hof
          go_wp2_with fail
          exact ⟨⟨t + 1, k, oz, cz, by simp, rfl, by omega, by omega, hst⟩, by simp [intOf]; omega⟩
        · have ha : (a.toList == log.toList) = false := hof
          clear hof
          go_wp2_with fail
          exact ⟨⟨t + 1, k, oz, cz, by simp, rfl, by omega, by omega, hst⟩, by simp [intOf]; omega⟩
      | true =>
        rw [ho] at hof
        have HO := Lib.hid ho
        clear ho
        cases o
        · cases hof
        · have ha : (a.toList == log.toList) = true := hof
          clear hof
          go_wp2_with (at_builtin; refine wpList_append_str rfl (.tmp 30) (.tmp 32) rfl H2.out.1 (by omega) (by rfl) (by rfl) ?_; intro oa3 c3 w3 HR3 HG3 HO3)
          have hb0 : Below w1.heap.size w1 w2 := HR.out.2.2.trans (H2.out.2.1.mono HR.out.2.2.size)
          refine ⟨⟨t + 1, k + 1, oa3, c3, by simp, rfl, by omega, by omega, Lib.hid ⟨by rw [HS.out, HO.out]; exact HR3.out, fun j hj => ?_, ?_⟩⟩, by simp [intOf]; omega⟩
          · have := hb0.size
            rcases HO3.out with e | e
            · exact HR.out.2.1 j (by rw [← e]; exact hj)
            · rw [hj] at e
              simp only [Option.some.injEq] at e
              omega
          · exact (hb0.alloc hb0.size _).grown HG3.out (by have := hb0.size; simp; omega) (fun j hj => HR.out.2.1 j hj)
    · obtain rfl : N = t := by omega
      have e : namesUp log d.names N = (d.namesOf log).map encStr := by
        unfold namesUp Dk.namesOf
        rw [← HN.out.2.2, List.take_length]
      have hk : k = (d.namesOf log).length := by
        have := HR.out.1.1
        rw [e, List.length_map] at this
        omega
      have hrow := HR.out.1
      rw [e] at hrow
      have HROW := Lib.hid hrow
      have HK := Lib.hid hk
      clear e hrow hk
      go_wp2_with fail
      refine (valuesStrs_b wr oz k cz).mono ?_
      rintro e w2 ⟨rfl, hw2⟩
      have hat : ValsAt w2 43 9 wr.heap.size ((d.namesOf log).map encStr) := by
        rw [hw2]
        exact valuesStrs_at (by rw [List.length_map, ← HK.out]; exact HROW.out)
      have hb2 : Below wr.heap.size wr w2 := by rw [hw2]; exact (Below.refl _ _).alloc (Nat.le_refl _) _
      have hst := valsStrs_told 7 (by omega) wr.heap.size w2 ((d.namesOf log).map encStr) hat (by rw [List.length_map, ← HK.out]; omega)
      have HSO := Lib.hid (sorted_b (w := w2) (gf := 184) (lb := #[.pointer (some ⟨wr.heap.size, 0, none⟩)]) trivial (enters_of Tryz.func184 (by kernel_rfl) rfl) (by rw [← HK.out]; omega) HN.out.2.1 hst (Below.refl _ _))
      have HB2 := Lib.hid hb2
      clear hat hb2 hst hw2
      go_wp2_with fail
      refine HSO.out.mono ?_
      rintro e w3 ⟨v, rfl, h1, h2, h3⟩
      have H3 := Lib.hid (And.intro h1 (And.intro h2 h3))
      clear h1 h2 h3
      go_wp2_with fail
      go_ret
      have b1 := H1.out.2.2
      have b2 := b1.trans (HR.out.2.2.mono b1.size)
      have b3 := b2.trans (HB2.out.mono b2.size)
      exact ⟨v, rfl, H3.out.1, fun k hk => Nat.le_trans b3.size (H3.out.2.1 k hk), b3.trans (H3.out.2.2.mono b3.size)⟩
end Go.Proofs.YtlgcoaeddeiegaaGreat
/- A log of segments, plainly: what a crash leaves of it. -/
namespace Go.Proofs.YtlgcoaeddeiegaaGreat
open Go Go.RowKit

theorem pairs_has : ∀ (l : List F0) (ps : List Int) (w : F0), w ∈ l → firmF w = true → ∃ p ∈ leftPairs l ps, p.1 = w
  | [], _, _, h, _ => by cases h
  | a :: r, ps, w, h, hf => by
    unfold leftPairs
    rcases List.mem_cons.1 h with rfl | h
    · have hk : (keepP w ps).1 = true := by
        unfold keepP
        unfold firmF at hf
        rw [if_pos hf]
      rw [if_neg (by rw [hk]; simp)]
      exact ⟨_, List.mem_cons_self .., rfl⟩
    · split
      · exact pairs_has r _ w h hf
      · obtain ⟨p, hp, e⟩ := pairs_has r _ w h hf
        exact ⟨p, List.mem_cons_of_mem _ hp, e⟩
theorem crash_files (d : Dk) (ps : List Int) : (d.crash ps).files = (leftPairs d.files ps).map (·.2) := by
  show (d.files.foldl crashStep ([], ps)).1 = _
  rw [crash_pairs]
  rfl
theorem sorted_ext : ∀ {a b : List (List UInt8)}, a.Pairwise (· < ·) → b.Pairwise (· < ·) → (∀ x, x ∈ a ↔ x ∈ b) → a = b
  | [], [], _, _, _ => rfl
  | [], y :: s, _, _, h => absurd ((h y).2 (List.mem_cons_self ..)) (by simp)
  | x :: r, [], _, _, h => absurd ((h x).1 (List.mem_cons_self ..)) (by simp)
  | x :: r, y :: s, ha, hb, h => by
    rw [List.pairwise_cons] at ha hb
    have e : x = y := by
      rcases List.mem_cons.1 ((h x).1 (List.mem_cons_self ..)) with e | hx
      · exact e
      · rcases List.mem_cons.1 ((h y).2 (List.mem_cons_self ..)) with e | hy
        · exact e.symm
        · exact absurd (List.lt_trans (ha.1 y hy) (hb.1 x hx)) (List.lt_irrefl _)
    subst e
    rw [sorted_ext ha.2 hb.2 (fun z => ?_)]
    constructor
    · intro hz
      rcases List.mem_cons.1 ((h z).1 (List.mem_cons_of_mem _ hz)) with e | hz'
      · subst e
        exact absurd (ha.1 z hz) (List.lt_irrefl _)
      · exact hz'
    · intro hz
      rcases List.mem_cons.1 ((h z).2 (List.mem_cons_of_mem _ hz)) with e | hz'
      · subst e
        exact absurd (hb.1 z hz) (List.lt_irrefl _)
      · exact hz'
def FirmD (d : Dk) : Prop := d.fates = [] ∧ ∀ f ∈ d.files, f.there = true ∧ f.named = true ∧ f.lasts = f.bytes.length
structure OldI (log : ByteArray) (g : Lg) (d : Dk) (tl : List UInt8) : Prop where
  ok : LgOk g
  names : d.namesOf log = g.segs.map fun s => sname log s.1
  ini : ∀ s ∈ g.ini, ∃ f, d.find (sname log s.1) = some f ∧ f.bytes = batsT s.2
  last : ∃ f, d.find (sname log g.lb) = some f ∧ f.bytes = batsT g.lbs ++ tl
  torn : tl = [] ∨ TornL tl
  firm : FirmD d
  alive : g.dead = false
  stands : g.stands = g.fin
theorem behind_app {α : Type} : ∀ (l m : List (Nat × List α)) (bn : Nat), Behind bn (l ++ m) ↔ Behind bn l ∧ Behind (bn + (l.flatMap (·.2)).length) m
  | [], m, bn => by simp [Behind]
  | (c, x) :: l, m, bn => by
    show (c = bn ∧ Behind (bn + x.length) (l ++ m)) ↔ (c = bn ∧ Behind (bn + x.length) l) ∧ _
    rw [behind_app l m, List.flatMap_cons, List.length_append]
    dsimp only
    rw [Nat.add_assoc]
    exact and_assoc.symm
def rsOf (l : List (Nat × List Bat)) : List (Nat × List Rc) := l.map fun s => (s.1, recsT s.2)
theorem rsOf_len (l : List (Nat × List Bat)) : ((rsOf l).flatMap (·.2)).length = cntT (l.flatMap (·.2)) := by
  have e : (rsOf l).flatMap (·.2) = recsT (l.flatMap (·.2)) := by
    unfold rsOf recsT
    rw [List.flatMap_map, List.flatMap_assoc]
  rw [e, recsT_len]
theorem rsOf_app (a b : List (Nat × List Bat)) : rsOf (a ++ b) = rsOf a ++ rsOf b := by unfold rsOf; rw [List.map_append]
theorem lgOk_of {b : Nat} {ini : List (Nat × List Bat)} {lb : Nat} {lbs : List Bat} (hch : ∀ s ∈ ini ++ [(lb, lbs)], Chain s.1 s.2 ∧ s.1 ≤ 9007199254740992) (hb : Behind b (rsOf (ini ++ [(lb, lbs)]))) (hne : ∀ s ∈ ini, s.2 ≠ []) :
    LgOk ⟨ini, lb, lbs, lb + cntT lbs, false⟩ ∧ Lg.begin ⟨ini, lb, lbs, lb + cntT lbs, false⟩ = b := by
  have e : Lg.begin ⟨ini, lb, lbs, lb + cntT lbs, false⟩ = b := by
    unfold Lg.begin
    cases ini with
    | nil => exact hb.1
    | cons x y => exact hb.1
  exact ⟨⟨hch, by rw [e]; exact hb, hne, Nat.le_refl _⟩, e⟩
section
variable {log : ByteArray} {g : Lg} {d : Dk} {A0 B0 X : List Bat}
structure LeftL (log : ByteArray) (g : Lg) (A0 B0 X : List Bat) (d' : Dk) (g' : Lg) (tl : List UInt8) : Prop where
  old : OldI log g' d' tl
  parts : ∃ A' X', cntT A' = g'.begin ∧ A' ++ g'.bats ++ X' = A0 ++ B0 ++ g.bats ++ X
  begin : g'.begin ≤ g.begin
  stands : g.stands ≤ g'.fin
theorem oldI_of {d' : Dk} {b : Nat} {ini : List (Nat × List Bat)} {lb : Nat} {lbs : List Bat} {tl : List UInt8} (hlog : loggedB log.data.toList = true) (hs : (d'.files.map (·.name)).Pairwise (· < ·)) (hfirm : FirmD d')
    (hch : ∀ s ∈ ini ++ [(lb, lbs)], Chain s.1 s.2 ∧ s.1 ≤ 9007199254740992) (hb : Behind b (rsOf (ini ++ [(lb, lbs)]))) (hne : ∀ s ∈ ini, s.2 ≠ []) (ht : tl = [] ∨ TornL tl)
    (hini : ∀ s ∈ ini, ∃ f ∈ d'.files, f.name = sname log s.1 ∧ f.bytes = batsT s.2) (hlast : ∃ f ∈ d'.files, f.name = sname log lb ∧ f.bytes = batsT lbs ++ tl)
    (hall : ∀ f ∈ d'.files, ∃ s ∈ ini ++ [(lb, lbs)], f.name = sname log s.1) :
    OldI log ⟨ini, lb, lbs, lb + cntT lbs, false⟩ d' tl ∧ Lg.begin ⟨ini, lb, lbs, lb + cntT lbs, false⟩ = b := by
  obtain ⟨h1, h2⟩ := lgOk_of hch hb hne
  have hfind : ∀ {f : F0}, f ∈ d'.files → d'.find f.name = some f := fun {f} hf => find_of_mem hs hf (hfirm.2 f hf).1
  refine ⟨⟨h1, ?_, fun s hs' => ?_, ?_, ht, hfirm, rfl, rfl⟩, h2⟩
  · have e1 : d'.namesOf log = d'.files.map (·.name) := by
      unfold Dk.namesOf Dk.names
      have e2 : d'.files.filter (·.there) = d'.files := List.filter_eq_self.2 (fun f hf => (hfirm.2 f hf).1)
      rw [e2, List.filter_eq_self]
      intro x hx
      obtain ⟨f, hf, rfl⟩ := List.mem_map.1 hx
      obtain ⟨s, hs', e⟩ := hall f hf
      rw [e]
      exact sname_of hlog (hch s hs').2
    rw [e1]
    have h3 := h1.rises
    refine sorted_ext hs ?_ (fun x => ?_)
    · rw [List.pairwise_map] at h3 ⊢
      refine List.Pairwise.imp_of_mem (fun {a c} ha hc hac => ?_) h3
      exact sname_lt log hac (hch c hc).2
    · constructor
      · intro hx
        obtain ⟨f, hf, rfl⟩ := List.mem_map.1 hx
        obtain ⟨s, hs', e⟩ := hall f hf
        exact List.mem_map.2 ⟨s, hs', e.symm⟩
      · intro hx
        obtain ⟨s, hs', rfl⟩ := List.mem_map.1 hx
        rcases List.mem_append.1 hs' with h4 | h4
        · obtain ⟨f, hf, e, -⟩ := hini s h4
          exact List.mem_map.2 ⟨f, hf, e⟩
        · rw [List.mem_singleton] at h4
          subst h4
          obtain ⟨f, hf, e, -⟩ := hlast
          exact List.mem_map.2 ⟨f, hf, e⟩
  · obtain ⟨f, hf, e, hb'⟩ := hini s hs'
    exact ⟨f, by rw [← e]; exact hfind hf, hb'⟩
  · obtain ⟨f, hf, e, hb'⟩ := hlast
    exact ⟨f, by rw [← e]; exact hfind hf, hb'⟩
theorem cut_eq {w f : F0} (h : Left w f) (hl : w.lasts = w.bytes.length) : f.bytes = w.bytes := by
  have h1 := h.least
  have h2 := h.begins
  rw [List.take_of_length_le (by omega)] at h2
  exact h2
set_option maxHeartbeats 400000 in
theorem CrI.crash (h : CrI log g d A0 B0 X) (hlog : loggedB log.data.toList = true) (ps : List Int) (hs' : ((d.crash ps).files.map (·.name)).Pairwise (· < ·)) :
    ∃ g' tl, LeftL log g A0 B0 X (d.crash ps) g' tl := by
  have hle : ∀ w ∈ d.files, w.lasts ≤ w.bytes.length := fun w hw => by
    rcases h.each w hw with ⟨s, -, -, -, -, -, e⟩ | ⟨-, hl⟩ | ho
    · omega
    · exact hl.2.2.1
    · have := ho.2.2.2.2.2; omega
  have key : ∀ f ∈ (d.crash ps).files, ∃ w ∈ d.files, Left w f := fun f hf => by
    rw [crash_files] at hf
    obtain ⟨p, hp, rfl⟩ := List.mem_map.1 hf
    obtain ⟨h1, h2⟩ := pairs_left d.files ps hle p hp
    exact ⟨p.1, h1, h2⟩
  have keep : ∀ w ∈ d.files, firmF w = true → ∃ f ∈ (d.crash ps).files, Left w f := fun w hw hf => by
    obtain ⟨p, hp, rfl⟩ := pairs_has d.files ps w hw hf
    exact ⟨p.2, by rw [crash_files]; exact List.mem_map_of_mem hp, (pairs_left d.files ps hle p hp).2⟩
  have hfirm : FirmD (d.crash ps) := ⟨rfl, fun f hf => by
    obtain ⟨w, -, hl⟩ := key f hf
    exact ⟨hl.there, hl.named, hl.lasts⟩⟩
  obtain ⟨D, hD⟩ : ∃ D, D = d.crash ps := ⟨_, rfl⟩
  rw [← hD] at key keep hfirm hs' ⊢
  have hlast := h.ok.chainL
  have hlb := h.ok.lb_bats
  have hbg := h.begin
  have hchL : Chain g.lb (g.lbs ++ X) := by
    have h1 := h.chain
    rw [Lg.bats_split] at h1
    have e : A0 ++ B0 ++ (g.ini.flatMap (·.2) ++ g.lbs) ++ X = (A0 ++ B0 ++ g.ini.flatMap (·.2)) ++ (g.lbs ++ X) ++ [] := by simp
    rw [e] at h1
    have h2 := chain_mid h1
    rw [cntT_append, hbg, ← hlb, Nat.zero_add] at h2
    exact h2
  have hchB : Chain (cntT A0) B0 := by
    have h1 := h.chain
    rw [List.append_assoc] at h1
    have h2 := chain_mid h1
    rwa [Nat.zero_add] at h2
  have hb1 : Behind g.begin (rsOf g.ini) := h.ok.lb_eq.1
  have hiniF : ∀ s ∈ g.ini, ∃ f ∈ D.files, f.name = sname log s.1 ∧ f.bytes = batsT s.2 := fun s hs1 => by
    have hsg : s ∈ g.segs := List.mem_append_left _ hs1
    obtain ⟨w, hw, hn⟩ := h.has s hsg
    rcases h.each w hw with ⟨s', hs2, e1, e2, e3, e4, e5⟩ | ⟨e1, -⟩ | ⟨e0, e1, -⟩
    · have hsg' : s' ∈ g.segs := List.mem_append_left _ hs2
      have : s' = s := h.ok.same hsg' hsg (sname_inj hlog (h.ok.chain s' hsg').2 (h.ok.chain s hsg).2 (e1.symm.trans hn))
      subst this
      obtain ⟨f, hf, hl⟩ := keep w hw (by unfold firmF; rw [e2, e3]; rfl)
      exact ⟨f, hf, hl.name.trans e1, (cut_eq hl e5).trans e4⟩
    · exact absurd (hn.symm.trans e1) (h.ok.names hlog s hs1)
    · have h1 := behind_rises _ _ h.ok.behind (fun s hs => by
        unfold Lg.segs at hs
        rw [List.map_append, List.map_cons, List.map_nil, List.dropLast_concat] at hs
        obtain ⟨t, ht, rfl⟩ := List.mem_map.1 hs
        exact recsT_ne (h.ok.chain t (by unfold Lg.segs; exact List.mem_append_left _ ht)).1 (h.ok.ne t ht))
      have h2 := h1.1 (s.1, recsT s.2) (List.mem_map_of_mem (f := fun s : Nat × List Bat => (s.1, recsT s.2)) hsg)
      have h3 := recsT_ne hchB e0
      rw [recsT_len] at h3
      rw [cntT_append] at hbg
      have h5 := (h.ok.chain s hsg).2
      have h4 := sname_inj hlog (show cntT A0 ≤ 9007199254740992 by dsimp only at h2; omega) h5 (e1.symm.trans hn)
      dsimp only at h2
      omega
  have hA0 : cntT A0 ≤ 9007199254740992 := by
    rw [cntT_append] at hbg
    omega
  -- the struck file
  obtain ⟨O, hO1, hO2, hO3, hO4⟩ : ∃ O : List (Nat × List Bat), (O = [] ∨ (O = [(cntT A0, B0)] ∧ B0 ≠ [])) ∧ (∀ s ∈ O, ∃ f ∈ D.files, f.name = sname log s.1 ∧ f.bytes = batsT s.2) ∧ (∀ f ∈ D.files, ∀ w ∈ d.files, OldF log A0 B0 w → Left w f → ∃ s ∈ O, f.name = sname log s.1) ∧ (∀ s ∈ O, Chain s.1 s.2 ∧ s.1 ≤ 9007199254740992 ∧ s.2 ≠ []) := by
    by_cases hx : ∃ f ∈ D.files, ∃ w ∈ d.files, OldF log A0 B0 w ∧ Left w f
    · obtain ⟨f, hf, w, hw, ho, hl⟩ := hx
      refine ⟨[(cntT A0, B0)], .inr ⟨rfl, ho.1⟩, fun s hs1 => ?_, fun f' _ w' _ ho' hl' => ⟨(cntT A0, B0), List.mem_singleton.2 rfl, (hl'.name.trans ho'.2.1 : f'.name = sname log (cntT A0))⟩, fun s hs1 => ?_⟩
      · rw [List.mem_singleton] at hs1
        subst hs1
        exact ⟨f, hf, hl.name.trans ho.2.1, (cut_eq hl ho.2.2.2.2.2).trans ho.2.2.2.2.1⟩
      · rw [List.mem_singleton] at hs1
        subst hs1
        exact ⟨hchB, hA0, ho.1⟩
    · exact ⟨[], .inl rfl, fun s hs1 => (by cases hs1), fun f hf w hw ho hl => absurd ⟨f, hf, w, hw, ho, hl⟩ hx, fun s hs1 => (by cases hs1)⟩
  obtain ⟨bO, AO, hbO, hAO, hAOe, hbOl⟩ : ∃ (bO : Nat) (AO : List Bat), Behind bO (rsOf O) ∧ cntT AO = bO ∧ AO ++ O.flatMap (·.2) = A0 ++ B0 ∧ bO ≤ g.begin ∧ bO + cntT (O.flatMap (·.2)) = g.begin := by
    rcases hO1 with rfl | ⟨rfl, -⟩
    · exact ⟨g.begin, A0 ++ B0, trivial, hbg, by simp, Nat.le_refl _, by simp [cntT]⟩
    · refine ⟨cntT A0, A0, ⟨rfl, trivial⟩, rfl, by simp, ?_, ?_⟩
      · rw [cntT_append] at hbg
        omega
      · rw [cntT_append] at hbg
        simpa using hbg
  obtain ⟨hbOl, hbOe⟩ := hbOl
  have hb2 : Behind bO (rsOf (O ++ g.ini)) := by
    rw [rsOf_app, behind_app, rsOf_len, hbOe]
    exact ⟨hbO, hb1⟩
  have hchO : ∀ s ∈ O ++ g.ini, Chain s.1 s.2 ∧ s.1 ≤ 9007199254740992 := fun s hs1 => by
    rcases List.mem_append.1 hs1 with h1 | h1
    · exact ⟨(hO4 s h1).1, (hO4 s h1).2.1⟩
    · exact h.ok.chain s (List.mem_append_left _ h1)
  have hneO : ∀ s ∈ O ++ g.ini, s.2 ≠ [] := fun s hs1 => by
    rcases List.mem_append.1 hs1 with h1 | h1
    · exact (hO4 s h1).2.2
    · exact h.ok.ne s h1
  have hfO : ∀ s ∈ O ++ g.ini, ∃ f ∈ D.files, f.name = sname log s.1 ∧ f.bytes = batsT s.2 := fun s hs1 => by
    rcases List.mem_append.1 hs1 with h1 | h1
    · exact hO2 s h1
    · exact hiniF s h1
  have hlbe : bO + cntT ((O ++ g.ini).flatMap (·.2)) = g.lb := by
    rw [List.flatMap_append, cntT_append, ← Nat.add_assoc, hbOe, hlb]
  -- is the last one's file there?
  by_cases hL : ∃ f ∈ D.files, f.name = sname log g.lb
  · obtain ⟨f, hf, hn⟩ := hL
    obtain ⟨w, hw, hl⟩ := key f hf
    have hlw : LastF g X w := by
      rcases h.each w hw with ⟨s', hs2, e1, -⟩ | ⟨-, hlw⟩ | ⟨e0, e1, -⟩
      · exact absurd (e1.symm.trans (hl.name.symm.trans hn)) (h.ok.names hlog s' hs2)
      · exact hlw
      · have h3 := recsT_ne hchB e0
        rw [recsT_len] at h3
        have h4 := sname_inj hlog hA0 hlast.2 (e1.symm.trans (hl.name.symm.trans hn))
        rw [cntT_append] at hbg
        omega
    obtain ⟨-, -, c3, tl, t, k, c4, c5, c6, c7, c8⟩ := hlw
    have hpre : f.bytes = (batsT (g.lbs ++ X)).take f.bytes.length := by
      have h1 := hl.begins
      have h2 := hl.most
      rw [c4] at h1 h2
      rw [batsT_append, c5, ← List.append_assoc, List.take_append_of_le_length h2]
      exact h1
    have hfl : f.bytes.length ≤ (batsT (g.lbs ++ X)).length := by
      have h2 := hl.most
      rw [c4] at h2
      rw [batsT_append, c5, ← List.append_assoc, List.length_append]
      omega
    obtain ⟨kk, t', g1, g2, g3, g4⟩ := torn_split (g.lbs ++ X) f.bytes.length (fun b hb => hchL.good b hb) hfl
    have hk : k ≤ kk := g4 k (by rw [List.length_append]; omega) (by
      have e : posT (g.lbs ++ X) k = posT g.lbs k := by unfold posT; rw [List.take_append_of_le_length c6]
      rw [e]
      exact Nat.le_trans c7 hl.least)
    obtain ⟨o1, o2⟩ := oldI_of (lb := g.lb) (lbs := (g.lbs ++ X).take kk) (b := bO) (ini := O ++ g.ini) (tl := t') hlog hs' hfirm (fun s hs1 => by
      rcases List.mem_append.1 hs1 with h1 | h1
      · exact hchO s h1
      · rw [List.mem_singleton] at h1
        subst h1
        exact ⟨hchL.take kk, hlast.2⟩) (by
      rw [rsOf_app, behind_app, rsOf_len, hlbe]
      exact ⟨hb2, rfl, trivial⟩) hneO g3 hfO ⟨f, hf, hn, hpre.trans g2⟩ (fun f' hf' => by
      obtain ⟨w', hw', hl'⟩ := key f' hf'
      rcases h.each w' hw' with ⟨s', hs2, e1, -⟩ | ⟨e1, -⟩ | ho
      · exact ⟨s', by simp [hs2], hl'.name.trans e1⟩
      · exact ⟨(g.lb, (g.lbs ++ X).take kk), List.mem_append_right _ (List.mem_singleton.2 rfl), (hl'.name.trans e1 : f'.name = sname log g.lb)⟩
      · obtain ⟨s, hs1, e⟩ := hO3 f' hf' w' hw' ho hl'
        exact ⟨s, by simp [hs1], e⟩)
    refine ⟨_, t', o1, ⟨AO, (g.lbs ++ X).drop kk, by rw [o2]; exact hAO, ?_⟩, by rw [o2]; exact hbOl, ?_⟩
    · rw [Lg.bats_split, Lg.bats_split]
      show AO ++ ((O ++ g.ini).flatMap (·.2) ++ (g.lbs ++ X).take kk) ++ (g.lbs ++ X).drop kk = _
      rw [List.append_assoc, List.append_assoc, List.take_append_drop, List.flatMap_append, ← hAOe]
      simp
    · show g.stands ≤ g.lb + cntT ((g.lbs ++ X).take kk)
      have e : cntT ((g.lbs ++ X).take k) = cntT (g.lbs.take k) := by rw [List.take_append_of_le_length c6]
      have := cntT_le (bs := g.lbs ++ X) k kk hk
      omega
  · have hun : g.lbs = [] ∧ g.ini ≠ [] := by
      obtain ⟨w, hw, hn⟩ := h.has (g.lb, g.lbs) (by unfold Lg.segs; simp)
      rcases h.each w hw with ⟨s', hs2, e1, -⟩ | ⟨-, c1, c2, -⟩ | ⟨e0, e1, -⟩
      · exact absurd (e1.symm.trans hn) (h.ok.names hlog s' hs2)
      · rcases c2 with c2 | c2
        · obtain ⟨f, hf, hl⟩ := keep w hw (by unfold firmF; rw [c1, c2]; rfl)
          exact absurd ⟨f, hf, hl.name.trans hn⟩ hL
        · exact c2.2
      · have h3 := recsT_ne hchB e0
        rw [recsT_len] at h3
        have h4 := sname_inj hlog hA0 hlast.2 (e1.symm.trans hn)
        rw [cntT_append] at hbg
        omega
    obtain ⟨hnil, hine⟩ := hun
    obtain ⟨i0, x, hix⟩ : ∃ i0 x, g.ini = i0 ++ [x] := ⟨g.ini.dropLast, g.ini.getLast hine, (List.dropLast_concat_getLast hine).symm⟩
    have hiO : O ++ g.ini = (O ++ i0) ++ [x] := by rw [hix, List.append_assoc]
    rw [hiO] at hb2 hchO hneO hfO hlbe
    obtain ⟨f, hf, hn, hfb⟩ := hfO x (by simp)
    obtain ⟨o1, o2⟩ := oldI_of (lb := x.1) (lbs := x.2) (b := bO) (ini := O ++ i0) (tl := []) hlog hs' hfirm hchO hb2 (fun s hs1 => hneO s (List.mem_append_left _ hs1)) (.inl rfl) (fun s hs1 => hfO s (List.mem_append_left _ hs1)) ⟨f, hf, hn, by rw [List.append_nil]; exact hfb⟩ (fun f' hf' => by
      obtain ⟨w', hw', hl'⟩ := key f' hf'
      rcases h.each w' hw' with ⟨s', hs2, e1, -⟩ | ⟨e1, -⟩ | ho
      · exact ⟨s', by rw [show ((x.1, x.2) : Nat × List Bat) = x from rfl, ← hiO]; simp [hs2], hl'.name.trans e1⟩
      · exact absurd ⟨f', hf', hl'.name.trans e1⟩ hL
      · obtain ⟨s, hs1, e⟩ := hO3 f' hf' w' hw' ho hl'
        exact ⟨s, by simp [hs1], e⟩)
    refine ⟨_, [], o1, ⟨AO, X, by rw [o2]; exact hAO, ?_⟩, by rw [o2]; exact hbOl, ?_⟩
    · rw [Lg.bats_split, Lg.bats_split, hnil, hix]
      show AO ++ ((O ++ i0).flatMap (·.2) ++ x.2) ++ X = _
      rw [List.flatMap_append, ← hAOe]
      simp
    · show g.stands ≤ x.1 + cntT x.2
      have h1 := h.ok.stands
      have h2 : g.fin = g.lb := by
        unfold Lg.fin
        rw [hnil]
        rfl
      have h3 : Behind bO (rsOf (O ++ i0) ++ rsOf [x]) := by rw [← rsOf_app]; exact hb2
      rw [behind_app, rsOf_len] at h3
      have h4 : x.1 = bO + cntT ((O ++ i0).flatMap (·.2)) := h3.2.1
      rw [List.flatMap_append, cntT_append] at hlbe
      simp only [List.flatMap_cons, List.flatMap_nil, List.append_nil] at hlbe
      omega
end
end Go.Proofs.YtlgcoaeddeiegaaGreat
/- partlog: looked: a log's files are gone over. -/
namespace Go.Proofs.YtlgcoaeddeiegaaGreat
open Go Go.Maps Go.RowKit
attribute [local go_sem] Oper.semAt_some

def BoxRow (e t : TypeId) (size b lo : Nat) (W : World) (m : Nat) (xs : List Value) : Prop :=
  ∃ oa c, W.heap[b]? = some (.cells #[.slice oa m c] t (0, 0)) ∧ rowAt W e size (.slice oa m c) m xs ∧ ∀ k, (Value.slice oa m c).ownBlock = some k → lo ≤ k
theorem BoxRow.kept {e t : TypeId} {size b lo m : Nat} {W W' : World} {xs : List Value} (h : BoxRow e t size b lo W m xs) (hb : Below W.heap.size W W') : BoxRow e t size b lo W' m xs := by
  obtain ⟨oa, c, h1, h2, h3⟩ := h
  exact ⟨oa, c, (hb.block _ (Array.getElem?_eq_some_iff.1 h1).1).trans h1, h2.kept (fun k hk => hb.block k (h2.lt k hk)), h3⟩
theorem BoxRow.store {e t : TypeId} {size b lo m : Nat} {W w3 : World} {xs ys : List Value} {oa oa3 : Option Addr} {c c3 : Nat} {o : Obj} (hlo : lo ≤ W.heap.size) (hbl : b < lo) (hbx : W.heap[b]? = some (.cells #[.slice oa m c] t (0, 0)))
    (hown : ∀ k, (Value.slice oa m c).ownBlock = some k → lo ≤ k)
    (hr : rowAt w3 e size (.slice oa3 (m + 1) c3) (m + 1) (xs ++ ys)) (hg : (W.alloc o).grownBy w3 (Value.slice oa m c).ownBlock)
    (hw : (Value.slice oa3 (m + 1) c3).ownBlock = (Value.slice oa m c).ownBlock ∨ (Value.slice oa3 (m + 1) c3).ownBlock = some (W.heap.size + 1)) :
    w3.heap[b]? = some (.cells #[.slice oa m c] t (0, 0)) ∧ BoxRow e t size b lo (w3.setCell ⟨b, 0, none⟩ (.slice oa3 (m + 1) c3)) (m + 1) (xs ++ ys) := by
  have hsz := (Array.getElem?_eq_some_iff.1 hbx).1
  have hnew : ∀ k, (Value.slice oa3 (m + 1) c3).ownBlock = some k → lo ≤ k := fun k hk => by
    rcases hw with h1 | h1
    · exact hown k (by rw [← h1]; exact hk)
    · rw [hk] at h1
      simp only [Option.some.injEq] at h1
      omega
  have hb3 : w3.heap[b]? = some (.cells #[.slice oa m c] t (0, 0)) := (hg.block _ (by simp; omega) (fun e => by have := hown _ e.symm; omega)).trans ((Below.heap_alloc _ _ _ hsz).trans hbx)
  exact ⟨hb3, oa3, c3, heap_setCell_here _ hb3, hr.kept (fun k hk => Below.heap_setCell _ _ _ _ (fun e => by have := hnew k hk; dsimp only at e; omega)), hnew⟩
theorem info_found : (Tryz.prog.info? 48).map (fun i => (i.zero, i.size, i.bytes)) = some (some (.agg #[.int .i64 0, .int .i64 0, .int .i64 0, .int .i64 0]), 4, 32) := by kernel_rfl
def whysT (n : Nat) (tl : List UInt8) (i : Nat) : Int := if i + 1 < n then 150 else whyT tl
def fndCells (s : Nat × List Bat) (y : Int) : List Value := [.int .i64 (s.2.length : Int), .int .i64 ((s.1 + cntT s.2 : Nat) : Int), .int .i64 ((batsT s.2).length : Int), .int .i64 y]
def fndT (l : List (Nat × List Bat)) (tl : List UInt8) (t : Nat) : List Value := (List.range t).flatMap fun i => fndCells (l.getD i (0, [])) (whysT l.length tl i)
theorem fndT_succ (l : List (Nat × List Bat)) (tl : List UInt8) (t : Nat) : fndT l tl (t + 1) = fndT l tl t ++ fndCells (l.getD t (0, [])) (whysT l.length tl t) := by
  unfold fndT
  rw [List.range_succ, List.flatMap_append]
  simp
theorem fndT_len (l : List (Nat × List Bat)) (tl : List UInt8) : ∀ t, (fndT l tl t).length = t * 4
  | 0 => rfl
  | t + 1 => by
    rw [fndT_succ, List.length_append, fndT_len l tl t]
    simp [fndCells]
    omega
theorem fndT_get (l : List (Nat × List Bat)) (tl : List UInt8) (i j : Nat) (hj : j < 4) : ∀ t, i < t → (fndT l tl t)[i * 4 + j]? = (fndCells (l.getD i (0, [])) (whysT l.length tl i))[j]?
  | 0, h => absurd h (Nat.not_lt_zero i)
  | t + 1, h => by
    rw [fndT_succ]
    by_cases ht : i < t
    · rw [List.getElem?_append_left (by rw [fndT_len]; omega)]
      exact fndT_get l tl i j hj t ht
    · obtain rfl : i = t := by omega
      rw [List.getElem?_append_right (by rw [fndT_len]; omega), fndT_len]
      congr 1
      omega
theorem Lg.segs_len (g : Lg) : g.segs.length = g.ini.length + 1 := by unfold Lg.segs; simp
theorem Lg.segs_ini (g : Lg) {t : Nat} (ht : t < g.segs.length) (hi : t + 1 < g.segs.length) : g.segs[t] ∈ g.ini := by
  have hl := g.segs_len
  have h1 : g.segs[t]? = (g.ini ++ [(g.lb, g.lbs)])[t]? := rfl
  rw [List.getElem?_eq_getElem ht, List.getElem?_append_left (by omega), List.getElem?_eq_getElem (by omega)] at h1
  rw [Option.some.inj h1]
  exact List.getElem_mem _
theorem Lg.segs_last (g : Lg) {t : Nat} (ht : t < g.segs.length) (hi : ¬ t + 1 < g.segs.length) : g.segs[t] = (g.lb, g.lbs) := by
  have hl := g.segs_len
  have h1 : g.segs[t]? = (g.ini ++ [(g.lb, g.lbs)])[t]? := rfl
  rw [List.getElem?_eq_getElem ht, List.getElem?_append_right (by omega), show t - g.ini.length = 0 by omega] at h1
  exact Option.some.inj h1
theorem lookL_b {w : World} {S : Nat → Prop} {q : Nat} {d : Dk} {log : ByteArray} {g : Lg} {tl : List UInt8} (h : DiskAt w S q d) (ho : OldI log g d tl) (hl : log.size ≤ 8) (hlog : loggedB log.data.toList = true) {t : Nat} (ht : t < g.segs.length) :
    Calls Tryz.prog 20 #[.pointer (some ⟨q, 0, none⟩), .string (segName log g.segs[t].1)] w fun e w' => e = .returned (.tuple #[foundV g.segs[t].2.length (g.segs[t].1 + cntT g.segs[t].2) (batsT g.segs[t].2).length (whysT g.segs.length tl t), .int .i64 0]) ∧ Below w.heap.size w w' := by
  have hm : g.segs[t] ∈ g.segs := List.getElem_mem ht
  obtain ⟨hch, hbl⟩ := ho.ok.chain _ hm
  obtain ⟨hk, hn⟩ := sname_ok hlog hbl
  unfold whysT
  by_cases hi : t + 1 < g.segs.length
  · rw [if_pos hi]
    have hin := g.segs_ini ht hi
    obtain ⟨f, hf, hfb⟩ := ho.ini _ hin
    exact lookS_b (tl := []) h (segName_size hl) hk hn hf (by rw [hfb, List.append_nil]) ⟨hch.good, .inl rfl⟩ hch hbl
  · rw [if_neg hi]
    have he := g.segs_last ht hi
    rw [he] at hch hbl hk hn ⊢
    obtain ⟨f, hf, hfb⟩ := ho.last
    exact lookS_b h (segName_size hl) hk hn hf hfb ⟨hch.good, ho.torn⟩ hch hbl
theorem wrong_b {w : World} {b7 i n : Nat} {oa : Option Addr} {c : Nat} {y z : Int} (hb : w.heap[b7]? = some (.cells #[.slice oa n c] 255 (0, 0))) {xs : List Value} (hr : rowAt w 48 4 (.slice oa n c) n xs) (hi : i < n) (hn : n ≤ 1000000) (hx : xs[i * 4 + 3]? = some (.int .i64 y)) :
    Calls Tryz.prog 138 #[.int .i64 (i : Int), .int .i64 z, .pointer (some ⟨b7, 0, none⟩)] w fun e w' => e = .returned (.bool (decide (y = z))) ∧ w' = w := by
  obtain ⟨g, off, rfl⟩ := hr.read.addr (by omega)
  have k0 : w.cell? ⟨b7, 0, none⟩ = some (.slice (some ⟨g, off, none⟩) n c) := cell_of hb rfl
  have k3 : w.cell? ⟨g, off + i * 4 + 3, none⟩ = some (.int .i64 y) := by
    have := hr.cells rfl (i * 4 + 3) (.int .i64 y) hx
    simpa [Go.WideShapes.add_plain, Nat.add_assoc] using this
  clear hb hr hx
  go_enter Tryz.func138, Tryz.ntmps138
  go_wp2_with fail
  go_ret
  exact ⟨rfl, rfl⟩
end Go.Proofs.YtlgcoaeddeiegaaGreat
