/- The texts Ji, Jj, Jk, Jl, Jm, Ka, Kc in one. -/
import Derived.Test.YtmkjejngnahpeaaV10
import Derived.Test.YtmkjejngnahpeaaV8
import Derived.Deep.RegionHeld3
import Derived.RangeFuncCalls
import Derived.Test.YtmkjejngnahpeaaV1
import Derived.RangeFuncNested
import Derived.RangeFuncWrites
import Derived.RangeFuncBound
import Derived.Test.YtmkjejngnahpeaaV9
import Derived.Laws.EntriesVeiled
/- stops: Count, Number. -/
namespace Go.Proofs.Ytmkjejngnahpeaa
open Go Go.Maps Go.RowKit

def countV (d : Dk) : Value × Int := cntV (countT (unsT d.files))
set_option maxRecDepth 100000 in
set_option maxHeartbeats 1000000 in
theorem sCount_b {w : World} {S : Nat → Prop} {q : Nat} {d : Dk} (h : DiskAt w S q d) (hfm : d.fates.length ≤ 1000000000) :
    Calls Try.prog 74 #[.pointer (some ⟨q, 0, none⟩)] w fun e w' => e = .returned (.tuple #[(countV d).1, .int .i64 (countV d).2]) ∧ Below w.heap.size w w' := by
  have H := Lib.hid h
  have HZ := Lib.hid h.sizes
  clear h
  go_enter Try.func74, Try.ntmps74
  go_wp2_with fail
  refine (snone_b H.out hfm).mono ?_
  rintro e w1 ⟨rfl, hb1⟩
  have H1 := Lib.hid (And.intro (H.out.below hb1) hb1)
  clear hb1
  go_wp2_with fail
  refine (sall_b H1.out.1).mono ?_
  rintro e w2 ⟨oa, n, c, rfl, hn, hr, hb2⟩
  have hlen := unsT_len d.files
  have hz := HZ.out
  have HC := Lib.hid (count_b hn hr.read (by omega) (unsT_more (fun f hf => (hz.2 f hf).2)))
  have HB2 := Lib.hid (H1.out.2.trans (hb2.mono H1.out.2.size))
  clear hn hr hb2 hlen hz
  go_wp2_with fail
  refine (HC.out).mono ?_
  rintro e w3 ⟨rfl, hb3⟩
  have HB3 := Lib.hid (HB2.out.trans (hb3.mono HB2.out.size))
  clear hb3
  obtain ⟨v1, hv1⟩ : ∃ v, (cntV (countT (unsT d.files))).1 = v := ⟨_, rfl⟩
  obtain ⟨v2, hv2⟩ : ∃ v, (cntV (countT (unsT d.files))).2 = v := ⟨_, rfl⟩
  have HV : Hid ((countV d).1 = v1 ∧ (countV d).2 = v2) := Lib.hid ⟨hv1, hv2⟩
  obtain ⟨k, hk⟩ : ∃ k : Int, v1 = .int .i64 k := by
    rw [← hv1]
    unfold cntV
    split
    · exact ⟨_, rfl⟩
    · exact ⟨_, rfl⟩
  rw [hv1, hv2]
  clear hv1 hv2
  subst hk
  go_wp2_with fail
  go_ret2
  exact ⟨by rw [HV.out.1, HV.out.2]; rfl, HB3.out⟩
/-- each way is one of the ways -/
theorem plainStep_way (s : PlS) (u : U0) : ∃ x, (plainStep s u).ways = s.ways ++ [x] ∧ x < u.ways := by
  unfold plainStep U0.ways
  split
  · rename_i hn
    split
    · exact ⟨0, rfl, by omega⟩
    · split
      · refine ⟨_, rfl, ?_⟩
        have := nextP_lt (u.more + 1) (nextP 2 s.ps).2 (by omega)
        omega
      · exact ⟨1, rfl, by omega⟩
  · rename_i hn
    split
    · refine ⟨_, rfl, ?_⟩
      have := nextP_lt (u.more + 1) s.ps (by omega)
      omega
    · exact ⟨0, rfl, by omega⟩
theorem plainT_ways : ∀ (l : List U0) (s : PlS), ∃ ws, (l.foldl plainStep s).ways = s.ways ++ ws ∧ ws.length = l.length ∧ ∀ (j : Nat) (h : j < l.length) (h2 : j < ws.length), ws[j] < l[j].ways
  | [], s => ⟨[], by simp, rfl, fun j h => by cases h⟩
  | u :: r, s => by
    obtain ⟨x, hx, hlt⟩ := plainStep_way s u
    obtain ⟨ws, h1, h2, h3⟩ := plainT_ways r (plainStep s u)
    refine ⟨x :: ws, by rw [List.foldl_cons, h1, hx]; simp, by simp [h2], fun j h h4 => ?_⟩
    cases j with
    | zero => exact hlt
    | succ j => exact h3 j (by simpa using h) (by simpa using h4)
theorem plainT_way {l : List U0} {ps : List Int} {j : Nat} (h : j < l.length) (h2 : j < (plainT l ps).ways.length) : (plainT l ps).ways[j] < l[j].ways := by
  obtain ⟨ws, h1, h3, h4⟩ := plainT_ways l ⟨[], [], ps⟩
  have e : (plainT l ps).ways = ws := by
    have : (plainT l ps).ways = [] ++ ws := h1
    simpa using this
  simp only [e]
  exact h4 j h (by rw [h3]; exact h)
/-- a way's number -/
def numT : List U0 → List Nat → Nat → Nat
  | u :: l, x :: r, n => numT l r (n * u.ways + x)
  | _, _, n => n
theorem numT_succ : ∀ (l : List U0) (r : List Nat) (n j : Nat) (h : j < l.length) (h2 : j < r.length), numT (l.take (j + 1)) (r.take (j + 1)) n = numT (l.take j) (r.take j) n * l[j].ways + r[j]
  | u :: l, x :: r, n, 0, _, _ => by simp [numT]
  | u :: l, x :: r, n, j + 1, h, h2 => by
    show numT (l.take (j + 1)) (r.take (j + 1)) (n * u.ways + x) = _
    rw [numT_succ l r (n * u.ways + x) j (by simpa using h) (by simpa using h2)]
    rfl
/-- while all can be counted, the number so far is below the count so far -/
theorem numT_lt {l : List U0} {r : List Nat} (hw : ∀ (j : Nat) (h : j < l.length) (h2 : j < r.length), r[j] < l[j].ways) (hlr : l.length = r.length) {c : Nat} (hc : countT l = some c) : ∀ (j : Nat), j ≤ l.length → ∃ k, countT (l.take j) = some k ∧ numT (l.take j) (r.take j) 0 < k
  | 0, _ => ⟨1, rfl, by simp [numT]⟩
  | j + 1, hj => by
    obtain ⟨k, h1, h2⟩ := numT_lt hw hlr hc j (by omega)
    have hjl : j < l.length := by omega
    have h3 := countT_succ hjl
    rw [h1] at h3
    unfold countStep at h3
    rw [Option.bind_some] at h3
    split at h3
    · have := countT_none (l := l) h3
      rw [hc] at this
      cases this
    · refine ⟨_, h3, ?_⟩
      rw [numT_succ l r 0 j hjl (by omega)]
      have h4 := hw j hjl (by omega)
      calc numT (l.take j) (r.take j) 0 * l[j].ways + r[j] < numT (l.take j) (r.take j) 0 * l[j].ways + l[j].ways := by omega
        _ = (numT (l.take j) (r.take j) 0 + 1) * l[j].ways := by rw [Nat.add_mul, Nat.one_mul]
        _ ≤ k * l[j].ways := Nat.mul_le_mul_right _ h2
/-- what Number answers -/
def numV (d : Dk) (ps : List Int) : Int × Int := match countT (unsT d.files) with
  | some _ => (numT (unsT d.files) (plainT (unsT d.files) ps).ways 0, 0)
  | none => (0, 3)
end Go.Proofs.Ytmkjejngnahpeaa
/- stops: Number. -/
namespace Go.Proofs.Ytmkjejngnahpeaa
open Go Go.Maps Go.RowKit

theorem wrapS (n : Nat) (h : n ≤ 4611686018427387904) : IntKind.i64.wrap (n : Int) = (n : Int) := by
  rw [IntKind.wrap_i64]
  omega
/-- what a region that draws holds of the world -/
theorem hold3 {w W W' : World} {b g : Nat} {o : Nat} {x y z : Value} (h : W.cell? ⟨b, 0, none⟩ = some x ∧ W.cell? ⟨b, 1, none⟩ = some y ∧ W.cell? ⟨g, o, none⟩ = some z ∧ Below w.heap.size w W ∧ b < W.heap.size ∧ g < W.heap.size) (hb : Below W.heap.size W W') :
    W'.cell? ⟨b, 0, none⟩ = some x ∧ W'.cell? ⟨b, 1, none⟩ = some y ∧ W'.cell? ⟨g, o, none⟩ = some z ∧ Below w.heap.size w W' ∧ b < W'.heap.size ∧ g < W'.heap.size :=
  ⟨(hb.cell (p := ⟨b, 0, none⟩) h.2.2.2.2.1).trans h.1, (hb.cell (p := ⟨b, 1, none⟩) h.2.2.2.2.1).trans h.2.1, (hb.cell (p := ⟨g, o, none⟩) h.2.2.2.2.2).trans h.2.2.1, h.2.2.2.1.trans (hb.mono h.2.2.2.1.size), Nat.lt_of_lt_of_le h.2.2.2.2.1 hb.size, Nat.lt_of_lt_of_le h.2.2.2.2.2 hb.size⟩
theorem hold3_drew {w W : World} {b g : Nat} {o : Nat} {x y z : Value} (h : W.cell? ⟨b, 0, none⟩ = some x ∧ W.cell? ⟨b, 1, none⟩ = some y ∧ W.cell? ⟨g, o, none⟩ = some z ∧ Below w.heap.size w W ∧ b < W.heap.size ∧ g < W.heap.size) :
    W.drew.cell? ⟨b, 0, none⟩ = some x ∧ W.drew.cell? ⟨b, 1, none⟩ = some y ∧ W.drew.cell? ⟨g, o, none⟩ = some z ∧ Below w.heap.size w W.drew ∧ b < W.drew.heap.size ∧ g < W.drew.heap.size := hold3 h ⟨rfl, rfl, rfl, Nat.le_refl _, fun _ _ => rfl⟩
theorem hold3_below {w W : World} {b g : Nat} {o : Nat} {x y z : Value} (h : W.cell? ⟨b, 0, none⟩ = some x ∧ W.cell? ⟨b, 1, none⟩ = some y ∧ W.cell? ⟨g, o, none⟩ = some z ∧ Below w.heap.size w W ∧ b < W.heap.size ∧ g < W.heap.size) : Below w.heap.size w W := h.2.2.2.1
set_option maxRecDepth 100000 in
set_option maxHeartbeats 4000000 in
theorem sNumber_b {w : World} {S : Nat → Prop} {q : Nat} {d : Dk} (h : DiskAt w S q d) (hfm : d.fates.length ≤ 1000000000) {oa : Option Addr} {n c : Nat} {ps : List Int} (hn : ps.length = n) (hp : readAt w 1 (.slice oa n c) n (intCells ps)) (hm : n ≤ 1000000000) (hmx : ∀ x ∈ ps, x ≤ 9223372036854775807) (hge : AllGe ps) :
    Calls Try.prog 76 #[.pointer (some ⟨q, 0, none⟩), .agg #[.slice oa n c]] w fun e w' => e = .returned (.tuple #[.int .i64 (numV d ps).1, .int .i64 (numV d ps).2]) ∧ Below w.heap.size w w' := by
  have HOK : Hid (PicksOk ps) := Lib.hid (fun x hx => ⟨hge x hx, hmx x hx⟩)
  have HGE := Lib.hid hge
  have HNN := Lib.hid hn
  obtain ⟨w1, hw1⟩ : ∃ W : World, W = w.alloc (.cells #[.slice oa n c] 72) := ⟨_, rfl⟩
  obtain ⟨b3, hb3⟩ : ∃ b, b = w.heap.size := ⟨_, rfl⟩
  have h1 : w1.heap[b3]? = some (.cells #[.slice oa n c] 72 (0, 0)) := by rw [hw1, hb3]; exact alloc_cells _ _ _
  have hb1 : Below w.heap.size w w1 := by rw [hw1]; exact (Below.refl _ _).alloc (Nat.le_refl _) _
  have H := Lib.hid (And.intro (h.below hb1) (And.intro h1 hb1))
  have HP := Lib.hid (hp.kept (fun k hk _ _ => hb1.block k hk))
  have HZ := Lib.hid h.sizes
  have c0 : w1.cell? ⟨b3, 0, none⟩ = some (.slice oa n c) := cell_of h1 rfl
  clear h hp hb1 h1 hge hmx hn
  go_enter Try.func76, Try.ntmps76
  go_upto_region 1 with fail
  rw [← hw1, ← hb3]
  clear hw1 hb3
  go_wp2_with fail
  refine (sright_b H.out.1 hfm HNN.out HP.out hm).mono ?_
  rintro e w2 ⟨er, rfl, her, -, hb2⟩
  obtain rfl := her HGE.out
  have H2 := Lib.hid (And.intro (H.out.1.below hb2) (And.intro ((hb2.block b3 (Array.getElem?_eq_some_iff.1 H.out.2.1).1).trans H.out.2.1) (H.out.2.2.trans (hb2.mono H.out.2.2.size))))
  have HP2 := Lib.hid (HP.out.kept (fun k hk _ _ => hb2.block k hk))
  clear her hb2 c0 HP H
  go_wp2_with fail
  refine (sall_b H2.out.1).mono ?_
  rintro e w3 ⟨ol, m, cl, rfl, hml, hr, hb3'⟩
  have hlen := unsT_len d.files
  have hz := HZ.out
  have hm4 : m ≤ 4096 := by omega
  obtain ⟨l, hl⟩ : ∃ l, unsT d.files = l := ⟨_, rfl⟩
  have hmore := unsT_more (l := d.files) (fun f hf => (hz.2 f hf).2)
  rw [hl] at hml hr hmore
  have hr := hr.read
  have HC := Lib.hid (count_b hml hr (by omega) hmore)
  have H3 := Lib.hid (And.intro ((hb3'.block b3 (Array.getElem?_eq_some_iff.1 H2.out.2.1).1).trans H2.out.2.1) (H2.out.2.2.trans (hb3'.mono H2.out.2.2.size)))
  have HP3 := Lib.hid (HP2.out.kept (fun k hk _ _ => hb3'.block k hk))
  have HR := Lib.hid (And.intro hml (And.intro hr hmore))
  have HL := Lib.hid hl
  clear hml hr hmore hb3' hlen hz H2 HP2 hl
  go_wp2_with fail
  refine (HC.out).mono ?_
  rintro e w4 ⟨rfl, hb4⟩
  have H4 := Lib.hid (And.intro ((hb4.block b3 (Array.getElem?_eq_some_iff.1 H3.out.1).1).trans H3.out.1) (H3.out.2.trans (hb4.mono H3.out.2.size)))
  have HP4 := Lib.hid (HP3.out.kept (fun k hk _ _ => hb4.block k hk))
  have HR4 := Lib.hid (HR.out.2.1.kept (fun k hk _ _ => hb4.block k hk))
  clear hb4 HP3 H3 HC
  cases hc : countT l with
  | none =>
    have HV : Hid (numV d ps = (0, 3)) := Lib.hid (by unfold numV; rw [HL.out, hc])
    clear hc
    show _
    go_wp2_with fail
    go_ret2
    exact ⟨by rw [HV.out]; rfl, H4.out.2⟩
  | some k =>
    have HCT := Lib.hid hc
    have HV : Hid (numV d ps = (((numT l (plainT l ps).ways 0 : Nat) : Int), 0)) := Lib.hid (by unfold numV; rw [HL.out, hc])
    clear hc
    have c04 : w4.cell? ⟨b3, 0, none⟩ = some (.slice oa n c) := cell_of H4.out.1 rfl
    go_wp2_with fail
    refine (plain_b HR.out.1 HR4.out hm4 HR.out.2.2 HNN.out HP4.out HOK.out).mono ?_
    rintro e w5 ⟨o1, m1, c1, o2, m2, c2, rfl, -, hm2, -, hway, hb5⟩
    obtain ⟨ws, hws⟩ : ∃ ws, (plainT l ps).ways = ws := ⟨_, rfl⟩
    have hwl : ∀ (j : Nat) (h : j < l.length) (h2 : j < ws.length), ws[j] < l[j].ways := fun j h h2 => by
      have h3 := plainT_way (l := l) (ps := ps) (j := j) h (by rw [hws]; exact h2)
      simp only [hws] at h3
      exact h3
    have hwn : l.length = ws.length := by
      have h3 := (plainT_len l ⟨[], [], ps⟩).1
      have h4 : plainT l ps = l.foldl plainStep ⟨[], [], ps⟩ := rfl
      rw [← h4, hws] at h3
      simpa using h3.symm
    rw [hws] at HV hm2 hway
    have hmm : m2 = m := by have := HR.out.1; omega
    subst hmm
    have HW := Lib.hid (And.intro hwl (And.intro hwn hway))
    have HB5 := Lib.hid (H4.out.2.trans (hb5.mono H4.out.2.size))
    have HR5 := Lib.hid (HR4.out.kept (fun k hk _ _ => hb5.block k hk))
    clear hwl hwn hway hb5 hws c04 HR4 H4 HP4
    go_wp2_with fail
    go_loopw [10, 40] (fun sn i wr => ∃ (j x : Nat), j ≤ m2 ∧ i = .int .i64 j ∧ sn = .int .i64 x ∧ Hid (numT (l.take j) (ws.take j) 0 = x) ∧ Hid (Below w5.heap.size w5 wr)) (fun _ i wr => m2 - (intOf i).toNat)
    case atStart => exact ⟨0, 0, Nat.zero_le _, rfl, rfl, Lib.hid (by simp [numT]), Lib.hid (Below.refl _ _)⟩
    case round =>
      obtain ⟨j, x, hj, rfl, rfl, HX, HB⟩ := hrel
      by_cases hlt : j < m2
      · have hjl : j < l.length := by rw [HR.out.1]; exact hlt
        have hjw : j < ws.length := by rw [← HW.out.2.1]; exact hjl
        have hrw := HR5.out.kept (w' := wr) (fun k hk _ _ => HB.out.block k hk)
        have hrv := HW.out.2.2.kept (w' := wr) (fun k hk _ _ => HB.out.block k hk)
        obtain ⟨g, off, rfl⟩ := hrw.addr (by omega)
        obtain ⟨g2, off2, rfl⟩ := hrv.addr (by omega)
        obtain ⟨u, hu⟩ : ∃ u, l[j] = u := ⟨_, rfl⟩
        obtain ⟨y, hy⟩ : ∃ y, ws[j] = y := ⟨_, rfl⟩
        have hum : u.more ≤ 16777216 := HR.out.2.2 u (by rw [← hu]; exact List.getElem_mem _)
        obtain ⟨ub, hub⟩ : ∃ b, u.name = b := ⟨_, rfl⟩
        obtain ⟨um, humm⟩ : ∃ m, u.more = m := ⟨_, rfl⟩
        have k0 : wr.cell? ⟨g, off + j * 2, none⟩ = some (.bool ub) := us_cell (i := 0) hrw hjl (by omega) (by rw [hu, ← hub]; rfl)
        have k1 : wr.cell? ⟨g, off + j * 2 + 1, none⟩ = some (.int .i64 um) := us_cell (i := 1) hrw hjl (by omega) (by rw [hu, ← humm]; rfl)
        have k2 : wr.cell? ⟨g2, off2 + j, none⟩ = some (.int .i64 y) := hrv.cellAt (i := j) (by unfold natCells; rw [List.getElem?_map, List.getElem?_eq_getElem hjw, hy]; rfl)
        have hg2 : g2 < wr.heap.size := hrv.lt (by omega) g2 rfl
        have hue : u = ⟨ub, um⟩ := by rw [← hub, ← humm]
        rw [humm] at hum
        obtain ⟨W, hW⟩ : ∃ W, (U0.mk ub um).ways = W := ⟨_, rfl⟩
        obtain ⟨kk, hk1, hk2⟩ := numT_lt HW.out.1 HW.out.2.1 HCT.out (j + 1) (by omega)
        have hkm := countT_most hk1
        have hns := numT_succ l ws 0 j hjl hjw
        rw [HX.out, hu, hue, hW, hy] at hns
        obtain ⟨z, hz⟩ : ∃ z, x * W + y = z := ⟨_, rfl⟩
        rw [hz] at hns
        have hzm : z ≤ 4611686018427387904 := by
          rw [hns] at hk2
          unfold most62 at hkm
          omega
        have hxw : x * W ≤ z := by omega
        have HNS := Lib.hid hns
        have hzi : (x : Int) * (W : Int) + (y : Int) = (z : Int) := by rw [← hz]; simp
        obtain ⟨xw, hxwe⟩ : ∃ a, x * W = a := ⟨_, rfl⟩
        have hxi : (x : Int) * (W : Int) = (xw : Int) := by rw [← hxwe]; simp
        have HWAY := Lib.hid (fun W' : World => ways_b ub um (by omega) W')
        rw [hxwe] at hxw
        rw [hxi] at hzi
        clear hrw hrv hu hy hue hub humm hk1 hk2 hkm hns hz hxwe
        go_upto_region 13 with fail
        obtain ⟨w6, hw6⟩ : ∃ W : World, W = wr.alloc (.cells #[.bool ub, .int .i64 um] 213) := ⟨_, rfl⟩
        obtain ⟨b14, hb14⟩ : ∃ b, b = wr.heap.size := ⟨_, rfl⟩
        have h6 : w6.heap[b14]? = some (.cells #[.bool ub, .int .i64 um] 213 (0, 0)) := by rw [hw6, hb14]; exact alloc_cells _ _ _
        have hb6 : Below wr.heap.size wr w6 := by rw [hw6]; exact (Below.refl _ _).alloc (Nat.le_refl _) _
        have hS : w6.cell? ⟨b14, 0, none⟩ = some (.bool ub) ∧ w6.cell? ⟨b14, 1, none⟩ = some (.int .i64 um) ∧ w6.cell? ⟨g2, off2 + j, none⟩ = some (.int .i64 y) ∧ Below w5.heap.size w5 w6 ∧ b14 < w6.heap.size ∧ g2 < w6.heap.size :=
          ⟨cell_of h6 rfl, cell_of h6 rfl, (hb6.cell (p := ⟨g2, off2 + j, none⟩) hg2).trans k2, HB.out.trans (hb6.mono HB.out.size), (Array.getElem?_eq_some_iff.1 h6).1, Nat.lt_of_lt_of_le hg2 hb6.size⟩
        rw [← hw6, ← hb14]
        clear hw6 hb14 h6 hb6 k0 k1 k2
        go_region_held3 (fun W => W.cell? ⟨b14, 0, none⟩ = some (.bool ub) ∧ W.cell? ⟨b14, 1, none⟩ = some (.int .i64 um) ∧ W.cell? ⟨g2, off2 + j, none⟩ = some (.int .i64 y) ∧ Below w5.heap.size w5 W ∧ b14 < W.heap.size ∧ g2 < W.heap.size)
          (first | assumption | exact hold3_drew (by assumption) | exact hold3 (by assumption) (by assumption))
          (first | (go_at_call 138; refine (HWAY.out _).mono ?_; rintro e wa ⟨rfl, hba⟩; rw [hW]))
        all_goals
          have hbw := (hold3_drew hS).2.2.2.1.trans (hba.mono (hold3_drew hS).2.2.2.1.size)
          have HBW := Lib.hid hbw
          clear hbw hba hS
          go_wp2_with fail
          exact ⟨⟨j + 1, z, by omega, by simp, by rw [wrapS xw (by omega), hzi, wrapS z hzm], HNS, HBW⟩, by simp [intOf]; omega⟩
      · obtain rfl : j = m2 := by omega
        have HE : Hid (numT l ws 0 = x) := Lib.hid (by
          have h1 := HX.out
          rwa [List.take_of_length_le (by rw [HR.out.1]; exact Nat.le_refl _), List.take_of_length_le (by rw [hm2]; exact Nat.le_refl _)] at h1)
        go_wp2_with fail
        go_ret2
        exact ⟨by rw [HV.out, HE.out]; rfl, HB5.out.trans (HB.out.mono HB5.out.size)⟩
end Go.Proofs.Ytmkjejngnahpeaa
/- stops: of: the plain picks of files' ways. -/
namespace Go.Proofs.Ytmkjejngnahpeaa
open Go Go.Maps Go.RowKit

/-- a row in blocks that are new since w0 -/
structure NewR (e : TypeId) (size : Nat) (w0 W : World) (v : Value) (n : Nat) (xs : List Value) : Prop where
  row : rowAt W e size v n xs
  own : ∀ k, v.ownBlock = some k → w0.heap.size ≤ k
  below : Below w0.heap.size w0 W
theorem NewR.nil {e : TypeId} {size : Nat} {w0 W : World} (h : Below w0.heap.size w0 W) : NewR e size w0 W (.slice none 0 0) 0 [] := ⟨⟨by simp, .inl ⟨rfl, rfl⟩⟩, fun k hk => by simp [Value.ownBlock] at hk, h⟩
theorem NewR.kept {e : TypeId} {size : Nat} {w0 W W' : World} {v : Value} {n : Nat} {xs : List Value} (h : NewR e size w0 W v n xs) (hb : Below W.heap.size W W') : NewR e size w0 W' v n xs :=
  ⟨h.row.kept (fun k hk => hb.block k (h.row.lt k hk)), h.own, h.below.trans (hb.mono h.below.size)⟩
theorem wpList_append_new {w0 w2 : World} {ops : Array Oper} {rest : List Oper} {o : Oper} {a : Act} {Q : Exit → Act → World → Prop} (hgd : o.guard = none) (s x : Operand) (t e : TypeId)
    (ho : o.op = .call { callee := .builtin .append, args := #[s, x], argTypes := #[t, t] }) {z : Value} {size bytes : Nat} (ht : Try.prog.underlying t = some (.slice e)) (hinfo : (Try.prog.info? e).map (fun i => (i.zero, i.size, i.bytes)) = some (some z, size, bytes)) (hzs : z.cells.size = size) (hby : bytes ≤ 1000)
    {oa : Option Addr} {m c : Nat} {xs : List Value} (h : NewR e size w0 w2 (.slice oa m c) m xs) (hm : m ≤ 1000000) (ys : List Value) (hy : ys.length = size) (h1 : ∀ v ∈ ys, v.oneCell' = true)
    (hs : a.eval s = .slice oa m c) (hx : a.eval x = .slice (some ⟨w2.heap.size, 0, none⟩) 1 1)
    (hK : ∀ oa3 c3 w3, Hid (NewR e size w0 w3 (.slice oa3 (m + 1) c3) (m + 1) (xs ++ ys)) → Hid (KeepT [e] w2 w3) → wpList Try.prog ops Q rest (a.put o.dst (.slice oa3 (m + 1) c3)) w3) :
    wpList Try.prog ops Q (o :: rest) a (w2.alloc (.cells ys.toArray e)) := by
  refine wpList_append_one hgd s x t e ho ht hinfo hzs hby h.row hm ys hy h1 hs hx fun oa3 c3 w3 hr hg hw => hK oa3 c3 w3 (Lib.hid ⟨hr.out, fun k hk => ?_, ?_⟩) (Lib.hid ?_)
  · rcases hw.out with h2 | h2
    · exact h.own k (by rw [← h2]; exact hk)
    · rw [hk] at h2
      simp only [Option.some.injEq] at h2
      have := h.below.size
      omega
  · have hal := (h.below.alloc (by have := h.below.size; omega) (.cells ys.toArray e))
    exact hal.grown hg.out hal.size (fun k hk => h.own k hk)
  · have hal : Below w2.heap.size w2 (w2.alloc (.cells ys.toArray e)) := (Below.refl _ _).alloc (Nat.le_refl _) _
    exact (KeepT.of hal).trans (KeepT.grown (h.row.kept (fun k hk => hal.block k (h.row.lt k hk))) (by simp) hg.out)
def ofStep (out : List Nat) (u : U0) (x : Nat) : List Nat :=
  if u.name = true then
    if x = 0 then out ++ [0]
    else if 0 < u.more then out ++ [1] ++ [x - 1] else out ++ [1]
  else if 0 < u.more then out ++ [x] else out
/-- the plain picks of files' ways -/
def ofT : List U0 → List Nat → List Nat → List Nat
  | u :: l, x :: r, out => ofT l r (ofStep out u x)
  | _, _, out => out
theorem ofT_succ : ∀ (l : List U0) (r out : List Nat) (j : Nat) (h : j < l.length) (h2 : j < r.length), ofT (l.take (j + 1)) (r.take (j + 1)) out = ofStep (ofT (l.take j) (r.take j) out) l[j] r[j]
  | u :: l, x :: r, out, 0, _, _ => by simp [ofT]
  | u :: l, x :: r, out, j + 1, h, h2 => by
    show ofT (l.take (j + 1)) (r.take (j + 1)) (ofStep out u x) = _
    rw [ofT_succ l r (ofStep out u x) j (by simpa using h) (by simpa using h2)]
    rfl
theorem ofStep_len (out : List Nat) (u : U0) (x : Nat) : (ofStep out u x).length ≤ out.length + 2 := by
  unfold ofStep
  split
  · split
    · simp
    · split <;> simp
  · split <;> simp
set_option maxRecDepth 100000 in
set_option maxHeartbeats 4000000 in
theorem of_b {w : World} {oa : Option Addr} {n c : Nat} {l : List U0} (hn : l.length = n) (h : readAt w 2 (.slice oa n c) n (uCells l)) (hm : n ≤ 4096) (hsm : ∀ u ∈ l, u.more ≤ 16777216)
    {op : Option Addr} {cp : Nat} {ws : List Nat} (hnw : ws.length = n) (hw : readAt w 1 (.slice op n cp) n (natCells ws)) (hws : ∀ x ∈ ws, x ≤ 4611686018427387904) :
    Calls Try.prog 140 #[.slice oa n c, .slice op n cp] w fun e w' => ∃ o1 m1 c1, e = .returned (.slice o1 m1 c1) ∧ (ofT l ws []).length = m1 ∧ NewR 3 1 w w' (.slice o1 m1 c1) m1 (natCells (ofT l ws [])) := by
  have HR := Lib.hid (And.intro hn (And.intro h hsm))
  have HW := Lib.hid (And.intro hnw (And.intro hw hws))
  have hone : ∀ (x : Int), ∀ v ∈ ([.int .i64 x] : List Value), v.oneCell' = true := fun x v hv => by
    rw [List.mem_singleton] at hv
    subst hv
    rfl
  have HONE := Lib.hid hone
  clear h hn hsm hone hnw hw hws
  go_enter Try.func140, Try.ntmps140
  go_wp2_with fail
  go_loopw [5, 11] (fun so i wr => ∃ (j mo : Nat) (oo : Option Addr) (co : Nat), j ≤ n ∧ i = .int .i64 j ∧ so = .slice oo mo co ∧ Hid ((ofT (l.take j) (ws.take j) []).length = mo ∧ mo ≤ 2 * j) ∧ Hid (NewR 3 1 w wr (.slice oo mo co) mo (natCells (ofT (l.take j) (ws.take j) [])))) (fun _ i wr => n - (intOf i).toNat)
  case atStart => exact ⟨0, 0, none, 0, Nat.zero_le _, rfl, rfl, Lib.hid ⟨by simp [ofT], Nat.le_refl _⟩, Lib.hid (by simpa [ofT, natCells] using NewR.nil (e := 3) (size := 1) (Below.refl _ w))⟩
  case round =>
    obtain ⟨j, mo, oo, co, hj, rfl, rfl, HM, HI⟩ := hrel
    by_cases hlt : j < n
    · have hjl : j < l.length := by rw [HR.out.1]; exact hlt
      have hjw : j < ws.length := by rw [HW.out.1]; exact hlt
      have hrw : readAt wr 2 (.slice oa n c) n (uCells l) := HR.out.2.1.kept (fun k hl _ _ => HI.out.below.block k hl)
      have hrv : readAt wr 1 (.slice op n cp) n (natCells ws) := HW.out.2.1.kept (fun k hl _ _ => HI.out.below.block k hl)
      obtain ⟨g, off, rfl⟩ := hrw.addr (by omega)
      obtain ⟨g2, off2, rfl⟩ := hrv.addr (by omega)
      obtain ⟨u, hu⟩ : ∃ u, l[j] = u := ⟨_, rfl⟩
      obtain ⟨y, hy⟩ : ∃ y, ws[j] = y := ⟨_, rfl⟩
      have hum : u.more ≤ 16777216 := HR.out.2.2 u (by rw [← hu]; exact List.getElem_mem _)
      have hym : y ≤ 4611686018427387904 := HW.out.2.2 y (by rw [← hy]; exact List.getElem_mem _)
      obtain ⟨ub, hub⟩ : ∃ b, u.name = b := ⟨_, rfl⟩
      obtain ⟨um, humm⟩ : ∃ m, u.more = m := ⟨_, rfl⟩
      have k0 : wr.cell? ⟨g, off + j * 2, none⟩ = some (.bool ub) := us_cell (i := 0) hrw hjl (by omega) (by rw [hu, ← hub]; rfl)
      have k1 : wr.cell? ⟨g, off + j * 2 + 1, none⟩ = some (.int .i64 um) := us_cell (i := 1) hrw hjl (by omega) (by rw [hu, ← humm]; rfl)
      have k2 : wr.cell? ⟨g2, off2 + j, none⟩ = some (.int .i64 y) := hrv.cellAt (i := j) (by unfold natCells; rw [List.getElem?_map, List.getElem?_eq_getElem hjw, hy]; rfl)
      have hg2 : g2 < wr.heap.size := hrv.lt (by omega) g2 rfl
      have hue : u = ⟨ub, um⟩ := by rw [← hub, ← humm]
      rw [humm] at hum
      obtain ⟨st, hst⟩ : ∃ st, ofT (l.take j) (ws.take j) [] = st := ⟨_, rfl⟩
      rw [hst] at HM HI
      have HCS : Hid (ofT (l.take (j + 1)) (ws.take (j + 1)) [] = ofStep st ⟨ub, um⟩ y) := Lib.hid (by rw [ofT_succ l ws [] j hjl hjw, hst, hu, hue, hy])
      have hmo := HM.out.2
      clear hrw hrv hu hy hue hub humm hst
      go_upto_region 5 with fail
      obtain ⟨w3, hw3⟩ : ∃ W : World, W = wr.alloc (.cells #[.bool ub, .int .i64 um] 213) := ⟨_, rfl⟩
      obtain ⟨b7, hb7⟩ : ∃ b, b = wr.heap.size := ⟨_, rfl⟩
      have h3 : w3.heap[b7]? = some (.cells #[.bool ub, .int .i64 um] 213 (0, 0)) := by rw [hw3, hb7]; exact alloc_cells _ _ _
      have hbl3 : Below wr.heap.size wr w3 := by rw [hw3]; exact (Below.refl _ _).alloc (Nat.le_refl _) _
      have HI3 := Lib.hid (HI.out.kept hbl3)
      have H3 := Lib.hid h3
      have y0 : w3.cell? ⟨b7, 0, none⟩ = some (.bool ub) := cell_of h3 rfl
      have y1 : w3.cell? ⟨b7, 1, none⟩ = some (.int .i64 um) := cell_of h3 rfl
      have k2' : w3.cell? ⟨g2, off2 + j, none⟩ = some (.int .i64 y) := (hbl3.cell (p := ⟨g2, off2 + j, none⟩) hg2).trans k2
      rw [← hw3, ← hb7]
      clear hw3 hb7 h3 hbl3 k0 k1 k2
      have HEND : Hid (∀ (wx : World) (oy : Option Addr) (my cy : Nat), my = (ofStep st ⟨ub, um⟩ y).length → NewR 3 1 w wx (.slice oy my cy) my (natCells (ofStep st ⟨ub, um⟩ y)) → ∃ (j' mo' : Nat) (oo' : Option Addr) (co' : Nat), j' ≤ n ∧ (Value.int .i64 ((j : Int) + 1)) = .int .i64 j' ∧ (Value.slice oy my cy) = .slice oo' mo' co' ∧ Hid ((ofT (l.take j') (ws.take j') []).length = mo' ∧ mo' ≤ 2 * j') ∧ Hid (NewR 3 1 w wx (.slice oo' mo' co') mo' (natCells (ofT (l.take j') (ws.take j') [])))) := Lib.hid (fun wx oy my cy hmy hpl => by
        have := ofStep_len st ⟨ub, um⟩ y
        have := HM.out
        exact ⟨j + 1, my, oy, cy, by omega, by simp, rfl, Lib.hid ⟨by rw [HCS.out]; exact hmy.symm, by omega⟩, Lib.hid (by rw [HCS.out]; exact hpl)⟩)
      cases ub
      · by_cases hpos : 0 < um
        · have hd : decide ((0 : Int) < (um : Int)) = true := decide_eq_true (by omega)
          have hs : ofStep st ⟨false, um⟩ y = st ++ [y] := by unfold ofStep; rw [if_neg (by simp), if_pos hpos]
          have HS := Lib.hid hs
          clear hs
          go_wp2_with (at_builtin; refine wpList_append_new rfl (.tmp 34) (.tmp 36) 32 3 rfl Try.underlying32 info_int rfl (by omega) HI3.out (by omega) [.int .i64 (y : Int)] rfl (HONE.out _) rfl rfl ?_; intro oa9 c9 w9 HN9 HK9)
          exact ⟨HEND.out _ _ _ _ (by rw [HS.out, List.length_append, HM.out.1]; rfl) (by rw [HS.out, natCells_append]; exact HN9.out), by simp [intOf]; omega⟩
        · have hd : decide ((0 : Int) < (um : Int)) = false := decide_eq_false (by omega)
          have hs : ofStep st ⟨false, um⟩ y = st := by unfold ofStep; rw [if_neg (by simp), if_neg hpos]
          have HS := Lib.hid hs
          clear hs
          go_wp2_with fail
          exact ⟨HEND.out _ _ _ _ (by rw [HS.out, HM.out.1]) (by rw [HS.out]; exact HI3.out), by simp [intOf]; omega⟩
      · by_cases hy0 : y = 0
        · subst hy0
          have hs : ofStep st ⟨true, um⟩ 0 = st ++ [0] := by unfold ofStep; rw [if_pos rfl, if_pos rfl]
          have HS := Lib.hid hs
          clear hs
          go_wp2_with (at_builtin; refine wpList_append_new rfl (.tmp 22) (.tmp 25) 32 3 rfl Try.underlying32 info_int rfl (by omega) HI3.out (by omega) [.int .i64 0] rfl (HONE.out _) rfl rfl ?_; intro oa9 c9 w9 HN9 HK9)
          exact ⟨HEND.out _ _ _ _ (by rw [HS.out, List.length_append, HM.out.1]; rfl) (by rw [HS.out, natCells_append]; exact HN9.out), by simp [intOf]; omega⟩
        · have hye : ((y : Int) == 0) = false := by simp; omega
          have hmin : min (y : Int) 1 = 1 := by omega
          obtain ⟨z, hz⟩ : ∃ z, y = z + 1 := ⟨y - 1, by omega⟩
          have hsub : (y : Int) - 1 = (z : Int) := by omega
          have HZ := Lib.hid hz
          clear hz
          by_cases hpos : 0 < um
          · have hd : decide ((0 : Int) < (um : Int)) = true := decide_eq_true (by omega)
            have hs : ofStep st ⟨true, um⟩ y = st ++ [1] ++ [z] := by unfold ofStep; rw [if_pos rfl, if_neg hy0, if_pos hpos, show y - 1 = z by have := HZ.out; omega]
            have HS := Lib.hid hs
            clear hs
            go_wp2_with (at_builtin; first | (refine wpList_append_new rfl (.tmp 22) (.tmp 25) 32 3 rfl Try.underlying32 info_int rfl (by omega) HI3.out (by omega) [.int .i64 1] rfl (HONE.out _) rfl rfl ?_; intro oa9 c9 w9 HN9 HK9; have h79 := (HK9.out b7 _ _ _ H3.out (by decide)).trans H3.out; have y19 : w9.cell? ⟨b7, 1, none⟩ = some (.int .i64 um) := cell_of h79 rfl; clear h79) | (refine wpList_append_new rfl (.tmp 34) (.tmp 36) 32 3 rfl Try.underlying32 info_int rfl (by omega) HN9.out (by omega) [.int .i64 (z : Int)] rfl (HONE.out _) rfl rfl ?_; intro oa8 c8 w8 HN8 HK8))
            exact ⟨HEND.out _ _ _ _ (by rw [HS.out]; simp only [List.length_append, HM.out.1]; rfl) (by rw [HS.out, natCells_append, natCells_append]; exact HN8.out), by simp [intOf]; omega⟩
          · have hd : decide ((0 : Int) < (um : Int)) = false := decide_eq_false (by omega)
            have hs : ofStep st ⟨true, um⟩ y = st ++ [1] := by unfold ofStep; rw [if_pos rfl, if_neg hy0, if_neg hpos]
            have HS := Lib.hid hs
            clear hs
            go_wp2_with (at_builtin; refine wpList_append_new rfl (.tmp 22) (.tmp 25) 32 3 rfl Try.underlying32 info_int rfl (by omega) HI3.out (by omega) [.int .i64 1] rfl (HONE.out _) rfl rfl ?_; intro oa9 c9 w9 HN9 HK9; have h79 := (HK9.out b7 _ _ _ H3.out (by decide)).trans H3.out; have y19 : w9.cell? ⟨b7, 1, none⟩ = some (.int .i64 um) := cell_of h79 rfl; clear h79)
            exact ⟨HEND.out _ _ _ _ (by rw [HS.out, List.length_append, HM.out.1]; rfl) (by rw [HS.out, natCells_append]; exact HN9.out), by simp [intOf]; omega⟩
    · obtain rfl : j = n := by omega
      have hpl : ofT (l.take j) (ws.take j) [] = ofT l ws [] := by rw [List.take_of_length_le (by rw [HR.out.1]; exact Nat.le_refl _), List.take_of_length_le (by rw [HW.out.1]; exact Nat.le_refl _)]
      rw [hpl] at HM HI
      go_wp2_with fail
      go_ret
      exact ⟨oo, mo, co, rfl, HM.out.1, HI.out⟩
end Go.Proofs.Ytmkjejngnahpeaa
/- stops: going over the unsure files from the last one on. -/
namespace Go.Proofs.Ytmkjejngnahpeaa
open Go Go.Maps Go.RowKit Go.Shelf
attribute [local go_sem] Oper.semAt_some

abbrev Ix (N : Nat) := { i : Nat // i < N }
def backL (N : Nat) : List (Ix N) := List.ofFn fun j : Fin N => ⟨N - 1 - j.1, by omega⟩
def encU (l : List U0) (x : Ix l.length) : Array Value := #[.int .i64 (x.1 : Int), .agg #[.bool (l[x.1]'x.2).name, .int .i64 ((l[x.1]'x.2).more : Int)]]
/-- all stands but what is of type int64 -/
def K64 (W W' : World) : Prop := KeepT [2] W W' ∧ W.heap.size ≤ W'.heap.size
theorem K64.join {A B C : World} (h : K64 A B) (k : K64 B C) : K64 A C := ⟨h.1.trans k.1, Nat.le_trans h.2 k.2⟩
theorem K64.of {A B : World} (h : Below A.heap.size A B) : K64 A B := ⟨KeepT.of h, h.size⟩
theorem K64.put (W : World) (l : Nat) (o o' : Obj) (h : W.heap[l]? = some o) (hc : o.isCells = false) : K64 W (W.putObj l o') := by
  refine ⟨fun j cs t fr hj _ => ?_, (grownBy_putObj' W l o').size⟩
  refine (grownBy_putObj' W l o').block j (Array.getElem?_eq_some_iff.1 hj).1 (fun e => ?_)
  simp only [Option.some.injEq] at e
  subst e
  rw [h] at hj
  simp only [Option.some.injEq] at hj
  subst hj
  cases hc
theorem K64.row {W W' : World} {e : TypeId} {size n : Nat} {v : Value} {xs : List Value} (h : K64 W W') (hr : rowAt W e size v n xs) (he : e ≠ 2) : rowAt W' e size v n xs := by
  refine hr.kept (fun k hk => ?_)
  rcases hr.2 with ⟨hv, _⟩ | ⟨g, off, cap, cur, fr, hv, hgg, _⟩
  · rw [hv] at hk
    simp [Value.ownBlock] at hk
  · rw [hv] at hk
    simp only [Value.ownBlock, Option.some.injEq] at hk
    subst hk
    exact h.1 g _ _ _ hgg (by simpa using he)
/-- block b holds the unsure files -/
def UsBox (w : World) (b : Nat) (l : List U0) : Prop := ∃ v, w.heap[b]? = some (.cells #[v] 206 (0, 0)) ∧ rowAt w 213 2 v l.length (uCells l)
set_option maxHeartbeats 400000 in
theorem backward_b (w : World) (oa : Option Addr) (n c : Nat) : Calls Try.prog 139 #[.slice oa n c] w fun e w' => e = .returned (.func (.func 167) #[] #[.pointer (some ⟨w.heap.size, 0, none⟩)]) ∧ w' = w.alloc (.cells #[.slice oa n c] 206) := by
  go_enter Try.func139, Try.ntmps139
  go_wp2_with fail
  go_ret
  exact ⟨rfl, rfl⟩
set_option maxRecDepth 100000 in
set_option maxHeartbeats 1000000 in
theorem backIn (F : Fence) (n : Nat) (h7 : F.fn 167) (hro : F.round = none) (hn : 1 ≤ n) (l vb : Nat) (w : World) (us : List U0) (hsq : UsBox w vb us) (hfs : us.length ≤ 1000000) (J Jx : Nat → World → Prop) (W : World) (hW : Below w.heap.size w W)
    (hY : ∀ j (hj : j < us.length) W1, J j W1 → YieldAt F (n - 1) Try.prog l #[.int .i64 (us.length - 1 - j : Nat), .agg #[.bool (us[us.length - 1 - j]'(by omega)).name, .int .i64 ((us[us.length - 1 - j]'(by omega)).more : Int)]] W1 fun e W' =>
      (e = .returned (.bool true) ∧ J (j + 1) W' ∧ K64 W1 W') ∨ (e = .returned (.bool false) ∧ Jx (j + 1) W')) (h0 : J 0 W) :
    CallsIn F n Try.prog 167 #[.func (.yield l) #[] #[], .pointer (some ⟨vb, 0, none⟩)] W fun e W' => (∃ v, e = .returned v) ∧ (J us.length W' ∨ ∃ j, Jx j W') := by
  obtain ⟨v, hv, hrow⟩ := hsq
  obtain ⟨oa, c, rfl, hnc⟩ := hrow.shape
  obtain ⟨N, hN⟩ : ∃ N, us.length = N := ⟨_, rfl⟩
  rw [hN] at hv hrow hnc hfs
  have HV := Lib.hid hv
  have HR := Lib.hid hrow
  have HN := Lib.hid hN
  have HY := Lib.hid hY
  have HW := Lib.hid hW
  have cv : W.cell? ⟨vb, 0, none⟩ = some (.slice oa N c) := cell_of ((hW.block vb (Array.getElem?_eq_some_iff.1 hv).1).trans hv) rfl
  clear hv hrow hN hY hW
  refine callsIn_of_wp Try.func167 rfl h7 ?_ hro
  simp only [Try.ntmps167, List.size_toArray, List.length_cons, List.length_nil, Nat.reduceAdd, Nat.reduceSub, Array.replicate_succ, Array.replicate_zero, List.push_toArray, List.append_toArray, List.nil_append, List.cons_append]
  gi_wp2
  gi_loopw [3] (fun i wr => ∃ j : Nat, j ≤ N ∧ i = .int .i64 ((N : Int) - 1 - j) ∧ J j wr ∧ K64 w wr) (fun i wr => (intOf i + 1).toNat)
  case atStart => exact ⟨0, Nat.zero_le _, by simp, h0, K64.of HW.out⟩
  case round =>
    obtain ⟨j, hj, rfl, hJs, hbw⟩ := hrel
    by_cases hlt : j < N
    · have hjf : j < us.length := by rw [HN.out]; exact hlt
      obtain ⟨i, hi⟩ : ∃ i : Nat, us.length - 1 - j = i := ⟨_, rfl⟩
      have hiN : i < us.length := by omega
      have hii : (N : Int) - 1 - (j : Int) = (i : Int) := by rw [← hi, HN.out]; omega
      have hd : decide ((0 : Int) ≤ (i : Int)) = true := decide_eq_true (by omega)
      have hi2 : (i : Int) < (N : Int) := by rw [HN.out] at hiN; omega
      have hrw := hbw.row HR.out (by decide)
      obtain ⟨g, off, rfl⟩ := hrw.addr (by omega)
      obtain ⟨u, hu⟩ : ∃ u, us[i] = u := ⟨_, rfl⟩
      obtain ⟨ub, hub⟩ : ∃ b, u.name = b := ⟨_, rfl⟩
      obtain ⟨um, humm⟩ : ∃ m, u.more = m := ⟨_, rfl⟩
      have k0 : wr.cell? ⟨g, off + i * 2, none⟩ = some (.bool ub) := us_cell (i := 0) hrw.read hiN (by omega) (by rw [hu, ← hub]; rfl)
      have k1 : wr.cell? ⟨g, off + i * 2 + 1, none⟩ = some (.int .i64 um) := us_cell (i := 1) hrw.read hiN (by omega) (by rw [hu, ← humm]; rfl)
      have cv' : wr.cell? ⟨vb, 0, none⟩ = some (.slice (some ⟨g, off, none⟩) N c) := cell_of ((hbw.1 vb _ _ _ HV.out (by decide)).trans HV.out) rfl
      have hyy := HY.out j hjf wr hJs
      have hye : (#[.int .i64 (us.length - 1 - j : Nat), .agg #[.bool (us[us.length - 1 - j]'(by omega)).name, .int .i64 ((us[us.length - 1 - j]'(by omega)).more : Int)]] : Array Value) = #[.int .i64 (i : Int), .agg #[.bool ub, .int .i64 (um : Int)]] := by
        subst hi
        subst hu
        rw [hub, humm]
      rw [hye] at hyy
      obtain ⟨fn, tmps, assign, body, hy, hR⟩ := hyy
      have HRD := Lib.hid hR
      have HBW := Lib.hid hbw
      rw [hii]
      have HIJ : Hid ((i : Int) - 1 = (N : Int) - 1 - ((j + 1 : Nat) : Int)) := Lib.hid (by omega)
      clear hrw hu hub humm hR hye hJs hbw hii hi cv
      gi_wp2
      refine HRD.out.mono ?_
      rintro e W3 (⟨rfl, hJ3, hk3⟩ | ⟨rfl, hJx3⟩)
      · have HJ3 : Hid (J (j + 1) W3) := Lib.hid hJ3
        have HB3 : Hid (K64 w W3) := Lib.hid (HBW.out.join hk3)
        clear hJ3 hk3
        gi_wp2
        exact ⟨⟨j + 1, by omega, by rw [HIJ.out], HJ3.out, HB3.out⟩, by first | (simp [intOf]; done) | (simp [intOf]; omega)⟩
      · have HX3 : Hid (Jx (j + 1) W3) := Lib.hid hJx3
        clear hJx3
        gi_wp2
        refine bodyPost_ret (results_none rfl _ _ _) rfl ?_
        exact ⟨⟨_, rfl⟩, .inr ⟨j + 1, HX3.out⟩⟩
    · obtain rfl : j = N := by omega
      have HE : Hid (J us.length wr) := Lib.hid (by rw [HN.out]; exact hJs)
      have hneg : (j : Int) - 1 - (j : Int) = -1 := by omega
      rw [hneg]
      clear hJs
      gi_wp2
      go_end0
      exact ⟨⟨_, rfl⟩, .inl HE.out⟩
/-- **going over the unsure files, the last one first** -/
theorem back_stops (F : Fence) (n : Nat) (h7 : F.fn 167) (hro : F.round = none) (hn : 1 ≤ n) (vb : Nat) (w : World) (us : List U0) (hsq : UsBox w vb us) (hfs : us.length ≤ 1000000) :
    SeqStopsK F n Try.prog 167 #[.pointer (some ⟨vb, 0, none⟩)] (encU us) K64 (fun ys => ys = backL us.length) (fun _ => True) us.length w := fun l J Jx W hW hJ _ hY h0 => by
  have hlen : (backL us.length).length = us.length := by simp [backL]
  refine (backIn F n h7 hro hn l vb w us hsq hfs (fun j W => J ((backL us.length).take j) W) (fun j W => Jx ((backL us.length).take j) W) W hW (fun j hj W1 h1 => ?_) (by simpa using h0)).mono ?_
  · have hj' : j < (backL us.length).length := by rw [hlen]; exact hj
    have hx : (backL us.length)[j] = ⟨us.length - 1 - j, by omega⟩ := by simp [backL]
    have h2 := hY ((backL us.length).take j) (⟨us.length - 1 - j, by omega⟩ : Ix us.length) W1 h1 (by rw [List.length_take]; omega)
    rw [← hx, ← List.take_succ_eq_append_getElem hj', hx] at h2
    exact h2
  · rintro e W' ⟨he, h | ⟨j, h⟩⟩
    · refine ⟨he, .inl ⟨backL us.length, rfl, ?_⟩⟩
      rwa [List.take_of_length_le (Nat.le_of_eq hlen)] at h
    · exact ⟨he, .inr ⟨_, trivial, h⟩⟩
end Go.Proofs.Ytmkjejngnahpeaa
/- stops: At: the stop of a number. -/
namespace Go.Proofs.Ytmkjejngnahpeaa
open Go Go.Maps Go.RowKit Go.Shelf
attribute [local go_sem] Oper.semAt_some

theorem wpListIn_make_zeros {F : Fence} {n : Nat} (w : World) {ops : Array Oper} {rest : List Oper} {o : Oper} {a : Act} {Q : Exit → Act → World → Prop}
    (hg : o.guard = none) (l c : Operand) (hop : o.op = Op.makeSlice 209 l c) {m : Nat} (hm : m ≤ 1000000) (hl : a.eval l = .int .i64 m) (hc : a.eval c = .int .i64 m)
    (hK : ∀ w', Hid (NewR 2 1 w w' (.slice (some ⟨w.heap.size, 0, none⟩) m m) m (natCells (List.replicate m 0))) → Hid (Below w.heap.size w w') → wpListIn F n Try.prog ops Q rest (a.put o.dst (.slice (some ⟨w.heap.size, 0, none⟩) m m)) w') :
    wpListIn F n Try.prog ops Q (o :: rest) a w := by
  refine wpListIn_plain hg fun K hK' => ?_
  obtain ⟨i, hi, hz, hsz, hby⟩ := info_parts info_i64
  obtain ⟨w', hrun, r1, r2⟩ := run_make_full (P := Try.prog) w w.heap.size 209 2 i (.int .i64 0) 1 Try.underlying209 hi hz hsz .i64 .i64 m (by rw [hby]; omega) (by unfold maxLen; omega) (Nat.le_refl _)
  have hxs : (madeCells (Value.int .i64 0).cells (m * 1)).toList = natCells (List.replicate m 0) := by
    unfold natCells madeCells
    simp [Value.cells]
    exact List.ext_getElem (by simp) fun j h1 h2 => by simp [Nat.mod_one]
  rw [hxs] at r1
  have hb : Below w.heap.size w w' := (Below.refl _ _).grown r2 (Nat.le_refl _) (fun k e => by cases e)
  have hro := rowAt.of_row (hasRow.of_own r1)
  unfold Oper.wpIn
  refine ⟨?_, ?_⟩
  · simp [Oper.about, hop]
  · rw [Oper.semAt_plain F _ _ (by rw [hop]; intro c hc'; cases hc')]
    simp [execOp, hop, hl, hc, hrun, Result.andThen]
    exact hK' _ _ (hK w' (Lib.hid ⟨hro, fun k hk => by simp only [Value.ownBlock, Option.some.injEq] at hk; omega, hb⟩) (Lib.hid hb))
/-- a file's ways, by its place -/
def waysAt (l : List U0) (i : Nat) : Nat := match l[i]? with
  | some u => u.ways
  | none => 1
/-- one digit -/
def backStep (l : List U0) (s : List Nat × Nat) (i : Nat) : List Nat × Nat := (s.1.set i (s.2 % waysAt l i), s.2 / waysAt l i)
def backT (l : List U0) (s : List Nat × Nat) (is : List Nat) : List Nat × Nat := is.foldl (backStep l) s
theorem backT_len (l : List U0) : ∀ (is : List Nat) (s : List Nat × Nat), (backT l s is).1.length = s.1.length
  | [], _ => rfl
  | i :: r, s => by
    show (backT l (backStep l s i) r).1.length = _
    rw [backT_len l r]
    simp [backStep]
theorem backT_le (l : List U0) : ∀ (is : List Nat) (s : List Nat × Nat), (backT l s is).2 ≤ s.2
  | [], _ => Nat.le_refl _
  | i :: r, s => by
    show (backT l (backStep l s i) r).2 ≤ _
    exact Nat.le_trans (backT_le l r _) (Nat.div_le_self _ _)
theorem backT_all {l : List U0} {M : Nat} : ∀ (is : List Nat) (s : List Nat × Nat), s.2 ≤ M → (∀ x ∈ s.1, x ≤ M) → ∀ x ∈ (backT l s is).1, x ≤ M
  | [], _, _, h => h
  | i :: r, s, h1, h2 => by
    refine backT_all (l := l) r (backStep l s i) (Nat.le_trans (Nat.div_le_self _ _) h1) fun x hx => ?_
    rcases List.mem_or_eq_of_mem_set hx with h3 | h3
    · exact h2 x h3
    · rw [h3]
      exact Nat.le_trans (Nat.mod_le _ _) h1
def descL (N : Nat) : List Nat := (backL N).map (·.1)
/-- the ways of a number -/
def atWays (l : List U0) (n : Nat) : List Nat := (backT l (List.replicate l.length 0, n) (descL l.length)).1
/-- what At answers -/
def atV (d : Dk) (n : Int) : List Nat × Int :=
  if n < 0 then ([], 2)
  else match countT (unsT d.files) with
    | none => ([], 3)
    | some c => if c ≤ n.toNat then ([], 4) else (ofT (unsT d.files) (atWays (unsT d.files) n.toNat) [], 0)
def ixs {N : Nat} (pre : List (Ix N)) : List Nat := pre.map (·.1)
theorem ixs_snoc {N : Nat} (pre : List (Ix N)) (x : Ix N) : ixs (pre ++ [x]) = ixs pre ++ [x.1] := by simp [ixs]
/-- what stands at a round's head -/
structure AtI (w W : World) (b3 b4 b9 : Nat) (ow : Option Addr) (cw N : Nat) (ol : Value) (l : List U0) (s : List Nat × Nat) : Prop where
  num : W.heap[b3]? = some (.cells #[.int .i64 s.2] 2 (0, 0))
  res : W.heap[b4]? = some (.cells #[.slice none 0 0] 72 (0, 0))
  box : W.heap[b9]? = some (.cells #[.slice ow N cw] 209 (0, 0))
  row : rowAt W 2 1 (.slice ow N cw) N (natCells s.1)
  us : rowAt W 213 2 ol N (uCells l)
  below : Below w.heap.size w W
  new : w.heap.size ≤ b3 ∧ w.heap.size ≤ b4 ∧ ∀ k, (Value.slice ow N cw).ownBlock = some k → w.heap.size ≤ k ∧ k ≠ b3
theorem AtI.grown {w W W' : World} {b3 b4 b9 N cw : Nat} {ow : Option Addr} {ol : Value} {l : List U0} {s : List Nat × Nat} {row : Option Nat} (h : AtI w W b3 b4 b9 ow cw N ol l s) (hg : W.grownBy W' row) (hr : ∀ r, row = some r → w.heap.size ≤ r ∧ ∃ o : Obj, W.heap[r]? = some o ∧ o.isCells = false) : AtI w W' b3 b4 b9 ow cw N ol l s := by
  have hcell : ∀ (k : Nat) (cs : Array Value) (t : TypeId) (fr : Nat × Nat), W.heap[k]? = some (.cells cs t fr) → W'.heap[k]? = W.heap[k]? := fun k cs t fr hk =>
    hg.block k (Array.getElem?_eq_some_iff.1 hk).1 (fun e => by
      obtain ⟨_, o, ho, hc⟩ := hr k e.symm
      rw [hk] at ho
      simp only [Option.some.injEq] at ho
      subst ho
      cases hc)
  have hrow : ∀ {e : TypeId} {size n : Nat} {v : Value} {xs : List Value}, rowAt W e size v n xs → rowAt W' e size v n xs := fun {e size n v xs} hx => hx.kept (fun k hk => by
    rcases hx.2 with ⟨hv, _⟩ | ⟨g, off, cap, cur, fr, hv, hgg, _⟩
    · rw [hv] at hk
      simp [Value.ownBlock] at hk
    · rw [hv] at hk
      simp only [Value.ownBlock, Option.some.injEq] at hk
      subst hk
      exact hcell g _ _ _ hgg)
  exact ⟨(hcell _ _ _ _ h.num).trans h.num, (hcell _ _ _ _ h.res).trans h.res, (hcell _ _ _ _ h.box).trans h.box, hrow h.row, hrow h.us, h.below.grown hg h.below.size (fun k e => (hr k e).1), h.new⟩
theorem AtI.kept {w W W' : World} {b3 b4 b9 N cw : Nat} {ow : Option Addr} {ol : Value} {l : List U0} {s : List Nat × Nat} (h : AtI w W b3 b4 b9 ow cw N ol l s) (hb : Below W.heap.size W W') : AtI w W' b3 b4 b9 ow cw N ol l s := by
  have hcell : ∀ (k : Nat) (cs : Array Value) (t : TypeId) (fr : Nat × Nat), W.heap[k]? = some (.cells cs t fr) → W'.heap[k]? = W.heap[k]? := fun k cs t fr hk => hb.block k (Array.getElem?_eq_some_iff.1 hk).1
  exact ⟨(hcell _ _ _ _ h.num).trans h.num, (hcell _ _ _ _ h.res).trans h.res, (hcell _ _ _ _ h.box).trans h.box, h.row.kept (fun k hk => hb.block k (h.row.lt k hk)), h.us.kept (fun k hk => hb.block k (h.us.lt k hk)), h.below.trans (hb.mono h.below.size), h.new⟩
theorem AtI.drew {w W : World} {b3 b4 b9 N cw : Nat} {ow : Option Addr} {ol : Value} {l : List U0} {s : List Nat × Nat} (h : AtI w W b3 b4 b9 ow cw N ol l s) : AtI w W.drew b3 b4 b9 ow cw N ol l s := h.kept ⟨rfl, rfl, rfl, Nat.le_refl _, fun _ _ => rfl⟩
theorem row_block {w : World} {e : TypeId} {size n g off c : Nat} {m : Nat} {xs : List Value} (h : rowAt w e size (.slice (some ⟨g, off, none⟩) m c) n xs) : ∃ cur fr, w.heap[g]? = some (.cells cur e fr) := by
  rcases h.2 with ⟨hv, _⟩ | ⟨g', off', cap, cur, fr, hv, hgg, _⟩
  · cases hv
  · simp only [Value.slice.injEq, Option.some.injEq, Addr.mk.injEq] at hv
    obtain ⟨⟨rfl, rfl, -⟩, -, -⟩ := hv
    exact ⟨cur, fr, hgg⟩
/-- what holds behind the first of a round's two statements -/
structure AtR (w w9 W1 W : World) (b3 b4 b9 g B N : Nat) (ol : Value) (l : List U0) (s : List Nat × Nat) (ub : Bool) (um : Nat) : Prop where
  at_ : AtI w W b3 b4 b9 (some ⟨g, 0, none⟩) N N ol l s
  ubox : W.heap[B]? = some (.cells #[.bool ub, .int .i64 um] 213 (0, 0))
  keep : K64 W1 W
  from_ : KeepsFrom w9.heap.size W1 W
  size : w9.heap.size ≤ W.heap.size
theorem AtR.start {w w9 W1 : World} {b3 b4 b9 g B N : Nat} {ol : Value} {l : List U0} {s : List Nat × Nat} {ub : Bool} {um : Nat} (h : AtI w W1 b3 b4 b9 (some ⟨g, 0, none⟩) N N ol l s) (hu : W1.heap[B]? = some (.cells #[.bool ub, .int .i64 um] 213 (0, 0))) (hs : w9.heap.size ≤ W1.heap.size) : AtR w w9 W1 W1 b3 b4 b9 g B N ol l s ub um :=
  ⟨h, hu, ⟨KeepT.refl _ _, Nat.le_refl _⟩, KeepsFrom.refl _ _, hs⟩
theorem AtR.kept {w w9 W1 W W' : World} {b3 b4 b9 g B N : Nat} {ol : Value} {l : List U0} {s : List Nat × Nat} {ub : Bool} {um : Nat} (h : AtR w w9 W1 W b3 b4 b9 g B N ol l s ub um) (hb : Below W.heap.size W W') : AtR w w9 W1 W' b3 b4 b9 g B N ol l s ub um :=
  ⟨h.at_.kept hb, (hb.block B (Array.getElem?_eq_some_iff.1 h.ubox).1).trans h.ubox, h.keep.join (K64.of hb), h.from_.trans (keepsFrom_below2 hb), Nat.le_trans h.size hb.size⟩
theorem AtR.drew {w w9 W1 W : World} {b3 b4 b9 g B N : Nat} {ol : Value} {l : List U0} {s : List Nat × Nat} {ub : Bool} {um : Nat} (h : AtR w w9 W1 W b3 b4 b9 g B N ol l s ub um) : AtR w w9 W1 W.drew b3 b4 b9 g B N ol l s ub um := h.kept ⟨rfl, rfl, rfl, Nat.le_refl _, fun _ _ => rfl⟩
/-- a digit is stored -/
theorem AtR.digit {w w9 W1 W : World} {b3 b4 b9 g B N i r : Nat} {ol : Value} {l : List U0} {s : List Nat × Nat} {ub : Bool} {um : Nat} (h : AtR w w9 W1 W b3 b4 b9 g B N ol l s ub um) (hi : i < N) : AtR w w9 W1 (W.setCell ⟨g, i, none⟩ (.int .i64 r)) b3 b4 b9 g B N ol l (s.1.set i r, s.2) ub um := by
  obtain ⟨cur, fr, hg⟩ := row_block h.at_.row
  have hk : KeepT [2] W (W.setCell ⟨g, i, none⟩ (.int .i64 r)) := KeepT.set hg (by simp) _
  have hsz : W.heap.size ≤ (W.setCell ⟨g, i, none⟩ (.int .i64 r)).heap.size := (only_setCell (fun _ => True) W g i (.int .i64 r) trivial).size
  have hnew := h.at_.new
  have hgn := hnew.2.2 g rfl
  refine ⟨⟨?_, ?_, ?_, ?_, ?_, ?_, hnew⟩, ?_, h.keep.join ⟨hk, hsz⟩, h.from_.trans ((KeepsOthers.setCell _ _ _).from _), Nat.le_trans h.size hsz⟩
  · exact (Below.heap_setCell _ _ _ _ (fun e => hgn.2 e.symm)).trans h.at_.num
  · exact (hk b4 _ _ _ h.at_.res (by decide)).trans h.at_.res
  · exact (hk b9 _ _ _ h.at_.box (by decide)).trans h.at_.box
  · have := h.at_.row.setAt (j := i) (by omega) (.int .i64 r)
    rw [Nat.zero_add] at this
    have e : natCells (s.1.set i r) = (natCells s.1).set i (.int .i64 r) := by unfold natCells; rw [List.map_set]
    rw [e]
    exact this
  · exact K64.row ⟨hk, hsz⟩ h.at_.us (by decide)
  · exact h.at_.below.setCell (p := ⟨g, i, none⟩) hgn.1 _
  · exact (hk B _ _ _ h.ubox (by decide)).trans h.ubox
/-- what is left of the number is stored -/
theorem AtR.rest {w w9 W1 W : World} {b3 b4 b9 g B N q : Nat} {ol : Value} {l : List U0} {s : List Nat × Nat} {ub : Bool} {um : Nat} (h : AtR w w9 W1 W b3 b4 b9 g B N ol l s ub um) : AtR w w9 W1 (W.setCell ⟨b3, 0, none⟩ (.int .i64 q)) b3 b4 b9 g B N ol l (s.1, q) ub um := by
  have hk : KeepT [2] W (W.setCell ⟨b3, 0, none⟩ (.int .i64 q)) := KeepT.set h.at_.num (by simp) _
  have hsz : W.heap.size ≤ (W.setCell ⟨b3, 0, none⟩ (.int .i64 q)).heap.size := (only_setCell (fun _ => True) W b3 0 (.int .i64 q) trivial).size
  have hnew := h.at_.new
  refine ⟨⟨heap_setCell_here _ h.at_.num, ?_, ?_, ?_, ?_, ?_, hnew⟩, ?_, h.keep.join ⟨hk, hsz⟩, h.from_.trans ((KeepsOthers.setCell _ _ _).from _), Nat.le_trans h.size hsz⟩
  · exact (hk b4 _ _ _ h.at_.res (by decide)).trans h.at_.res
  · exact (hk b9 _ _ _ h.at_.box (by decide)).trans h.at_.box
  · exact h.at_.row.kept (fun k hk1 => Below.heap_setCell _ _ _ _ (fun e => (hnew.2.2 k hk1).2 e))
  · exact K64.row ⟨hk, hsz⟩ h.at_.us (by decide)
  · exact h.at_.below.setCell (p := ⟨b3, 0, none⟩) hnew.1 _
  · exact (hk B _ _ _ h.ubox (by decide)).trans h.ubox
end Go.Proofs.Ytmkjejngnahpeaa
/- A range over a function that has memory of its own, and whose elements lie in memory when they come. -/
namespace Go.Proofs.Ytmkjejngnahpeaa
open Go Go.RowKit

variable {F : Fence} {n : Nat} {P : Program}

/-- what a round keeps: what lay ahead of the iterator, and the iterator's own blocks T -/
abbrev KeptR (n₀ : Nat) (T : Nat → Prop) (W W' : World) : Prop := Only (fun k => n₀ ≤ k ∧ ¬ T k) W W'
theorem KeptR.join {n₀ : Nat} {T : Nat → Prop} {A B C : World} (h : KeptR n₀ T A B) (k : KeptR n₀ T B C) : KeptR n₀ T A C := Only.trans h k (fun _ _ h => h)
theorem KeptR.of {n₀ : Nat} {T : Nat → Prop} {A B : World} (h : Below A.heap.size A B) : KeptR n₀ T A B := Only.of_below h (Nat.le_refl _) _
theorem only_put (S : Nat → Prop) (W : World) (b : Nat) (o : Obj) (h : S b) : Only S W (W.putObj b o) := Only.of_grown (grownBy_putObj' W b o) (fun k e => by cases e; exact h)
/-- an iterator's contract: T are its own blocks; Gv is what holds of an element when it comes -/
def SeqTold {α : Type} (F : Fence) (n : Nat) (P : Program) (g : Nat) (lb : Array Value) (encs : α → Array Value) (Gv : Nat → (Nat → Prop) → List α → α → World → Prop) (S Sp : List α → Prop) (N : Nat) (w : World) : Prop :=
  ∀ (l : Nat) (J Jx : (Nat → Prop) → List α → World → Prop) (W : World), Below w.heap.size w W →
    (∀ T W1, Below W.heap.size W W1 → (∀ k, T k → W.heap.size ≤ k ∧ k < W1.heap.size) → J T [] W1) →
    (∀ T pre A B, J T pre A → Only T A B → J T pre B) → (∀ T pre A B, Jx T pre A → Only T A B → Jx T pre B) →
    (∀ T pre x Wp W1, (∀ k, T k → W.heap.size ≤ k ∧ k < W1.heap.size) → J T pre Wp → Only T Wp W1 → W.heap.size ≤ Wp.heap.size → Gv Wp.heap.size T pre x W1 → pre.length < N → YieldAt F (n - 1) P l (encs x) W1 fun e W' =>
      (e = .returned (.bool true) ∧ J T (pre ++ [x]) W' ∧ KeptR w.heap.size T W1 W') ∨ (e = .returned (.bool false) ∧ Jx T (pre ++ [x]) W' ∧ KeptR w.heap.size T W1 W')) →
    CallsIn F n P g (#[.func (.yield l) #[] #[]] ++ lb) W fun e W' => (∃ v, e = .returned v) ∧ ((∃ T xs, S xs ∧ J T xs W') ∨ (∃ T pre, Sp pre ∧ Jx T pre W'))
theorem SeqTold.later {α : Type} {g : Nat} {lb : Array Value} {encs : α → Array Value} {Gv : Nat → (Nat → Prop) → List α → α → World → Prop} {S Sp : List α → Prop} {N : Nat} {w w' : World}
    (h : SeqTold F n P g lb encs Gv S Sp N w) (hb : Below w.heap.size w w') : SeqTold F n P g lb encs Gv S Sp N w' :=
  fun l J Jx W hW hs hJ hJx hY => h l J Jx W (hb.trans (hW.mono hb.size)) hs hJ hJx (fun T pre x Wp W1 hT hj ho hz hg hl => (hY T pre x Wp W1 hT hj ho hz hg hl).mono (fun e W' hr => by
    rcases hr with ⟨h1, h2, h3⟩ | ⟨h1, h2, h3⟩
    · exact .inl ⟨h1, h2, h3.mono (fun k _ hk => ⟨Nat.le_trans hb.size hk.1, hk.2⟩)⟩
    · exact .inr ⟨h1, h2, h3.mono (fun k _ hk => ⟨Nat.le_trans hb.size hk.1, hk.2⟩)⟩))
/-- what a round of the statement keeps: beside the iterator's blocks the statement's own two, from b on -/
abbrev KeptS (n₀ b : Nat) (T : Nat → Prop) (W W' : World) : Prop := KeptR n₀ (fun k => T k ∨ k = b ∨ k = b + 1) W W'
/-- how the body of a round may be left -/
def toldPost {α : Type} (K : World → World → Prop) (I : List α → World → Prop) (Ix : Code → List α → World → Prop) (xs : List α) (W : World) : Exit → Act → World → Prop
  | .normal, _, W' => K W W' ∧ I xs W'
  | .ret, _, W' => K W W' ∧ Ix .ret xs W'
  | .exit id, _, W' => K W W' ∧ Ix (.exit id) xs W'
  | .goto t, _, W' => K W W' ∧ Ix (.goto t) xs W'
  | .panic _, _, _ => False
  | .outgrown, _, _ => False
/-- **THE STATEMENT OVER SUCH AN ITERATOR** -/
theorem wpIn_rangeFunc_told {α : Type} {g : Operand} {ps : Array Tmp} {assign body : Code} {Q : Exit → Act → World → Prop} {a : Act} {w : World}
    (hro : F.round = none) (h1 : 1 ≤ n) {gf : Nat} {lb : Array Value} (hg : a.eval g = .func (.func gf) #[] lb) (hFg : F.fn gf) (eg : ∀ args w, (callFunc gf args).run P w = .ok (.enter gf args) w)
    {encs : α → Array Value} {Gv : Nat → (Nat → Prop) → List α → α → World → Prop} {S Sp : List α → Prop} {N : Nat} {w0 : World} (hseq : SeqTold F (n - 1) P gf lb encs Gv S Sp N w0) (hb0 : Below w0.heap.size w0 w) (hps : ∀ x, (encs x).size = ps.size)
    (I : (Nat → Prop) → List α → World → Prop) (Ix : Code → (Nat → Prop) → List α → World → Prop)
    (hI : ∀ T pre A B, I T pre A → Only (fun k => T k ∨ k = w.heap.size ∨ k = w.heap.size + 1) A B → I T pre B)
    (hIx : ∀ c T pre A B, Ix c T pre A → Only (fun k => T k ∨ k = w.heap.size ∨ k = w.heap.size + 1) A B → Ix c T pre B)
    (h0 : ∀ T W1, Below w.heap.size w W1 → w.heap.size + 2 ≤ W1.heap.size → (∀ k, T k → w.heap.size + 2 ≤ k ∧ k < W1.heap.size) → I T [] W1)
    (hround : ∀ T pre x Wp W, (∀ k, T k → w.heap.size + 2 ≤ k ∧ k < W.heap.size) → (∃ r, W.heap[w.heap.size + 1]? = some (.loop r)) → W.heap[w.heap.size]? = some (.deferred (some [])) → I T pre Wp → Only T Wp W → w.heap.size + 2 ≤ Wp.heap.size → Gv Wp.heap.size T pre x W → pre.length < N →
      ∀ K : Act → World → Prop, (∀ a' W', KeptS w0.heap.size w.heap.size T W W' →
        (∀ W2, Only (fun k => k = w.heap.size + 1) W' W2 → (∃ r, W2.heap[w.heap.size + 1]? = some (.loop r)) →
          body.wpIn (F.inRound (w.heap.size + 1)) (n - 1 - 1) P (toldPost (KeptS w0.heap.size w.heap.size T) (I T) (fun c => Ix c T) (pre ++ [x]) W2) a' W2) → K a' W') →
      assign.wpIn (F.inRound (w.heap.size + 1)) (n - 1 - 1) P (Exit.then K (fun _ _ _ => False)) { tmps := (ps.zip (encs x)).foldl (fun t (p, v) => t.setIfInBounds p v) a.tmps, defers := [] } W)
    (hdone : ∀ T xs W, S xs → I T xs W → W.heap[w.heap.size]? = some (.deferred (some [])) → Q .normal { a with defers := { target := .collected w.heap.size, args := #[] } :: a.defers } W)
    (hstop : ∀ T c pre W, Sp pre → Ix c T pre W → W.heap[w.heap.size]? = some (.deferred (some [])) → c.wpIn F n P Q { a with defers := { target := .collected w.heap.size, args := #[] } :: a.defers } W) :
    (Code.rangeFunc g ps assign body).wpIn F n P Q a w := by
  refine wpIn_rangeFunc fun fn hfn => ?_
  rw [hro]
  obtain ⟨rec, hrec⟩ : ∃ rec : LoopState → Option Code → Loop, rec = fun st pe => { state := st, pending := pe, fn, tmps := a.tmps, params := ps, assign, body, defers := w.heap.size } := ⟨_, rfl⟩
  obtain ⟨V, hV⟩ : ∃ V, (w.alloc (.deferred (some []))).alloc (.loop (rec .ready none)) = V := ⟨_, rfl⟩
  have hVs : V.heap.size = w.heap.size + 2 := by rw [← hV]; simp
  have hVb : Below w.heap.size w V := by rw [← hV]; exact ((Below.refl _ w).alloc (Nat.le_refl _) _).alloc (by simp) _
  have hVl : V.heap[w.heap.size + 1]? = some (.loop (rec .ready none)) := by
    rw [← hV]
    have := World.alloc_heap_new (w.alloc (.deferred (some []))) (.loop (rec .ready none))
    rwa [World.size_alloc] at this
  have hVd : V.heap[w.heap.size]? = some (.deferred (some [])) := by rw [← hV]; exact (Below.heap_alloc _ _ _ (by simp)).trans (World.alloc_heap_new w _)
  refine ⟨w.heap.size + 1, [{ target := .collected w.heap.size, args := #[] }], V, { target := .fn (.func gf) lb, args := #[.func (.yield (w.heap.size + 1)) #[] #[]] }, V, gf, #[.func (.yield (w.heap.size + 1)) #[] #[]] ++ lb, V,
    by rw [← hV, hrec]; exact run_enterLoop_outer _ _ _ _ _, ?_, ?_, by simp [invoke, go_sem, eg], fun _ => h1, ?_⟩
  · simp only [resolve, hg]
    simp [go_sem]
  · intro f' hf'
    simp [Target.leads] at hf'
    subst hf'
    exact hFg
  -- the two blocks of the statement's own, in whatever world the iterator leaves
  have book : ∀ {T : Nat → Prop} {A B : World} {o : Obj} {k : Nat}, (∀ k, T k → w.heap.size + 2 ≤ k) → Only T A B → k < w.heap.size + 2 → A.heap[k]? = some o → B.heap[k]? = some o := fun hT ho hk hA =>
    (ho.block _ (Array.getElem?_eq_some_iff.1 hA).1 (fun h => by have := hT _ h; omega)).trans hA
  have kept : ∀ {T : Nat → Prop} {A B : World} {o : Obj} {k : Nat}, KeptS w0.heap.size w.heap.size T A B → (k = w.heap.size ∨ k = w.heap.size + 1) → A.heap[k]? = some o → B.heap[k]? = some o := fun ho hk hA =>
    (ho.block _ (Array.getElem?_eq_some_iff.1 hA).1 (fun h => h.2 (.inr hk))).trans hA
  refine (hseq (w.heap.size + 1)
    (fun T pre W => (∀ k, T k → w.heap.size + 2 ≤ k) ∧ I T pre W ∧ W.heap[w.heap.size + 1]? = some (.loop (rec .ready none)) ∧ W.heap[w.heap.size]? = some (.deferred (some [])))
    (fun T pre W => (∀ k, T k → w.heap.size + 2 ≤ k) ∧ ∃ c, Ix c T pre W ∧ W.heap[w.heap.size + 1]? = some (.loop (rec .done (some c))) ∧ W.heap[w.heap.size]? = some (.deferred (some [])))
    V (hb0.trans (hVb.mono hb0.size)) ?start ?abide ?abidex ?round).mono ?behind
  case start =>
    intro T W1 hW1 hT
    rw [hVs] at hT
    have hs := hW1.size
    rw [hVs] at hs
    exact ⟨fun k hk => (hT k hk).1, h0 T W1 (hVb.trans (hW1.mono (by omega))) hs hT, (hW1.block _ (by omega)).trans hVl, (hW1.block _ (by omega)).trans hVd⟩
  case abide =>
    rintro T pre A B ⟨hT, hi, hl, hd⟩ ho
    exact ⟨hT, hI T pre A B hi (ho.mono (fun _ _ h => .inl h)), book hT ho (by omega) hl, book hT ho (by omega) hd⟩
  case abidex =>
    rintro T pre A B ⟨hT, c, hi, hl, hd⟩ ho
    exact ⟨hT, c, hIx c T pre A B hi (ho.mono (fun _ _ h => .inl h)), book hT ho (by omega) hl, book hT ho (by omega) hd⟩
  case round =>
    rintro T pre x Wp W hTW ⟨hT, hi, hlp, hdp⟩ hop hszp hgv hlen
    rw [hVs] at hszp
    have hl := book hT hop (by omega) hlp
    have hd := book hT hop (by omega) hdp
    have hy := run_yield (P := P) (args := encs x) hl (by rw [hrec]; exact hps x)
    rw [hrec] at hy
    refine ⟨fn, _, assign, body, hy, roundIn_of_wpIn hfn (wpIn_mono (hround T pre x Wp W (fun k hk => ⟨hT k hk, (hTW k hk).2⟩) ⟨_, hl⟩ hd hi hop hszp hgv hlen (fun a' W' => KeptS w0.heap.size w.heap.size T W W' ∧ ∀ W2, Only (fun k => k = w.heap.size + 1) W' W2 → (∃ r, W2.heap[w.heap.size + 1]? = some (.loop r)) → body.wpIn (F.inRound (w.heap.size + 1)) (n - 1 - 1) P (toldPost (KeptS w0.heap.size w.heap.size T) (I T) (fun c => Ix c T) (pre ++ [x]) W2) a' W2) (fun _ _ h1 h2 => ⟨h1, h2⟩)) ?_)⟩
    clear hy
    rintro e a' Wa hp
    cases e with
    | normal =>
      obtain ⟨hka, hbody⟩ := hp
      have hla := kept hka (.inr rfl) hl
      have hda := kept hka (.inl rfl) hd
      have hlta := (Array.getElem?_eq_some_iff.1 hla).1
      refine ⟨_, run_beginRound hla (by rw [hrec]), ?_⟩
      have hl2 : (Wa.putObj (w.heap.size + 1) (.loop { rec .ready none with state := .busy })).heap[w.heap.size + 1]? = some (.loop { rec .ready none with state := .busy }) := World.putObj_heap_same hlta
      have hd2 : (Wa.putObj (w.heap.size + 1) (.loop { rec .ready none with state := .busy })).heap[w.heap.size]? = some (.deferred (some [])) := (World.putObj_heap_other (by omega)).trans hda
      have hput : ∀ (W' : World) (o : Obj), KeptR w0.heap.size T W' (W'.putObj (w.heap.size + 1) o) := fun W' o => only_put _ W' _ o ⟨by have := hb0.size; omega, fun h => by have := hT _ h; omega⟩
      have hput' : ∀ (W' : World) (o : Obj), Only (fun k => T k ∨ k = w.heap.size ∨ k = w.heap.size + 1) W' (W'.putObj (w.heap.size + 1) o) := fun W' o => only_put _ W' _ o (.inr (.inr rfl))
      have less : ∀ {A B : World}, KeptS w0.heap.size w.heap.size T A B → KeptR w0.heap.size T A B := fun h => h.mono (fun _ _ hk => ⟨hk.1, fun ht => hk.2 (.inl ht)⟩)
      refine wpIn_mono (hbody _ (only_put _ _ _ _ rfl) ⟨_, hl2⟩) ?_
      have fin : ∀ (jump : Option Code) (W3 : World), KeptS w0.heap.size w.heap.size T (Wa.putObj (w.heap.size + 1) (.loop { rec .ready none with state := .busy })) W3 →
          (Instr.endRound (w.heap.size + 1) jump).run P W3 = .ok (.bool jump.isNone) (W3.putObj (w.heap.size + 1) (.loop (rec (if jump.isNone then .ready else .done) jump))) ∧
          (W3.putObj (w.heap.size + 1) (.loop (rec (if jump.isNone then .ready else .done) jump))).heap[w.heap.size + 1]? = some (.loop (rec (if jump.isNone then .ready else .done) jump)) ∧
          (W3.putObj (w.heap.size + 1) (.loop (rec (if jump.isNone then .ready else .done) jump))).heap[w.heap.size]? = some (.deferred (some [])) := fun jump W3 hk3 => by
        have hl3 := kept hk3 (.inr rfl) hl2
        have hr := run_endRound (P := P) jump hl3
        rw [hrec] at hr ⊢
        exact ⟨hr, World.putObj_heap_same (Array.getElem?_eq_some_iff.1 hl3).1, (World.putObj_heap_other (by omega)).trans (kept hk3 (.inl rfl) hd2)⟩
      rintro e a3 W3 hp3
      cases e with
      | normal =>
        obtain ⟨hk3, hi3⟩ := hp3
        obtain ⟨hr, hl4, hd4⟩ := fin none W3 hk3
        exact ⟨_, _, hr, .inl ⟨rfl, ⟨hT, hI _ _ _ _ hi3 (hput' _ _), hl4, hd4⟩, (((less hka).join (hput _ _)).join (less hk3)).join (hput _ _)⟩⟩
      | ret =>
        obtain ⟨hk3, hi3⟩ := hp3
        obtain ⟨hr, hl4, hd4⟩ := fin (some .ret) W3 hk3
        exact ⟨_, _, hr, .inr ⟨rfl, ⟨hT, .ret, hIx _ _ _ _ _ hi3 (hput' _ _), hl4, hd4⟩, (((less hka).join (hput _ _)).join (less hk3)).join (hput _ _)⟩⟩
      | exit id =>
        obtain ⟨hk3, hi3⟩ := hp3
        obtain ⟨hr, hl4, hd4⟩ := fin (some (.exit id)) W3 hk3
        exact ⟨_, _, hr, .inr ⟨rfl, ⟨hT, .exit id, hIx _ _ _ _ _ hi3 (hput' _ _), hl4, hd4⟩, (((less hka).join (hput _ _)).join (less hk3)).join (hput _ _)⟩⟩
      | goto t =>
        obtain ⟨hk3, hi3⟩ := hp3
        obtain ⟨hr, hl4, hd4⟩ := fin (some (.goto t)) W3 hk3
        exact ⟨_, _, hr, .inr ⟨rfl, ⟨hT, .goto t, hIx _ _ _ _ _ hi3 (hput' _ _), hl4, hd4⟩, (((less hka).join (hput _ _)).join (less hk3)).join (hput _ _)⟩⟩
      | panic ch => exact hp3.elim
      | outgrown => exact hp3.elim
    | ret => exact hp.elim
    | exit id => exact hp.elim
    | goto t => exact hp.elim
    | panic ch => exact hp.elim
    | outgrown => exact hp.elim
  case behind =>
    rintro e W2 ⟨⟨v, rfl⟩, (⟨T, xs, hS, hT, hi, hl, hd⟩ | ⟨T, pre, hSp, hT, c, hi, hl, hd⟩)⟩
    · exact ⟨none, _, by have := run_endLoop (P := P) hl (by rw [hrec]; simp); rw [hrec] at this; exact this, hdone T xs _ hS (hI _ _ _ _ hi (only_put _ _ _ _ (.inr (.inr rfl)))) ((World.putObj_heap_other (by omega)).trans hd)⟩
    · exact ⟨some c, _, by have := run_endLoop (P := P) hl (by rw [hrec]; simp); rw [hrec] at this; exact this, hstop T c pre _ hSp (hIx _ _ _ _ _ hi (only_put _ _ _ _ (.inr (.inr rfl)))) ((World.putObj_heap_other (by omega)).trans hd)⟩
/-- a round's contract, where the fence asks for no depth -/
theorem yield_wide {l l' m m' : Nat} {args : Array Value} {W : World} {R : Ending → World → Prop} (h : YieldAt Fence.wide m P l args W R) : YieldAt (Fence.wide.inRound l') m' P l args W R := by
  obtain ⟨fn, tmps, assign, body, hy, h1, h2⟩ := h
  exact ⟨fn, tmps, assign, body, hy, h1, fun c cs _ => h2 c cs (room_wide _)⟩
end Go.Proofs.Ytmkjejngnahpeaa
/- stops: All of a disk that is there: the iterator is made. -/
namespace Go.Proofs.Ytmkjejngnahpeaa
open Go Go.Maps Go.RowKit Go.Shelf
attribute [local go_sem] Oper.semAt_some

/-- the iterator's two variables: is there a disk; its unsure files -/
def WaysOf (w : World) (b3 b4 : Nat) (us : List U0) : Prop := w.heap[b3]? = some (.cells #[.bool true] 4 (0, 0)) ∧ UsBox w b4 us
def allV (b3 b4 : Nat) : Value := .func (.func 141) #[] #[.pointer (some ⟨b3, 0, none⟩), .pointer (some ⟨b4, 0, none⟩)]
theorem WaysOf.below {w w' : World} {b3 b4 : Nat} {us : List U0} (h : WaysOf w b3 b4 us) (hb : Below w.heap.size w w') : WaysOf w' b3 b4 us := by
  obtain ⟨h1, v, h2, h3⟩ := h
  exact ⟨(hb.block b3 (Array.getElem?_eq_some_iff.1 h1).1).trans h1, v, (hb.block b4 (Array.getElem?_eq_some_iff.1 h2).1).trans h2, h3.kept (fun k hk => hb.block k (h3.lt k hk))⟩
/-- .. and all of it is newer than n0 -/
structure WaysNew (n0 : Nat) (w : World) (b3 b4 : Nat) (us : List U0) : Prop where
  ways : WaysOf w b3 b4 us
  three : n0 ≤ b3
  four : n0 ≤ b4
  own : ∀ v, w.heap[b4]? = some (.cells #[v] 206 (0, 0)) → ∀ k, v.ownBlock = some k → n0 ≤ k
theorem WaysNew.only {n0 : Nat} {w w' : World} {b3 b4 : Nat} {us : List U0} {X : Nat → Prop} (h : WaysNew n0 w b3 b4 us) (ho : Only X w w') (hX : ∀ k, X k → k < n0) : WaysNew n0 w' b3 b4 us := by
  obtain ⟨⟨h1, v, h2, h3⟩, t3, t4, ho4⟩ := h
  have e4 := (ho.block b4 (Array.getElem?_eq_some_iff.1 h2).1 (fun e => by have := hX _ e; omega)).trans h2
  refine ⟨⟨(ho.block b3 (Array.getElem?_eq_some_iff.1 h1).1 (fun e => by have := hX _ e; omega)).trans h1, v, e4, h3.kept (fun k hk => ho.block k (h3.lt k hk) (fun e => by have := hX _ e; have := ho4 v h2 k hk; omega))⟩, t3, t4, fun v' h' k hk => ?_⟩
  rw [e4] at h'
  simp only [Option.some.injEq, Obj.cells.injEq, Array.mk.injEq, List.cons.injEq, and_true] at h'
  rw [← h'] at hk
  exact ho4 v h2 k hk
theorem WaysNew.below {n0 : Nat} {w w' : World} {b3 b4 : Nat} {us : List U0} (h : WaysNew n0 w b3 b4 us) (hb : Below w.heap.size w w') : WaysNew n0 w' b3 b4 us :=
  h.only (Only.of_below hb (Nat.le_refl _) (fun _ => False)) (fun _ hf => hf.elim)
set_option maxRecDepth 100000 in
set_option maxHeartbeats 1000000 in
theorem sAll_new {w : World} {S : Nat → Prop} {q : Nat} {d : Dk} (h : DiskAt w S q d) (hfm : d.fates.length ≤ 1000000000) :
    Calls Try.prog 80 #[.pointer (some ⟨q, 0, none⟩)] w fun e w' => ∃ b3 b4, e = .returned (allV b3 b4) ∧ WaysNew w.heap.size w' b3 b4 (unsT d.files) ∧ Below w.heap.size w w' := by
  have H := Lib.hid h
  clear h
  go_enter Try.func80, Try.ntmps80
  go_wp2_with fail
  refine (snone_b H.out hfm).mono ?_
  rintro e w1 ⟨rfl, hb1⟩
  have H1 := Lib.hid (And.intro (H.out.below hb1) hb1)
  clear hb1
  go_upto_region 3 with fail
  obtain ⟨w2, hw2⟩ : ∃ W : World, W = (w1.alloc (.cells #[.bool true] 4)).alloc (.cells #[.slice none 0 0] 206) := ⟨_, rfl⟩
  obtain ⟨b3, hb3⟩ : ∃ b, b = w1.heap.size := ⟨_, rfl⟩
  obtain ⟨b4, hb4⟩ : ∃ b, b = w1.heap.size + 1 := ⟨_, rfl⟩
  have hb2 : Below w1.heap.size w1 w2 := by rw [hw2]; exact ((Below.refl _ _).alloc (Nat.le_refl _) _).alloc (by simp) _
  have h3 : w2.heap[b3]? = some (.cells #[.bool true] 4 (0, 0)) := by
    rw [hw2, hb3]
    exact (Below.heap_alloc _ _ _ (by simp)).trans (alloc_cells _ _ _)
  have h4 : w2.heap[b4]? = some (.cells #[.slice none 0 0] 206 (0, 0)) := by
    rw [hw2, hb4]
    have := alloc_cells (w1.alloc (.cells #[.bool true] 4)) #[.slice none 0 0] 206
    simpa using this
  have c3 : w2.cell? ⟨b3, 0, none⟩ = some (.bool true) := cell_of h3 rfl
  have H2 := Lib.hid (And.intro (H1.out.1.below hb2) (And.intro (H1.out.2.trans (hb2.mono H1.out.2.size)) (show w1.heap.size ≤ b3 ∧ w1.heap.size ≤ b4 ∧ b3 ≠ b4 by omega)))
  have HH := Lib.hid (And.intro h3 h4)
  rw [← hw2, ← hb4, ← hb3]
  clear hw2 hb3 hb4 h3 h4 hb2
  go_wp2_with fail
  refine (sall_new H2.out.1).mono ?_
  rintro e w3 ⟨oa, N, c, rfl, hn, hrow, hb5, hnw⟩
  have HNW := Lib.hid hnw
  clear hnw
  have h3' := (hb5.block b3 (Array.getElem?_eq_some_iff.1 HH.out.1).1).trans HH.out.1
  have h4' := (hb5.block b4 (Array.getElem?_eq_some_iff.1 HH.out.2).1).trans HH.out.2
  have hown : ∀ k, (Value.slice oa N c).ownBlock = some k → k ≠ b4 := fun k hk e => by
    subst e
    exact absurd (row_type hrow hk h4') (by decide)
  have k4 : w3.cell? ⟨b4, 0, none⟩ = some (.slice none 0 0) := cell_of h4' rfl
  have z4 : w3.frozen? ⟨b4, 0, none⟩ = false := free_of h4' _
  have HR := Lib.hid (And.intro hn (And.intro hrow (And.intro hb5 (And.intro h3' (And.intro h4' hown)))))
  clear hn hrow hb5 h3' h4' hown c3
  go_wp2_with fail
  go_ret
  have e4 : (w3.setCell ⟨b4, 0, none⟩ (.slice oa N c)).heap[b4]? = some (.cells #[.slice oa N c] 206 (0, 0)) := heap_setCell_here _ HR.out.2.2.2.2.1
  refine ⟨b3, b4, rfl, ⟨⟨?_, .slice oa N c, e4, ?_⟩, by have := H1.out.2.size; have := H2.out.2.2.1; omega, by have := H1.out.2.size; have := H2.out.2.2.2.1; omega, fun v' h' k hk => ?_⟩, ?_⟩
  · exact (Below.heap_setCell _ _ _ _ (fun e => H2.out.2.2.2.2 e)).trans HR.out.2.2.2.1
  · rw [HR.out.1]
    exact HR.out.2.1.kept (fun k hk => Below.heap_setCell _ _ _ _ (HR.out.2.2.2.2.2 k hk))
  · have e4' := e4.symm.trans h'
    simp only [Option.some.injEq, Obj.cells.injEq, Array.mk.injEq, List.cons.injEq, and_true] at e4'
    rw [← e4'] at hk
    have := HNW.out k hk
    have := H2.out.2.1.size
    omega
  · have h5 := H2.out.2.1.trans (HR.out.2.2.1.mono H2.out.2.1.size)
    exact h5.setCell (p := ⟨b4, 0, none⟩) (by have := H1.out.2.size; have := H2.out.2.2.2.1; show w.heap.size ≤ b4; omega) _
theorem sAll_b {w : World} {S : Nat → Prop} {q : Nat} {d : Dk} (h : DiskAt w S q d) (hfm : d.fates.length ≤ 1000000000) :
    Calls Try.prog 80 #[.pointer (some ⟨q, 0, none⟩)] w fun e w' => ∃ b3 b4, e = .returned (allV b3 b4) ∧ WaysOf w' b3 b4 (unsT d.files) ∧ Below w.heap.size w w' :=
  (sAll_new h hfm).mono (fun _ _ ⟨b3, b4, h1, h2, h3⟩ => ⟨b3, b4, h1, h2.ways, h3⟩)
end Go.Proofs.Ytmkjejngnahpeaa
