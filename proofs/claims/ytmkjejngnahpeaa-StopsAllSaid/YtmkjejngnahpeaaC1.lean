/- The texts Ji, Jj in one. -/
import Derived.Test.YtmkjejngnahpeaaD7
import Derived.Test.YtmkjejngnahpeaaB4
import Derived.Deep.RegionHeld3
/- stops: Count, Number. -/
namespace Go.Proofs.Ytmkjejngnahpeaa
open Go Go.Maps Go.RowKit

def countV (d : Dk) : Value × Int := cntV (countT (unsT d.files))
set_option maxRecDepth 100000 in
set_option maxHeartbeats 1000000 in
theorem sCount_b {w : World} {S : Nat → Prop} {q : Nat} {d : Dk} (h : DiskAt w S q d) (hfm : d.fates.length ≤ 1000000000) :
    Calls Try.prog 74 #[.pointer (some ⟨q, 0, none⟩)] w fun e w' => e = .returned (.tuple #[(countV d).1, .int .i64 (countV d).2]) ∧ Below w.heap.size w w' := by
  have H := Lib.hid h
  have HZ := Lib.hid h.sizes
  clear h
  go_enter Try.func74, Try.ntmps74
  go_wp2_with fail
  refine (snone_b H.out hfm).mono ?_
  rintro e w1 ⟨rfl, hb1⟩
  have H1 := Lib.hid (And.intro (H.out.below hb1) hb1)
  clear hb1
  go_wp2_with fail
  refine (sall_b H1.out.1).mono ?_
  rintro e w2 ⟨oa, n, c, rfl, hn, hr, hb2⟩
  have hlen := unsT_len d.files
  have hz := HZ.out
  have HC := Lib.hid (count_b hn hr.read (by omega) (unsT_more (fun f hf => (hz.2 f hf).2)))
  have HB2 := Lib.hid (H1.out.2.trans (hb2.mono H1.out.2.size))
  clear hn hr hb2 hlen hz
  go_wp2_with fail
  refine (HC.out).mono ?_
  rintro e w3 ⟨rfl, hb3⟩
  have HB3 := Lib.hid (HB2.out.trans (hb3.mono HB2.out.size))
  clear hb3
  obtain ⟨v1, hv1⟩ : ∃ v, (cntV (countT (unsT d.files))).1 = v := ⟨_, rfl⟩
  obtain ⟨v2, hv2⟩ : ∃ v, (cntV (countT (unsT d.files))).2 = v := ⟨_, rfl⟩
  have HV : Hid ((countV d).1 = v1 ∧ (countV d).2 = v2) := Lib.hid ⟨hv1, hv2⟩
  obtain ⟨k, hk⟩ : ∃ k : Int, v1 = .int .i64 k := by
    rw [← hv1]
    unfold cntV
    split
    · exact ⟨_, rfl⟩
    · exact ⟨_, rfl⟩
  rw [hv1, hv2]
  clear hv1 hv2
  subst hk
  go_wp2_with fail
  go_ret2
  exact ⟨by rw [HV.out.1, HV.out.2]; rfl, HB3.out⟩
/-- each way is one of the ways -/
theorem plainStep_way (s : PlS) (u : U0) : ∃ x, (plainStep s u).ways = s.ways ++ [x] ∧ x < u.ways := by
  unfold plainStep U0.ways
  split
  · rename_i hn
    split
    · exact ⟨0, rfl, by omega⟩
    · split
      · refine ⟨_, rfl, ?_⟩
        have := nextP_lt (u.more + 1) (nextP 2 s.ps).2 (by omega)
        omega
      · exact ⟨1, rfl, by omega⟩
  · rename_i hn
    split
    · refine ⟨_, rfl, ?_⟩
      have := nextP_lt (u.more + 1) s.ps (by omega)
      omega
    · exact ⟨0, rfl, by omega⟩
theorem plainT_ways : ∀ (l : List U0) (s : PlS), ∃ ws, (l.foldl plainStep s).ways = s.ways ++ ws ∧ ws.length = l.length ∧ ∀ (j : Nat) (h : j < l.length) (h2 : j < ws.length), ws[j] < l[j].ways
  | [], s => ⟨[], by simp, rfl, fun j h => by cases h⟩
  | u :: r, s => by
    obtain ⟨x, hx, hlt⟩ := plainStep_way s u
    obtain ⟨ws, h1, h2, h3⟩ := plainT_ways r (plainStep s u)
    refine ⟨x :: ws, by rw [List.foldl_cons, h1, hx]; simp, by simp [h2], fun j h h4 => ?_⟩
    cases j with
    | zero => exact hlt
    | succ j => exact h3 j (by simpa using h) (by simpa using h4)
theorem plainT_way {l : List U0} {ps : List Int} {j : Nat} (h : j < l.length) (h2 : j < (plainT l ps).ways.length) : (plainT l ps).ways[j] < l[j].ways := by
  obtain ⟨ws, h1, h3, h4⟩ := plainT_ways l ⟨[], [], ps⟩
  have e : (plainT l ps).ways = ws := by
    have : (plainT l ps).ways = [] ++ ws := h1
    simpa using this
  simp only [e]
  exact h4 j h (by rw [h3]; exact h)
/-- a way's number -/
def numT : List U0 → List Nat → Nat → Nat
  | u :: l, x :: r, n => numT l r (n * u.ways + x)
  | _, _, n => n
theorem numT_succ : ∀ (l : List U0) (r : List Nat) (n j : Nat) (h : j < l.length) (h2 : j < r.length), numT (l.take (j + 1)) (r.take (j + 1)) n = numT (l.take j) (r.take j) n * l[j].ways + r[j]
  | u :: l, x :: r, n, 0, _, _ => by simp [numT]
  | u :: l, x :: r, n, j + 1, h, h2 => by
    show numT (l.take (j + 1)) (r.take (j + 1)) (n * u.ways + x) = _
    rw [numT_succ l r (n * u.ways + x) j (by simpa using h) (by simpa using h2)]
    rfl
/-- while all can be counted, the number so far is below the count so far -/
theorem numT_lt {l : List U0} {r : List Nat} (hw : ∀ (j : Nat) (h : j < l.length) (h2 : j < r.length), r[j] < l[j].ways) (hlr : l.length = r.length) {c : Nat} (hc : countT l = some c) : ∀ (j : Nat), j ≤ l.length → ∃ k, countT (l.take j) = some k ∧ numT (l.take j) (r.take j) 0 < k
  | 0, _ => ⟨1, rfl, by simp [numT]⟩
  | j + 1, hj => by
    obtain ⟨k, h1, h2⟩ := numT_lt hw hlr hc j (by omega)
    have hjl : j < l.length := by omega
    have h3 := countT_succ hjl
    rw [h1] at h3
    unfold countStep at h3
    rw [Option.bind_some] at h3
    split at h3
    · have := countT_none (l := l) h3
      rw [hc] at this
      cases this
    · refine ⟨_, h3, ?_⟩
      rw [numT_succ l r 0 j hjl (by omega)]
      have h4 := hw j hjl (by omega)
      calc numT (l.take j) (r.take j) 0 * l[j].ways + r[j] < numT (l.take j) (r.take j) 0 * l[j].ways + l[j].ways := by omega
        _ = (numT (l.take j) (r.take j) 0 + 1) * l[j].ways := by rw [Nat.add_mul, Nat.one_mul]
        _ ≤ k * l[j].ways := Nat.mul_le_mul_right _ h2
/-- what Number answers -/
def numV (d : Dk) (ps : List Int) : Int × Int := match countT (unsT d.files) with
  | some _ => (numT (unsT d.files) (plainT (unsT d.files) ps).ways 0, 0)
  | none => (0, 3)
end Go.Proofs.Ytmkjejngnahpeaa
/- stops: Number. -/
namespace Go.Proofs.Ytmkjejngnahpeaa
open Go Go.Maps Go.RowKit

theorem wrapS (n : Nat) (h : n ≤ 4611686018427387904) : IntKind.i64.wrap (n : Int) = (n : Int) := by
  rw [IntKind.wrap_i64]
  omega
/-- what a region that draws holds of the world -/
theorem hold3 {w W W' : World} {b g : Nat} {o : Nat} {x y z : Value} (h : W.cell? ⟨b, 0, none⟩ = some x ∧ W.cell? ⟨b, 1, none⟩ = some y ∧ W.cell? ⟨g, o, none⟩ = some z ∧ Below w.heap.size w W ∧ b < W.heap.size ∧ g < W.heap.size) (hb : Below W.heap.size W W') :
    W'.cell? ⟨b, 0, none⟩ = some x ∧ W'.cell? ⟨b, 1, none⟩ = some y ∧ W'.cell? ⟨g, o, none⟩ = some z ∧ Below w.heap.size w W' ∧ b < W'.heap.size ∧ g < W'.heap.size :=
  ⟨(hb.cell (p := ⟨b, 0, none⟩) h.2.2.2.2.1).trans h.1, (hb.cell (p := ⟨b, 1, none⟩) h.2.2.2.2.1).trans h.2.1, (hb.cell (p := ⟨g, o, none⟩) h.2.2.2.2.2).trans h.2.2.1, h.2.2.2.1.trans (hb.mono h.2.2.2.1.size), Nat.lt_of_lt_of_le h.2.2.2.2.1 hb.size, Nat.lt_of_lt_of_le h.2.2.2.2.2 hb.size⟩
theorem hold3_drew {w W : World} {b g : Nat} {o : Nat} {x y z : Value} (h : W.cell? ⟨b, 0, none⟩ = some x ∧ W.cell? ⟨b, 1, none⟩ = some y ∧ W.cell? ⟨g, o, none⟩ = some z ∧ Below w.heap.size w W ∧ b < W.heap.size ∧ g < W.heap.size) :
    W.drew.cell? ⟨b, 0, none⟩ = some x ∧ W.drew.cell? ⟨b, 1, none⟩ = some y ∧ W.drew.cell? ⟨g, o, none⟩ = some z ∧ Below w.heap.size w W.drew ∧ b < W.drew.heap.size ∧ g < W.drew.heap.size := hold3 h ⟨rfl, rfl, rfl, Nat.le_refl _, fun _ _ => rfl⟩
theorem hold3_below {w W : World} {b g : Nat} {o : Nat} {x y z : Value} (h : W.cell? ⟨b, 0, none⟩ = some x ∧ W.cell? ⟨b, 1, none⟩ = some y ∧ W.cell? ⟨g, o, none⟩ = some z ∧ Below w.heap.size w W ∧ b < W.heap.size ∧ g < W.heap.size) : Below w.heap.size w W := h.2.2.2.1
set_option maxRecDepth 100000 in
set_option maxHeartbeats 4000000 in
theorem sNumber_b {w : World} {S : Nat → Prop} {q : Nat} {d : Dk} (h : DiskAt w S q d) (hfm : d.fates.length ≤ 1000000000) {oa : Option Addr} {n c : Nat} {ps : List Int} (hn : ps.length = n) (hp : readAt w 1 (.slice oa n c) n (intCells ps)) (hm : n ≤ 1000000000) (hmx : ∀ x ∈ ps, x ≤ 9223372036854775807) (hge : AllGe ps) :
    Calls Try.prog 76 #[.pointer (some ⟨q, 0, none⟩), .agg #[.slice oa n c]] w fun e w' => e = .returned (.tuple #[.int .i64 (numV d ps).1, .int .i64 (numV d ps).2]) ∧ Below w.heap.size w w' := by
  have HOK : Hid (PicksOk ps) := Lib.hid (fun x hx => ⟨hge x hx, hmx x hx⟩)
  have HGE := Lib.hid hge
  have HNN := Lib.hid hn
  obtain ⟨w1, hw1⟩ : ∃ W : World, W = w.alloc (.cells #[.slice oa n c] 72) := ⟨_, rfl⟩
  obtain ⟨b3, hb3⟩ : ∃ b, b = w.heap.size := ⟨_, rfl⟩
  have h1 : w1.heap[b3]? = some (.cells #[.slice oa n c] 72 (0, 0)) := by rw [hw1, hb3]; exact alloc_cells _ _ _
  have hb1 : Below w.heap.size w w1 := by rw [hw1]; exact (Below.refl _ _).alloc (Nat.le_refl _) _
  have H := Lib.hid (And.intro (h.below hb1) (And.intro h1 hb1))
  have HP := Lib.hid (hp.kept (fun k hk _ _ => hb1.block k hk))
  have HZ := Lib.hid h.sizes
  have c0 : w1.cell? ⟨b3, 0, none⟩ = some (.slice oa n c) := cell_of h1 rfl
  clear h hp hb1 h1 hge hmx hn
  go_enter Try.func76, Try.ntmps76
  go_upto_region 1 with fail
  rw [← hw1, ← hb3]
  clear hw1 hb3
  go_wp2_with fail
  refine (sright_b H.out.1 hfm HNN.out HP.out hm).mono ?_
  rintro e w2 ⟨er, rfl, her, -, hb2⟩
  obtain rfl := her HGE.out
  have H2 := Lib.hid (And.intro (H.out.1.below hb2) (And.intro ((hb2.block b3 (Array.getElem?_eq_some_iff.1 H.out.2.1).1).trans H.out.2.1) (H.out.2.2.trans (hb2.mono H.out.2.2.size))))
  have HP2 := Lib.hid (HP.out.kept (fun k hk _ _ => hb2.block k hk))
  clear her hb2 c0 HP H
  go_wp2_with fail
  refine (sall_b H2.out.1).mono ?_
  rintro e w3 ⟨ol, m, cl, rfl, hml, hr, hb3'⟩
  have hlen := unsT_len d.files
  have hz := HZ.out
  have hm4 : m ≤ 4096 := by omega
  obtain ⟨l, hl⟩ : ∃ l, unsT d.files = l := ⟨_, rfl⟩
  have hmore := unsT_more (l := d.files) (fun f hf => (hz.2 f hf).2)
  rw [hl] at hml hr hmore
  have hr := hr.read
  have HC := Lib.hid (count_b hml hr (by omega) hmore)
  have H3 := Lib.hid (And.intro ((hb3'.block b3 (Array.getElem?_eq_some_iff.1 H2.out.2.1).1).trans H2.out.2.1) (H2.out.2.2.trans (hb3'.mono H2.out.2.2.size)))
  have HP3 := Lib.hid (HP2.out.kept (fun k hk _ _ => hb3'.block k hk))
  have HR := Lib.hid (And.intro hml (And.intro hr hmore))
  have HL := Lib.hid hl
  clear hml hr hmore hb3' hlen hz H2 HP2 hl
  go_wp2_with fail
  refine (HC.out).mono ?_
  rintro e w4 ⟨rfl, hb4⟩
  have H4 := Lib.hid (And.intro ((hb4.block b3 (Array.getElem?_eq_some_iff.1 H3.out.1).1).trans H3.out.1) (H3.out.2.trans (hb4.mono H3.out.2.size)))
  have HP4 := Lib.hid (HP3.out.kept (fun k hk _ _ => hb4.block k hk))
  have HR4 := Lib.hid (HR.out.2.1.kept (fun k hk _ _ => hb4.block k hk))
  clear hb4 HP3 H3 HC
  cases hc : countT l with
  | none =>
    have HV : Hid (numV d ps = (0, 3)) := Lib.hid (by unfold numV; rw [HL.out, hc])
    clear hc
    show _
    go_wp2_with fail
    go_ret2
    exact ⟨by rw [HV.out]; rfl, H4.out.2⟩
  | some k =>
    have HCT := Lib.hid hc
    have HV : Hid (numV d ps = (((numT l (plainT l ps).ways 0 : Nat) : Int), 0)) := Lib.hid (by unfold numV; rw [HL.out, hc])
    clear hc
    have c04 : w4.cell? ⟨b3, 0, none⟩ = some (.slice oa n c) := cell_of H4.out.1 rfl
    go_wp2_with fail
    refine (plain_b HR.out.1 HR4.out hm4 HR.out.2.2 HNN.out HP4.out HOK.out).mono ?_
    rintro e w5 ⟨o1, m1, c1, o2, m2, c2, rfl, -, hm2, -, hway, hb5⟩
    obtain ⟨ws, hws⟩ : ∃ ws, (plainT l ps).ways = ws := ⟨_, rfl⟩
    have hwl : ∀ (j : Nat) (h : j < l.length) (h2 : j < ws.length), ws[j] < l[j].ways := fun j h h2 => by
      have h3 := plainT_way (l := l) (ps := ps) (j := j) h (by rw [hws]; exact h2)
      simp only [hws] at h3
      exact h3
    have hwn : l.length = ws.length := by
      have h3 := (plainT_len l ⟨[], [], ps⟩).1
      have h4 : plainT l ps = l.foldl plainStep ⟨[], [], ps⟩ := rfl
      rw [← h4, hws] at h3
      simpa using h3.symm
    rw [hws] at HV hm2 hway
    have hmm : m2 = m := by have := HR.out.1; omega
    subst hmm
    have HW := Lib.hid (And.intro hwl (And.intro hwn hway))
    have HB5 := Lib.hid (H4.out.2.trans (hb5.mono H4.out.2.size))
    have HR5 := Lib.hid (HR4.out.kept (fun k hk _ _ => hb5.block k hk))
    clear hwl hwn hway hb5 hws c04 HR4 H4 HP4
    go_wp2_with fail
    go_loopw [10, 40] (fun sn i wr => ∃ (j x : Nat), j ≤ m2 ∧ i = .int .i64 j ∧ sn = .int .i64 x ∧ Hid (numT (l.take j) (ws.take j) 0 = x) ∧ Hid (Below w5.heap.size w5 wr)) (fun _ i wr => m2 - (intOf i).toNat)
    case atStart => exact ⟨0, 0, Nat.zero_le _, rfl, rfl, Lib.hid (by simp [numT]), Lib.hid (Below.refl _ _)⟩
    case round =>
      obtain ⟨j, x, hj, rfl, rfl, HX, HB⟩ := hrel
      by_cases hlt : j < m2
      · have hjl : j < l.length := by rw [HR.out.1]; exact hlt
        have hjw : j < ws.length := by rw [← HW.out.2.1]; exact hjl
        have hrw := HR5.out.kept (w' := wr) (fun k hk _ _ => HB.out.block k hk)
        have hrv := HW.out.2.2.kept (w' := wr) (fun k hk _ _ => HB.out.block k hk)
        obtain ⟨g, off, rfl⟩ := hrw.addr (by omega)
        obtain ⟨g2, off2, rfl⟩ := hrv.addr (by omega)
        obtain ⟨u, hu⟩ : ∃ u, l[j] = u := ⟨_, rfl⟩
        obtain ⟨y, hy⟩ : ∃ y, ws[j] = y := ⟨_, rfl⟩
        have hum : u.more ≤ 16777216 := HR.out.2.2 u (by rw [← hu]; exact List.getElem_mem _)
        obtain ⟨ub, hub⟩ : ∃ b, u.name = b := ⟨_, rfl⟩
        obtain ⟨um, humm⟩ : ∃ m, u.more = m := ⟨_, rfl⟩
        have k0 : wr.cell? ⟨g, off + j * 2, none⟩ = some (.bool ub) := us_cell (i := 0) hrw hjl (by omega) (by rw [hu, ← hub]; rfl)
        have k1 : wr.cell? ⟨g, off + j * 2 + 1, none⟩ = some (.int .i64 um) := us_cell (i := 1) hrw hjl (by omega) (by rw [hu, ← humm]; rfl)
        have k2 : wr.cell? ⟨g2, off2 + j, none⟩ = some (.int .i64 y) := hrv.cellAt (i := j) (by unfold natCells; rw [List.getElem?_map, List.getElem?_eq_getElem hjw, hy]; rfl)
        have hg2 : g2 < wr.heap.size := hrv.lt (by omega) g2 rfl
        have hue : u = ⟨ub, um⟩ := by rw [← hub, ← humm]
        rw [humm] at hum
        obtain ⟨W, hW⟩ : ∃ W, (U0.mk ub um).ways = W := ⟨_, rfl⟩
        obtain ⟨kk, hk1, hk2⟩ := numT_lt HW.out.1 HW.out.2.1 HCT.out (j + 1) (by omega)
        have hkm := countT_most hk1
        have hns := numT_succ l ws 0 j hjl hjw
        rw [HX.out, hu, hue, hW, hy] at hns
        obtain ⟨z, hz⟩ : ∃ z, x * W + y = z := ⟨_, rfl⟩
        rw [hz] at hns
        have hzm : z ≤ 4611686018427387904 := by
          rw [hns] at hk2
          unfold most62 at hkm
          omega
        have hxw : x * W ≤ z := by omega
        have HNS := Lib.hid hns
        have hzi : (x : Int) * (W : Int) + (y : Int) = (z : Int) := by rw [← hz]; simp
        obtain ⟨xw, hxwe⟩ : ∃ a, x * W = a := ⟨_, rfl⟩
        have hxi : (x : Int) * (W : Int) = (xw : Int) := by rw [← hxwe]; simp
        have HWAY := Lib.hid (fun W' : World => ways_b ub um (by omega) W')
        rw [hxwe] at hxw
        rw [hxi] at hzi
        clear hrw hrv hu hy hue hub humm hk1 hk2 hkm hns hz hxwe
        go_upto_region 13 with fail
        obtain ⟨w6, hw6⟩ : ∃ W : World, W = wr.alloc (.cells #[.bool ub, .int .i64 um] 213) := ⟨_, rfl⟩
        obtain ⟨b14, hb14⟩ : ∃ b, b = wr.heap.size := ⟨_, rfl⟩
        have h6 : w6.heap[b14]? = some (.cells #[.bool ub, .int .i64 um] 213 (0, 0)) := by rw [hw6, hb14]; exact alloc_cells _ _ _
        have hb6 : Below wr.heap.size wr w6 := by rw [hw6]; exact (Below.refl _ _).alloc (Nat.le_refl _) _
        have hS : w6.cell? ⟨b14, 0, none⟩ = some (.bool ub) ∧ w6.cell? ⟨b14, 1, none⟩ = some (.int .i64 um) ∧ w6.cell? ⟨g2, off2 + j, none⟩ = some (.int .i64 y) ∧ Below w5.heap.size w5 w6 ∧ b14 < w6.heap.size ∧ g2 < w6.heap.size :=
          ⟨cell_of h6 rfl, cell_of h6 rfl, (hb6.cell (p := ⟨g2, off2 + j, none⟩) hg2).trans k2, HB.out.trans (hb6.mono HB.out.size), (Array.getElem?_eq_some_iff.1 h6).1, Nat.lt_of_lt_of_le hg2 hb6.size⟩
        rw [← hw6, ← hb14]
        clear hw6 hb14 h6 hb6 k0 k1 k2
        go_region_held3 (fun W => W.cell? ⟨b14, 0, none⟩ = some (.bool ub) ∧ W.cell? ⟨b14, 1, none⟩ = some (.int .i64 um) ∧ W.cell? ⟨g2, off2 + j, none⟩ = some (.int .i64 y) ∧ Below w5.heap.size w5 W ∧ b14 < W.heap.size ∧ g2 < W.heap.size)
          (first | assumption | exact hold3_drew (by assumption) | exact hold3 (by assumption) (by assumption))
          (first | (go_at_call 138; refine (HWAY.out _).mono ?_; rintro e wa ⟨rfl, hba⟩; rw [hW]))
        all_goals
          have hbw := (hold3_drew hS).2.2.2.1.trans (hba.mono (hold3_drew hS).2.2.2.1.size)
          have HBW := Lib.hid hbw
          clear hbw hba hS
          go_wp2_with fail
          exact ⟨⟨j + 1, z, by omega, by simp, by rw [wrapS xw (by omega), hzi, wrapS z hzm], HNS, HBW⟩, by simp [intOf]; omega⟩
      · obtain rfl : j = m2 := by omega
        have HE : Hid (numT l ws 0 = x) := Lib.hid (by
          have h1 := HX.out
          rwa [List.take_of_length_le (by rw [HR.out.1]; exact Nat.le_refl _), List.take_of_length_le (by rw [hm2]; exact Nat.le_refl _)] at h1)
        go_wp2_with fail
        go_ret2
        exact ⟨by rw [HV.out, HE.out]; rfl, HB5.out.trans (HB.out.mono HB5.out.size)⟩
end Go.Proofs.Ytmkjejngnahpeaa
