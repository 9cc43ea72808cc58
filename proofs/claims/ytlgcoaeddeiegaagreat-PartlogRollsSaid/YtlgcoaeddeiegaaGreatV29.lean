/- The texts Pzx in one. -/
import Derived.Test.YtlgcoaeddeiegaaGreatV27
import Derived.LoopIn
import Derived.Test.YtlgcoaeddeiegaaGreatV28
import Derived.Sort.LoopGhostIn
import Derived.Deep.RegionHeld3
import Derived.LoopNIn
import Derived.TacticsInMore
/- law11: PartlogRolls, the walk. -/
namespace Go.Proofs.YtlgcoaeddeiegaaGreat
open Go Go.Maps Go.RowKit Go.Shelf
attribute [local go_sem] Oper.semAt_some

theorem rowsP_append {V w3 : World} {n m c c3 : Nat} {oa oa3 : Option Addr} {P : Nat → Prop} {xs ys : List RcV} (h : RowP P V (.slice oa n c) xs) (hn : xs.length = n) (hm : ys.length = m)
    (hys : ∀ x ∈ ys, rowAt V 5 1 x.kv x.r.key.length (byteCells x.r.key) ∧ rowAt V 5 1 x.vv x.r.val.length (byteCells x.r.val) ∧ (∀ k, x.kv.ownBlock = some k → P k) ∧ (∀ k, x.vv.ownBlock = some k → P k))
    (hP : ∀ k, V.heap.size ≤ k → k < w3.heap.size → P k)
    (hr : rowAt w3 150 3 (.slice oa3 (n + m) c3) (n + m) (recsCells xs ++ recsCells ys)) (hg : V.grownBy w3 (Value.slice oa n c).ownBlock) (ho : (Value.slice oa3 (n + m) c3).ownBlock = (Value.slice oa n c).ownBlock ∨ (Value.slice oa3 (n + m) c3).ownBlock = some V.heap.size) : RowP P w3 (.slice oa3 (n + m) c3) (xs ++ ys) := by
  subst hn
  subst hm
  have hov : Only (fun k => (Value.slice oa xs.length c).ownBlock = some k) V w3 := Only.of_grown hg (fun k hk => hk)
  have keep : ∀ {u : Value} {k : Nat} {cs : List Value}, rowAt V 5 1 u k cs → rowAt w3 5 1 u k cs := fun {u k cs} hu => hu.kept (fun i hi => hov.block i (hu.lt i hi) (hu.types h.row (by decide) hi))
  refine ⟨?_, fun k hk => ?_, fun x hx => ?_⟩
  · rw [recsCells_append, List.length_append]
    exact hr
  · rcases ho with e | e
    · exact h.own k (by rw [← e]; exact hk)
    · have h1 := hr.lt k hk
      rw [hk] at e
      simp only [Option.some.injEq] at e
      exact hP k (by omega) h1
  · rcases List.mem_append.1 hx with hx | hx
    · obtain ⟨g1, g2, g3, g4⟩ := h.each x hx
      exact ⟨keep g1, keep g2, g3, g4⟩
    · obtain ⟨g1, g2, g3, g4⟩ := hys x hx
      exact ⟨keep g1, keep g2, g3, g4⟩
theorem large_not {m : Nat} {l : List Rc} (h : largeT m l = false) : l.length ≤ m ∧ ∀ r ∈ l, r.key.length ≤ 1000000 ∧ r.val.length ≤ 1000000 := by
  unfold largeT at h
  simp only [Bool.or_eq_false_iff, decide_eq_false_iff_not, List.any_eq_false] at h
  refine ⟨by omega, fun r hr => ?_⟩
  have h2 := h.2 r hr
  unfold Rc.large at h2
  simp at h2
  omega
/-- what stands while a file's batches are gone over: the box of the last one's place -/
structure KJ (w8 W : World) (b : Nat) (T : Nat → Prop) (v : Nat) : Prop where
  below : Below w8.heap.size w8 W
  box : W.heap[b]? = some (.cells #[.int .i64 (v : Int)] 3 (0, 0))
  low : ∀ k, T k → b < k
  at' : b = w8.heap.size
theorem KJ.kept {w8 A B : World} {b v : Nat} {T X : Nat → Prop} (h : KJ w8 A b T v) (ho : Only X A B) (hX : ∀ k, X k → b < k) : KJ w8 B b T v :=
  ⟨h.below.trans (ho.below (fun i hi e => by have := hX i e; have := h.at'; omega) h.below.size), (ho.block _ (Array.getElem?_eq_some_iff.1 h.box).1 (fun e => by have := hX _ e; omega)).trans h.box, h.low, h.at'⟩
/-- the frame at the second loop's head -/
def frP (roll step cut : Int) (oa oz on : Option Addr) (n c nz cz M cn b3 q lp en i : Nat) (u : Nat → Value) : Array Value := #[.agg #[.int .i64 roll, .int .i64 step], .slice oa n c, .int .i64 cut, .pointer (some ⟨b3, 0, none⟩), u 4, u 5, u 6, .pointer (some ⟨q, 0, none⟩), .int .i64 0, .pointer (some ⟨lp, 0, none⟩), .int .i64 0, .slice oz nz cz, u 12, u 13, u 14, .slice on M cn, .int .i64 (en : Int), .int .i64 (i : Int), u 18, u 19, u 20, u 21, u 22, u 23, u 24, u 25, u 26, u 27, u 28, u 29, u 30, u 31, u 32, u 33, u 34, u 35, u 36, u 37, u 38, u 39, u 40, u 41, u 42, u 43, u 44, u 45, u 46, u 47, u 48, u 49, u 50, u 51, u 52, u 53, u 54, u 55, u 56, u 57, u 58, u 59, u 60, u 61, u 62, u 63, u 64, u 65, u 66, u 67, u 68, u 69, u 70, u 71, u 72, u 73, u 74, u 75, u 76, u 77, u 78, u 79, u 80, u 81, u 82, u 83, u 84, u 85, u 86, u 87, u 88, u 89, u 90, u 91, u 92, u 93, u 94, u 95, u 96, u 97, u 98, u 99, u 100, u 101, u 102, u 103, u 104, u 105, u 106, u 107, u 108, u 109, u 110, u 111, u 112, u 113, u 114, u 115, u 116, u 117, u 118, u 119, u 120, u 121, u 122, u 123, u 124, u 125, u 126, u 127, u 128, u 129, u 130, u 131, u 132, u 133, u 134, u 135, u 136, u 137, u 138, u 139, u 140, u 141, u 142, u 143, u 144, u 145, u 146, u 147, u 148, u 149, u 150, u 151, u 152, u 153, u 154, u 155, u 156, u 157, u 158, u 159, u 160, u 161, u 162, u 163, u 164, u 165, u 166, u 167, u 168, u 169, u 170, u 171, u 172, u 173, u 174, u 175, u 176, u 177, u 178, u 179, u 180, u 181, u 182, u 183, u 184, u 185, u 186, u 187, u 188, u 189, u 190, u 191, u 192, u 193, u 194, u 195, u 196, u 197, u 198, u 199, u 200, u 201, u 202, u 203, u 204, u 205, u 206, u 207, u 208, u 209, u 210, u 211, u 212, u 213, u 214, u 215, u 216, u 217, u 218, u 219, u 220, u 221, u 222, u 223, u 224, u 225, u 226, u 227, u 228, u 229, u 230, u 231, u 232]
theorem frP_intro {roll step cut : Int} {oa oz on : Option Addr} {n c nz cz M cn b3 q lp en i : Nat} (l : Array Value) (h : l = frP roll step cut oa oz on n c nz cz M cn b3 q lp en i (fun k => l.toList.getD k undef)) : ∃ u, l = frP roll step cut oa oz on n c nz cz M cn b3 q lp en i u := ⟨_, h⟩
/-- what stands at the head of the first loop's rounds -/
def RollJ (w1 wr : World) (lp q r st t : Nat) (v : Value) (nz : Nat) : Prop :=
  ∃ X g d ys, Home w1 X wr lp q pName r st g d ∧ RollI r g d (ys.map (·.r)) t ∧ ys.length = nz ∧ RowP (fun k => X k ∧ w1.heap.size ≤ k) wr v ys
set_option maxRecDepth 100000 in
set_option maxHeartbeats 16000000 in
theorem partlogRolls_walk {w : World} {roll step cut : Int} {oa : Option Addr} {n c : Nat} {L : List StpV} (hS : StepsAt w (.slice oa n c) L) (hn : L.length = n) (hro : -9223372036854775808 ≤ roll ∧ roll ≤ 9223372036854775807) (hcut : -9223372036854775808 ≤ cut ∧ cut ≤ 9223372036854775807) :
    Calls Tryz.prog 3 #[.agg #[.int .i64 roll, .int .i64 step], .slice oa n c, .int .i64 cut] w fun e w' => e = .returned (.bool true) ∧ Below w.heap.size w w' := by
  obtain ⟨w1, hw1⟩ : ∃ W : World, W = w.alloc (.cells #[.int .i64 roll, .int .i64 step] 23) := ⟨_, rfl⟩
  obtain ⟨b3, hb3⟩ : ∃ b, b = w.heap.size := ⟨_, rfl⟩
  have g3 : w1.heap[b3]? = some (.cells #[.int .i64 roll, .int .i64 step] 23 (0, 0)) := by rw [hw1, hb3]; exact alloc_cells _ _ _
  have hbl : Below w.heap.size w w1 := by rw [hw1]; exact (Below.refl _ _).alloc (Nat.le_refl _) _
  have hnL : n ≤ 9223372036854775807 := by rw [← hn]; exact hS.len
  have H1 := Lib.hid (And.intro g3 (And.intro hbl (And.intro (hS.below hbl) (And.intro hn (And.intro hro hcut)))))
  have HV := Lib.hid (vast11_b (hS.below hbl) hn)
  clear g3 hbl hS hn hro hcut
  refine (callsIn_wide (n := 8)).1 ?_
  have f1 : Fence.wide.fn 13 := trivial
  have f2 : Fence.wide.fn 12 := trivial
  have f3 : Fence.wide.fn 14 := trivial
  have f4 : Fence.wide.fn 15 := trivial
  have f5 : Fence.wide.fn 16 := trivial
  have f6 : Fence.wide.fn 17 := trivial
  have f7 : Fence.wide.fn 18 := trivial
  have f8 : Fence.wide.fn 19 := trivial
  have f9 : Fence.wide.fn 20 := trivial
  have f10 : Fence.wide.fn 21 := trivial
  have f11 : Fence.wide.fn 22 := trivial
  have f12 : Fence.wide.fn 23 := trivial
  have f13 : Fence.wide.fn 24 := trivial
  have f14 : Fence.wide.fn 25 := trivial
  refine callsIn_of_wp_marks Tryz.func3 rfl trivial ?_ rfl
  simp only [Tryz.ntmps3, List.size_toArray, List.length_cons, List.length_nil, Nat.reduceAdd, Nat.reduceSub, Array.replicate_succ, Array.replicate_zero, List.push_toArray, List.append_toArray, List.nil_append, List.cons_append]
  gi_upto_region 1 with fail
  rw [← hw1, ← hb3]
  have HB3 := Lib.hid hb3
  clear hw1 hb3
  gi_wp2_with fail
  refine (callsIn_wide.2 HV.out).mono ?_
  rintro e V ⟨b, rfl, hV, hsm⟩
  obtain rfl := hV.symm
  clear hV HV
  cases b
  case true =>
    clear hsm
    gi_wp2_with fail
    refine (callsIn_wide.2 (known11_b w1)).mono ?_
    rintro e w2 ⟨rfl, hb2⟩
    have HE := Lib.hid (H1.out.2.1.trans (hb2.mono H1.out.2.1.size))
    clear hb2
    gi_wp2_with fail
    exact ⟨.bool true, by simp [results, Tryz.results3, go_sem], rfl, HE.out⟩
  case false =>
  have HSM := Lib.hid (hsm rfl)
  clear hsm
  gi_wp2_with fail
  refine (callsIn_wide.2 (new_b _)).mono ?_
  rintro e w2 ⟨q, rfl, hd2, hb2⟩
  have HO := Lib.hid (openFresh_b hd2 hb2 roll step)
  have k30 : w2.cell? ⟨b3, 0, none⟩ = some (.int .i64 roll) := cell_of ((hb2.block b3 (Array.getElem?_eq_some_iff.1 H1.out.1).1).trans H1.out.1) rfl
  have k31 : w2.cell? ⟨b3, 1, none⟩ = some (.int .i64 step) := cell_of ((hb2.block b3 (Array.getElem?_eq_some_iff.1 H1.out.1).1).trans H1.out.1) rfl
  have hpn : (⟨#[112]⟩ : ByteArray) = pName := rfl
  clear hd2 hb2
  gi_wp2_with fail
  refine (callsIn_wide.2 HO.out).mono ?_
  rintro e w3 ho
  clear HO k30 k31 hpn
  rcases ho with ⟨rfl, hb3'⟩ | ⟨lp, r, st, hr, rfl, hh, hr1, hr2⟩
  · have HE := Lib.hid (H1.out.2.1.trans (hb3'.mono H1.out.2.1.size))
    clear hb3'
    gi_wp2_with fail
    refine (callsIn_wide.2 (known11_b w3)).mono ?_
    rintro e w4 ⟨rfl, hb4⟩
    have HE2 := Lib.hid (HE.out.trans (hb4.mono HE.out.size))
    clear hb4
    gi_wp2_with fail
    exact ⟨.bool true, by simp [results, Tryz.results3, go_sem], rfl, HE2.out⟩
  have HH := Lib.hid (And.intro hh (And.intro hr (And.intro hr1 hr2)))
  clear hh hr hr1 hr2
  gi_wp2_with fail
  gi_loopw [11, 12] (fun s11 s12 wr => ∃ (t nz cz : Nat) (oz : Option Addr), s12 = .int .i64 (t : Int) ∧ s11 = .slice oz nz cz ∧ t ≤ n ∧ nz ≤ 1800 ∧ Hid (RollJ w1 wr lp q r st t (.slice oz nz cz) nz)) (fun _ s12 _ => n - (intOf s12).toNat)
  case atStart => exact ⟨0, 0, 0, none, rfl, rfl, Nat.zero_le _, Nat.zero_le _, Lib.hid ⟨_, _, _, [], HH.out.1, RollI.zero, rfl, RowP.nil _ _⟩⟩
  case round =>
    obtain ⟨t, nz, cz, oz, rfl, rfl, ht, hnz, HJ⟩ := hrel
    by_cases hlt : t < n
    · obtain ⟨X, g, d, ys, hh, hri, hyl, hyr⟩ := HJ.out
      have htL : t < L.length := by rw [H1.out.2.2.2.1]; exact hlt
      have ht60 : t < 60 := by have h1 := HSM.out.1; rw [H1.out.2.2.2.1] at h1; omega
      have hst := H1.out.2.2.1.below hh.below
      obtain ⟨ga, off, rfl, hcell⟩ := hst.at H1.out.2.2.2.1 htL
      obtain ⟨x, hx⟩ : ∃ x, x = L[t] := ⟨_, rfl⟩
      rw [← hx] at hcell
      have hxm : x ∈ L := by rw [hx]; exact List.getElem_mem _
      have hok0 := H1.out.2.2.1.each x hxm
      obtain ⟨o1, e1, h1⟩ := hok0.rsl
      have hrec0 := hok0.recs
      rw [h1] at hrec0
      obtain ⟨l, hl⟩ : ∃ l, l = x.recs := ⟨_, rfl⟩
      have hlg := (HSM.out.2 x hxm).1
      rw [← hl] at h1 hrec0 hlg
      obtain ⟨hl30, hkv⟩ := large_not hlg
      obtain ⟨m, hm⟩ : ∃ m, l.length = m := ⟨_, rfl⟩
      rw [hm] at h1 hrec0 hl30
      have k4 : wr.cell? ⟨ga, off + t * 9 + 4, none⟩ = some (.slice o1 m e1) := hcell 4 (by omega) _ (by rw [← h1]; rfl)
      have hga := World.block_lt_of_cell? wr _ k4
      have HX := Lib.hid (And.intro hh (And.intro hri (And.intro hyl (And.intro hyr (And.intro hrec0 (And.intro hkv (And.intro hm ht60)))))))
      have HA := Lib.hid (homeAppend_b hh (fun _ => hri.calm.fit) (fun W hb _ => hrec0.below hb) hm (by omega))
      have HK4 : Hid (∀ W, Below w1.heap.size w1 W → W.cell? ⟨ga, off + t * 9 + 4, none⟩ = some (.slice o1 m e1)) := Lib.hid (fun W hb => by
        have h2 := (H1.out.2.2.1.below hb).at H1.out.2.2.2.1 htL
        obtain ⟨g', off', he, hc⟩ := h2
        simp only [Option.some.injEq, Addr.mk.injEq, and_true] at he
        obtain ⟨rfl, rfl⟩ := he
        exact hc 4 (by omega) _ (by rw [← hx, ← h1]; rfl))
      clear hh hri hyl hyr htL hst hcell hx hxm hok0 h1 hrec0 hl hlg hkv hm hga
      gi_wp2_with fail
      refine (callsIn_wide.2 HA.out).mono ?_
      rintro e w4 ⟨he, hh4, hk4⟩
      by_cases hf : (fitsT l).2 = 0
      · obtain ⟨p1, p2⟩ := HX.out.2.1.put ⟨HH.out.2.2.1, HH.out.2.2.2⟩ HX.out.2.2.2.2.2.2.2 hf (by rw [HX.out.2.2.2.2.2.2.1]; exact hl30)
        rw [p1] at he hh4
        have hfin : atT 0 g.fin = (nz : Int) := by
          show (g.fin : Int) = _
          rw [HX.out.2.1.fin, List.length_map, HX.out.2.2.1]
        rw [show ((0 : Int), g.putT r l, (g.appendT pName r d l).2.2).1 = 0 from rfl, hfin] at he
        obtain rfl := he
        have k4' := HK4.out w4 hh4.below
        have hrow4 := HX.out.2.2.2.1.kept (W' := w4) (fun k _ hp => hk4 k hp.1)
        have HCP := Lib.hid (copy05_b (HX.out.2.2.2.2.1.below hh4.below) HX.out.2.2.2.2.2.2.1 (by omega) HX.out.2.2.2.2.2.1)
        have H4 := Lib.hid (And.intro hh4 (And.intro p2 hrow4))
        clear p1 p2 hh4 hk4 hfin hrow4 HA k4
        gi_wp2_with fail
        refine (callsIn_wide.2 HCP.out).mono ?_
        rintro e w5 ⟨v5, zs, rfl, hzl, hzr, hb45⟩
        obtain ⟨o5, c5, rfl, -⟩ := hzr.row.shape
        have hzm : zs.length = m := by rw [← List.length_map (f := fun y : RcV => y.r), hzl]; exact HX.out.2.2.2.2.2.2.1
        rw [hzm]
        have hzi : RecsIs w5 (.slice o5 m c5) zs := by rw [← hzm]; exact hzr.is
        have hrow5 := H4.out.2.2.later hb45
        have H5 := Lib.hid (And.intro hzl (And.intro hzr (And.intro hb45 (And.intro hzm (And.intro hzi hrow5)))))
        clear hzl hzr hb45 hzm hzi hrow5 HCP k4'
        gi_wp2_with (gi_at_builtin; refine wpListIn_append_recs rfl (.tmp 76) (.tmp 82) rfl (xs := ys) (ys := zs) (P := fun k => X k ∧ w1.heap.size ≤ k) H5.out.2.2.2.2.2 HX.out.2.2.1 (by omega) H5.out.2.2.2.2.1 H5.out.2.2.2.1 (by omega) (by rfl) (by rfl) ?_; intro oa3 c3 w6 HR3 HG3 HO3)
        have hrr := H4.out.2.1
        have hsm := hrr.small
        have hlen : (ys ++ zs).map (·.r) = ys.map (·.r) ++ l := by rw [List.map_append, H5.out.1]
        refine ⟨⟨t + 1, nz + m, c3, oa3, by simp, rfl, by omega, ?_, Lib.hid ⟨_, _, _, ys ++ zs, (H4.out.1.more H5.out.2.2.1).off (Y := fun k => (Value.slice oz nz cz).ownBlock = some k) (Only.of_grown HG3.out (fun k hk => hk)) (fun k hk => ?_), by rw [hlen]; exact hrr, by rw [List.length_append, HX.out.2.2.1, H5.out.2.2.2.1], ?_⟩⟩, by simp [intOf]; omega⟩
        · rw [List.length_append, List.length_map, HX.out.2.2.1, HX.out.2.2.2.2.2.2.1] at hsm
          have := HX.out.2.2.2.2.2.2.2
          omega
        · have := H5.out.2.2.2.2.2.own k hk
          exact ⟨.inl this.1, this.2⟩
        · have hlow := H4.out.1.below.size
          refine rowsP_append (H5.out.2.2.2.2.2.mono (fun k _ hp => ⟨.inl (.inl hp.1), hp.2⟩)) HX.out.2.2.1 H5.out.2.2.2.1 (fun y hy => ?_) (fun k h1 h2 => ⟨.inr ⟨h1, h2⟩, by have := H5.out.2.2.1.size; omega⟩) HR3.out HG3.out HO3.out
          obtain ⟨q1, q2, q3, q4⟩ := H5.out.2.1.each y hy
          exact ⟨q1, q2, fun k hk => ⟨.inl (.inr ⟨q3 k hk, q1.lt k hk⟩), Nat.le_trans hlow (q3 k hk)⟩, fun k hk => ⟨.inl (.inr ⟨q4 k hk, q2.lt k hk⟩), Nat.le_trans hlow (q4 k hk)⟩⟩
      · obtain ⟨p1, p2⟩ := HX.out.2.1.not hf
        rw [p1] at he hh4
        obtain ⟨er, her⟩ : ∃ er, er = (fitsT l).2 := ⟨_, rfl⟩
        rw [← her] at he hf
        obtain rfl := he
        have hrow4 := HX.out.2.2.2.1.kept (W' := w4) (fun k _ hp => hk4 k hp.1)
        have H4 := Lib.hid (And.intro hh4 (And.intro p2 hrow4))
        clear p1 p2 hh4 hk4 hrow4 HA k4 her
        gi_wp2_with fail
        exact ⟨⟨t + 1, nz, cz, oz, by simp, rfl, by omega, hnz, Lib.hid ⟨_, _, _, ys, H4.out.1, H4.out.2.1, HX.out.2.2.1, H4.out.2.2⟩⟩, by simp [intOf]; omega⟩
    · obtain rfl : t = n := by omega
      obtain ⟨wq, rfl⟩ : ∃ W, W = wr := ⟨_, rfl⟩
      obtain ⟨X, g, d, ys, hh, hri, hyl, hyr⟩ := HJ.out
      have ht60 : t ≤ 60 := by have h1 := HSM.out.1; rw [H1.out.2.2.2.1] at h1; exact h1
      have hsM : g.segs.length ≤ 61 := by have := hri.few; omega
      have HSG := Lib.hid (homeSegs_b hh (by omega))
      have HW := Lib.hid (And.intro hh (And.intro hri (And.intro hyl hyr)))
      obtain ⟨M, hM⟩ : ∃ M, g.segs.length = M := ⟨_, rfl⟩
      have HMM := Lib.hid hM
      rw [hM] at hsM
      clear hh hri hyl hyr
      gi_wp2_with fail
      refine (callsIn_wide.2 HSG.out).mono ?_
      rintro e w4 ⟨vn, rfl, hvr, -, hb4⟩
      rw [hM] at hvr
      obtain ⟨on, cn, rfl, -⟩ := hvr.shape
      have H4 := Lib.hid (And.intro hvr (And.intro hb4 (HW.out.1.below.trans (hb4.mono HW.out.1.below.size))))
      have k3 : w4.cell? ⟨b3, 0, none⟩ = some (.int .i64 roll) := cell_of ((H4.out.2.2.block b3 (Array.getElem?_eq_some_iff.1 H1.out.1).1).trans H1.out.1) rfl
      clear hvr hb4 HSG hM HJ
      gi_wp2_with fail
      refine wpIn_loop_ghost_k (fun gh ac wx => ∃ (i en : Nat) (ks : List Nat) (u : Nat → Value), ac = ⟨frP roll step cut oa oz on t c nz cz M cn b3 q lp en i u, ks.map markD⟩ ∧ i ≤ M ∧ Hid (gh + i = M ∧ en = endL bCnt 0 (g.segs.take i) ∧ Below w4.heap.size w4 wx ∧ MarksAt wx ks ∧ ∀ k ∈ ks, w4.heap.size ≤ k)) M ?_ ?_
      · obtain ⟨u, hu⟩ : ∃ u, _ = frP roll step cut oa oz on t c nz cz M cn b3 q lp 0 0 u := frP_intro _ (by kernel_rfl)
        exact ⟨0, 0, [], u, by rw [← hu]; rfl, Nat.zero_le _, Lib.hid ⟨rfl, rfl, Below.refl _ _, MarksAt.nil, fun _ hk => by cases hk⟩⟩
      · rintro gh ac wr ⟨i, en, ks, u, rfl, hi, HIM⟩ JJ KK hJJ hKK
        have HI : Hid (en = endL bCnt 0 (g.segs.take i) ∧ Below w4.heap.size w4 wr) := Lib.hid ⟨HIM.out.2.1, HIM.out.2.2.1⟩
        have HJK := Lib.hid (And.intro hJJ hKK)
        clear hJJ hKK
        unfold frP
        by_cases hlt : i < M
        · have hig : i < g.segs.length := by rw [HMM.out]; exact hlt
          obtain ⟨s, hs⟩ : ∃ s, s = g.segs[i] := ⟨_, rfl⟩
          have hsm : s ∈ g.segs := by rw [hs]; exact List.getElem_mem _
          obtain ⟨r1, r2, r3, r4⟩ := rolls_get g.segs 0 true HW.out.2.1.rolls i hig
          rw [← hs] at r1 r2 r3 r4
          rw [← HI.out.1] at r1
          have hnx := endL_take (cn := bCnt) g.segs 0 i hig
          rw [← hs, cns_bats] at hnx
          obtain ⟨nm, hnm⟩ : ∃ nm, nm = segName pName s.1 := ⟨_, rfl⟩
          have hbl := (HW.out.2.1.calm.ok.chain s hsm).2
          have hrow := H4.out.1.kept (fun k hk => HI.out.2.block k (H4.out.1.lt k hk))
          obtain ⟨gn, ofn, rfl⟩ := hrow.read.addr (by omega)
          have kn : wr.cell? ⟨gn, ofn + i, none⟩ = some (.string nm) := by
            have := hrow.cells rfl i (.string nm) (by
              unfold segNamesV
              rw [List.getElem?_map, List.getElem?_eq_getElem hig, ← hs, hnm]
              rfl)
            simpa [Go.WideShapes.add_plain] using this
          obtain ⟨ex, hex⟩ : ∃ ex, nm.extract 0 (nm.size - 15) = ex := ⟨_, rfl⟩
          obtain ⟨hk1, hk2⟩ := sname_ok pName_ok hbl
          have hnz32 : nm.size ≤ 32 := by rw [hnm]; exact segName_size (by decide)
          have HPA := Lib.hid (parse_true nm ex (en : Int) wr (by unfold maxLen; omega) (by rw [hnm]; exact hk1) hex (by rw [hnm, ← r1]; exact congrArg _ hk2))
          have HBW : Hid (∀ W, Below w4.heap.size w4 W → Home w1 X W lp q pName r st g d) := Lib.hid (fun W hb => HW.out.1.later (H4.out.2.1.trans (hb.mono H4.out.2.1.size)))
          have HLK : Hid (∀ W, Below w4.heap.size w4 W → Calls Tryz.prog 20 #[.pointer (some ⟨q, 0, none⟩), .string nm] W fun e w' => e = .returned (.tuple #[foundV s.2.length (s.1 + cntT s.2) (batsT s.2).length (whyT []), .int .i64 0]) ∧ Below W.heap.size W w') := Lib.hid (fun W hb => by
            rw [hnm]
            exact homeLook_b (HBW.out W hb) HW.out.2.1.calm.fit pName_ok (by decide) hsm)
          have HFR : Hid (∀ W, Below w4.heap.size w4 W → (batsT s.2).length ≤ 16777216 ∧ Calls Tryz.prog 21 #[.pointer (some ⟨q, 0, none⟩), .string nm, .int .i64 0, .int .i64 ((batsT s.2).length : Int)] W fun e w' => ReadIs W (batsT s.2, 0) e w') := Lib.hid (fun W hb => by
            rw [hnm]
            exact homeFile_b (HBW.out W hb) HW.out.2.1.calm.fit pName_ok (by decide) hsm)
          obtain ⟨nb, hnb⟩ : ∃ a, s.2.length = a := ⟨_, rfl⟩
          obtain ⟨ne, hne⟩ : ∃ a, s.1 + cntT s.2 = a := ⟨_, rfl⟩
          obtain ⟨z, hz⟩ : ∃ a, (batsT s.2).length = a := ⟨_, rfl⟩
          rw [hnb, hne, hz] at HLK
          rw [hz] at HFR
          have hrr : (r : Int) = roll := HH.out.2.1
          have hz1 : i + 1 < M → ¬ ((z : Int) < roll) := fun h => by
            have := r4 (by rw [HMM.out]; exact h)
            rw [szs_bats, hz] at this
            omega
          have hz0 : nb = 0 → i = 0 := fun h => r2 (List.length_eq_zero_iff.1 (by rw [hnb]; exact h))
          have HR := Lib.hid (And.intro r3 (And.intro hnx (And.intro hne (And.intro hnb (And.intro hz (And.intro hsm hrr))))))
          have HCN : Hid (∀ W, Below wr.heap.size wr W → W.cell? ⟨gn, ofn + i, none⟩ = some (.string nm)) := Lib.hid (fun W hb => (hb.cell (p := ⟨gn, ofn + i, none⟩) (World.block_lt_of_cell? wr _ kn)).trans kn)
          clear hig hs r1 r2 r3 r4 hnx hnm hbl hrow hex hk1 hk2 hnz32 hsm hnb hne hz hrr
          have hw150 : whyT [] = 150 := rfl
          gi_wp2_with fail
          refine (callsIn_wide.2 HPA.out).mono ?_
          rintro e w5 ⟨rfl, hb5⟩
          have kn5 := HCN.out w5 hb5
          have H5 := Lib.hid (And.intro hb5 (HI.out.2.trans (hb5.mono HI.out.2.size)))
          clear hb5 HPA kn
          gi_wp2_with fail
          refine (callsIn_wide.2 (HLK.out w5 H5.out.2)).mono ?_
          rintro e w6 ⟨rfl, hb6⟩
          unfold foundV
          rw [hw150]
          obtain ⟨w7, hw7⟩ : ∃ W : World, W = w6.alloc (.cells #[.int .i64 (nb : Int), .int .i64 (ne : Int), .int .i64 (z : Int), .int .i64 150] 48) := ⟨_, rfl⟩
          obtain ⟨b21, hb21⟩ : ∃ b, b = w6.heap.size := ⟨_, rfl⟩
          have g21 : w7.heap[b21]? = some (.cells #[.int .i64 (nb : Int), .int .i64 (ne : Int), .int .i64 (z : Int), .int .i64 150] 48 (0, 0)) := by rw [hw7, hb21]; exact alloc_cells _ _ _
          have hb7 : Below w6.heap.size w6 w7 := by rw [hw7]; exact (Below.refl _ _).alloc (Nat.le_refl _) _
          have hb57 : Below w5.heap.size w5 w7 := hb6.trans (hb7.mono hb6.size)
          have hb47 : Below w4.heap.size w4 w7 := H5.out.2.trans (hb57.mono H5.out.2.size)
          have hbr7 : Below wr.heap.size wr w7 := H5.out.1.trans (hb57.mono H5.out.1.size)
          have kn7 := HCN.out w7 hbr7
          have k37 : w7.cell? ⟨b3, 0, none⟩ = some (.int .i64 roll) := (hb47.cell (p := ⟨b3, 0, none⟩) (World.block_lt_of_cell? w4 _ k3)).trans k3
          have q0 : w7.cell? ⟨b21, 0, none⟩ = some (.int .i64 (nb : Int)) := cell_of g21 rfl
          have q1 : w7.cell? ⟨b21, 1, none⟩ = some (.int .i64 (ne : Int)) := cell_of g21 rfl
          have q2 : w7.cell? ⟨b21, 2, none⟩ = some (.int .i64 (z : Int)) := cell_of g21 rfl
          have q3 : w7.cell? ⟨b21, 3, none⟩ = some (.int .i64 150) := cell_of g21 rfl
          have H7 := Lib.hid (And.intro hb47 (And.intro g21 hbr7))
          clear g21 hb7 hb57 hb47 hbr7 hb6 kn5 HLK
          gi_upto_region 23 with fail
          rw [← hw7, ← hb21]
          clear hw7 hb21
          gi_cut [148] from 110 (fun s148 wx => s148 = .bool false ∧ wx = w7)
          case first =>
            refine wpIn_wide.2 (wp_onlyR ?_)
            by_cases hA : i + 1 < M
            · have dA : decide ((i : Int) + 1 < (M : Int)) = true := decide_eq_true (by omega)
              have dZ : decide ((z : Int) < roll) = false := decide_eq_false (by have := hz1 hA; omega)
              by_cases hB : nb = 0
              · have hi0 := hz0 hB
                subst hB
                subst hi0
                go_wp2_with fail
                go_meet
                exact ⟨rfl, rfl⟩
              · have dB : ((nb : Int) == 0) = false := by simpa using hB
                go_wp2_with fail
                go_meet
                exact ⟨rfl, rfl⟩
            · have dA : decide ((i : Int) + 1 < (M : Int)) = false := decide_eq_false (by omega)
              by_cases hB : nb = 0
              · have hi0 := hz0 hB
                subst hB
                subst hi0
                go_wp2_with fail
                go_meet
                exact ⟨rfl, rfl⟩
              · have dB : ((nb : Int) == 0) = false := by simpa using hB
                go_wp2_with fail
                go_meet
                exact ⟨rfl, rfl⟩
          case rest =>
          obtain ⟨rfl, hwc⟩ := hcut
          obtain rfl := hwc.symm
          clear hwc hz1 hz0 q0 q3
          gi_upto_region 26 with fail
          obtain ⟨D, hD⟩ : ∃ D, D = batsT s.2 := ⟨_, rfl⟩
          have hDz : D.length = z := by rw [hD]; exact HR.out.2.2.2.2.1
          have HDD := Lib.hid (And.intro hD hDz)
          have hSd : w7.drew.cell? ⟨gn, ofn + i, none⟩ = some (.string nm) ∧ w7.drew.cell? ⟨b21, 2, none⟩ = some (.int .i64 (z : Int)) ∧ Below w7.heap.size w7 w7.drew := ⟨kn7, q2, bdrew w7⟩
          have HRX : Hid (∀ W, (W.cell? ⟨gn, ofn + i, none⟩ = some (.string nm) ∧ W.cell? ⟨b21, 2, none⟩ = some (.int .i64 (z : Int)) ∧ Below w7.heap.size w7 W) → Calls Tryz.prog 21 #[.pointer (some ⟨q, 0, none⟩), .string nm, .int .i64 0, .int .i64 (z : Int)] W fun e w' => ∃ v, e = .returned (.tuple #[v, .int .i64 0]) ∧ rowAt w' 5 1 v z (byteCells D) ∧ (w'.cell? ⟨gn, ofn + i, none⟩ = some (.string nm) ∧ w'.cell? ⟨b21, 2, none⟩ = some (.int .i64 (z : Int)) ∧ Below w7.heap.size w7 w')) := Lib.hid (fun W hW => (HFR.out W (H7.out.1.trans (hW.2.2.mono H7.out.1.size))).2.mono (fun e w' hr => by
            obtain ⟨v, he, hv, -, hb⟩ := hr
            refine ⟨v, he, ?_, (hb.cell (p := ⟨gn, ofn + i, none⟩) (World.block_lt_of_cell? W _ hW.1)).trans hW.1, (hb.cell (p := ⟨b21, 2, none⟩) (World.block_lt_of_cell? W _ hW.2.1)).trans hW.2.1, hW.2.2.trans (hb.mono hW.2.2.size)⟩
            have hv' : rowAt w' 5 1 v (batsT s.2).length (byteCells (batsT s.2)) := hv
            rwa [← HDD.out.1, HDD.out.2] at hv'))
          have hzl : z ≤ 16777216 := by
            exact (HFR.out w7 H7.out.1).1
          clear hD hDz
          gi_cut [23, 24] from 149 (fun s23 s24 wx => ∃ oD cD, s23 = .slice oD z cD ∧ s24 = .int .i64 0 ∧ Hid (rowAt wx 5 1 (.slice oD z cD) z (byteCells D) ∧ Below w7.heap.size w7 wx))
          case first =>
            refine wpIn_wide.2 (wp_onlyR ?_)
            go_region_held3 (fun W => W.cell? ⟨gn, ofn + i, none⟩ = some (.string nm) ∧ W.cell? ⟨b21, 2, none⟩ = some (.int .i64 (z : Int)) ∧ Below w7.heap.size w7 W)
              (first | assumption)
              (first | (go_at_call 21; refine (HRX.out _ (by assumption)).mono ?_; rintro e wa ⟨v, rfl, hv, hsa⟩))
            all_goals
              obtain ⟨oD, cD, rfl, -⟩ := hv.shape
              have HB := Lib.hid (And.intro hv hsa.2.2)
              clear hv hSd
              go_wp2_with fail
              go_meet
              exact ⟨oD, cD, rfl, rfl, HB⟩
          case rest =>
          obtain ⟨oD, cD, rfl, rfl, HV⟩ := hcut
          obtain ⟨w8, hw8⟩ : ∃ W : World, W = wc := ⟨_, rfl⟩
          rw [← hw8] at HV ⊢
          clear hw8 hSd HRX q1 q2 kn7
          obtain ⟨w9, hw9⟩ : ∃ W : World, W = w8.alloc (.cells #[.int .i64 0] 3) := ⟨_, rfl⟩
          obtain ⟨b25, hb25⟩ : ∃ b, b = w8.heap.size := ⟨_, rfl⟩
          have g25 : w9.heap[b25]? = some (.cells #[.int .i64 ((0 : Nat) : Int)] 3 (0, 0)) := by rw [hw9, hb25]; exact alloc_cells _ _ _
          have hb89 : Below w8.heap.size w8 w9 := by rw [hw9]; exact (Below.refl _ _).alloc (Nat.le_refl _) _
          have HAL := Lib.hid (recAll_b HDD.out.2 (HV.out.1.read.kept (fun k hk _ _ => hb89.block k hk)) (by omega))
          have H9 := Lib.hid (And.intro g25 (And.intro hb89 hb25))
          clear g25 hb89
          gi_upto_region 30 with fail
          rw [← hw9, ← hb25]
          clear hw9 hb25
          gi_wp2_with fail
          refine (callsIn_wide.2 HAL.out).mono ?_
          rintro e w10 ⟨bA, rfl, hall, hb10⟩
          have hnf : ∀ W : World, (binOp .eql 54 (.func (.func 84) #[] #[.pointer (some ⟨bA, 0, none⟩)]) .nilFunc).run Tryz.prog W = .ok (.bool false) W := fun W => by kernel_rfl
          have H10 := Lib.hid (And.intro hall hb10)
          clear hall hb10 HAL
          gi_wp2_with fail
          clear hnf
          obtain ⟨o1, c1, hall1, hall2⟩ := H10.out.1
          obtain ⟨n7, hn7⟩ : ∃ n, n = w10.heap.size := ⟨_, rfl⟩
          have h25 := (H10.out.2.block b25 (Array.getElem?_eq_some_iff.1 H9.out.1).1).trans H9.out.1
          have hb25l : b25 < n7 := by rw [hn7]; exact (Array.getElem?_eq_some_iff.1 h25).1
          have hDL : batsT s.2 ++ [] = D := by rw [List.append_nil]; exact HDD.out.1.symm
          have hst := all_toldX 7 (by omega) bA w10 s.2 [] ⟨(HW.out.2.1.calm.ok.chain s HR.out.2.2.2.2.2.1).1.good, .inl rfl⟩ (oa := o1) (c := c1) (by rw [hDL]; exact ⟨hall1, hall2⟩) (by rw [hDL, HDD.out.2]; omega)
            (fun k => k = b25 ∨ n7 ≤ k) (fun e => by
              rcases e with e | e
              · rw [e, h25] at hall1
                simp only [Option.some.injEq, Obj.cells.injEq] at hall1
                exact absurd hall1.2.1 (by decide)
              · have := (Array.getElem?_eq_some_iff.1 hall1).1; omega) (fun k hk e => by
              rw [hDL] at hk
              rcases e with e | e
              · rw [e] at hk
                exact hall2.notB h25 (by decide) hk
              · have := hall2.lt k hk; omega)
          have hb810 : Below w8.heap.size w8 w10 := H9.out.2.1.trans (H10.out.2.mono H9.out.2.1.size)
          have hbr8 : Below wr.heap.size wr w8 := H7.out.2.2.trans (HV.out.2.mono H7.out.2.2.size)
          have hb48 : Below w4.heap.size w4 w8 := H7.out.1.trans (HV.out.2.mono H7.out.1.size)
          have hmk8 := HIM.out.2.2.2.1.below hbr8
          have HF := Lib.hid (And.intro h25 (And.intro hb25l (And.intro hb810 (And.intro hb48 (And.intro hmk8 hn7)))))
          have hlast : decide (roll ≤ (posT s.2 (s.2.length - 1) : Int)) = false := decide_eq_false (by
            have h1 := last_pos HH.out.2.2.1 HR.out.1
            have h2 := HR.out.2.2.2.2.2.2
            omega)
          clear hall1 hall2 h25 hb25l hDL hb810 hbr8 hb48 hmk8 hn7
          rename_i K2 hK2
          generalize hA : Act.mk _ _ = A
          have hAfter : ∀ (T : Nat → Prop) (V : World), KJ w8 V b25 T (posT s.2 (s.2.length - 1)) → V.heap[n7]? = some (.deferred (some [])) → K2 { A with defers := { target := .collected n7, args := #[] } :: A.defers } V := by
            intro T V hk hdf
            subst hA
            dsimp only
            have k25 : V.cell? ⟨b25, 0, none⟩ = some (.int .i64 (posT s.2 (s.2.length - 1) : Int)) := cell_of hk.box rfl
            have hb4V : Below w4.heap.size w4 V := HF.out.2.2.2.1.trans (hk.below.mono HF.out.2.2.2.1.size)
            have k3V : V.cell? ⟨b3, 0, none⟩ = some (.int .i64 roll) := (hb4V.cell (p := ⟨b3, 0, none⟩) (World.block_lt_of_cell? w4 _ k3)).trans k3
            have hmV : MarksAt V (n7 :: ks) := (HF.out.2.2.2.2.1.below hk.below).cons hdf (fun j hj => by
              have h1 := HF.out.2.2.2.2.1.lt j hj
              have h2 := HF.out.2.2.1.size
              have h3 := HF.out.2.2.2.2.2
              omega)
            have HKV := Lib.hid (And.intro hb4V hmV)
            obtain ⟨lst, hlst⟩ : ∃ l : Int, l = (posT s.2 (s.2.length - 1) : Int) := ⟨_, rfl⟩
            rw [← hlst] at k25 hlast
            clear hk hdf hb4V hmV hlst
            gi_wp2_with fail
            refine HJK.out.2 _ _ ?_
            obtain ⟨ug, hug⟩ : ∃ u, _ = frP roll step cut oa oz (some ⟨gn, ofn, none⟩) t c nz cz M cn b3 q lp ne (i + 1) u := frP_intro _ (by kernel_rfl)
            refine Handed.intro (gh - 1) (by have := HIM.out.1; omega) (HJK.out.1 _ _ _ ⟨i + 1, ne, n7 :: ks, ug, by rw [← hug]; rfl, by omega, Lib.hid ⟨by have := HIM.out.1; omega, by rw [HR.out.2.1, HR.out.2.2.1], HKV.out.1, HKV.out.2, fun k hk => ?_⟩⟩)
            rcases List.mem_cons.1 hk with rfl | hk
            · have h2 := HF.out.2.2.1.size
              have h3 := HF.out.2.2.2.2.2
              have h4 := HF.out.2.2.2.1.size
              omega
            · exact HIM.out.2.2.2.2 k hk
          refine wpIn_rangeFunc_toldX (n := 8) (α := BatV) rfl (by omega) (gf := 84) (lb := #[.pointer (some ⟨bA, 0, none⟩)]) (by subst hA; rfl) trivial (enters_of Tryz.func84 (by kernel_rfl) rfl) (fun k hk => .inr (by have := HF.out.2.2.2.2.2; omega)) hst (Below.refl _ _) (fun _ => rfl)
            (fun T pre V => KJ w8 V b25 T (posT s.2 (pre.length - 1))) (fun _ _ _ _ => False) ?I ?Ix ?h0 ?round ?done ?stop
          case I =>
            rintro T pre A0 B0 hi0 ho
            rw [← HF.out.2.2.2.2.2] at ho
            exact hi0.kept ho (fun k hk => by
              have h1 := HF.out.2.1
              rcases hk with e | e | e
              · exact hi0.low _ e
              · omega
              · omega)
          case Ix =>
            rintro c0 T pre A0 B0 hf ho
            exact hf
          case h0 =>
            intro T W1 hb hsz hT
            rw [← HF.out.2.2.2.2.2] at hT
            exact ⟨HF.out.2.2.1.trans (hb.mono HF.out.2.2.1.size), (hb.block b25 (Array.getElem?_eq_some_iff.1 HF.out.1).1).trans HF.out.1, fun k hk => by
              have h1 := (hT k hk).1
              have := HF.out.2.1
              omega, H9.out.2.2⟩
          case done =>
            rintro T xs V hS hi0 hD
            have hS' : xs.length = s.2.length := hS
            have hi' : KJ w8 V b25 T (posT s.2 (xs.length - 1)) := hi0
            rw [hS'] at hi'
            rw [← HF.out.2.2.2.2.2] at hD ⊢
            exact hAfter T V hi' hD
          case stop =>
            rintro T c0 pre V hS hf hD
            exact hf.elim
          case round =>
            rintro T pre ⟨at0, bse, oe, ce, xs⟩ Wp V hT hrec hdef hip hop hszp ⟨hgv, hnT⟩ hlt0 K0 hK0
            rw [← HF.out.2.2.2.2.2] at hT hrec hdef hK0 hszp
            obtain ⟨hml, hat, -⟩ := hgv
            dsimp only at hat
            obtain ⟨j, hj⟩ : ∃ j, j = pre.length := ⟨_, rfl⟩
            have hVl : n7 + 1 < V.heap.size := by
              obtain ⟨r0, hr0⟩ := hrec
              exact (Array.getElem?_eq_some_iff.1 hr0).1
            have hKJ : KJ w8 V b25 T (posT s.2 (pre.length - 1)) := hip.kept hop (fun k hk => hip.low k hk)
            have HQ0 := Lib.hid (And.intro hK0 (And.intro hKJ (And.intro hat (And.intro hVl hnT))))
            clear hT hrec hdef hip hop hszp hlt0 hK0 hml hat hVl hKJ hnT hst hAfter hlast
            unfold encB
            subst hA
            gi_wp2_with fail
            refine HQ0.out.1 _ _ (KeptX.of (Below.refl _ _)) ?_
            intro W2 ho hr2
            have hK2 := HQ0.out.2.1.kept ho (fun k hk => by have := HF.out.2.1; omega)
            generalize hQ : toldPost _ _ _ _ _ = Q
            have HQ := Lib.hid hQ
            clear hQ
            have c25 : W2.cell? ⟨b25, 0, none⟩ = some (.int .i64 (posT s.2 (pre.length - 1) : Int)) := cell_of hK2.box rfl
            have z25 : W2.frozen? ⟨b25, 0, none⟩ = false := free_of hK2.box _
            have HK2 := Lib.hid hK2
            clear hK2 ho hr2
            gi_wp2_with fail
            rw [← HQ.out]
            have hset : (b25 = b25 ∨ n7 ≤ b25) ∧ ¬ (T b25 ∨ b25 = n7 ∨ b25 = n7 + 1) := ⟨.inl rfl, fun e => HQ0.out.2.2.2.2 b25 (by
              rcases e with e | e | e
              · exact e
              · have := HF.out.2.1; omega
              · have := HF.out.2.1; omega)⟩
            refine ⟨only_setCell _ _ b25 _ _ hset, ?_⟩
            show KJ w8 _ b25 T (posT s.2 ((pre ++ [(⟨at0, bse, oe, ce, xs⟩ : BatV)]).length - 1))
            rw [List.length_append, List.length_singleton, Nat.add_sub_cancel, ← HQ0.out.2.2.1]
            exact ⟨HK2.out.below.setCell (p := ⟨b25, 0, none⟩) (by show w8.heap.size ≤ b25; have := HK2.out.at'; omega) _, heap_setCell_here _ HK2.out.box, HK2.out.low, HK2.out.at'⟩
        · obtain rfl : i = M := by omega
          have hnzL : nz ≤ 1800 := hnz
          gi_upto_region 39 with fail
          have hn0 : (nz : Int) + 1 ≠ 0 := by omega
          have hn0' : ((nz : Int) + 1 == 0) = false := by simpa using hn0
          have hw1 : IntKind.i64.wrap ((nz : Int) + 1) = (nz : Int) + 1 := IntWalk.i64_in _ (by omega)
          obtain ⟨K1, hK1⟩ : ∃ K, Int.tmod cut ((nz : Int) + 1) = K := ⟨_, rfl⟩
          have hb1 : -(nz : Int) ≤ K1 ∧ K1 ≤ (nz : Int) := by
            have h1 := Int.tmod_lt_of_pos cut (show (0 : Int) < (nz : Int) + 1 by omega)
            have h2 := tmod_low cut nz
            omega
          have hw2 : IntKind.i64.wrap K1 = K1 := IntWalk.i64_in _ (by omega)
          have hw3 : IntKind.i64.wrap (K1 + (nz : Int)) = K1 + (nz : Int) := IntWalk.i64_in _ (by omega)
          have hw4 : IntKind.i64.wrap (K1 + (nz : Int) + 1) = K1 + (nz : Int) + 1 := IntWalk.i64_in _ (by omega)
          obtain ⟨K2, hK2⟩ : ∃ K, Int.tmod (K1 + (nz : Int) + 1) ((nz : Int) + 1) = K := ⟨_, rfl⟩
          have hb2 : 0 ≤ K2 ∧ K2 ≤ (nz : Int) := by
            have h1 := Int.tmod_lt_of_pos (K1 + (nz : Int) + 1) (show (0 : Int) < (nz : Int) + 1 by omega)
            have h2 := Int.tmod_nonneg (b := (nz : Int) + 1) (show (0 : Int) ≤ K1 + (nz : Int) + 1 by omega)
            rw [hK2] at h1 h2
            omega
          have hw5 : IntKind.i64.wrap K2 = K2 := IntWalk.i64_in _ (by omega)
          gi_upto_region 40 with fail
          have hRl : (ys.map (·.r)).length = nz := by rw [List.length_map]; exact HW.out.2.2.1
          have hgf : g.fin = nz := by rw [HW.out.2.1.fin, hRl]
          have hgb := rolls_begin HW.out.2.1.rolls
          obtain ⟨kn, hkn⟩ : ∃ kn : Nat, K2 = (kn : Int) := ⟨K2.toNat, by omega⟩
          have hknz : kn ≤ nz := by omega
          obtain ⟨hq1, hq2⟩ := rolls_reads HW.out.2.1 (k := kn) (by rw [hRl]; exact hknz)
          rw [hRl] at hq1 hq2
          have hhr : Home w1 X wr lp q pName r st g d := HW.out.1.later (H4.out.2.1.trans (HI.out.2.mono H4.out.2.1.size))
          have HR1 : Hid (∀ W, Below wr.heap.size wr W → Calls Tryz.prog 23 #[.pointer (some ⟨lp, 0, none⟩), .int .i64 0, .int .i64 (kn : Int), .int .i64 ((nz : Int) + 1)] W fun e w' => ReadS W ((ys.map (·.r)).take kn) e w') := Lib.hid (fun W hb => by
            have h1 := homeRead_b (hhr.later hb) HW.out.2.1.calm.fit (f := 0) (u := kn) (most := nz + 1) (by omega) (by omega) (by omega) (by omega)
            rwa [hq1] at h1)
          have HR2 : Hid (∀ W, Below wr.heap.size wr W → Calls Tryz.prog 23 #[.pointer (some ⟨lp, 0, none⟩), .int .i64 (kn : Int), .int .i64 (nz : Int), .int .i64 ((nz : Int) + 1)] W fun e w' => ReadS W ((ys.map (·.r)).drop kn) e w') := Lib.hid (fun W hb => by
            have h1 := homeRead_b (hhr.later hb) HW.out.2.1.calm.fit (f := kn) (u := nz) (most := nz + 1) (by omega) (by omega) (by omega) (by omega)
            rwa [hq2] at h1)
          have hen : en = nz := by
            rw [HI.out.1, ← HMM.out, List.take_length, endL_all bSize bCnt g.segs 0 true HW.out.2.1.rolls, cns_recs, ← flat_recs]
            show 0 + g.recs.length = nz
            rw [HW.out.2.1.recs, hRl]
            omega
          subst hen
          subst hkn
          have HE := Lib.hid (And.intro hRl (And.intro hgf (And.intro hknz hhr)))
          clear hRl hgf hgb hq1 hq2 hhr hK1 hb1 hw2 hw3 hw4 hK2 hb2 hw5 hn0 hn0'
          gi_wp2_with fail
          refine (callsIn_wide.2 (HR1.out wr (Below.refl _ _))).mono ?_
          rintro e w5 ⟨va, xs1, rfl, hx1, hp1, hb5⟩
          obtain ⟨oa1, ca1, rfl, -⟩ := hp1.row.shape
          have H5 := Lib.hid (And.intro hx1 (And.intro hp1 hb5))
          clear hx1 hp1 hb5
          gi_wp2_with fail
          refine (callsIn_wide.2 (HR2.out w5 H5.out.2.2)).mono ?_
          rintro e w6 ⟨vb, xs2, rfl, hx2, hp2, hb6⟩
          obtain ⟨oa2, ca2, rfl, -⟩ := hp2.row.shape
          have H6 := Lib.hid (And.intro hx2 (And.intro hp2 hb6))
          clear hx2 hp2 hb6
          gi_upto_region 42 with fail
          obtain ⟨m1, hm1⟩ : ∃ m, xs1.length = m := ⟨_, rfl⟩
          obtain ⟨m2, hm2⟩ : ∃ m, xs2.length = m := ⟨_, rfl⟩
          have hl1 : m1 ≤ 1800 := by
            rw [← hm1, ← List.length_map (f := fun y : RcV => y.r), H5.out.1, List.length_take]
            have := HE.out.1
            omega
          have hl2 : m2 ≤ 1800 := by
            rw [← hm2, ← List.length_map (f := fun y : RcV => y.r), H6.out.1, List.length_drop]
            have := HE.out.1
            omega
          have hr1 := H5.out.2.1.later H6.out.2.2
          have hr2 := H6.out.2.1
          rw [hm1] at hr1
          rw [hm2] at hr2
          have hb06 : Below wr.heap.size wr w6 := H5.out.2.2.trans (H6.out.2.2.mono H5.out.2.2.size)
          have hi2 : RecsIs w6 (.slice oa2 m2 ca2) xs2 := hr2.is
          have HZ := Lib.hid (And.intro hr1 (And.intro hi2 (And.intro hm1 (And.intro hm2 (And.intro hb06 (And.intro H5.out.2.2.size hr2))))))
          rw [hm1, hm2]
          clear hr1 hr2 hm1 hm2 hb06 hi2 HR1 HR2
          gi_wp2_with (gi_at_builtin; refine wpListIn_append_recsW (by first | rfl | kernel_rfl) (.tmp 217) (.tmp 218) rfl (xs := xs1) (ys := xs2) (P := fun k => wr.heap.size ≤ k) HZ.out.1 HZ.out.2.2.1 (by omega) HZ.out.2.1 HZ.out.2.2.2.1 (by omega) (by rfl) (by rfl) ?_; intro oa3 c3 w7 HR3 HG3 HO3)
          have hrow7 := rowsP_append (P := fun k => wr.heap.size ≤ k) HZ.out.1 HZ.out.2.2.1 HZ.out.2.2.2.1 (fun y hy => by
            obtain ⟨q1, q2, q3, q4⟩ := HZ.out.2.2.2.2.2.2.each y hy
            have hz := HZ.out.2.2.2.2.2.1
            exact ⟨q1, q2, fun k hk => Nat.le_trans hz (q3 k hk), fun k hk => Nat.le_trans hz (q4 k hk)⟩) (fun k h1 _ => Nat.le_trans HZ.out.2.2.2.2.1.size h1) HR3.out HG3.out HO3.out
          have hb07 : Below wr.heap.size wr w7 := HZ.out.2.2.2.2.1.grown HG3.out HZ.out.2.2.2.2.1.size (fun k e => HZ.out.1.own k e)
          have hbq7 : Below wq.heap.size wq w7 := (H4.out.2.1.trans (HI.out.2.mono H4.out.2.1.size)).trans (hb07.mono (Nat.le_trans H4.out.2.1.size HI.out.2.size))
          have hsame := sameAll_b (w := w7) (oa := oa3) (ob := oz) (n := m1 + m2) (c := c3) (d := cz) (xs := xs1 ++ xs2) (ys := ys) rfl rfl (by rw [List.length_append, HZ.out.2.2.1, HZ.out.2.2.2.1]) HW.out.2.2.1 hrow7.is (HW.out.2.2.2.is.below hbq7) (by omega)
          have hdec : decide ((xs1 ++ xs2).map (·.r) = ys.map (·.r)) = true := decide_eq_true (by rw [List.map_append, H5.out.1, H6.out.1, List.take_append_drop])
          rw [hdec] at hsame
          have H7 := Lib.hid (And.intro hsame hb07)
          clear hrow7 hb07 hbq7 hsame hdec HR3 HG3 HO3
          refine (callsIn_wide.2 H7.out.1).mono ?_
          rintro e w8 ⟨rfl, hb78⟩
          have hb08 : Below wr.heap.size wr w8 := H7.out.2.trans (hb78.mono H7.out.2.size)
          have H8 := Lib.hid (And.intro (HE.out.2.2.2.later hb08) hb08)
          clear hb78 hb08 H7
          gi_wp2_with fail
          refine (callsIn_wide.2 (homeState_b H8.out.1)).mono ?_
          rintro e w9 ⟨rfl, hb9⟩
          have H9 : Hid (Below wr.heap.size wr w9) := Lib.hid (H8.out.2.trans (hb9.mono H8.out.2.size))
          clear hb9 H8
          have hfl : ∀ (a1 a2 a3 a4 : Int) (a5 : Bool) (W : World), (Instr.field 60 (.agg #[.int .i64 a1, .int .i64 a2, .int .i64 a3, .int .i64 a4, .bool a5]) 1).run Tryz.prog W = .ok (.int .i64 a2) W := fun _ _ _ _ _ _ => by kernel_rfl
          unfold stateV
          rw [HE.out.2.1]
          gi_wp2_with fail
          refine (callsIn_wide.2 (known11_b w9)).mono ?_
          rintro e w10 ⟨rfl, hb10⟩
          have h010 : Below wr.heap.size wr w10 := H9.out.trans (hb10.mono H9.out.size)
          have HFIN := Lib.hid (And.intro (HIM.out.2.2.2.1.below h010) (HI.out.2.trans (h010.mono HI.out.2.size)))
          clear hb10 h010 H9
          gi_wp2_with fail
          refine leaves_marks ks _ HFIN.out.1 (fun W' ho => ?_)
          have hw4 : Below w.heap.size w w4 := H1.out.2.1.trans (H4.out.2.2.mono H1.out.2.1.size)
          have hw10 : Below w.heap.size w w10 := hw4.trans (HFIN.out.2.mono hw4.size)
          exact ⟨.bool true, by simp [results, Tryz.results3, go_sem], rfl, hw10.trans (ho.below (fun k hk hm => by
            have h1 := HIM.out.2.2.2.2 k hm
            have h2 := hw4.size
            omega) hw10.size)⟩
end Go.Proofs.YtlgcoaeddeiegaaGreat
