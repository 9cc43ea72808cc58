/- The texts Kk in one. -/
import Derived.Test.YtmkjejngnahpeaaC5
import Derived.Test.YtmkjejngnahpeaaC6
import Derived.Test.YtmkjejngnahpeaaZ1
/- law08: StopsBegins, the walk. -/
namespace Go.Proofs.Ytmkjejngnahpeaa
open Go Go.Maps Go.RowKit Go.Shelf Go.Sort
attribute [local go_sem] Oper.semAt_some

theorem opT_fates {d : Dk} (h : d.fates = []) (x : OpT) : (d.opT x).fates = [] := by
  have hn : d.next.fates = [] := by show d.fates.tail = []; rw [h]; rfl
  unfold Dk.opT Dk.create Dk.append Dk.sync Dk.syncdir Dk.remove
  repeat' split
  all_goals first | exact h | exact hn
theorem opsT_fates : ∀ (l : List OpT) (d : Dk), d.fates = [] → (d.opsT l).fates = []
  | [], _, h => h
  | x :: l, d, h => opsT_fates l (d.opT x) (opT_fates h x)
set_option maxRecDepth 100000 in
set_option maxHeartbeats 4000000 in
theorem stopsBegins_walk {w : World} {v : Value} {l : List OpT} (hs : OpsAt w v l) :
    Calls Try.prog 15 #[v] w fun e w' => e = .returned (.bool true) ∧ Below w.heap.size w w' := by
  obtain ⟨ob, cb, rfl⟩ := hs.row.shape
  obtain ⟨n, hn⟩ : ∃ n, l.length = n := ⟨_, rfl⟩
  obtain ⟨w1, hw1⟩ : ∃ w1 : World, w1 = w.alloc (.cells #[.bool false] 4) := ⟨_, rfl⟩
  obtain ⟨b2, hb2⟩ : ∃ b, b = w.heap.size := ⟨_, rfl⟩
  have hr1 : w1.heap[b2]? = some (.cells #[.bool false] 4 (0, 0)) := by rw [hw1, hb2]; exact alloc_cells _ _ _
  have hbe : Below w.heap.size w w1 := by rw [hw1]; exact (Below.refl _ _).alloc (Nat.le_refl _) _
  have hs1 := hs.below hbe
  have HVB := vast8_b hs1
  have HBO := fun h1 h2 => both_b hs1 h1 h2
  rw [hn] at HVB HBO ⊢
  obtain ⟨vt, hvt⟩ : ∃ b, vast8 l = b := ⟨_, rfl⟩
  rw [hvt] at HVB
  have HVB := Lib.hid HVB
  have HBO := Lib.hid HBO
  have HVT := Lib.hid hvt
  have H1 := Lib.hid (And.intro hr1 hbe)
  have HB2 := Lib.hid hb2
  have HNN := Lib.hid hn
  clear hs hn hs1 hvt hr1 hbe
  refine (callsIn_wide (n := 8)).1 ?_
  have f1 : Fence.wide.fn 70 := trivial
  have f2 : Fence.wide.fn 71 := trivial
  have f3 : Fence.wide.fn 72 := trivial
  have f4 : Fence.wide.fn 82 := trivial
  have f5 : Fence.wide.fn 83 := trivial
  have f6 : Fence.wide.fn 81 := trivial
  have f7 : Fence.wide.fn 87 := trivial
  refine callsIn_of_wp_marks Try.func15 rfl trivial ?_ rfl
  simp only [Try.ntmps15, List.size_toArray, List.length_cons, List.length_nil, Nat.reduceAdd, Nat.reduceSub, Array.replicate_succ, Array.replicate_zero, List.push_toArray, List.append_toArray, List.nil_append, List.cons_append]
  gi_upto_region 1 with fail
  rw [← hw1, ← hb2]
  clear hw1 hb2
  gi_wp2_with fail
  refine (callsIn_wide.2 HVB.out).mono ?_
  rintro e w1' ⟨rfl, hw'⟩
  obtain rfl := hw'.symm
  clear hw'
  cases vt
  · obtain ⟨h100, hlx⟩ := not_vast8 HVT.out
    gi_wp2_with fail
    have h100' := HNN.out ▸ h100
    refine (callsIn_wide.2 (HBO.out h100' hlx)).mono ?_
    rintro e w2 ⟨q, p, rfl, ⟨S1, S2, ht⟩⟩
    have hfa := opsT_fates l ⟨[], [], 0⟩ rfl
    obtain ⟨d, hd⟩ : ∃ d, Dk.opsT ⟨[], [], 0⟩ l = d := ⟨_, rfl⟩
    rw [hd] at ht hfa
    have HD2 := Lib.hid (And.intro ht.one ht.below)
    have HF : Hid (d.fates.length ≤ 1000000000) := Lib.hid (by rw [hfa]; simp)
    have HS := Lib.hid (And.intro (fun f hf => (ht.one.sizes.2 f hf).1) (And.intro ht.one.order_of.1 ht.one.sizes))
    clear ht hfa hd HBO HVB hlx h100 h100'
    gi_wp2_with fail
    refine (callsIn_wide.2 (sLeast_b HD2.out.1 HF.out)).mono ?_
    rintro e w3 ⟨ql, rfl, hdl, hb3⟩
    obtain ⟨w4, hw4⟩ : ∃ W : World, W = w3.alloc (.cells #[.pointer (some ⟨ql, 0, none⟩)] 37) := ⟨_, rfl⟩
    obtain ⟨b5, hb5⟩ : ∃ b, b = w3.heap.size := ⟨_, rfl⟩
    have h45 : w4.heap[b5]? = some (.cells #[.pointer (some ⟨ql, 0, none⟩)] 37 (0, 0)) := by rw [hw4, hb5]; exact alloc_cells _ _ _
    have hb34 : Below w3.heap.size w3 w4 := by rw [hw4]; exact (Below.refl _ _).alloc (Nat.le_refl _) _
    have hb24 := hb3.trans (hb34.mono hb3.size)
    have H4 := Lib.hid (And.intro (HD2.out.1.below hb24) (And.intro (HD2.out.2.trans (hb24.mono HD2.out.2.size)) (And.intro (hdl.below hb34) h45)))
    gi_upto_region 5 with fail
    rw [← hw4, ← hb5]
    clear hw4 hb5 hdl hb3 hb34 hb24 h45 HD2
    gi_wp2_with fail
    refine (callsIn_wide.2 (sMost_b H4.out.1 HF.out)).mono ?_
    rintro e w5 ⟨qm, rfl, hdm, hb5⟩
    obtain ⟨w6, hw6⟩ : ∃ W : World, W = w5.alloc (.cells #[.pointer (some ⟨qm, 0, none⟩)] 37) := ⟨_, rfl⟩
    obtain ⟨b7, hb7⟩ : ∃ b, b = w5.heap.size := ⟨_, rfl⟩
    have h67 : w6.heap[b7]? = some (.cells #[.pointer (some ⟨qm, 0, none⟩)] 37 (0, 0)) := by rw [hw6, hb7]; exact alloc_cells _ _ _
    have hb56 : Below w5.heap.size w5 w6 := by rw [hw6]; exact (Below.refl _ _).alloc (Nat.le_refl _) _
    have hb46 := hb5.trans (hb56.mono hb5.size)
    have H6 := Lib.hid (And.intro (H4.out.1.below hb46) (And.intro (H4.out.2.1.trans (hb46.mono H4.out.2.1.size)) (And.intro (H4.out.2.2.1.below hb46) (And.intro ((hb46.block b5 (Array.getElem?_eq_some_iff.1 H4.out.2.2.2).1).trans H4.out.2.2.2) (And.intro (hdm.below hb56) h67)))))
    gi_upto_region 6 with fail
    rw [← hw6, ← hb7]
    clear hw6 hb7 hdm hb5 hb56 hb46 h67 H4
    gi_wp2_with fail
    refine (callsIn_wide.2 (sImages_b H6.out.1 HF.out)).mono ?_
    rintro e w7 ⟨bs, bm, rfl, him, hb7⟩
    unfold imagesV
    have HIM := Lib.hid him
    have hbw7 := H6.out.2.1.trans (hb7.mono H6.out.2.1.size)
    have H7 := Lib.hid (And.intro hbw7 (And.intro (H6.out.2.2.1.below hb7) (And.intro (H6.out.2.2.2.2.1.below hb7) (And.intro ((hb7.block b5 (Array.getElem?_eq_some_iff.1 H6.out.2.2.2.1).1).trans H6.out.2.2.2.1) (And.intro ((hb7.block b7 (Array.getElem?_eq_some_iff.1 H6.out.2.2.2.2.2).1).trans H6.out.2.2.2.2.2) ((hbw7.block b2 (Array.getElem?_eq_some_iff.1 H1.out.1).1).trans H1.out.1))))))
    clear hbw7 him hb7 H6
    have c5 : w7.cell? ⟨b5, 0, none⟩ = some (.pointer (some ⟨ql, 0, none⟩)) := cell_of H7.out.2.2.2.1 rfl
    have c7 : w7.cell? ⟨b7, 0, none⟩ = some (.pointer (some ⟨qm, 0, none⟩)) := cell_of H7.out.2.2.2.2.1 rfl
    have hnf : ∀ W : World, (binOp .eql 143 (.func (.func 142) #[] #[.pointer (some ⟨bs, 0, none⟩), .pointer (some ⟨bm, 0, none⟩)]) .nilFunc).run Try.prog W = .ok (.bool false) W := fun W => by kernel_rfl
    gi_wp2_with fail
    refine (callsIn_wide.2 (begins_b H7.out.2.1 H7.out.2.2.1 (least_begins _ HS.out.1 HS.out.2.1))).mono ?_
    rintro e w8 ⟨rfl, hb8⟩
    have HB8 := Lib.hid hb8
    clear hb8 hnf c5 c7
    gi_wp2_with fail
    obtain ⟨w9, hw9⟩ : ∃ W : World, W = w8.alloc (.cells #[.int .i64 0] 3) := ⟨_, rfl⟩
    obtain ⟨b10, hb10⟩ : ∃ b, b = w8.heap.size := ⟨_, rfl⟩
    have h90 : w9.heap[b10]? = some (.cells #[.int .i64 0] 3 (0, 0)) := by rw [hw9, hb10]; exact alloc_cells _ _ _
    have hb89 : Below w8.heap.size w8 w9 := by rw [hw9]; exact (Below.refl _ _).alloc (Nat.le_refl _) _
    have hb79 := HB8.out.trans (hb89.mono HB8.out.size)
    have H9 := Lib.hid (And.intro h90 (And.intro hb79 (show w7.heap.size ≤ b10 by have := HB8.out.size; omega)))
    rw [← hw9, ← hb10]
    have hlen := unsT_len d.files
    have hst := images_told 7 (by omega) bs bm w7 (unsT d.files) d HIM.out (by have := HS.out.2.2.1; omega) (unsT_more (fun f hf => (HS.out.2.2.2 f hf).2))
    clear hw9 hb10 h90 hb89 hb79 hlen
    refine wpIn_rangeFunc_told (n := 8) (α := ImV) rfl (by omega) (gf := 142) (lb := #[.pointer (some ⟨bs, 0, none⟩), .pointer (some ⟨bm, 0, none⟩)]) rfl trivial (enters_of Try.func142 (by kernel_rfl) rfl) hst H9.out.2.1 (fun _ => rfl)
      (fun T pre V => V.heap[b10]? = some (.cells #[.int .i64 (pre.length : Int)] 3 (0, 0)) ∧ Below w7.heap.size w7 V ∧ (∀ k, T k → w9.heap.size + 2 ≤ k) ∧ pre.length < 200)
      (fun c T _ V => c = .exit 0 ∧ V.heap[b10]? = some (.cells #[.int .i64 ((200 : Nat) : Int)] 3 (0, 0)) ∧ Below w7.heap.size w7 V ∧ (∀ k, T k → w9.heap.size + 2 ≤ k)) ?I ?Ix ?h0 ?round ?done ?stop
    case I =>
      rintro T pre A B ⟨hbx, hbl, hT, hp⟩ ho
      have hlt := (Array.getElem?_eq_some_iff.1 H9.out.1).1
      have hsz := H9.out.2.1.size
      exact ⟨(ho.block _ (Array.getElem?_eq_some_iff.1 hbx).1 (fun h => by rcases h with h | h | h; (have := hT _ h; omega); omega; omega)).trans hbx,
        hbl.trans (ho.below (fun i hi h => by rcases h with h | h | h; (have := hT _ h; omega); omega; omega) hbl.size), hT, hp⟩
    case Ix =>
      rintro c T pre A B ⟨hc, hbx, hbl, hT⟩ ho
      have hlt := (Array.getElem?_eq_some_iff.1 H9.out.1).1
      have hsz := H9.out.2.1.size
      exact ⟨hc, (ho.block _ (Array.getElem?_eq_some_iff.1 hbx).1 (fun h => by rcases h with h | h | h; (have := hT _ h; omega); omega; omega)).trans hbx,
        hbl.trans (ho.below (fun i hi h => by rcases h with h | h | h; (have := hT _ h; omega); omega; omega) hbl.size), hT⟩
    case h0 =>
      intro T W1 hb hsz hT
      exact ⟨(hb.block _ (Array.getElem?_eq_some_iff.1 H9.out.1).1).trans H9.out.1, H9.out.2.1.trans (hb.mono H9.out.2.1.size), fun k hk => (hT k hk).1, by simp⟩
    case done =>
      rintro T xs V hS ⟨hbx, hbl, -, -⟩ hD
      have hS' : xs.length = prodW (unsT d.files) := hS
      have hpos := prodW_pos (unsT d.files)
      obtain ⟨k, hk⟩ : ∃ k, xs.length = k := ⟨_, rfl⟩
      rw [hk] at hbx
      have hkp : (0 : Int) < (k : Int) := by omega
      clear hS hS' hpos hk
      have hlowb : w1.heap.size ≤ w7.heap.size := H7.out.1.size
      have cb : V.cell? ⟨b10, 0, none⟩ = some (.int .i64 (k : Int)) := cell_of hbx rfl
      have hd : decide ((0 : Int) < (k : Int)) = true := decide_eq_true hkp
      have HV := Lib.hid (And.intro hbl hD)
      clear hbx hbl hD hst
      gi_wp2_with fail
      refine (callsIn_wide.2 (known8_b _)).mono ?_
      rintro e V2 ⟨rfl, hbk⟩
      have hb7 : Below w7.heap.size w7 V2 := HV.out.1.trans (hbk.mono HV.out.1.size)
      have hr2 : V2.heap[b2]? = some (.cells #[.bool false] 4 (0, 0)) := (hb7.block b2 (Array.getElem?_eq_some_iff.1 H7.out.2.2.2.2.2).1).trans H7.out.2.2.2.2.2
      have hm2 : V2.heap[w9.heap.size]? = some (.deferred (some [])) := (hbk.block _ (Array.getElem?_eq_some_iff.1 HV.out.2).1).trans HV.out.2
      have hbw : Below w.heap.size w V2 := H1.out.2.trans ((H7.out.1.trans (hb7.mono H7.out.1.size)).mono H1.out.2.size)
      have HE := Lib.hid (And.intro hb7 (And.intro hr2 (And.intro hm2 hbw)))
      have z2 : V2.frozen? ⟨b2, 0, none⟩ = false := free_of hr2 _
      have k2 : V2.cell? ⟨b2, 0, none⟩ = some (.bool false) := cell_of hr2 rfl
      clear hb7 hr2 hm2 hbw hbk cb
      gi_wp2_with fail
      have hm := (KeepsOthers.setCell V2 ⟨b2, 0, none⟩ (.bool true)).same w9.heap.size _ HE.out.2.2.1 rfl
      have hr3 : (V2.setCell ⟨b2, 0, none⟩ (.bool true)).heap[b2]? = some (.cells #[.bool true] 4 (0, 0)) := heap_setCell_here _ HE.out.2.1
      have hg := grownBy_putObj' (V2.setCell ⟨b2, 0, none⟩ (.bool true)) w9.heap.size (.deferred none)
      have hr4 := (hg.block b2 (Array.getElem?_eq_some_iff.1 hr3).1 (fun e => by
        simp only [Option.some.injEq] at e
        rw [← e, hr3] at hm
        cases hm)).trans hr3
      have hcr := cell_of (i := 0) (v := .bool true) hr4 rfl
      have hbz : Below w.heap.size w (V2.setCell ⟨b2, 0, none⟩ (.bool true)) := HE.out.2.2.2.setCell (p := ⟨b2, 0, none⟩) (by show w.heap.size ≤ b2; have := HB2.out; omega) _
      have hbz2 := hbz.grown hg hbz.size (fun k e => by
        simp only [Option.some.injEq] at e
        have h1 := H9.out.2.1.size
        have h2 := H1.out.2.size
        omega)
      refine ⟨by simp, .inl ⟨_, _, rfl, run_takeDeferred hm, ?_⟩⟩
      exact ⟨.bool true, by simp [results, Try.results15, go_sem, hcr], rfl, hbz2⟩
    case stop =>
      rintro T c pre V hS ⟨rfl, hbx, hbl, -⟩ hD
      obtain ⟨k, hk⟩ : ∃ k, (200 : Nat) = k := ⟨_, rfl⟩
      rw [hk] at hbx
      have hkp : (0 : Int) < (k : Int) := by omega
      clear hS hk
      have hlowb : w1.heap.size ≤ w7.heap.size := H7.out.1.size
      have cb : V.cell? ⟨b10, 0, none⟩ = some (.int .i64 (k : Int)) := cell_of hbx rfl
      have hd : decide ((0 : Int) < (k : Int)) = true := decide_eq_true hkp
      have HV := Lib.hid (And.intro hbl hD)
      clear hbx hbl hD hst
      gi_wp2_with fail
      refine (callsIn_wide.2 (known8_b _)).mono ?_
      rintro e V2 ⟨rfl, hbk⟩
      have hb7 : Below w7.heap.size w7 V2 := HV.out.1.trans (hbk.mono HV.out.1.size)
      have hr2 : V2.heap[b2]? = some (.cells #[.bool false] 4 (0, 0)) := (hb7.block b2 (Array.getElem?_eq_some_iff.1 H7.out.2.2.2.2.2).1).trans H7.out.2.2.2.2.2
      have hm2 : V2.heap[w9.heap.size]? = some (.deferred (some [])) := (hbk.block _ (Array.getElem?_eq_some_iff.1 HV.out.2).1).trans HV.out.2
      have hbw : Below w.heap.size w V2 := H1.out.2.trans ((H7.out.1.trans (hb7.mono H7.out.1.size)).mono H1.out.2.size)
      have HE := Lib.hid (And.intro hb7 (And.intro hr2 (And.intro hm2 hbw)))
      have z2 : V2.frozen? ⟨b2, 0, none⟩ = false := free_of hr2 _
      have k2 : V2.cell? ⟨b2, 0, none⟩ = some (.bool false) := cell_of hr2 rfl
      clear hb7 hr2 hm2 hbw hbk cb
      gi_wp2_with fail
      have hm := (KeepsOthers.setCell V2 ⟨b2, 0, none⟩ (.bool true)).same w9.heap.size _ HE.out.2.2.1 rfl
      have hr3 : (V2.setCell ⟨b2, 0, none⟩ (.bool true)).heap[b2]? = some (.cells #[.bool true] 4 (0, 0)) := heap_setCell_here _ HE.out.2.1
      have hg := grownBy_putObj' (V2.setCell ⟨b2, 0, none⟩ (.bool true)) w9.heap.size (.deferred none)
      have hr4 := (hg.block b2 (Array.getElem?_eq_some_iff.1 hr3).1 (fun e => by
        simp only [Option.some.injEq] at e
        rw [← e, hr3] at hm
        cases hm)).trans hr3
      have hcr := cell_of (i := 0) (v := .bool true) hr4 rfl
      have hbz : Below w.heap.size w (V2.setCell ⟨b2, 0, none⟩ (.bool true)) := HE.out.2.2.2.setCell (p := ⟨b2, 0, none⟩) (by show w.heap.size ≤ b2; have := HB2.out; omega) _
      have hbz2 := hbz.grown hg hbz.size (fun k e => by
        simp only [Option.some.injEq] at e
        have h1 := H9.out.2.1.size
        have h2 := H1.out.2.size
        omega)
      refine ⟨by simp, .inl ⟨_, _, rfl, run_takeDeferred hm, ?_⟩⟩
      exact ⟨.bool true, by simp [results, Try.results15, go_sem, hcr], rfl, hbz2⟩
    case round =>
      rintro T pre ⟨⟨oa, xn, c⟩, qx⟩ Wp V hT hrec hdef ⟨hbxp, hblp, hT3, hp200⟩ hop hszp hgv hlt K hK
      have hlow9 := H9.out.2.1.size
      have hbx := (hop.block _ (Array.getElem?_eq_some_iff.1 hbxp).1 (fun h => by have := hT3 _ h; have := (Array.getElem?_eq_some_iff.1 H9.out.1).1; omega)).trans hbxp
      have hbl := hblp.trans (hop.below (fun i hi h => by have := hT3 _ h; omega) hblp.size)
      obtain ⟨-, Sx, hdx, hSx⟩ := hgv
      dsimp only at hdx
      have HK := Lib.hid hK
      have hSx : ∀ k, Sx k → w9.heap.size + 2 ≤ k := fun k hk => Nat.le_trans hszp (hSx k hk).1
      have HV := Lib.hid (And.intro hbx (And.intro hbl (And.intro hT3 (And.intro hdx hSx))))
      obtain ⟨j, hj⟩ : ∃ j, pre.length = j := ⟨_, rfl⟩
      have HJ := Lib.hid (And.intro hj hp200)
      clear hK hT hrec hdef hbx hbl hT3 hdx hSx hlt hst hj hp200 hbxp hblp hop hszp hlow9
      unfold encI
      gi_wp2_with fail
      refine HK.out _ _ (KeptR.of (Below.refl _ _)) ?_
      intro W2 ho hr2
      have hlow := H9.out.2.1.size
      have hb7 : Below w7.heap.size w7 W2 := HV.out.2.1.trans (ho.below (fun i hi h => by omega) HV.out.2.1.size)
      have hdx2 : DiskAt W2 Sx qx (d.crash (picksOf (unsT d.files) pre.length)) := HV.out.2.2.2.1.only2 ho (fun k hk h => by have := HV.out.2.2.2.2 k hk; omega)
      have hbx2 : W2.heap[b10]? = some (.cells #[.int .i64 (pre.length : Int)] 3 (0, 0)) := (ho.block b10 (Array.getElem?_eq_some_iff.1 HV.out.1).1 (fun h => by have := (Array.getElem?_eq_some_iff.1 H9.out.1).1; omega)).trans HV.out.1
      have HC1 := Lib.hid (begins_b (H7.out.2.1.below hb7) hdx2 (least_begins _ HS.out.1 HS.out.2.1))
      have c5 : W2.cell? ⟨b5, 0, none⟩ = some (.pointer (some ⟨ql, 0, none⟩)) := cell_of ((hb7.block b5 (Array.getElem?_eq_some_iff.1 H7.out.2.2.2.1).1).trans H7.out.2.2.2.1) rfl
      have H2 := Lib.hid (And.intro hb7 (And.intro hdx2 (And.intro hbx2 (And.intro ho hr2))))
      clear hb7 hdx2 hbx2 ho hr2
      generalize hQ : toldPost _ _ _ _ _ = Q
      have HQ := Lib.hid hQ
      clear hQ
      gi_wp2_with fail
      refine (CallsIn.inRound _ (callsIn_wide.2 HC1.out)).mono ?_
      rintro e W3 ⟨rfl, hb3⟩
      have hb73 : Below w7.heap.size w7 W3 := H2.out.1.trans (hb3.mono H2.out.1.size)
      have c7 : W3.cell? ⟨b7, 0, none⟩ = some (.pointer (some ⟨qm, 0, none⟩)) := cell_of ((hb73.block b7 (Array.getElem?_eq_some_iff.1 H7.out.2.2.2.2.1).1).trans H7.out.2.2.2.2.1) rfl
      have HC2 := Lib.hid (begins_b (H2.out.2.1.below hb3) (H7.out.2.2.1.below hb73) (begins_most _ HS.out.1 HS.out.2.1))
      have H3 := Lib.hid (And.intro hb3 hb73)
      clear hb3 hb73 c5
      gi_wp2_with fail
      refine (CallsIn.inRound _ (callsIn_wide.2 HC2.out)).mono ?_
      rintro e W4 ⟨rfl, hb4⟩
      have hb24 := H3.out.1.trans (hb4.mono H3.out.1.size)
      have hbx4 := (hb24.block b10 (Array.getElem?_eq_some_iff.1 H2.out.2.2.1).1).trans H2.out.2.2.1
      rw [HJ.out.1] at hbx4
      have cb : W4.cell? ⟨b10, 0, none⟩ = some (.int .i64 (j : Int)) := cell_of hbx4 rfl
      have zb : W4.frozen? ⟨b10, 0, none⟩ = false := free_of hbx4 _
      have hj200 : (j : Int) < 200 := by have := HJ.out; omega
      have H4 := Lib.hid (And.intro hb24 hbx4)
      clear hb4 hb24 hbx4 c7
      have hb10 : w7.heap.size ≤ b10 := H9.out.2.2
      have hb10' : b10 < w9.heap.size := (Array.getElem?_eq_some_iff.1 H9.out.1).1
      have hT3 := HV.out.2.2.1
      have hkept : KeptS w7.heap.size w9.heap.size T W2 (W4.setCell ⟨b10, 0, none⟩ (.int .i64 ((j : Int) + 1))) := KeptR.join (KeptR.of H4.out.1) (only_setCell _ _ _ _ _ ⟨hb10, fun h => by rcases h with h | h | h; (have := hT3 _ h; omega); omega; omega⟩)
      have hset : (W4.setCell ⟨b10, 0, none⟩ (.int .i64 ((j : Int) + 1))).heap[b10]? = some (.cells #[.int .i64 ((j : Int) + 1)] 3 (0, 0)) := heap_setCell_here _ H4.out.2
      have hbel : Below w7.heap.size w7 (W4.setCell ⟨b10, 0, none⟩ (.int .i64 ((j : Int) + 1))) := (H2.out.1.trans (H4.out.1.mono H2.out.1.size)).setCell (p := ⟨b10, 0, none⟩) hb10 _
      have HN := Lib.hid (And.intro hkept (And.intro hset (And.intro hbel hT3)))
      clear hkept hset hbel hT3 hb10 hb10'
      by_cases hend : j + 1 = 200
      · have hd : ((j : Int) + 1 == 200) = true := by rw [beq_iff_eq]; omega
        gi_wp2_with fail
        rw [← HQ.out]
        refine ⟨HN.out.1, rfl, ?_, HN.out.2.2.1, HN.out.2.2.2⟩
        rw [HN.out.2.1]
        have e : (j : Int) + 1 = ((200 : Nat) : Int) := by omega
        rw [e]
      · have hd : ((j : Int) + 1 == 200) = false := by rw [beq_eq_false_iff_ne]; omega
        gi_wp2_with fail
        rw [← HQ.out]
        refine ⟨HN.out.1, ?_, HN.out.2.2.1, HN.out.2.2.2, ?_⟩
        · rw [HN.out.2.1, List.length_append, HJ.out.1]
          rfl
        · rw [List.length_append, HJ.out.1]
          have := HJ.out.2
          simp only [List.length_cons, List.length_nil]
          omega
  · gi_wp2_with fail
    refine (callsIn_wide.2 (known8_b _)).mono ?_
    rintro e V2 ⟨rfl, hbk⟩
    have hr2 : V2.heap[b2]? = some (.cells #[.bool false] 4 (0, 0)) := (hbk.block b2 (Array.getElem?_eq_some_iff.1 H1.out.1).1).trans H1.out.1
    have hbw : Below w.heap.size w V2 := H1.out.2.trans (hbk.mono H1.out.2.size)
    have HE := Lib.hid (And.intro hr2 hbw)
    have z2 : V2.frozen? ⟨b2, 0, none⟩ = false := free_of hr2 _
    have k2 : V2.cell? ⟨b2, 0, none⟩ = some (.bool false) := cell_of hr2 rfl
    clear hr2 hbw hbk
    gi_wp2_with fail
    have hr3 : (V2.setCell ⟨b2, 0, none⟩ (.bool true)).heap[b2]? = some (.cells #[.bool true] 4 (0, 0)) := heap_setCell_here _ HE.out.1
    have hcr := cell_of (i := 0) (v := .bool true) hr3 rfl
    have hbz : Below w.heap.size w (V2.setCell ⟨b2, 0, none⟩ (.bool true)) := HE.out.2.setCell (p := ⟨b2, 0, none⟩) (by show w.heap.size ≤ b2; have := HB2.out; omega) _
    exact ⟨.bool true, by simp [results, Try.results15, go_sem, hcr], rfl, hbz⟩
end Go.Proofs.Ytmkjejngnahpeaa
