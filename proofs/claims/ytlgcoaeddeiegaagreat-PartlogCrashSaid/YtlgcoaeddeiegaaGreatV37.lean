/- The texts Xq in one. -/
import Derived.Test.YtlgcoaeddeiegaaGreatV36
/- law11: PartlogCrash: its Append. -/
namespace Go.Proofs.YtlgcoaeddeiegaaGreat
open Go Go.Maps Go.RowKit
attribute [local go_sem] Oper.semAt_some

section
variable {w2 w3 : World} {os op oa oz o1 : Option Addr} {b3 ns cs np cp na ca q lp r st nz cz mb i b15 t k m e1 : Nat} {v93 : Value} {u : Nat → Value} {X : Nat → Prop} {g : Lg} {d : Dk} {ys : List RcV} {A0 : List Bat} {D : DataW Unit} {x : StpV} {K : Act → World → Prop} {Q : Exit → Act → World → Prop}
set_option maxRecDepth 100000 in
set_option maxHeartbeats 8000000 in
theorem cr_arm1 (h : CrH w2 w3 lp q r st X g d ys A0 k D (.slice oz nz cz) nz mb t b15 m x o1 e1) (hQ : CrQ w2 os op oa b3 ns cs np cp na ca q lp r st mb i b15 t K) :
    Code.wp Tryz.prog crA1 (Exit.then K Q) ⟨frC os op oa oz b3 ns cs np cp na ca q lp nz cz mb i (.pointer (some ⟨b15, 0, none⟩)) v93 u, []⟩ w3 := by
  have hst := homeState_b h.s.home
  obtain ⟨vb, hvb⟩ : ∃ x : Int, x = (g.begin : Int) := ⟨_, rfl⟩
  obtain ⟨vf, hvf⟩ : ∃ x : Int, x = (g.fin : Int) := ⟨_, rfl⟩
  obtain ⟨vs, hvs⟩ : ∃ x : Int, x = (g.stands : Int) := ⟨_, rfl⟩
  obtain ⟨vn, hvn⟩ : ∃ x : Int, x = (g.segs.length : Int) := ⟨_, rfl⟩
  unfold stateV at hst
  rw [← hvb, ← hvf, ← hvs, ← hvn, h.al] at hst
  have HST := Lib.hid hst
  have H := Lib.hid h
  have HQ := Lib.hid hQ
  obtain ⟨hfin, hcnt⟩ := h.s.fin
  have hnz : nz ≤ 1800 := by have := h.s.few; have := h.ht; omega
  have hkk : k ≤ 200 := by have := h.s.few; have := h.ht; omega
  have HF := Lib.hid (And.intro hfin (And.intro hcnt hkk))
  have hfl : ∀ (a1 a2 a3 a4 : Int) (a5 : Bool) (W : World), (Instr.field 60 (.agg #[.int .i64 a1, .int .i64 a2, .int .i64 a3, .int .i64 a4, .bool a5]) 4).run Tryz.prog W = .ok (.bool a5) W := fun _ _ _ _ _ _ => by kernel_rfl
  clear hst hvb hvf hvs hvn h hQ hfin hcnt hkk
  unfold frC
  conv => arg 2; whnf
  go_wp2_with fail
  refine HST.out.mono ?_
  rintro e w4 ⟨rfl, hb4⟩
  have hbox4 := (hb4.block b15 (Array.getElem?_eq_some_iff.1 H.out.box).1).trans H.out.box
  have k4 : w4.cell? ⟨b15, 4, none⟩ = some (.slice o1 m e1) := cell_of hbox4 rfl
  have hs4 := H.out.s.later hb4
  have hap := homeAppend_b hs4.home (fun _ => H.out.s.cri.fit H.out.al pName_ok H.out.s.home.sorted) (oa := o1) (n := m) (c := e1) (l := x.recs) (fun W hb _ => H.out.recs W hb) H.out.len (by have := H.out.small; omega)
  have hlaw := H.out.s.cri.append H.out.al pName_ok H.out.s.home.sorted H.out.rb.1 x.recs
  obtain ⟨rr, hrr⟩ : ∃ rr, rr = g.appendT pName r d x.recs := ⟨_, rfl⟩
  rw [← hrr] at hap hlaw
  have HAP := Lib.hid hap
  have HLW := Lib.hid hlaw
  have H4 := Lib.hid (And.intro hs4 hbox4)
  have HB4 : Hid (∀ a, a < w3.heap.size → w4.heap[a]? = w3.heap[a]?) := Lib.hid (fun a ha => hb4.block a ha)
  clear hb4 hbox4 hs4 hap hlaw hrr HST
  go_wp2_with fail
  refine HAP.out.mono ?_
  rintro e w5 ⟨rfl, hh5, hk5⟩
  have hbox5 := (hk5 b15 H.out.bX).trans H4.out.2
  obtain ⟨er, her⟩ : ∃ er, er = rr.1 := ⟨_, rfl⟩
  rw [← her]
  have H5 := Lib.hid (And.intro hh5 (And.intro hk5 (And.intro hbox5 her)))
  have k54 : w5.cell? ⟨b15, 4, none⟩ = some (.slice o1 m e1) := cell_of hbox5 rfl
  have hsm := H.out.small
  clear hh5 hk5 hbox5 her HAP k4
  rcases HLW.out with ⟨h0, heq⟩ | ⟨h0, hc5, hbt, hal5⟩ | ⟨h0, hc5, hbt, hal5⟩
  · as_aux_lemma =>
    -- refused
    have hne : er ≠ 0 := by rw [H5.out.2.2.2]; exact h0
    have hc : (er == 0) = false := beq_eq_false_iff_ne.2 hne
    have dne : (er != 0) = true := by unfold bne; rw [hc]; rfl
    have hat : atT er g.fin = 0 := by unfold atT; rw [if_neg hne]
    rw [hat]
    have hg5 : rr.2.1 = g := by rw [heq]
    have hd5 : rr.2.2 = d := by rw [heq]
    have hh5 : Home w2 X w5 lp q pName r st g d := by have := H5.out.1; rwa [hg5, hd5] at this
    have hs5 := H4.out.1.turn hh5 H5.out.2.1 H.out.s.cri rfl
    have hst := homeState_b hh5
    obtain ⟨vb, hvb⟩ : ∃ x : Int, x = (g.begin : Int) := ⟨_, rfl⟩
    obtain ⟨vf, hvf⟩ : ∃ x : Int, x = (g.fin : Int) := ⟨_, rfl⟩
    obtain ⟨vs, hvs⟩ : ∃ x : Int, x = (g.stands : Int) := ⟨_, rfl⟩
    obtain ⟨vn, hvn⟩ : ∃ x : Int, x = (g.segs.length : Int) := ⟨_, rfl⟩
    unfold stateV at hst
    rw [← hvb, ← hvf, ← hvs, ← hvn, H.out.al] at hst
    have HST := Lib.hid hst
    have HS5 := Lib.hid hs5
    clear hat hg5 hd5 hh5 hs5 hst hvb hvf hvs hvn h0 heq hne k54
    go_wp2_with fail
    refine HST.out.mono ?_
    rintro e w6 ⟨rfl, hb6⟩
    have HJ : Hid (CrJ false w2 w6 lp q r st (.slice oz nz cz) nz mb (t + 1)) := Lib.hid ⟨_, _, _, _, _, _, _, _, _, (HS5.out.later hb6).up, fun e => by cases e⟩
    clear hb6 HST
    go_wp2_with fail
    exact HQ.out.go oz nz cz v93 HJ.out (by kernel_rfl)
  · as_aux_lemma =>
    -- it went well
    have he0 : er = 0 := by rw [H5.out.2.2.2]; exact h0
    subst he0
    have hat : atT 0 g.fin = (nz : Int) := by
      show (g.fin : Int) = _
      rw [HF.out.1]
    rw [hat]
    have HCP := Lib.hid (copy05_b (H.out.recs w5 H5.out.1.below) H.out.len (by omega) H.out.kv)
    clear hat h0
    have HC5 := Lib.hid (And.intro hc5 hbt)
    clear hc5 hbt hal5
    go_wp2_with fail
    refine HCP.out.mono ?_
    rintro e w6 ⟨v5, zs, rfl, hzl, hzr, hb56⟩
    obtain ⟨o5, c5, rfl, -⟩ := hzr.row.shape
    have hzm : zs.length = m := by rw [← List.length_map (f := fun y : RcV => y.r), hzl]; exact H.out.len
    rw [hzm]
    have hzi : RecsIs w6 (.slice o5 m c5) zs := by rw [← hzm]; exact hzr.is
    have hrow6 : RowP (fun k => X k ∧ w2.heap.size ≤ k) w6 (.slice oz nz cz) ys := (H4.out.1.row.kept (fun k _ hp => H5.out.2.1 k hp.1)).later hb56
    have H6 := Lib.hid (And.intro hzl (And.intro (show RowP (fun k => w5.heap.size ≤ k) w6 (.slice o5 m c5) zs by rw [← hzm]; exact hzr) (And.intro hb56 (And.intro hzm (And.intro hzi hrow6)))))
    clear hzl hzr hb56 hzm hzi hrow6 HCP k54
    go_upto_region 22 with (at_builtin; refine wpList_append_recsC rfl (.tmp 112) (.tmp 115) rfl (xs := ys) (ys := zs) (P := fun k => X k ∧ w2.heap.size ≤ k) H6.out.2.2.2.2.2 H.out.s.len (by omega) H6.out.2.2.2.2.1 H6.out.2.2.2.1 (by omega) (by rfl) (by rfl) ?_; intro oa3 c3 w7 HR3 HG3 HO3)
    obtain ⟨X6, hw⟩ := H.out.s.add (e := (g.fin : Int)) (l := x.recs) H5.out.1 (fun a ha => by rw [H5.out.2.1 a ha]; exact HB4.out a (H.out.s.home.xlow a ha)) HC5.out.1 (by rw [HC5.out.2]; simp) H6.out.2.2.1 H6.out.2.1 H6.out.1 H6.out.2.2.2.1 H.out.small HR3.out HG3.out HO3.out
    obtain ⟨nz2, hnz2⟩ : ∃ x, x = nz + m := ⟨_, rfl⟩
    rw [← hnz2] at hw ⊢
    have hnz3 : nz2 ≤ 2000 := by omega
    obtain ⟨w8, hrun, HP⟩ := hw.put (n := nz2) (by omega) (by have := HF.out.2.2; omega)
    have HW := Lib.hid (And.intro hw hnz2)
    clear hw hnz2 HR3 HG3 HO3
    go_wp2_with fail
    obtain ⟨X7, hw7⟩ := HP.out
    have hE := HW.out.1.ends.add (b := ((g.fin : Int), x.recs)) (n := nz2) (by
      rw [cntT_append, HF.out.2.1, HW.out.2]
      simp [cntT, H.out.len])
    have HJ : Hid (CrJ false w2 w8 lp q r st (.slice oa3 nz2 c3) nz2 mb (t + 1)) := Lib.hid ⟨_, _, _, _, _, _, _, _, _, hw7.done hE (by have := H.out.s.few.1; omega), fun e => by cases e⟩
    exact HQ.out.go oa3 nz2 c3 v93 HJ.out (by kernel_rfl)
  · as_aux_lemma =>
    -- a step failed
    have hne : er ≠ 0 := by rw [H5.out.2.2.2]; exact h0
    have hc : (er == 0) = false := beq_eq_false_iff_ne.2 hne
    have dne : (er != 0) = true := by unfold bne; rw [hc]; rfl
    have hat : atT er g.fin = 0 := by unfold atT; rw [if_neg hne]
    rw [hat]
    have hst := homeState_b H5.out.1
    obtain ⟨vb, hvb⟩ : ∃ x : Int, x = (rr.2.1.begin : Int) := ⟨_, rfl⟩
    obtain ⟨vf, hvf⟩ : ∃ x : Int, x = (rr.2.1.fin : Int) := ⟨_, rfl⟩
    obtain ⟨vs, hvs⟩ : ∃ x : Int, x = (rr.2.1.stands : Int) := ⟨_, rfl⟩
    obtain ⟨vn, hvn⟩ : ∃ x : Int, x = (rr.2.1.segs.length : Int) := ⟨_, rfl⟩
    unfold stateV at hst
    rw [← hvb, ← hvf, ← hvs, ← hvn, hal5] at hst
    have HST := Lib.hid hst
    have HC5 := Lib.hid (And.intro hc5 hbt)
    clear hat hst hvb hvf hvs hvn h0 hne hc5 hbt hal5 k54
    go_wp2_with fail
    refine HST.out.mono ?_
    rintro e w6 ⟨rfl, hb6⟩
    have hh6 := H5.out.1.later hb6
    have hk6 : KeptOf X w4 w6 := fun a ha => (hb6.block a (H5.out.1.xlow a ha)).trans (H5.out.2.1 a ha)
    have k64 : w6.cell? ⟨b15, 4, none⟩ = some (.slice o1 m e1) := cell_of ((hb6.block b15 (Array.getElem?_eq_some_iff.1 H5.out.2.2.1).1).trans H5.out.2.2.1) rfl
    have HCP := Lib.hid (copy05_b (H.out.recs w6 hh6.below) H.out.len (by omega) H.out.kv)
    have H6 := Lib.hid (And.intro hh6 hk6)
    clear hb6 hh6 hk6 HST
    go_wp2_with fail
    refine HCP.out.mono ?_
    rintro e w7 ⟨v5, zs, rfl, hzl, hzr, hb67⟩
    obtain ⟨o5, c5, rfl, -⟩ := hzr.row.shape
    have hzm : zs.length = m := by rw [← List.length_map (f := fun y : RcV => y.r), hzl]; exact H.out.len
    rw [hzm]
    have hzi : RecsIs w7 (.slice o5 m c5) zs := by rw [← hzm]; exact hzr.is
    have hrow7 : RowP (fun k => X k ∧ w2.heap.size ≤ k) w7 (.slice oz nz cz) ys := (H4.out.1.row.kept (fun k _ hp => H6.out.2 k hp.1)).later hb67
    have H7 := Lib.hid (And.intro hzl (And.intro (show RowP (fun k => w6.heap.size ≤ k) w7 (.slice o5 m c5) zs by rw [← hzm]; exact hzr) (And.intro hb67 (And.intro hzm (And.intro hzi hrow7)))))
    clear hzl hzr hb67 hzm hzi hrow7 HCP k64
    go_upto_region 26 with (at_builtin; refine wpList_append_recsC rfl (.tmp 129) (.tmp 132) rfl (xs := ys) (ys := zs) (P := fun k => X k ∧ w2.heap.size ≤ k) H7.out.2.2.2.2.2 H.out.s.len (by omega) H7.out.2.2.2.2.1 H7.out.2.2.2.1 (by omega) (by rfl) (by rfl) ?_; intro oa3 c3 w8 HR3 HG3 HO3)
    obtain ⟨X6, hw⟩ := H.out.s.add (e := (g.fin : Int)) (l := x.recs) H6.out.1 (fun a ha => by rw [H6.out.2 a ha]; exact HB4.out a (H.out.s.home.xlow a ha)) HC5.out.1 (by rw [HC5.out.2]; simp) H7.out.2.2.1 H7.out.2.1 H7.out.1 H7.out.2.2.2.1 H.out.small HR3.out HG3.out HO3.out
    obtain ⟨nz2, hnz2⟩ : ∃ x, x = nz + m := ⟨_, rfl⟩
    rw [← hnz2] at hw ⊢
    have hnz3 : nz2 ≤ 2000 := by omega
    obtain ⟨w9, hrun, HP⟩ := hw.put (n := nz2) (by omega) (by have := HF.out.2.2; omega)
    obtain ⟨X7, hw7⟩ := HP.out
    obtain ⟨w10, hrun2, HP2⟩ := hw7.put (n := nz) (by omega) (by have := HF.out.2.2; omega)
    have HW := Lib.hid (And.intro hw hnz2)
    clear hw hw7 hnz2 HR3 HG3 HO3 HP
    go_wp2_with fail
    obtain ⟨X8, hw8⟩ := HP2.out
    have hE := (HW.out.1.ends.add (b := ((g.fin : Int), x.recs)) (n := nz2) (by
      rw [cntT_append, HF.out.2.1, HW.out.2]
      simp [cntT, H.out.len])).put nz
    have HJ : Hid (CrJ false w2 w10 lp q r st (.slice oa3 nz2 c3) nz2 mb (t + 1)) := Lib.hid ⟨_, _, _, _, _, _, _, _, _, hw8.done hE (by have := H.out.s.few.1; omega), fun e => by cases e⟩
    exact HQ.out.go oa3 nz2 c3 v93 HJ.out (by kernel_rfl)
end
end Go.Proofs.YtlgcoaeddeiegaaGreat
