/- The texts Xs in one. -/
import Derived.Test.YtlgcoaeddeiegaaGreatV38
import Derived.BigRegion
import Derived.Deep.RegionHeld3
/- law11: PartlogCrash, the walk. -/
namespace Go.Proofs.YtlgcoaeddeiegaaGreat
open Go Go.Maps Go.RowKit
attribute [local go_sem] Oper.semAt_some

noncomputable def crN1 : Code := cdB crC
noncomputable def crN2 : Code := cdB crN1
noncomputable def crN3 : Code := cdB crN2
noncomputable def crN4 : Code := cdB crN3
noncomputable def crN5 : Code := cdB crN4
noncomputable def crN6 : Code := cdB crN5
noncomputable def crN7 : Code := cdB crN6
theorem cr_n0 : crC = .seq (cdA crC) crN1 := by kernel_rfl
theorem cr_n1 : crN1 = .seq (cdA crN1) crN2 := by kernel_rfl
theorem cr_n2 : crN2 = .seq (cdA crN2) crN3 := by kernel_rfl
theorem cr_n3 : crN3 = .seq (cdA crN3) crN4 := by kernel_rfl
theorem cr_n4 : crN4 = .seq (cdA crN4) crN5 := by kernel_rfl
theorem cr_n5 : crN5 = .seq (cdA crN5) crN6 := by kernel_rfl
theorem cr_n6 : crN6 = .seq (cdA crN6) crN7 := by kernel_rfl
theorem cr_n7 : crN7 = .seq (cdA crN7) crX := by kernel_rfl
theorem code_is {c d : Code} {Q : Exit → Act → World → Prop} {a : Act} {w : World} (h : c = d) (H : Code.wp Tryz.prog d Q a w) : Code.wp Tryz.prog c Q a w := by
  rw [h]
  exact H
section
variable {w w2 w5 : World} {of os op oa oz : Option Addr} {b3 nf cf ns cs np cp na ca q lp r st nz cz mb : Nat} {v15 v93 : Value} {u : Nat → Value} {fs : List (Int × Int)} {L : List StpV} {p1 p2 : List Int} {Kt : Act → World → Prop} {Q : Exit → Act → World → Prop}
theorem cr_loop_b (hi : CrJ true w2 w5 lp q r st (.slice oz nz cz) nz mb 0) (hA : CrArgs w2 of os op oa nf cf ns cs np cp na ca fs L p1 p2) (hsm : CrSmall fs L nf np na) (hr : 1 ≤ r ∧ r ≤ 16711680)
    (hX : ∀ (oz : Option Addr) (nz cz j : Nat) (v15 v93 : Value) (u : Nat → Value) (wy : World), j ≤ ns → CrJ false w2 wy lp q r st (.slice oz nz cz) nz mb j → ∀ i', Kt ⟨frC os op oa oz b3 ns cs np cp na ca q lp nz cz mb i' v15 v93 u, []⟩ wy) :
    Code.wp Tryz.prog (.block 0 (.loop crBody)) (Exit.then Kt Q) ⟨frC os op oa oz b3 ns cs np cp na ca q lp nz cz mb 0 v15 v93 u, []⟩ w5 := by
  refine wp_block ?_
  refine wp_loop_ghost (c := crBody) (fun gh a wr => ∃ (oz : Option Addr) (nz cz i : Nat) (v15 v93 : Value) (u : Nat → Value), a = ⟨frC os op oa oz b3 ns cs np cp na ca q lp nz cz mb i v15 v93 u, []⟩ ∧ gh + i = ns ∧ Hid (CrJ true w2 wr lp q r st (.slice oz nz cz) nz mb i)) ns ?_ ?_
  · exact ⟨oz, nz, cz, 0, v15, v93, u, rfl, by omega, Lib.hid hi⟩
  · rintro gh a wr ⟨oz, nz, cz, i, v15, v93, u, rfl, hg, HI⟩
    exact cr_round HI.out (by omega) hA hsm hr (fun hlt oz nz cz v15 v93 u wy hj => ⟨gh - 1, by omega, oz, nz, cz, i + 1, v15, v93, u, rfl, by omega, Lib.hid hj⟩) (fun oz nz cz j v15 v93 u wy hj h i' => by
      exact hX oz nz cz j v15 v93 u wy hj h i')
set_option maxRecDepth 100000 in
set_option maxHeartbeats 8000000 in
theorem partlogCrash_walk {roll step : Int} (hA : CrArgs w of os op oa nf cf ns cs np cp na ca fs L p1 p2) :
    Calls Tryz.prog 4 #[.agg #[.int .i64 roll, .int .i64 step, .slice of nf cf, .slice os ns cs, .slice op np cp, .slice oa na ca]] w fun e w' => e = .returned (.bool true) ∧ Below w.heap.size w w' := by
  have hmm := @run_makeMap Tryz.prog
  obtain ⟨w1, hw1⟩ : ∃ W : World, W = w.alloc (.cells #[.int .i64 roll, .int .i64 step, .slice of nf cf, .slice os ns cs, .slice op np cp, .slice oa na ca] 64) := ⟨_, rfl⟩
  obtain ⟨b1, hb1⟩ : ∃ b, b = w.heap.size := ⟨_, rfl⟩
  have g1 : w1.heap[b1]? = some (.cells #[.int .i64 roll, .int .i64 step, .slice of nf cf, .slice os ns cs, .slice op np cp, .slice oa na ca] 64 (0, 0)) := by rw [hw1, hb1]; exact alloc_cells _ _ _
  have hbl : Below w.heap.size w w1 := by rw [hw1]; exact (Below.refl _ _).alloc (Nat.le_refl _) _
  have k0 : w1.cell? ⟨b1, 0, none⟩ = some (.int .i64 roll) := cell_of g1 rfl
  have k1 : w1.cell? ⟨b1, 1, none⟩ = some (.int .i64 step) := cell_of g1 rfl
  have k2 : w1.cell? ⟨b1, 2, none⟩ = some (.slice of nf cf) := cell_of g1 rfl
  have k3 : w1.cell? ⟨b1, 3, none⟩ = some (.slice os ns cs) := cell_of g1 rfl
  have k4 : w1.cell? ⟨b1, 4, none⟩ = some (.slice op np cp) := cell_of g1 rfl
  have k5 : w1.cell? ⟨b1, 5, none⟩ = some (.slice oa na ca) := cell_of g1 rfl
  have lb1 := (Array.getElem?_eq_some_iff.1 g1).1
  have H1 := Lib.hid (And.intro hbl (hA.below hbl))
  clear g1 hbl hA
  go_enter Tryz.func4, Tryz.ntmps4
  obtain ⟨Q, hQ⟩ : ∃ Q, Q = bodyPost Tryz.prog Tryz.f4 fun e w' => e = Ending.returned (Value.bool true) ∧ Below w.heap.size w w' := ⟨_, rfl⟩
  rw [← hQ]
  have HQ : Hid (∀ (l : Array Value) (wx : World), l[2]? = some (.bool true) → Below w.heap.size w wx → Q .ret ⟨l, []⟩ wx) := Lib.hid (fun l wx hl hb => by
    rw [hQ]
    exact bodyPost_ret (v := .bool true) (by simp [results, Tryz.results4, go_sem, hl]) rfl ⟨rfl, hb⟩)
  clear hQ
  refine code_is (d := crC) (by kernel_rfl) ?_
  rw [cr_n0]
  refine wp_seq_k fun K0 hK0 => ?_
  have HK0 := Lib.hid hK0
  clear hK0
  conv => arg 2; whnf
  go_wp2_with fail
  rw [← hw1, ← hb1]
  clear hw1 hb1
  refine HK0.out _ _ ?_
  rw [cr_n1]
  refine wp_seq_k fun K1 hK1 => ?_
  have HK1 := Lib.hid hK1
  clear hK1
  conv => arg 2; whnf
  refine wp_region_noPanic ?_
  go_region
  refine NoPanic.normal ?_
  refine HK1.out _ _ ?_
  rw [cr_n2]
  refine wp_seq_k fun K2 hK2 => ?_
  have HK2 := Lib.hid hK2
  clear hK2
  obtain ⟨w2, hw2⟩ : ∃ W : World, W = (w1.alloc (.cells #[.int .i64 roll, .int .i64 step] 23)).drew := ⟨_, rfl⟩
  obtain ⟨b3, hb3⟩ : ∃ b, b = w1.heap.size := ⟨_, rfl⟩
  have g3 : w2.heap[b3]? = some (.cells #[.int .i64 roll, .int .i64 step] 23 (0, 0)) := by rw [hw2, hb3]; exact alloc_cells _ _ _
  have hb12 : Below w1.heap.size w1 w2 := by rw [hw2]; exact ((Below.refl _ _).alloc (Nat.le_refl _) _).trans ((bdrew _).mono (by simp))
  rw [← hw2, ← hb3]
  have H2 := Lib.hid (And.intro g3 (And.intro (H1.out.1.trans (hb12.mono H1.out.1.size)) (H1.out.2.below hb12)))
  have HVS := Lib.hid (vast11_b H2.out.2.2.steps H2.out.2.2.nsE)
  have HRT : Hid (nf ≤ 60 → Calls Tryz.prog 26 #[.slice of nf cf] w2 fun e w' => e = .returned (.bool (!fs.any badFate)) ∧ w' = w2) := Lib.hid (fun h60 => by
    have h1 := H2.out.2.2.fates
    rw [← H2.out.2.2.nfE] at h1
    have := refRightC_b h1 (by rw [H2.out.2.2.nfE]; omega)
    rw [H2.out.2.2.nfE] at this
    exact this)
  clear g3 hb12 hw2 hb3 k0 k1 k2 k3 k4 k5 lb1
  conv => arg 2; whnf
  go_upto_region 2 with fail
  go_cut [60] from 39 to 60 (fun s60 wx => ∃ b : Bool, s60 = .bool b ∧ Hid (wx = w2 ∧ (b = false → CrSmall fs L nf np na)))
  case first => as_aux_lemma =>
    by_cases hf : 60 < nf
    · have e1 : decide ((60 : Int) < (nf : Int)) = true := decide_eq_true (by omega)
      have e2 : decide (60 < nf) = true := decide_eq_true hf
      go_wp2_with fail
      go_meet
      exact ⟨true, rfl, Lib.hid ⟨rfl, fun h => by cases h⟩⟩
    have e1 : decide ((60 : Int) < (nf : Int)) = false := decide_eq_false (by omega)
    have e2 : decide (60 < nf) = false := decide_eq_false hf
    go_wp2_with fail
    refine HVS.out.mono ?_
    rintro e V ⟨b, rfl, hV, hsm⟩
    obtain rfl := hV.symm
    clear hV
    cases b
    case true =>
      clear hsm
      go_wp2_with fail
      go_meet
      exact ⟨true, rfl, Lib.hid ⟨rfl, fun h => by cases h⟩⟩
    case false =>
    have HSM := Lib.hid (hsm rfl)
    clear hsm
    cases hbad : fs.any badFate
    case true =>
      rw [hbad] at HRT
      go_wp2_with fail
      refine (HRT.out (by omega)).mono ?_
      rintro e V ⟨rfl, hV⟩
      obtain rfl := hV.symm
      clear hV
      go_wp2_with fail
      go_meet
      exact ⟨true, rfl, Lib.hid ⟨rfl, fun h => by cases h⟩⟩
    case false =>
    rw [hbad] at HRT
    go_wp2_with fail
    refine (HRT.out (by omega)).mono ?_
    rintro e V ⟨rfl, hV⟩
    obtain rfl := hV.symm
    clear hV
    by_cases hp : 100 < np
    · have e3 : decide ((100 : Int) < (np : Int)) = true := decide_eq_true (by omega)
      have e4 : decide (100 < np) = true := decide_eq_true hp
      go_wp2_with fail
      go_meet
      exact ⟨true, rfl, Lib.hid ⟨rfl, fun h => by cases h⟩⟩
    have e3 : decide ((100 : Int) < (np : Int)) = false := decide_eq_false (by omega)
    have e4 : decide (100 < np) = false := decide_eq_false hp
    by_cases ha : 100 < na
    · have e5 : decide ((100 : Int) < (na : Int)) = true := decide_eq_true (by omega)
      have e6 : decide (100 < na) = true := decide_eq_true ha
      go_wp2_with fail
      go_meet
      exact ⟨true, rfl, Lib.hid ⟨rfl, fun h => by cases h⟩⟩
    have e5 : decide ((100 : Int) < (na : Int)) = false := decide_eq_false (by omega)
    have e6 : decide (100 < na) = false := decide_eq_false ha
    have HBD := Lib.hid hbad
    clear hbad
    go_wp2_with fail
    go_meet
    exact ⟨false, rfl, Lib.hid ⟨rfl, fun _ => ⟨by omega, HSM.out, HBD.out, by omega, by omega⟩⟩⟩
  case rest =>
    obtain ⟨b, rfl, HC⟩ := hcut
    obtain ⟨hwc, hsm⟩ := HC.out
    obtain rfl := hwc.symm
    clear hwc HVS HRT HC
    cases b
    case true => as_aux_lemma =>
      clear hsm
      go_wp2_with fail
      refine (known11_b w2).mono ?_
      rintro e w3 ⟨rfl, hb3'⟩
      have HE := Lib.hid (H2.out.2.1.trans (hb3'.mono H2.out.2.1.size))
      clear hb3'
      go_wp2_with fail
      exact HQ.out _ _ (by rfl) HE.out
    case false =>
    have HSM := Lib.hid (hsm rfl)
    clear hsm
    go_wp2_with fail
    refine HK2.out _ _ ?_
    clear HK0 HK1 HK2
    rw [cr_n3]
    refine wp_seq_k fun K3 hK3 => ?_
    have HK3 := Lib.hid hK3
    clear hK3
    have HNF := Lib.hid (newF_b H2.out.2.2.nfE H2.out.2.2.fates (by have := HSM.out.nf60; omega) HSM.out.right)
    conv => arg 2; whnf
    go_wp2_with fail
    refine HNF.out.mono ?_
    rintro e w3 ⟨q, rfl, hd3, hb3'⟩
    have HO := Lib.hid (openC_b hd3 hb3' roll step)
    have g33 := (hb3'.block b3 (Array.getElem?_eq_some_iff.1 H2.out.1).1).trans H2.out.1
    have k30 : w3.cell? ⟨b3, 0, none⟩ = some (.int .i64 roll) := cell_of g33 rfl
    have k31 : w3.cell? ⟨b3, 1, none⟩ = some (.int .i64 step) := cell_of g33 rfl
    clear hd3 hb3' g33 HNF
    go_wp2_with fail
    refine HK3.out _ _ ?_
    rw [cr_n4]
    refine wp_seq_k fun K4 hK4 => ?_
    have HK4 := Lib.hid hK4
    clear hK4
    have hpn : (⟨#[112]⟩ : ByteArray) = pName := rfl
    conv => arg 2; whnf
    go_wp2_with fail
    refine HO.out.mono ?_
    rintro e w4 ho
    clear HO k30 k31 hpn HK3
    rcases ho with ⟨er, her, rfl, hb4⟩ | ⟨lp, r, st, d, hr, hs, rfl, hh, hc, hrr, hss⟩
    · as_aux_lemma =>
      have HE := Lib.hid (H2.out.2.1.trans (hb4.mono H2.out.2.1.size))
      have her2 : (er == 0) = false := beq_eq_false_iff_ne.2 her
      have her3 : (er != 0) = true := by unfold bne; rw [her2]; rfl
      clear hb4
      go_wp2_with fail
      refine HK4.out _ _ ?_
      rw [cr_n5]
      refine wp_seq_k fun K5 hK5 => ?_
      clear hK5
      conv => arg 2; whnf
      go_wp2_with fail
      refine (known11_b w4).mono ?_
      rintro e w5 ⟨rfl, hb5⟩
      have HE2 := Lib.hid (HE.out.trans (hb5.mono HE.out.size))
      clear hb5
      go_wp2_with fail
      exact HQ.out _ _ (by rfl) HE2.out
    subst hr
    subst hs
    have HH := Lib.hid (And.intro hh (And.intro hc (And.intro hrr hss)))
    clear hh hc hrr hss
    go_wp2_with fail
    refine HK4.out _ _ ?_
    rw [cr_n5]
    refine wp_seq_k fun K5 hK5 => ?_
    have HK5 := Lib.hid hK5
    clear hK5
    conv => arg 2; whnf
    go_wp2_with fail
    refine HK5.out _ _ ?_
    rw [cr_n6]
    refine wp_seq_k fun K6 hK6 => ?_
    have HK6 := Lib.hid hK6
    clear hK6
    conv => arg 2; whnf
    go_wp2_with fail
    refine HK6.out _ _ ?_
    rw [cr_n7]
    refine wp_seq_k fun K7 hK7 => ?_
    have HK7 := Lib.hid hK7
    clear hK7 HK4 HK5 HK6
    obtain ⟨w5, hw5⟩ : ∃ W : World, W = w4.alloc (.map #[] 0) := ⟨_, rfl⟩
    obtain ⟨mb, hmb⟩ : ∃ b, b = w4.heap.size := ⟨_, rfl⟩
    have hown : w5.ownsMap Tryz.prog 2 (plainElem (H := Unit) Tryz.prog 3) mb 0 (.map []) := by rw [hw5, hmb]; exact World.ownsMap_made _ _ _ _
    obtain ⟨w6, hrun, hown6, hg6⟩ := hown.update (t := 66) (int_keyed Tryz.underlying2) Tryz.underlying66 (by decide) (key_i64 (k := 0) (by omega)) (plainElem_int Tryz.underlying3 (a := 1) (by decide))
    have hb45 : Below w4.heap.size w4 w5 := by rw [hw5]; exact (Below.refl _ _).alloc (Nat.le_refl _) _
    have hz5 : w5.heap.size = w4.heap.size + 1 := by rw [hw5]; simp
    have hs6 : CrS w2 w6 lp q r st _ Lg.zero d [] [] [] [] 1 _ (.slice none 0 0) 0 mb 0 := {
      home := (HH.out.1.more hb45).off (Y := fun k => k = mb) (Only.of_grown hg6 (fun k hk => by simpa using hk.symm)) (fun k hk => by subst hk; have := HH.out.1.below.size; exact ⟨.inr ⟨by omega, by omega⟩, by omega⟩)
      cri := HH.out.2.1
      recs := rfl
      len := rfl
      row := RowP.nil _ _
      map := hown6
      ends := EndsI.zero
      mbX := by have := HH.out.1.below.size; exact ⟨.inl (.inr ⟨by omega, by omega⟩), by omega⟩
      few := ⟨by omega, by omega⟩ }
    have HS6 : Hid (CrJ true w2 w6 lp q r st (.slice none 0 0) 0 mb 0) := Lib.hid ⟨_, _, _, _, _, _, _, _, _, hs6, fun _ => rfl⟩
    have hrun : (Instr.mapUpdate 66 (.map (some mb)) (.int .i64 0) (.int .i64 1)).run Tryz.prog w5 = .ok () w6 := hrun
    rw [hw5, hmb] at hrun
    have HM := Lib.hid hmb
    clear hown hown6 hg6 hb45 hz5 hs6 hw5 hmb
    conv => arg 2; whnf
    go_wp2_with fail
    rw [← HM.out]
    refine HK7.out _ _ ?_
    rw [cr_x]
    refine wp_seq_k fun Kt hKt => ?_
    have HKt := Lib.hid hKt
    clear hKt HK7 hrun HM
    rw [cr_loop]
    refine wp_seq_k fun K8 hK8 => ?_
    have HK8 := Lib.hid hK8
    clear hK8
    conv => arg 2; whnf
    go_wp2_with fail
    refine HK8.out _ _ ?_
    refine frC_go (os := os) (op := op) (oa := oa) (oz := none) (b3 := b3) (ns := ns) (cs := cs) (np := np) (cp := cp) (na := na) (ca := ca) (q := q) (lp := lp) (nz := 0) (cz := 0) (mb := mb) (i := 0) (v15 := undef) (v93 := undef) (by kernel_rfl) (fun u1 => ?_)
    refine cr_loop_b HS6.out H2.out.2.2 HSM.out HH.out.2.2.1 (fun oz nz cz j v15 v93 u wy hj hcj i' => ?_)
    refine HKt.out _ _ ?_
    have hbw : Below w2.heap.size w2 wy := by
      obtain ⟨X, g, d, ys, A0, B0, XX, k, D, hs, -⟩ := hcj
      exact hs.home.below
    exact cr_tail hcj (by have := HSM.out.small.1; rw [H2.out.2.2.nsE] at this; omega) H2.out.2.2 HSM.out H2.out.1 HH.out.2.2.1 HH.out.2.2.2 (fun l wx hl hb => HQ.out l wx hl (H2.out.2.1.trans ((hbw.trans (hb.mono hbw.size)).mono H2.out.2.1.size)))
end
end Go.Proofs.YtlgcoaeddeiegaaGreat
