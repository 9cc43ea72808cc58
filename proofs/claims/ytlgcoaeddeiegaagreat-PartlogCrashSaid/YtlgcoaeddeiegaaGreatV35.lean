/- The texts Xn in one. -/
import Derived.Test.YtlgcoaeddeiegaaGreatV34
import Derived.Test.YtlgcoaeddeiegaaGreatV15
/- law11: PartlogCrash: behind its loop. -/
namespace Go.Proofs.YtlgcoaeddeiegaaGreat
open Go Go.Maps Go.RowKit
attribute [local go_sem] Oper.semAt_some

structure CrArgs (w : World) (of os op oa : Option Addr) (nf cf ns cs np cp na ca : Nat) (fs : List (Int × Int)) (L : List StpV) (p1 p2 : List Int) : Prop where
  fates : readAt w 2 (.slice of nf cf) nf (fateCells fs)
  steps : StepsAt w (.slice os ns cs) L
  picks : readAt w 1 (.slice op np cp) np (intCells p1)
  again : readAt w 1 (.slice oa na ca) na (intCells p2)
  nfE : fs.length = nf
  nsE : L.length = ns
  npE : p1.length = np
  naE : p2.length = na
  big1 : ∀ x ∈ p1, x ≤ 9223372036854775807
  big2 : ∀ x ∈ p2, x ≤ 9223372036854775807
  lens : nf ≤ 9223372036854775807 ∧ np ≤ 9223372036854775807 ∧ na ≤ 9223372036854775807
theorem readAt.belowC {w w' : World} {s n : Nat} {v : Value} {xs : List Value} (h : readAt w s v n xs) (hb : Below w.heap.size w w') : readAt w' s v n xs := h.kept (fun k hk _ _ => hb.block k hk)
structure CrSmall (fs : List (Int × Int)) (L : List StpV) (nf np na : Nat) : Prop where
  nf60 : nf ≤ 60
  small : SmallS L
  right : fs.any badFate = false
  np100 : np ≤ 100
  na100 : na ≤ 100
theorem CrArgs.below {w w' : World} {of os op oa : Option Addr} {nf cf ns cs np cp na ca : Nat} {fs : List (Int × Int)} {L : List StpV} {p1 p2 : List Int} (h : CrArgs w of os op oa nf cf ns cs np cp na ca fs L p1 p2) (hb : Below w.heap.size w w') : CrArgs w' of os op oa nf cf ns cs np cp na ca fs L p1 p2 :=
  { h with fates := h.fates.belowC hb, steps := h.steps.below hb, picks := h.picks.belowC hb, again := h.again.belowC hb }
theorem LeftL.holds {log : ByteArray} {g g' : Lg} {A0 B0 X : List Bat} {d' : Dk} {tl : List UInt8} (h : LeftL log g A0 B0 X d' g' tl) {R : List Rc} (hR : R = recsT (A0 ++ B0 ++ g.bats ++ X)) {D : DataW Unit} (hE : EndsI D (A0 ++ B0 ++ g.bats ++ X)) :
    D.atKey (.int .i64 (g'.fin : Int)) (.lit (.int .i64 0)) = .lit (.int .i64 1) ∧ g'.fin ≤ R.length ∧ g'.recs = (R.drop g'.begin).take (g'.fin - g'.begin) := by
  obtain ⟨A', X', e1, e2⟩ := h.parts
  rw [← e2] at hR hE
  have hf := h.old.ok.fin_bats
  have hfin : cntT ((A' ++ g'.bats ++ X').take (A' ++ g'.bats).length) = g'.fin := by
    rw [List.take_append_of_le_length (Nat.le_refl _), List.take_length, cntT_append, e1, hf]
  refine ⟨?_, ?_, ?_⟩
  · have := hE.at' (A' ++ g'.bats).length (by rw [List.length_append (bs := X')]; omega)
    rw [hfin] at this
    exact this
  · rw [hR, recsT_len, cntT_append, cntT_append, e1, hf]
    omega
  · rw [hR, recsT_append, recsT_append, ← e1, ← recsT_len, List.append_assoc, List.drop_append_of_le_length (Nat.le_refl _), List.drop_length, List.nil_append, g'.recs_bats, List.take_append_of_le_length (by rw [recsT_len, recsT_len, hf, e1]; omega), List.take_of_length_le]
    rw [recsT_len, recsT_len, hf, e1]
    omega
set_option maxRecDepth 100000 in
set_option maxHeartbeats 8000000 in
theorem cr_tail {w2 wr : World} {of os op oa oz : Option Addr} {b3 nf cf ns cs np cp na ca q lp nz cz mb i r st t : Nat} {v15 v93 : Value} {u : Nat → Value} {fs : List (Int × Int)} {L : List StpV} {p1 p2 : List Int} {Q : Exit → Act → World → Prop}
    (hi : CrJ false w2 wr lp q r st (.slice oz nz cz) nz mb t) (ht : t ≤ 60) (hA : CrArgs w2 of os op oa nf cf ns cs np cp na ca fs L p1 p2) (hsm : CrSmall fs L nf np na) (g3 : w2.heap[b3]? = some (.cells #[.int .i64 (r : Int), .int .i64 (st : Int)] 23 (0, 0))) (hr : 1 ≤ r ∧ r ≤ 16711680) (hst : 1 ≤ st ∧ st ≤ 16777216)
    (hK : ∀ (l : Array Value) (wx : World), l[2]? = some (.bool true) → Below wr.heap.size wr wx → Q .ret ⟨l, []⟩ wx) :
    Code.wp Tryz.prog crTail Q ⟨frC os op oa oz b3 ns cs np cp na ca q lp nz cz mb i v15 v93 u, []⟩ wr := by
  obtain ⟨X, g, d, ys, A0, B0, XX, k, D, hs, -⟩ := hi
  have hpn : (⟨#[112]⟩ : ByteArray) = pName := rfl
  have HK := Lib.hid hK
  have hnz : nz ≤ 1800 := by have := hs.few; omega
  have hAr := hA.below hs.home.below
  have g3r := (hs.home.below.block b3 (Array.getElem?_eq_some_iff.1 g3).1).trans g3
  have HS := Lib.hid (And.intro hs (And.intro hAr (And.intro hsm (And.intro g3r (And.intro hr hst)))))
  have hst := homeState_b hs.home
  obtain ⟨vb, hvb⟩ : ∃ x : Int, x = (g.begin : Int) := ⟨_, rfl⟩
  obtain ⟨vf, hvf⟩ : ∃ x : Int, x = (g.fin : Int) := ⟨_, rfl⟩
  obtain ⟨vs, hvs⟩ : ∃ x : Int, x = (g.stands : Int) := ⟨_, rfl⟩
  obtain ⟨vn, hvn⟩ : ∃ x : Int, x = (g.segs.length : Int) := ⟨_, rfl⟩
  obtain ⟨vd, hvd⟩ : ∃ x : Bool, x = g.dead := ⟨_, rfl⟩
  unfold stateV at hst
  rw [← hvb, ← hvf, ← hvs, ← hvn, ← hvd] at hst
  have HST := Lib.hid hst
  have HV := Lib.hid (And.intro hvb hvs)
  clear hst hvb hvf hvs hvn hvd hs hAr hA hsm g3 g3r hr hK
  unfold frC
  conv => arg 2; whnf
  go_wp2_with fail
  refine HST.out.mono ?_
  rintro e w3 ⟨rfl, hb3'⟩
  obtain ⟨w4, hw4⟩ : ∃ W : World, W = w3.alloc (.cells #[.int .i64 vb, .int .i64 vf, .int .i64 vs, .int .i64 vn, .bool vd] 60) := ⟨_, rfl⟩
  obtain ⟨b20, hb20⟩ : ∃ b, b = w3.heap.size := ⟨_, rfl⟩
  have g20 : w4.heap[b20]? = some (.cells #[.int .i64 vb, .int .i64 vf, .int .i64 vs, .int .i64 vn, .bool vd] 60 (0, 0)) := by rw [hw4, hb20]; exact alloc_cells _ _ _
  have hb34 : Below w3.heap.size w3 w4 := by rw [hw4]; exact (Below.refl _ _).alloc (Nat.le_refl _) _
  have hbr4 : Below wr.heap.size wr w4 := hb3'.trans (hb34.mono hb3'.size)
  have hs4 := HS.out.1.later hbr4
  obtain ⟨S, T, hd4, -⟩ := hs4.home.log'
  have HCR := Lib.hid (crashL_b hd4.disk HS.out.2.1.npE (HS.out.2.1.picks.belowC hbr4) (by have := HS.out.2.2.1.np100; omega) HS.out.2.1.big1)
  have H4 := Lib.hid (And.intro g20 hbr4)
  clear g20 hb34 hbr4 hs4 hd4 hb3' HST
  go_upto_region 34 with fail
  rw [← hw4, ← hb20]
  clear hw4 hb20
  go_wp2_with fail
  refine HCR.out.mono ?_
  rintro e w5 (⟨rfl, hb5⟩ | ⟨q2, rfl, hd5, hb5⟩)
  · as_aux_lemma =>
    have HE := Lib.hid (H4.out.2.trans (hb5.mono H4.out.2.size))
    clear hb5 HCR
    go_wp2_with fail
    refine (known11_b w5).mono ?_
    rintro e w6 ⟨rfl, hb6⟩
    have HE2 := Lib.hid (HE.out.trans (hb6.mono HE.out.size))
    clear hb6
    go_wp2_with fail
    exact HK.out _ _ (by rfl) HE2.out
  have hsor : ((d.crash p1).files.map (·.name)).Pairwise (· < ·) := by
    obtain ⟨mb, fv, Lf, hh⟩ := hd5
    exact hh.sorted
  obtain ⟨g', tl, hleft⟩ := HS.out.1.cri.crash pName_ok p1 hsor
  obtain ⟨hD, hfn, hrec⟩ := hleft.holds HS.out.1.recs HS.out.1.ends
  rw [List.length_map, HS.out.1.len] at hfn
  have hbr5 : Below wr.heap.size wr w5 := H4.out.2.trans (hb5.mono H4.out.2.size)
  have g35 := (hbr5.block b3 (Array.getElem?_eq_some_iff.1 HS.out.2.2.2.1).1).trans HS.out.2.2.2.1
  have k30 : w5.cell? ⟨b3, 0, none⟩ = some (.int .i64 (r : Int)) := cell_of g35 rfl
  have k31 : w5.cell? ⟨b3, 1, none⟩ = some (.int .i64 (st : Int)) := cell_of g35 rfl
  have HO1 := Lib.hid (againL_b hd5 hb5 hleft.old (by decide) pName_ok HS.out.2.2.2.2.1 HS.out.2.2.2.2.2)
  have HL := Lib.hid (And.intro hleft.begin (And.intro hleft.stands (And.intro hD (And.intro hfn hrec))))
  clear hsor hleft hD hfn hrec hbr5 g35 hd5 hb5 HCR
  go_wp2_with fail
  refine HO1.out.mono ?_
  rintro e w6 ⟨lp2, d2, rfl, ⟨S2, T2, hd6⟩, hold6, hb46⟩
  have hbr6 : Below wr.heap.size wr w6 := H4.out.2.trans (hb46.mono H4.out.2.size)
  have g206 := (hb46.block b20 (Array.getElem?_eq_some_iff.1 H4.out.1).1).trans H4.out.1
  have p0 : w6.cell? ⟨b20, 0, none⟩ = some (.int .i64 vb) := cell_of g206 rfl
  have p1' : w6.cell? ⟨b20, 1, none⟩ = some (.int .i64 vf) := cell_of g206 rfl
  have p2' : w6.cell? ⟨b20, 2, none⟩ = some (.int .i64 vs) := cell_of g206 rfl
  have p3 : w6.cell? ⟨b20, 3, none⟩ = some (.int .i64 vn) := cell_of g206 rfl
  have p4 : w6.cell? ⟨b20, 4, none⟩ = some (.bool vd) := cell_of g206 rfl
  have hs6 := HS.out.1.later hbr6
  have HHO := Lib.hid (holds_b (sb := vb) (ss := vs) (se := vf) (sn := vn) (sd := vd) hd6 hold6.fit.toQ hold6.stands hs6.row.is hs6.len (by omega) hs6.map HL.out.2.2.1 (by rw [HV.out.2]; have := HL.out.2.1; omega) HL.out.2.2.2.1 (by rw [HV.out.1]; have := HL.out.1; omega) HL.out.2.2.2.2)
  have H6 := Lib.hid (And.intro hd6 (And.intro hold6 (And.intro hbr6 hb46)))
  clear hd6 hold6 hbr6 g206 hs6 hb46 HO1 k30 k31
  go_wp2_with fail
  refine HHO.out.mono ?_
  rintro e w7 ⟨rfl, hb7⟩
  have hbr7 : Below wr.heap.size wr w7 := H6.out.2.2.1.trans (hb7.mono H6.out.2.2.1.size)
  have HCR2 := Lib.hid (crashL_b (H6.out.1.later hb7).disk HS.out.2.1.naE (HS.out.2.1.again.belowC hbr7) (by have := HS.out.2.2.1.na100; omega) HS.out.2.1.big2)
  have H7 := Lib.hid (And.intro hb7 hbr7)
  clear hb7 hbr7 HHO p0 p1' p2' p3 p4
  go_wp2_with fail
  refine HCR2.out.mono ?_
  rintro e w8 (⟨rfl, hb8⟩ | ⟨q3, rfl, hd8, hb8⟩)
  · as_aux_lemma =>
    have HE := Lib.hid (H7.out.2.trans (hb8.mono H7.out.2.size))
    clear hb8 HCR2
    go_wp2_with fail
    refine (known11_b w8).mono ?_
    rintro e w9 ⟨rfl, hb9⟩
    have HE2 := Lib.hid (HE.out.trans (hb9.mono HE.out.size))
    clear hb9
    go_wp2_with fail
    exact HK.out _ _ (by rfl) HE2.out
  have hbr8 : Below wr.heap.size wr w8 := H7.out.2.trans (hb8.mono H7.out.2.size)
  have g38 := (hbr8.block b3 (Array.getElem?_eq_some_iff.1 HS.out.2.2.2.1).1).trans HS.out.2.2.2.1
  have k30 : w8.cell? ⟨b3, 0, none⟩ = some (.int .i64 (r : Int)) := cell_of g38 rfl
  have k31 : w8.cell? ⟨b3, 1, none⟩ = some (.int .i64 (st : Int)) := cell_of g38 rfl
  have HO2 := Lib.hid (againL_b hd8 hb8 (H6.out.2.1.again p2) (by decide) pName_ok HS.out.2.2.2.2.1 HS.out.2.2.2.2.2)
  clear hbr8 g38 hd8 hb8 HCR2
  go_wp2_with fail
  refine HO2.out.mono ?_
  rintro e w9 ⟨lp3, d3, rfl, ⟨S3, T3, hd9⟩, hold9, hb79⟩
  have hbr9 : Below wr.heap.size wr w9 := H7.out.2.trans (hb79.mono H7.out.2.size)
  have hb69 : Below w6.heap.size w6 w9 := H7.out.1.trans (hb79.mono H7.out.1.size)
  have hs9 := HS.out.1.later hbr9
  have hsv : stateV g' = .agg #[.int .i64 (g'.begin : Int), .int .i64 (g'.fin : Int), .int .i64 (g'.fin : Int), .int .i64 (g'.segs.length : Int), .bool g'.dead] := by
    unfold stateV
    rw [H6.out.2.1.stands]
  obtain ⟨xb, hxb⟩ : ∃ x : Int, x = (g'.begin : Int) := ⟨_, rfl⟩
  obtain ⟨xf, hxf⟩ : ∃ x : Int, x = (g'.fin : Int) := ⟨_, rfl⟩
  obtain ⟨xn, hxn⟩ : ∃ x : Int, x = (g'.segs.length : Int) := ⟨_, rfl⟩
  obtain ⟨xd, hxd⟩ : ∃ x : Bool, x = g'.dead := ⟨_, rfl⟩
  rw [← hxb, ← hxf, ← hxn, ← hxd] at hsv
  have HSX : Hid (∀ W, Below w9.heap.size w9 W → Calls Tryz.prog 25 #[.pointer (some ⟨lp2, 0, none⟩)] W fun e w' => e = .returned (.agg #[.int .i64 xb, .int .i64 xf, .int .i64 xf, .int .i64 xn, .bool xd]) ∧ Below W.heap.size W w') := Lib.hid (fun W hb => by
    obtain ⟨G, a, pv, hm⟩ := (H6.out.1.later (hb69.trans (hb.mono hb69.size))).log'
    rw [← hsv]
    exact logState_b hm)
  have HSY : Hid (∀ W, Below w9.heap.size w9 W → Calls Tryz.prog 25 #[.pointer (some ⟨lp3, 0, none⟩)] W fun e w' => e = .returned (.agg #[.int .i64 xb, .int .i64 xf, .int .i64 xf, .int .i64 xn, .bool xd]) ∧ Below W.heap.size W w') := Lib.hid (fun W hb => by
    obtain ⟨G, a, pv, hm⟩ := (hd9.later hb).log'
    rw [← hsv]
    exact logState_b hm)
  have HHP : Hid (∀ W, Below w9.heap.size w9 W → Calls Tryz.prog 30 #[.pointer (some ⟨lp3, 0, none⟩), .agg #[.int .i64 xb, .int .i64 xf, .int .i64 xf, .int .i64 xn, .bool xd], .slice oz nz cz, .map (some mb)] W fun e w' => e = .returned (.bool true) ∧ Below W.heap.size W w') := Lib.hid (fun W hb =>
    holds_b (hd9.later hb) hold9.fit.toQ hold9.stands (hs9.later hb).row.is hs9.len (by omega) (hs9.later hb).map HL.out.2.2.1 (by rw [hxf]; exact Int.le_refl _) HL.out.2.2.2.1 (by rw [hxb]; exact Int.le_refl _) HL.out.2.2.2.2)
  have H9 := Lib.hid hbr9
  have hfl : ∀ (a1 a2 a3 a4 : Int) (a5 : Bool) (W : World), (Instr.field 60 (.agg #[.int .i64 a1, .int .i64 a2, .int .i64 a3, .int .i64 a4, .bool a5]) 1).run Tryz.prog W = .ok (.int .i64 a2) W := fun _ _ _ _ _ _ => by kernel_rfl
  clear hbr9 hb69 hs9 hsv hxb hxf hxn hxd hd9 hold9 hb79 HO2 k30 k31
  go_wp2_with fail
  refine (HSX.out w9 (Below.refl _ _)).mono ?_
  rintro e w10 ⟨rfl, hb10⟩
  have H10 := Lib.hid hb10
  clear hb10
  go_wp2_with fail
  refine (HHP.out w10 H10.out).mono ?_
  rintro e w11 ⟨rfl, hb11⟩
  have H11 := Lib.hid (H10.out.trans (hb11.mono H10.out.size))
  clear hb11 H10
  go_wp2_with fail
  refine (HSY.out w11 H11.out).mono ?_
  rintro e w12 ⟨rfl, hb12⟩
  have H12 := Lib.hid (H11.out.trans (hb12.mono H11.out.size))
  clear hb12 H11
  go_wp2_with fail
  refine (HSX.out w12 H12.out).mono ?_
  rintro e w13 ⟨rfl, hb13⟩
  have H13 := Lib.hid (H12.out.trans (hb13.mono H12.out.size))
  clear hb13 H12
  go_wp2_with fail
  refine (known11_b w13).mono ?_
  rintro e w14 ⟨rfl, hb14⟩
  have H14 := Lib.hid (H9.out.trans ((H13.out.trans (hb14.mono H13.out.size)).mono H9.out.size))
  clear hb14 H13
  go_wp2_with fail
  exact HK.out _ _ (by rfl) H14.out
end Go.Proofs.YtlgcoaeddeiegaaGreat
