/- QuotaHolds: the walk. -/
import Derived.Test.YtbpnhpjcepgiiaaQs
import Derived.Deep.LoopGhost
import Derived.Deep.CutRange
namespace Go.Proofs.Ytbpnhpjcepgiiaa
open Go.RowKit Fl

set_option maxRecDepth 100000 in
set_option maxHeartbeats 20000000 in
theorem holds_yes (r u : Nat) (ac at_ : Option Addr) (lc cc lt ct : Nat) (fc : Nat → Nat) (ft : Nat → Int) (w : World) (hr : r < 18446744073709551616) (hu : u < 18446744073709551616)
    (hc : FloatsAt w ac lc fc) (ht : TimesAt w at_ lt ft) (H0 : Hid (quotaB r u = true)) (h1 : lc ≤ 60) (h2 : lt ≤ 60) :
    Calls Try.prog 3 #[.agg #[.float .f64 r, .float .f64 u], .slice ac lc cc, .slice at_ lt ct] w fun e w' => e = .returned (.bool true) ∧ Below w.heap.size w w' := by
  have HR := Lib.hid hr
  have HU := Lib.hid hu
  have HC := Lib.hid hc
  have HT := Lib.hid ht
  have hd1 : decide ((60 : Int) < (lc : Int)) = false := by simp; omega
  have hd2 : decide ((60 : Int) < (lt : Int)) = false := by simp; omega
  have hnu : NN u ∧ NN r ∧ u < inf := by
    have h := H0.out
    simp only [quotaB, Bool.and_eq_true, decide_eq_true_eq] at h
    exact ⟨.inl h.2.2, (nnW_iff r).1 h.1, h.2.2⟩
  have HN := Lib.hid hnu
  clear hr hu hc ht hnu
  go_enter Try.func3, Try.ntmps3
  go_wp2_with fail
  refine (may_any r u _ HR.out HU.out).mono ?_
  rintro e w1 ⟨rfl, hb1⟩
  rw [H0.out]
  have hx0 : Hid (w1.cell? ⟨w.heap.size, 0, none⟩ = some (.float .f64 r) ∧ w1.cell? ⟨w.heap.size, 1, none⟩ = some (.float .f64 u)) := by
    refine Lib.hid ⟨?_, ?_⟩ <;> (rw [hb1.cell (by simp)]; simp [go_sem])
  have W1 : Hid (Below w.heap.size w w1) := Lib.hid (((Below.refl _ _).alloc (Nat.le_refl _) _).trans (hb1.mono (by simp)))
  have hsz1 : w.heap.size < w1.heap.size := by have := hb1.size; simp at this; omega
  clear hb1
  obtain ⟨x0, x1⟩ := hx0.out
  go_wp2_with fail
  refine (new_b r u 0 _ H0.out HR.out HU.out (by decide) (by decide)).mono ?_
  rintro e w2 ⟨q, hq, rfl, hq2, hb2⟩
  have W2 : Hid (Below w1.heap.size w1 w2) := Lib.hid hb2
  have Q2 := Lib.hid hq2
  clear hb2 hq2
  have y0 : w2.cell? ⟨w.heap.size, 0, none⟩ = some (.float .f64 r) := by rw [W2.out.cell (p := ⟨w.heap.size, 0, none⟩) hsz1]; exact x0
  have y1 : w2.cell? ⟨w.heap.size, 1, none⟩ = some (.float .f64 u) := by rw [W2.out.cell (p := ⟨w.heap.size, 1, none⟩) hsz1]; exact x1
  clear x0 x1
  go_wp2_with fail
  refine (num_any 0 _).mono ?_
  rintro e w' ⟨rfl, rfl⟩
  go_upto_region 7 with fail
  go_cut [10] from 49 to 56 (fun s wx => ∃ sm, s = .bool sm ∧ (sm = true → Whole r ∧ Whole u) ∧ wx = w2)
  case first => as_aux_lemma =>
    go_wp2_with fail
    refine (whole_any r _ HN.out.2.1 HR.out).mono ?_
    rintro e w' ⟨s1, rfl, hs1, rfl⟩
    have HS1 := Lib.hid hs1
    clear hs1
    cases s1 with
    | false =>
      go_wp2_with fail
      go_meet
      case rel => exact ⟨false, rfl, fun h => by simp at h, rfl⟩
    | true =>
      go_wp2_with fail
      refine (whole_any u _ HN.out.1 HU.out).mono ?_
      rintro e w' ⟨s2, rfl, hs2, rfl⟩
      have HS2 := Lib.hid hs2
      clear hs2
      go_wp2_with fail
      go_meet
      case rel => exact ⟨s2, rfl, fun h => ⟨HS1.out (by trivial), HS2.out h⟩, rfl⟩
  case rest =>
    obtain ⟨sm0, rfl, hsm, rfl⟩ := hcut
    have HSM := Lib.hid hsm
    clear hsm
    go_wp2_with fail
    go_loopg [9, 10, 11] lc (fun g s9 s10 s11 wr => ∃ (now : Int) (sm : Bool) (k : Nat) (b : Bk) (bs : List Bk), s9 = .int .i64 now ∧ s10 = .bool sm ∧ s11 = .int .i64 k ∧ g = lc - k ∧ k ≤ lc ∧
      Hid (HasQ wr q bs ∧ bs[0]? = some b ∧ bs[1]? = some (newB r u 0) ∧ HI r u b now sm k ∧ Below w1.heap.size w1 wr))
    case atStart =>
      exact ⟨0, sm0, 0, newB r u 0, _, rfl, rfl, rfl, rfl, Nat.zero_le _, Lib.hid ⟨Q2.out, repl_get 0 _ (by decide), repl_get 1 _ (by decide),
        ⟨rfl, rfl, newB_ok r u 0 H0.out (by decide) (by decide), rfl, Int.le_refl 0, Int.le_refl 0, fun h => Sm.new r u (HSM.out h).1 (HSM.out h).2 HN.out.2.2⟩, W2.out⟩⟩
    case round =>
      obtain ⟨now, sm, k, b, bs, rfl, rfl, rfl, hg, hk, HI0⟩ := hrel
      have z0 : wr.cell? ⟨w.heap.size, 0, none⟩ = some (.float .f64 r) := by rw [HI0.out.2.2.2.2.cell (p := ⟨w.heap.size, 0, none⟩) hsz1]; exact hx0.out.1
      have z1 : wr.cell? ⟨w.heap.size, 1, none⟩ = some (.float .f64 u) := by rw [HI0.out.2.2.2.2.cell (p := ⟨w.heap.size, 1, none⟩) hsz1]; exact hx0.out.2
      clear y0 y1
      by_cases hkk : k < lc ∧ k < lt
      · have hdk1 : decide ((k : Int) < (lc : Int)) = true := by simp; omega
        have hdk2 : decide ((k : Int) < (lt : Int)) = true := by simp; omega
        obtain ⟨adc, hac, cc0, _, hfc⟩ := ((HC.out.below W1.out).below (HI0.out.2.2.2.2)) k hkk.1
        obtain ⟨adt, hat, ct0, _⟩ := ((HT.out.below W1.out).below (HI0.out.2.2.2.2)) k hkk.2
        subst hac hat
        have HFC := Lib.hid hfc
        clear hfc
        go_wp2_with fail
        refine (refcost_any (fc k) _ HFC.out).mono ?_
        rintro e w3 ⟨rfl, n3, rfl⟩
        have CS1 : Hid (CellsR w1 w.heap.size r u adc adt k (fc k) (ft k)) := by
          obtain ⟨a1, ha1, c1, hb1, _⟩ := (HC.out.below W1.out) k hkk.1
          obtain ⟨a2, ha2, c2, hb2⟩ := (HT.out.below W1.out) k hkk.2
          obtain rfl := Option.some.inj ha1
          obtain rfl := Option.some.inj ha2
          exact Lib.hid ⟨hx0.out.1, hx0.out.2, c1, c2, hsz1, hb1, hb2⟩
        cases hcb : nnW (fc k) with
        | false => as_aux_lemma =>
          go_wp2_with fail
          go_roundg (lc - (k + 1))
          case measure => omega
          case rel => exact ⟨_, _, k + 1, b, bs, rfl, rfl, rfl, rfl, hkk.1, Lib.hid ⟨HI0.out.1.of rfl, HI0.out.2.1, HI0.out.2.2.1, HI0.out.2.2.2.1.next, below_drewN HI0.out.2.2.2.2 _⟩⟩
        | true =>
          go_wp2_with fail
          refine (reftime_any (ft k) _).mono ?_
          rintro e w4 ⟨rfl, rfl⟩
          cases htb : timeB (ft k) with
          | false => as_aux_lemma =>
            go_wp2_with fail
            go_roundg (lc - (k + 1))
            case measure => omega
            case rel => exact ⟨_, _, k + 1, b, bs, rfl, rfl, rfl, rfl, hkk.1, Lib.hid ⟨HI0.out.1.of rfl, HI0.out.2.1, HI0.out.2.2.1, HI0.out.2.2.2.1.next, below_drewN HI0.out.2.2.2.2 _⟩⟩
          | true =>
            have HCB := Lib.hid hcb
            have HTB := Lib.hid htb
            clear hcb htb
            have hnn := (nnW_iff _).1 HCB.out
            have htt : 0 ≤ ft k ∧ ft k ≤ 9007199254740992 := by have := HTB.out; simpa [timeB] using this
            have HNN := Lib.hid hnn
            have HTT := Lib.hid htt
            clear hnn htt
            go_upto_region 12 with fail
            go_cut [9] from 57 to 218 (fun s9 wx => ∃ nw : Int, s9 = .int .i64 nw ∧ Hid (nw = max now (ft k)) ∧ wx = wr.drewN n3)
            case first => as_aux_lemma =>
              by_cases hmx : now < ft k
              · have hmd : decide (now < ft k) = true := decide_eq_true hmx
                go_wp2_with fail
                go_meet
                case rel => exact ⟨_, rfl, Lib.hid (by omega), rfl⟩
              · have hmd : decide (now < ft k) = false := decide_eq_false hmx
                go_wp2_with fail
                go_meet
                case rel => exact ⟨_, rfl, Lib.hid (by omega), rfl⟩
            case rest =>
            obtain ⟨nw, rfl, HNW, rfl⟩ := hcut
            go_upto_region 13 with fail
            go_cut [10] from 57 to 218 (fun s10 wx => ∃ (sm' : Bool), s10 = .bool sm' ∧ Hid (RX r u (fc k) (ft k) b now nw sm sm' k ∧ HasQ wx q bs ∧ bs[0]? = some b ∧ bs[1]? = some (newB r u 0) ∧ Below w1.heap.size w1 wx))
            case first => as_aux_lemma =>
              cases sm with
              | false =>
                go_wp2_with fail
                go_meet
                case rel => exact ⟨false, rfl, Lib.hid ⟨⟨HI0.out.2.2.2.1, HNN.out, HFC.out, HTT.out.1, HTT.out.2, HNW.out, fun h => by simp at h, by omega, HN.out.2.2⟩, HI0.out.1.of rfl, HI0.out.2.1, HI0.out.2.2.1, below_drewN HI0.out.2.2.2.2 _⟩⟩
              | true =>
                go_wp2_with fail
                refine (whole_any (fc k) _ HNN.out HFC.out).mono ?_
                rintro e w5 ⟨s2, rfl, hs2, rfl⟩
                have HS2 := Lib.hid hs2
                clear hs2
                cases s2 with
                | false =>
                  go_wp2_with fail
                  go_meet
                  case rel => exact ⟨false, rfl, Lib.hid ⟨⟨HI0.out.2.2.2.1, HNN.out, HFC.out, HTT.out.1, HTT.out.2, HNW.out, fun h => by simp at h, by omega, HN.out.2.2⟩, HI0.out.1.of rfl, HI0.out.2.1, HI0.out.2.2.1, below_drewN HI0.out.2.2.2.2 _⟩⟩
                | true =>
                  go_wp2_with fail
                  go_meet
                  case rel => exact ⟨_, rfl, Lib.hid ⟨⟨HI0.out.2.2.2.1, HNN.out, HFC.out, HTT.out.1, HTT.out.2, HNW.out, fun h => ⟨rfl, HS2.out (by trivial), of_decide_eq_true h⟩, by omega, HN.out.2.2⟩, HI0.out.1.of rfl, HI0.out.2.1, HI0.out.2.2.1, below_drewN HI0.out.2.2.2.2 _⟩⟩
            case rest =>
            obtain ⟨sm', rfl, hxx⟩ := hcut
            have RXX := Lib.hid hxx.out.1
            have QW : Hid (HasQ wc q bs ∧ bs[0]? = some b ∧ bs[1]? = some (newB r u 0) ∧ Below w1.heap.size w1 wc) := Lib.hid hxx.out.2
            clear hxx z0 z1 cc0 ct0 HI0 HSM HNW HNN HTT HCB HTB Q2
            obtain ⟨z0, z1, cc0, ct0, -, -, -⟩ := CS1.out.below QW.out.2.2.2
            go_upto_region 14 with fail
            go_cut [12, 13] from 57 to 218 (fun s12 s13 wx => ∃ (tt f : Int) (b2 : Bk) (bs2 : List Bk), s12 = .int .i64 tt ∧ s13 = .int .i64 f ∧ Hid (HasQ wx q bs2 ∧ bs2[0]? = some b2 ∧ bs2[1]? = some (newB r u 0) ∧ Below w1.heap.size w1 wx ∧ Asked b b2 u (fc k) (ft k) ∧
              (f = 370 ∨ f = 371 ∨ f = 0 ∧ rv (fc k) ≤ u ∧ b2 = onB b (ft k) ∧ Tells (onB b (ft k)) (rv (fc k)) tt)))
            case first =>
              by_cases ho : u < rv (fc k)
              · have HO := Lib.hid ho
                clear ho
                go_region_with (go_at_call 17; refine (RXX.out.whenOver (QW.out.1.of (by rfl)) QW.out.2.1 HO.out).mono ?_; rintro e w' ⟨rfl, rfl⟩)
                all_goals (go_wp2_with fail; go_meet)
                all_goals exact ⟨_, _, b, bs, rfl, rfl, Lib.hid ⟨QW.out.1.of (by rfl), QW.out.2.1, QW.out.2.2.1, below_alike QW.out.2.2.2 rfl rfl rfl rfl, .inl ⟨rfl, HO.out⟩, .inl rfl⟩⟩
              · have HO : Hid (rv (fc k) ≤ u) := Lib.hid (Nat.le_of_not_lt ho)
                clear ho
                go_region_with (go_at_call 17; refine (RXX.out.whenIn (QW.out.1.of (by rfl)) QW.out.2.1 HO.out).mono ?_; rintro e w' ⟨⟨s, f, rfl, hf⟩, hq', hg'⟩; have HF' := Lib.hid hf; have HQ' := Lib.hid hq'; have HG' := Lib.hid hg'; clear hf hq' hg')
                all_goals (go_wp2_with fail; go_meet)
                all_goals exact ⟨_, _, _, _, rfl, rfl, Lib.hid ⟨HQ'.out.of (by rfl), set_get _ _ _ (by rw [QW.out.1.1]) (by decide), by rw [set_other _ _ _ _ (by decide)]; exact QW.out.2.2.1, below_alike (below_grown (by exact below_alike QW.out.2.2.2 rfl rfl rfl rfl) HG'.out hq QW.out.2.2.2.size) rfl rfl rfl rfl, .inr ⟨rfl, HO.out⟩, HF'.out.elim (fun h => .inr (.inl h)) (fun h => .inr (.inr ⟨h.1, HO.out, rfl, h.2⟩))⟩⟩
            case rest =>
            obtain ⟨tt, f, b2, bs2, rfl, rfl, hxx⟩ := hcut
            have QX : Hid (HasQ wc q bs2 ∧ bs2[0]? = some b2 ∧ bs2[1]? = some (newB r u 0) ∧ Below w1.heap.size w1 wc) := Lib.hid ⟨hxx.out.1, hxx.out.2.1, hxx.out.2.2.1, hxx.out.2.2.2.1⟩
            have ASK := Lib.hid hxx.out.2.2.2.2.1
            have TEL := Lib.hid hxx.out.2.2.2.2.2
            clear hxx z0 z1 cc0 ct0 QW
            obtain ⟨z0, z1, cc0, ct0, -, -, -⟩ := CS1.out.below QX.out.2.2.2
            go_upto_if 116 with fail
            refine (num_any f _).mono ?_
            rintro e w' ⟨rfl, rfl⟩
            go_upto_if 116 with fail
            go_cut [14, 15] from 57 to 218 (fun _ _ wx => Hid (Below wc.heap.size wc wx))
            case first => as_aux_lemma =>
              rcases TEL.out with h | h | ⟨h, hle, hbe, htl⟩
              · subst h
                go_wp2_with fail
                go_meet
                exact Lib.hid (Below.refl _ _)
              · subst h
                go_wp2_with fail
                go_meet
                exact Lib.hid (Below.refl _ _)
              · subst h
                have hd1 : decide (tt < nw) = false := by have h1 := htl.1; rw [RXX.out.nwT] at h1; simp; exact h1
                have ht0 : 0 ≤ tt := Int.le_trans RXX.out.okOn.time0 htl.1
                have ht1 : tt ≤ 9007199254740992 := htl.2.1
                have QB : Hid (bs2[0]? = some (onB b (ft k)) ∧ rv (fc k) ≤ u ∧ Tells (onB b (ft k)) (rv (fc k)) tt) := Lib.hid ⟨by rw [← hbe]; exact QX.out.2.1, hle, htl⟩
                clear hbe htl hle TEL ASK
                go_wp2_with fail
                refine (copy_b QX.out.1).mono ?_
                rintro e wA ⟨rfl, hqA, hbA, hszA⟩
                have QA := Lib.hid hqA
                have BA := Lib.hid hbA
                have SA := Lib.hid hszA
                clear hqA hbA hszA
                go_wp2_with fail
                refine (copy_b (QX.out.1.below BA.out)).mono ?_
                rintro e wB ⟨rfl, hqB, hbB, hszB⟩
                have QB2 := Lib.hid hqB
                have BB := Lib.hid hbB
                have SB := Lib.hid hszB
                clear hqB hbB hszB
                have AB : Hid (Below wc.heap.size wc wB) := Lib.hid (BA.out.trans (BB.out.mono BA.out.size))
                obtain ⟨zz0, zz1, ccB, ctB, -, -, -⟩ := CS1.out.below (QX.out.2.2.2.trans (AB.out.mono QX.out.2.2.2.size))
                go_wp2_with fail
                refine (RXX.out.payTold (QA.out.below BB.out) QB.out.1 QB.out.2.1 tt QB.out.2.2).mono ?_
                rintro e wC ⟨rfl, hgC⟩
                have AC : Hid (Below wc.heap.size wc wC) := Lib.hid (below_grown AB.out hgC (Nat.le_refl _) AB.out.size)
                have QC : Hid (HasQ wC wA.heap.size bs2) := Lib.hid (QB2.out.grown hgC (by rw [SA.out]; omega))
                clear hgC
                go_wp2_with fail
                refine (num_any 0 _).mono ?_
                rintro e w' ⟨rfl, rfl⟩
                by_cases hlt : nw < tt
                · have hd2 : decide (nw < tt) = true := decide_eq_true hlt
                  obtain ⟨zz2, zz3, ccC, ctC, -, -, -⟩ := CS1.out.below (QX.out.2.2.2.trans (AC.out.mono QX.out.2.2.2.size))
                  have HLT := Lib.hid hlt
                  clear hlt
                  go_wp2_with fail
                  refine (RXX.out.payEarly QC.out QB.out.1 QB.out.2.1 tt QB.out.2.2 HLT.out).mono ?_
                  rintro e wD ⟨rfl, hgD⟩
                  have AD : Hid (Below wc.heap.size wc wD) := Lib.hid (below_grown AC.out hgD BA.out.size AC.out.size)
                  clear hgD
                  go_wp2_with fail
                  refine (num_any 371 _).mono ?_
                  rintro e w' ⟨rfl, rfl⟩
                  go_wp2_with fail
                  go_meet
                  exact AD
                · have hd2 : decide (nw < tt) = false := decide_eq_false hlt
                  clear hlt
                  go_wp2_with fail
                  go_meet
                  exact AC
            case rest =>
            have QY : Hid (HasQ wc q bs2 ∧ bs2[0]? = some b2 ∧ bs2[1]? = some (newB r u 0) ∧ Below w1.heap.size w1 wc) := Lib.hid ⟨QX.out.1.below hcut.out, QX.out.2.1, QX.out.2.2.1, QX.out.2.2.2.trans (hcut.out.mono QX.out.2.2.2.size)⟩
            clear hcut z0 z1 cc0 ct0 QX TEL
            obtain ⟨z0, z1, cc0, ct0, -, -, -⟩ := CS1.out.below QY.out.2.2.2
            go_upto_region 19 with fail
            go_cut [12] from 57 to 218 (fun _ wx => ∃ (b3 : Bk) (bs3 : List Bk), Hid (HasQ wx q bs3 ∧ bs3[0]? = some b3 ∧ bs3[1]? = some (newB r u 0) ∧ Below w1.heap.size w1 wx ∧ BkOk b3 ∧ HI r u (onB b3 (ft k)) nw sm' (k + 1)))
            case first =>
              go_region_with (go_at_call 19; refine (RXX.out.pay (QY.out.1.of (by rfl)) QY.out.2.1 ASK.out).mono ?_; rintro e w' ⟨n, b3, rfl, hq', hg', ho', hi'⟩; have HQ' := Lib.hid hq'; have HG' := Lib.hid hg'; have HO' := Lib.hid (And.intro ho' hi'); clear hq' hg' ho' hi')
              all_goals (go_wp2_with fail; go_meet)
              all_goals exact ⟨_, _, Lib.hid ⟨HQ'.out.of (by rfl), set_get _ _ _ (by rw [QY.out.1.1]) (by decide), by rw [set_other _ _ _ _ (by decide)]; exact QY.out.2.2.1, below_alike (below_grown (by exact below_alike QY.out.2.2.2 rfl rfl rfl rfl) HG'.out hq QY.out.2.2.2.size) rfl rfl rfl rfl, HO'.out⟩⟩
            case rest =>
            obtain ⟨b3, bs3, hxx⟩ := hcut
            have QZ : Hid (HasQ wc q bs3 ∧ bs3[0]? = some b3 ∧ bs3[1]? = some (newB r u 0) ∧ Below w1.heap.size w1 wc) := Lib.hid ⟨hxx.out.1, hxx.out.2.1, hxx.out.2.2.1, hxx.out.2.2.2.1⟩
            have B3 := Lib.hid hxx.out.2.2.2.2.1
            have H3 := Lib.hid hxx.out.2.2.2.2.2
            clear hxx z0 z1 cc0 ct0 QY ASK
            obtain ⟨z0, z1, cc0, ct0, -, -, -⟩ := CS1.out.below QZ.out.2.2.2
            go_wp2_with fail
            refine (level_b (c := 0) QZ.out.1 QZ.out.2.1 B3.out (ft k) RXX.out.t0 RXX.out.t1).mono ?_
            rintro e w6 ⟨rfl, hq', hg'⟩
            have HQ6 := Lib.hid hq'
            have HB6 : Hid (Below w1.heap.size w1 w6) := Lib.hid (below_grown QZ.out.2.2.2 hg' hq QZ.out.2.2.2.size)
            clear hq' hg' z0 z1 cc0 ct0
            obtain ⟨z0, z1, cc0, ct0, -, -, -⟩ := CS1.out.below HB6.out
            have Q6 : Hid ((bs3.set 0 (onB b3 (ft k)))[0]? = some (onB b3 (ft k)) ∧ (bs3.set 0 (onB b3 (ft k)))[1]? = some (newB r u 0)) := Lib.hid ⟨set_get _ _ _ (by rw [QZ.out.1.1]) (by decide), by rw [set_other _ _ _ _ (by decide)]; exact QZ.out.2.2.1⟩
            obtain ⟨lv, hlv⟩ : ∃ lv, lv = atL b3 (ft k) := ⟨_, rfl⟩
            rw [← hlv]
            obtain ⟨b4, hb4⟩ : ∃ b4, b4 = onB b3 (ft k) := ⟨_, rfl⟩
            have hl4 : b4.level = lv := by rw [hb4, hlv]; rfl
            rw [← hb4] at H3 Q6 HQ6
            clear hlv hb4 QZ B3
            go_wp2_with fail
            refine (paid_b (c := 0) HQ6.out Q6.out.1).mono ?_
            rintro e w7 ⟨rfl, n7, rfl⟩
            have HL := Lib.hid hl4
            clear hl4
            have hx := H3.out
            have hui : u < inf := HN.out.2.2
            have hlu : lv ≤ u := by rw [← HL.out, ← hx.burst]; exact hx.ok.level
            have hge : (FloatKind.f64.format.order lv 0 == some .gt || FloatKind.f64.format.order lv 0 == some .eq) = true := by
              rw [order_ge lv 0 (by omega) (.inl (by decide))]; simp [rv_small]
            have hle : (FloatKind.f64.format.order lv u == some .lt || FloatKind.f64.format.order lv u == some .eq) = true := by
              rw [order_le_nn lv u (by omega) (by omega)]; simpa using hlu
            obtain ⟨pd, hpd⟩ : ∃ pd, pd = b4.paid := ⟨_, rfl⟩
            rw [← hpd]
            cases sm' with
            | false => as_aux_lemma =>
              clear hx hui hlu hpd
              go_wp2_with fail
              refine (num_any 0 _).mono ?_
              rintro e w' ⟨rfl, rfl⟩
              go_wp2_with fail
              refine (num_any 0 _).mono ?_
              rintro e w' ⟨rfl, rfl⟩
              go_wp2_with fail
              go_roundg (lc - (k + 1))
              case measure => omega
              case rel => exact ⟨_, _, k + 1, b4, _, rfl, rfl, rfl, rfl, hkk.1, Lib.hid ⟨HQ6.out.of rfl, Q6.out.1, Q6.out.2, H3.out, below_drewN HB6.out _⟩⟩
            | true => as_aux_lemma =>
              have hsm := (hx.small rfl).le
              obtain ⟨nn, hnn⟩ : ∃ nn : Nat, (nn : Int) = nw := ⟨nw.toNat, by have := hx.ok.time0; rw [hx.time] at this; omega⟩
              have hnt : b4.time.toNat = nn := by rw [hx.time, ← hnn]; rfl
              obtain ⟨d, hd⟩ : ∃ d, d = i2r nn := ⟨_, rfl⟩
              have hdf : d < inf := by rw [hd]; exact i2r_fin nn (by have := hx.ok.time1; rw [hx.time] at this; omega)
              obtain ⟨z, hz, hz1, hz2⟩ := mul_nn r d HN.out.2.1 hdf
              have hsum := add_nn u z (by omega) hz1
              rw [hx.rate, hx.burst, hnt, ← hd, ← hz2, ← hpd] at hsm
              obtain ⟨s, hs⟩ : ∃ s, s = fadd u (rv z) := ⟨_, rfl⟩
              rw [← hs] at hsum hsm
              have hcv : floatOfInt .f64 nw = d := by rw [← hnn, floatOfInt_nat, hd]
              have hmul := fun (T : TypeId) (W : World) => run_float_arith (P := Try.prog) W .mul T .f64 r d z hz
              have hadd := fun (T : TypeId) (W : World) => run_float_arith (P := Try.prog) W .add T .f64 u z s hsum
              have hgt : (FloatKind.f64.format.order pd s == some .gt) = false := by
                rw [order_gt_nn pd s (Nat.le_trans hsm (by rw [hs]; exact fadd_le _ _)) (by rw [hs]; exact fadd_le _ _)]; simp; exact hsm
              clear hx hui hlu hpd hsm hnn hnt hd hdf hz hz1 hz2 hsum hs
              go_wp2_with fail
              refine (num_any 0 _).mono ?_
              rintro e w' ⟨rfl, rfl⟩
              go_wp2_with fail
              refine (num_any 0 _).mono ?_
              rintro e w' ⟨rfl, rfl⟩
              go_wp2_with fail
              go_roundg (lc - (k + 1))
              case measure => omega
              case rel => exact ⟨_, _, k + 1, b4, _, rfl, rfl, rfl, rfl, hkk.1, Lib.hid ⟨HQ6.out.of rfl, Q6.out.1, Q6.out.2, H3.out, below_drewN HB6.out _⟩⟩
      · have hdk : (decide ((k : Int) < (lc : Int)) = false ∧ ¬ k < lc) ∨ (decide ((k : Int) < (lc : Int)) = true ∧ decide ((k : Int) < (lt : Int)) = false ∧ k < lc ∧ ¬ k < lt) := by
          simp only [decide_eq_false_iff_not, decide_eq_true_eq]; omega
        clear hkk
        have he : (FloatKind.f64.format.order u u == some .eq) = true := order_eq_same u (Nat.le_of_lt HN.out.2.2)
        have hlu : atL (newB r u 0) 0 = u := if_pos (Int.le_refl 0)
        have HLU := Lib.hid hlu
        clear hlu
        have HOK := Lib.hid (newB_ok r u 0 H0.out (by decide) (by decide))
        rcases hdk with ⟨hd3, hn3⟩ | ⟨hd3, hd4, hn3, hn4⟩
        · as_aux_lemma =>
          go_wp2_with fail
          refine (level_b (c := 1) HI0.out.1 HI0.out.2.2.1 HOK.out 0 (by decide) (by decide)).mono ?_
          rintro e w6 ⟨rfl, hq', hg'⟩
          rw [HLU.out]
          have HB6 : Hid (Below w1.heap.size w1 w6) := Lib.hid (below_grown HI0.out.2.2.2.2 hg' hq HI0.out.2.2.2.2.size)
          clear hq' hg'
          have zz1 : w6.cell? ⟨w.heap.size, 1, none⟩ = some (.float .f64 u) := by rw [HB6.out.cell (p := ⟨w.heap.size, 1, none⟩) hsz1]; exact hx0.out.2
          go_wp2_with fail
          refine (num_any 0 _).mono ?_
          rintro e w' ⟨rfl, rfl⟩
          go_wp2_with fail
          refine (works_any _).mono ?_
          rintro e w9 ⟨rfl, hb9⟩
          go_wp2_with fail
          go_ret
          exact ⟨rfl, W1.out.trans ((HB6.out.mono W1.out.size).trans (hb9.mono (Nat.le_trans W1.out.size HB6.out.size)))⟩
        · as_aux_lemma =>
          go_wp2_with fail
          refine (level_b (c := 1) HI0.out.1 HI0.out.2.2.1 HOK.out 0 (by decide) (by decide)).mono ?_
          rintro e w6 ⟨rfl, hq', hg'⟩
          rw [HLU.out]
          have HB6 : Hid (Below w1.heap.size w1 w6) := Lib.hid (below_grown HI0.out.2.2.2.2 hg' hq HI0.out.2.2.2.2.size)
          clear hq' hg'
          have zz1 : w6.cell? ⟨w.heap.size, 1, none⟩ = some (.float .f64 u) := by rw [HB6.out.cell (p := ⟨w.heap.size, 1, none⟩) hsz1]; exact hx0.out.2
          go_wp2_with fail
          refine (num_any 0 _).mono ?_
          rintro e w' ⟨rfl, rfl⟩
          go_wp2_with fail
          refine (works_any _).mono ?_
          rintro e w9 ⟨rfl, hb9⟩
          go_wp2_with fail
          go_ret
          exact ⟨rfl, W1.out.trans ((HB6.out.mono W1.out.size).trans (hb9.mono (Nat.le_trans W1.out.size HB6.out.size)))⟩
end Go.Proofs.Ytbpnhpjcepgiiaa
