/- The texts Pze in one. -/
import Derived.Test.YtlgcoaeddeiegaaGreatV9
import Derived.Deep.CutRange
import Derived.Test.YtlgcoaeddeiegaaGreatV10
/- partlog: Append, the walk. -/
namespace Go.Proofs.YtlgcoaeddeiegaaGreat
open Go Go.RowKit
attribute [local go_sem] Oper.semAt_some

theorem LogTurn.later {w w1 w2 : World} {S T : Nat → Prop} {lp q : Nat} {log : ByteArray} {roll step : Nat} {g : Lg} {d : Dk} (h : LogTurn w S T lp q log roll step g d w1) (hb : Below w1.heap.size w1 w2) : LogTurn w S T lp q log roll step g d w2 :=
  h.then (fun _ _ _ _ h => h.turn hb)
theorem LogTurn.from {w0 w w1 : World} {S T : Nat → Prop} {lp q : Nat} {log : ByteArray} {roll step : Nat} {g : Lg} {d : Dk} (h : LogTurn w S T lp q log roll step g d w1) (hb : Below w0.heap.size w0 w) : LogTurn w0 S T lp q log roll step g d w1 := by
  obtain ⟨S', T', h1, h2, h3, h4⟩ := h
  refine ⟨S', T', fun k hk => ?_, fun k hk => ?_, h3, (Only.of_below hb (Nat.le_refl _) _).trans h4 (fun _ _ h => h)⟩
  · rcases h1 k hk with e | e
    · exact .inl e
    · exact .inr ⟨Nat.le_trans hb.size e.1, e.2⟩
  · rcases h2 k hk with e | e
    · exact .inl e
    · exact .inr ⟨Nat.le_trans hb.size e.1, e.2⟩
def atT (er : Int) (f : Nat) : Int := if er = 0 then (f : Int) else 0
theorem rollT_dead (log : ByteArray) (g : Lg) (d : Dk) : (g.rollT log d).2.1.dead = g.dead := by
  unfold Lg.rollT
  split
  · rfl
  · split <;> rfl
def AppIs (w : World) (S T : Nat → Prop) (lp q : Nat) (log : ByteArray) (roll step : Nat) (g : Lg) (r : Int × Lg × Dk) (e : Ending) (w' : World) : Prop :=
  e = .returned (.tuple #[.int .i64 (atT r.1 g.fin), .int .i64 r.1]) ∧ LogTurn w S T lp q log roll step r.2.1 r.2.2 w'
structure AppP (w W : World) (S T : Nat → Prop) (lp q : Nat) (log : ByteArray) (roll step : Nat) (g : Lg) (d : Dk) (b : Nat) (oa : Option Addr) (n c : Nat) (l : List Rc) : Prop where
  turn : LogTurn w S T lp q log roll step g d W
  box : W.heap[b]? = some (.cells #[.int .i64 0] 28 (0, 0))
  recs : RecsAt W (.slice oa n c) l
set_option maxRecDepth 100000 in
set_option maxHeartbeats 8000000 in
theorem logAppend_b {w : World} {S T : Nat → Prop} {lp q : Nat} {log : ByteArray} {roll step : Nat} {g : Lg} {d : Dk} (h : LogD w S T lp q log roll step g d) (hfit : g.dead = false → LgFit log g d)
    {oa : Option Addr} {n c : Nat} {l : List Rc} (hl : RecsAt w (.slice oa n c) l) (hrS : ∀ W, Only (fun k => S k ∨ T k) w W → RecsAt W (.slice oa n c) l) (hn : l.length = n) (hnm : n ≤ 1000000000) :
    Calls Tryz.prog 16 #[.pointer (some ⟨lp, 0, none⟩), .slice oa n c] w fun e w' => AppIs w S T lp q log roll step g (g.appendT log roll d l) e w' := by
  obtain ⟨w1, hw1⟩ : ∃ W : World, W = w.alloc (.cells #[.int .i64 0] 28) := ⟨_, rfl⟩
  obtain ⟨b, hb⟩ : ∃ b, b = w.heap.size := ⟨_, rfl⟩
  have gb : w1.heap[b]? = some (.cells #[.int .i64 0] 28 (0, 0)) := by rw [hw1, hb]; exact alloc_cells _ _ _
  have hb1 : Below w.heap.size w w1 := by rw [hw1]; exact (Below.refl _ _).alloc (Nat.le_refl _) _
  have h1 := h.later hb1
  obtain ⟨G, a, pv, hm⟩ := h1.log'
  have HN := Lib.hid (noneLog_b hm)
  have k4 : w1.cell? ⟨lp, 4, none⟩ = some (.bool g.dead) := cell_of hm.head rfl
  have kb : w1.cell? ⟨b, 0, none⟩ = some (.int .i64 0) := cell_of gb rfl
  have zb : w1.frozen? ⟨b, 0, none⟩ = false := free_of gb _
  have HB := Lib.hid (And.intro gb (And.intro hb1 hb))
  have HM := Lib.hid hm
  have H := Lib.hid (And.intro h h1)
  obtain ⟨xs, hxl, hxs⟩ := hl.below hb1
  have HFT := Lib.hid (fits_b hxl (by rw [← hn, ← hxl, List.length_map]) hxs hnm)
  have HL := Lib.hid (And.intro hl (And.intro hrS (And.intro hn hfit)))
  obtain ⟨ft, hft⟩ : ∃ f, f = fitsT l := ⟨_, rfl⟩
  rw [← hft] at HFT
  have HF := Lib.hid hft
  clear gb hb1 h1 hm hl hrS hfit hn hxl hxs h hft
  cases hdd : g.dead with
  | true =>
    have e1 : g.appendT log roll d l = (9, g, d) := by unfold Lg.appendT; rw [if_pos hdd]
    rw [hdd] at k4
    have HE := Lib.hid e1
    clear hdd e1
    go_enter_defers Tryz.func16, Tryz.ntmps16
    go_upto_region 1 with fail
    rw [← hw1, ← hb]
    clear hw1 hb
    go_wp2_with fail
    refine HN.out.mono ?_
    rintro e w2 ⟨rfl, hw2⟩
    obtain rfl := hw2.symm
    clear hw2
    go_wp2_with fail
    have g2 : (w1.setCell ⟨b, 0, none⟩ (.int .i64 9)).heap[b]? = some (.cells #[.int .i64 9] 28 (0, 0)) := heap_setCell_here _ HB.out.1
    have c2 := cell_of (i := 0) g2 rfl
    refine ⟨.tuple #[.int .i64 0, .int .i64 9], by simp [results, Tryz.results16, go_sem, c2], by rw [HE.out]; rfl, ?_⟩
    rw [HE.out]
    exact H.out.1.turn (HB.out.2.1.setCell (p := ⟨b, 0, none⟩) (by have := HB.out.2.2; show w.heap.size ≤ b; omega) _)
  | false =>
    rw [hdd] at k4
    have HDD := Lib.hid hdd
    clear hdd
    go_enter_defers Tryz.func16, Tryz.ntmps16
    go_upto_region 1 with fail
    rw [← hw1, ← hb]
    clear hw1 hb
    go_wp2_with fail
    refine HN.out.mono ?_
    rintro e w2 ⟨rfl, hw2⟩
    obtain rfl := hw2.symm
    clear hw2
    go_wp2_with fail
    refine HFT.out.mono ?_
    rintro e w2 ⟨rfl, hb2⟩
    have gb2 := (hb2.block b (Array.getElem?_eq_some_iff.1 HB.out.1).1).trans HB.out.1
    have hm2 := HM.out.later hb2
    have kb : w2.cell? ⟨b, 0, none⟩ = some (.int .i64 0) := cell_of gb2 rfl
    have zb : w2.frozen? ⟨b, 0, none⟩ = false := free_of gb2 _
    have k1 : w2.cell? ⟨lp, 1, none⟩ = some (.int .i64 (g.fin : Int)) := cell_of hm2.head rfl
    have hb02 : Below w.heap.size w w2 := HB.out.2.1.trans (hb2.mono HB.out.2.1.size)
    have H2 := Lib.hid (And.intro gb2 (And.intro hm2 (And.intro hb02 (H.out.1.later hb02))))
    clear gb2 hm2 hb2 hb02 HN HFT k4
    obtain ⟨f1, f2⟩ := ft
    dsimp only
    by_cases hf0 : f2 = 0
    · subst hf0
      obtain ⟨hfit0, hflen⟩ : (fitsT l).2 = 0 ∧ l.length ≤ 256 := by
        have h1 : (fitsT l).2 = 0 := by rw [← HF.out]
        refine ⟨h1, ?_⟩
        unfold fitsT at h1
        split at h1
        · cases h1
        · split at h1
          · cases h1
          · split at h1
            · cases h1
            · omega
      rw [HL.out.2.2.1] at hflen
      have hfl := H2.out.2.1.ok.fin_le
      by_cases hmx : (9007199254740992 : Int) < (g.fin : Int) + (n : Int) - 1
      · have e1 : g.appendT log roll d l = (8, g, d) := by
          unfold Lg.appendT
          rw [if_neg (by rw [HDD.out]; simp), if_neg (by rw [hfit0]; simp), HL.out.2.2.1, if_pos hmx]
        have HE := Lib.hid e1
        have d2 : decide ((9007199254740992 : Int) < (g.fin : Int) + (n : Int) - 1) = true := decide_eq_true hmx
        clear e1 hmx
        go_wp2_with fail
        have g3 : (w2.setCell ⟨b, 0, none⟩ (.int .i64 8)).heap[b]? = some (.cells #[.int .i64 8] 28 (0, 0)) := heap_setCell_here _ H2.out.1
        have c2 := cell_of (i := 0) g3 rfl
        refine ⟨.tuple #[.int .i64 0, .int .i64 8], by simp [results, Tryz.results16, go_sem, c2], by rw [HE.out]; rfl, ?_⟩
        rw [HE.out]
        exact H.out.1.turn (H2.out.2.2.1.setCell (p := ⟨b, 0, none⟩) (by have := HB.out.2.2; show w.heap.size ≤ b; omega) _)
      · have e1 : g.appendT log roll d l = ((g.pushT log roll d l).1, (g.pushT log roll d l).2.1.dies (g.pushT log roll d l).1, (g.pushT log roll d l).2.2) := by
          unfold Lg.appendT
          rw [if_neg (by rw [HDD.out]; simp), if_neg (by rw [hfit0]; simp), HL.out.2.2.1, if_neg hmx]
        have HE := Lib.hid e1
        have d2 : decide ((9007199254740992 : Int) < (g.fin : Int) + (n : Int) - 1) = false := decide_eq_false hmx
        have HMX := Lib.hid (And.intro hmx (And.intro hfit0 (And.intro hflen hfl)))
        obtain ⟨zl, hzl⟩ : ∃ z, z = (batsT g.lbs).length := ⟨_, rfl⟩
        have kr : w2.cell? ⟨lp, 7, none⟩ = some (.int .i64 (roll : Int)) := cell_of H2.out.2.1.head rfl
        have HA : Hid (∀ W, (W.cell? ⟨lp, 7, none⟩ = some (.int .i64 (roll : Int)) ∧ Below w2.heap.size w2 W) → Calls Tryz.prog 74 #[.pointer (some ⟨lp, 0, none⟩)] W fun e w' => e = .returned (.pointer (some ⟨a.s, 0, none⟩)) ∧ (w'.cell? ⟨lp, 7, none⟩ = some (.int .i64 (roll : Int)) ∧ Below w2.heap.size w2 w')) := Lib.hid (fun W hW =>
          (active_b (H2.out.2.1.later hW.2)).mono (fun e w' he => ⟨he.1, (he.2.cell (p := ⟨lp, 7, none⟩) (World.block_lt_of_cell? W _ hW.1)).trans hW.1, hW.2.trans (he.2.mono hW.2.size)⟩))
        have HSZ : Hid (∀ W, (W.cell? ⟨lp, 7, none⟩ = some (.int .i64 (roll : Int)) ∧ Below w2.heap.size w2 W) → Calls Tryz.prog 75 #[.pointer (some ⟨a.s, 0, none⟩)] W fun e w' => e = .returned (.int .i64 (zl : Int)) ∧ w' = W) := Lib.hid (fun W hW => by
          have := sizeM_b (H2.out.2.1.later hW.2).last
          rw [← H2.out.2.1.lbs, ← hzl] at this
          exact this)
        have HZL := Lib.hid hzl
        clear e1 hmx hfit0 hzl
        go_upto_region 12 with fail
        obtain ⟨z, hz⟩ : ∃ z, decide (roll ≤ zl) = z := ⟨_, rfl⟩
        have hsd : w2.drew.cell? ⟨lp, 7, none⟩ = some (.int .i64 (roll : Int)) ∧ Below w2.heap.size w2 w2.drew := ⟨kr, bdrew w2⟩
        go_cut [44] from 36 to 44 (fun s44 wx => s44 = .bool z ∧ Hid (Below w2.heap.size w2 wx))
        case first =>
          go_region_held3 (fun W => W.cell? ⟨lp, 7, none⟩ = some (.int .i64 (roll : Int)) ∧ Below w2.heap.size w2 W)
            (first | assumption)
            (first | (go_at_call 74; refine (HA.out _ (by assumption)).mono ?_; rintro e wa ⟨rfl, hsa⟩) | (go_at_call 75; refine (HSZ.out _ (by assumption)).mono ?_; rintro e wa ⟨rfl, hwa⟩; obtain rfl := hwa))
          all_goals
            go_wp2_with fail
            go_meet
            exact ⟨rfl, Lib.hid hsa.2⟩
        case rest =>
          obtain ⟨rfl, HW⟩ := hcut
          clear hsd kr HA HSZ kb zb k1
          obtain ⟨w3, hw3⟩ : ∃ W : World, W = wc := ⟨_, rfl⟩
          rw [← hw3] at HW ⊢
          have gb3 := (HW.out.block b (Array.getElem?_eq_some_iff.1 H2.out.1).1).trans H2.out.1
          have hd3 := H2.out.2.2.2.later HW.out
          have H3 := Lib.hid (And.intro gb3 (And.intro hd3 (H2.out.2.2.1.trans (HW.out.mono H2.out.2.2.1.size))))
          have HZ := Lib.hid hz
          clear hw3 gb3 hd3 hz
          go_upto_if 44 with fail
          go_cut [4] from 45 to 46 (fun s4 wx => s4 = .int .i64 0 ∧ ∃ g1 d1, Hid (LogTurn w3 S T lp q log roll step g1 d1 wx ∧ wx.heap[b]? = some (.cells #[.int .i64 0] 28 (0, 0)) ∧ LgFit log g1 d1 ∧ g1.fin = g.fin ∧ g1.dead = false ∧ g.pushT log roll d l = g1.addT log d1 l))
          case first =>
            cases z
            · go_wp2_with fail
              go_meet
              have hz0 : ¬ roll ≤ (batsT g.lbs).length := by rw [← HZL.out]; exact of_decide_eq_false HZ.out
              refine ⟨rfl, g, d, Lib.hid ⟨H3.out.2.1.turn (Below.refl _ _), H3.out.1, HL.out.2.2.2 HDD.out, rfl, HDD.out, ?_⟩⟩
              unfold Lg.pushT
              rw [if_neg hz0]
            · have hz0 : roll ≤ (batsT g.lbs).length := by rw [← HZL.out]; exact of_decide_eq_true HZ.out
              have hne : g.lbs ≠ [] := fun e => by
                rw [e] at hz0
                have h1 : roll ≤ 0 := hz0
                have := HM.out.rollB.1
                omega
              have hln : 1 ≤ n := by
                rw [← HL.out.2.2.1]
                cases hll : l with
                | nil =>
                  have := HMX.out.2.1
                  rw [hll] at this
                  cases this
                | cons => simp
              have hfin : g.fin ≤ 9007199254740992 := by have := HMX.out.1; omega
              have hfew : g.ini.length ≤ 100000 := by
                have := few_segs H.out.1.disk HM.out.ok HM.out.logd (HL.out.2.2.2 HDD.out).toQ
                unfold Lg.segs at this
                rw [List.length_append] at this
                omega
              have HRB := Lib.hid (roll_b H3.out.2.1 hne hfin hfew)
              have HQ := Lib.hid (And.intro hz0 (And.intro hne hfin))
              clear hz0 hne hln hfin hfew
              go_wp2_with fail
              refine HRB.out.mono ?_
              rintro e w4 ⟨he, ht⟩
              obtain ⟨r, hr⟩ : ∃ r, r = g.rollT log d := ⟨_, rfl⟩
              rw [← hr] at he ht
              have gb4 : w4.heap[b]? = some (.cells #[.int .i64 0] 28 (0, 0)) := by
                obtain ⟨S', T', -, -, -, ho⟩ := ht
                refine (ho.block b (Array.getElem?_eq_some_iff.1 H3.out.1).1 (fun e => ?_)).trans H3.out.1
                have hbw := HB.out.2.2
                rcases e with e | e
                · have := H.out.1.disk.lowS b e; omega
                · have := H.out.1.lowT b e; omega
              have HT := Lib.hid (And.intro ht (And.intro gb4 hr))
              clear ht gb4 hr HRB
              rcases he with ⟨he, rfl⟩ | ⟨he, rfl⟩
              · have HE0 := Lib.hid he
                clear he
                go_wp2_with fail
                go_meet
                have hso : (d.files.map (·.name)).Pairwise (· < ·) := by
                  obtain ⟨mb, fv, L, hd⟩ := H.out.1.disk
                  exact hd.sorted
                have hlaw := roll_law (log := log) HM.out.ok (HL.out.2.2.2 HDD.out) (create_sorted _ (by rw [sync_names]; exact hso)) HQ.out.2.1 HQ.out.2.2
                rw [← HT.out.2.2] at hlaw
                refine ⟨rfl, r.2.1, r.2.2, Lib.hid ⟨HT.out.1, HT.out.2.1, hlaw.2.1, hlaw.2.2, ?_, ?_⟩⟩
                · have := rollT_dead log g d
                  rw [← HT.out.2.2] at this
                  rw [this, HDD.out]
                · unfold Lg.pushT
                  rw [if_pos HQ.out.1, ← HT.out.2.2, if_neg (by rw [HE0.out]; simp)]
              · have e2 : g.pushT log roll d l = r := by
                  unfold Lg.pushT
                  rw [if_pos HQ.out.1, ← HT.out.2.2, if_pos he]
                refine fails_b he H3.out.2.2 H.out.1.disk.lowS H.out.1.lowT HT.out.1 (by have := HB.out.2.2; omega) (Array.getElem?_eq_some_iff.1 H3.out.1).1 HT.out.2.1 ?_
                intro w' hb' ht'
                have c2 := cell_of (i := 0) hb' rfl
                refine ⟨.tuple #[.int .i64 0, .int .i64 r.1], by simp [results, Tryz.results16, go_sem, c2], by rw [HE.out, e2]; unfold atT; rw [if_neg he], ?_⟩
                rw [HE.out, e2]
                exact ht'
          case rest =>
            obtain ⟨rfl, g1, d1, HG⟩ := hcut
            obtain ⟨w4, hw4⟩ : ∃ W : World, W = wc := ⟨_, rfl⟩
            rw [← hw4] at HG ⊢
            clear hw4
            obtain ⟨S1, T1, hS1, hT1, hd1, ho1⟩ := HG.out.1
            obtain ⟨G1, a1, pv1, hm1⟩ := hd1.log'
            have hlog := hm1.logd
            have hbase : g1.fin = a1.bn + cntT a1.bs := by unfold Lg.fin; rw [hm1.lb, hm1.lbs]
            obtain ⟨hgood, hput⟩ := fits_good (base := (g1.fin : Int)) (l := l) HMX.out.2.1 (by omega) (by rw [HL.out.2.2.1, HG.out.2.2.2.1]; have := HMX.out.1; omega)
            obtain ⟨r, hr⟩ : ∃ r, r = d1.append (sname log g1.lb) (batchT (g1.fin : Int) l) := ⟨_, rfl⟩
            have hseg : SegI w4 S1 a1.s a1.x q (segName log a1.bn) a1.bn step a1.sv a1.sp a1.bs d1 := {
              toSegM := hm1.last
              disk := hd1.disk
              file := by
                have := HG.out.2.2.1 (g1.lb, g1.lbs) (by unfold Lg.segs; simp)
                rw [segName_data, ← hm1.lb, ← hm1.lbs]
                exact this
              sS := fun hk => hd1.apart _ hk (hm1.rest.foot _ (LogR.seg_in (b := a1) (by simp) (.inl rfl)))
              xS := fun hk => hd1.apart _ hk (hm1.rest.foot _ (LogR.seg_in (b := a1) (by simp) (.inr (.inl rfl))))
              vS := fun k hk hS => hd1.apart _ hS (hm1.rest.foot _ (LogR.seg_in (b := a1) (by simp) (.inr (.inr hk)))) }
            have ho04 : Only (fun k => S k ∨ T k) w w4 := (Only.of_below H3.out.2.2 (Nat.le_refl _) _).trans ho1 (fun _ _ h => h)
            have hrec4 := HL.out.2.1 w4 ho04
            have HA : Hid (∀ W, Below w4.heap.size w4 W → Calls Tryz.prog 74 #[.pointer (some ⟨lp, 0, none⟩)] W fun e w' => e = .returned (.pointer (some ⟨a1.s, 0, none⟩)) ∧ Below w4.heap.size w4 w') := Lib.hid (fun W hW =>
              (active_b (hm1.later hW)).mono (fun e w' he => ⟨he.1, hW.trans (he.2.mono hW.size)⟩))
            have HSA : Hid (∀ W, Below w4.heap.size w4 W → Calls Tryz.prog 77 #[.pointer (some ⟨a1.s, 0, none⟩), .agg #[.int .i64 (g1.fin : Int), .slice oa n c]] W fun e w' => e = .returned (.int .i64 r.1) ∧ AppV W S1 a1.s a1.x q (segName log a1.bn) a1.bn step a1.sv a1.bs d1 ((g1.fin : Int), l) w') := Lib.hid (fun W hW => by
              have h9 : -9223372036854775808 ≤ (g1.fin : Int) ∧ (g1.fin : Int) ≤ 9223372036854775807 := by have := hm1.ok.fin_le; omega
              have hh := (appendSeg_b (hseg.later hW) (hrec4.below hW) HL.out.2.2.1 (by have := HMX.out.2.2.1; omega) h9).mono (fun e w' he => he.val hput (by rw [hbase]))
              rw [segName_data, show sname log a1.bn = sname log g1.lb by rw [hm1.lb], ← hr] at hh
              exact hh)
            have k1 : w4.cell? ⟨lp, 1, none⟩ = some (.int .i64 (g1.fin : Int)) := cell_of hm1.head rfl
            have H4 := Lib.hid (And.intro hS1 (And.intro hT1 (And.intro hd1 (And.intro ho1 (And.intro hm1 (And.intro hseg (And.intro hr (And.intro hgood ho04))))))))
            clear hS1 hT1 hd1 ho1 hm1 hlog hbase hgood hput hseg hr ho04 hrec4
            have k1d : w4.drew.cell? ⟨lp, 1, none⟩ = some (.int .i64 (g1.fin : Int)) := k1
            have hkeep : Hid (∀ W, Below w4.heap.size w4 W → W.cell? ⟨lp, 1, none⟩ = some (.int .i64 (g1.fin : Int))) := Lib.hid (fun W hW => (hW.cell (p := ⟨lp, 1, none⟩) (World.block_lt_of_cell? w4 _ k1)).trans k1)
            obtain ⟨er, he⟩ : ∃ er, r.1 = er := ⟨_, rfl⟩
            rw [he] at HSA
            have HER := Lib.hid he
            clear he
            go_upto_region 14 with fail
            generalize hQQ : (Exit.then _ _ : Exit → Act → World → Prop) = QQ
            have hQ : ∀ (k : Nat) (v : Value), 6 ≤ k → ∀ c a w, QQ (.panic c) (a.put (some k) v) w → QQ (.panic c) a w := by
              intro k v hk c A W
              rw [← hQQ]
              refine leaves_congr ?_ _ _ _
              have e4 : k ≠ 4 := by omega
              have e5 : k ≠ 5 := by omega
              simp [results, Tryz.results16, Act.put, Array.getElem?_setIfInBounds, Array.getD_eq_getD_getElem?, e4, e5]
            have HQQ := Lib.hid hQQ
            clear hQQ
            refine wp_region_held (S := fun W => W.cell? ⟨lp, 1, none⟩ = some (.int .i64 (g1.fin : Int))) (by kernel_rfl) ?_
            change wpAnyH _ _ _ _ _ _ _ _ w4.drew
            refine wpAnyH_take (i := 0) (v := (.pointer (some ⟨lp, 0, none⟩))) rfl (by kernel_rfl) (by kernel_rfl) (by kernel_rfl) (hQ 47 _ (by omega)) (Or.inl ⟨by rfl, ?_⟩) k1d ?_
            · intro W hW
              go_simp
            change wpAnyH _ _ _ _ _ _ _ (Act.put _ (some 47) _) _
            simp only [Act.put, List.setIfInBounds_toArray, List.set_cons_zero, List.set_cons_succ]
            refine wpAnyH_take (i := 2) (v := (.pointer (some ⟨lp, 0, none⟩))) rfl (by kernel_rfl) (by kernel_rfl) (by kernel_rfl) (hQ 49 _ (by omega)) (Or.inl ⟨by rfl, ?_⟩) k1d ?_
            · intro W hW
              go_simp
            change wpAnyH _ _ _ _ _ _ _ (Act.put _ (some 49) _) _
            simp only [Act.put, List.setIfInBounds_toArray, List.set_cons_zero, List.set_cons_succ]
            refine wpAnyH_take (i := 3) (v := (.pointer (some ⟨lp, 0, none⟩))) rfl (by kernel_rfl) (by kernel_rfl) (by kernel_rfl) (hQ 50 _ (by omega)) (Or.inl ⟨by rfl, ?_⟩) k1d ?_
            · intro W hW
              go_simp
            change wpAnyH _ _ _ _ _ _ _ (Act.put _ (some 50) _) _
            simp only [Act.put, List.setIfInBounds_toArray, List.set_cons_zero, List.set_cons_succ]
            refine wpAnyH_take (i := 4) (v := (.pointer (some ⟨lp, 0, none⟩))) rfl (by kernel_rfl) (by kernel_rfl) (by kernel_rfl) (hQ 51 _ (by omega)) (Or.inl ⟨by rfl, ?_⟩) k1d ?_
            · intro W hW
              go_simp
            change wpAnyH _ _ _ _ _ _ _ (Act.put _ (some 51) _) _
            simp only [Act.put, List.setIfInBounds_toArray, List.set_cons_zero, List.set_cons_succ]
            refine wpAnyH_take (i := 5) (v := (.pointer (some ⟨lp, 1, none⟩))) rfl (by kernel_rfl) (by kernel_rfl) (by kernel_rfl) (hQ 52 _ (by omega)) (Or.inl ⟨by rfl, ?_⟩) k1d ?_
            · intro W hW
              go_simp
            change wpAnyH _ _ _ _ _ _ _ (Act.put _ (some 52) _) _
            simp only [Act.put, List.setIfInBounds_toArray, List.set_cons_zero, List.set_cons_succ]
            refine wpAnyH_take (i := 6) (v := (.int .i64 (g1.fin : Int))) rfl (by kernel_rfl) (by kernel_rfl) (by kernel_rfl) (hQ 53 _ (by omega)) (Or.inl ⟨by rfl, ?_⟩) k1d ?_
            · intro W hW
              go_simp
            change wpAnyH _ _ _ _ _ _ _ (Act.put _ (some 53) _) _
            simp only [Act.put, List.setIfInBounds_toArray, List.set_cons_zero, List.set_cons_succ]
            refine wpAnyH_take (i := 7) (v := (.slice oa n c)) rfl (by kernel_rfl) (by kernel_rfl) (by kernel_rfl) (hQ 54 _ (by omega)) (Or.inl ⟨by rfl, ?_⟩) k1d ?_
            · intro W hW
              go_simp
            change wpAnyH _ _ _ _ _ _ _ (Act.put _ (some 54) _) _
            simp only [Act.put, List.setIfInBounds_toArray, List.set_cons_zero, List.set_cons_succ]
            refine wpAnyH_take (i := 8) (v := (.agg #[.int .i64 (g1.fin : Int), .slice oa n c])) rfl (by kernel_rfl) (by kernel_rfl) (by kernel_rfl) (hQ 55 _ (by omega)) (Or.inl ⟨by rfl, ?_⟩) k1d ?_
            · intro W hW
              go_simp
            change wpAnyH _ _ _ _ _ _ _ (Act.put _ (some 55) _) _
            simp only [Act.put, List.setIfInBounds_toArray, List.set_cons_zero, List.set_cons_succ]
            refine wpAnyH_ready (rs := [1]) (by kernel_rfl) (by decide) ?_
            refine AllReadyH.cons rfl (fun K hK => ?_) AllReadyH.nil
            go_simp
            refine (HA.out _ (bdrew _)).mono ?_
            rintro e wa ⟨rfl, hba⟩
            refine hK.out _ _ (hkeep.out _ hba) (fun hka => ?_)
            clear hK K
            refine wpAnyH_ready (rs := [9]) (by kernel_rfl) (by decide) ?_
            refine AllReadyH.cons rfl (fun K hK => ?_) AllReadyH.nil
            go_simp
            refine (HSA.out _ hba).mono ?_
            rintro e wb ⟨rfl, hsb⟩
            have hkb : wb.cell? ⟨lp, 1, none⟩ = some (.int .i64 (g1.fin : Int)) := by
              have hla := (hba.block lp (Array.getElem?_eq_some_iff.1 H4.out.2.2.2.2.1.head).1).trans H4.out.2.2.2.2.1.head
              refine cell_of ((hsb.only.block lp (Array.getElem?_eq_some_iff.1 hla).1 (fun e => ?_)).trans hla) rfl
              have hm1 := H4.out.2.2.2.2.1
              rcases e with e | e
              · exact H4.out.2.2.1.apart lp e hm1.rest.lp_mem
              · exact (List.nodup_cons.1 hm1.rest.apart).1 (List.mem_append_right _ (LogR.seg_mem (b := a1) (by simp) e))
            have HSB := Lib.hid (And.intro hsb hba)
            clear hsb
            refine hK.out _ _ hkb (fun hkc => ?_)
            clear hK K hkb
            refine wpAnyH_ready (rs := [10]) (by kernel_rfl) (by decide) ?_
            refine AllReadyH.cons rfl (fun K hK => ?_) AllReadyH.nil
            go_simp
            by_cases h0 : er = 0
            · subst h0
              refine (must_ok wb).mono ?_
              rintro e wd ⟨rfl, hwd⟩
              obtain rfl := hwd.symm
              refine hK.out _ _ hkc (fun _ => ?_)
              clear hK K hwd
              refine wpAnyH_done (by kernel_rfl) ?_ _
              rw [← HQQ.out]
              have hm1 := H4.out.2.2.2.2.1
              have hbT : ¬ T1 b := fun hk => by
                rcases H4.out.2.1 b hk with e | e
                · have := H.out.1.lowT b e; have := HB.out.2.2; omega
                · have := e.1; have := (Array.getElem?_eq_some_iff.1 H3.out.1).1; omega
              have hbS : ¬ S1 b := fun hk => by
                rcases H4.out.1 b hk with e | e
                · have := H.out.1.disk.lowS b e; have := HB.out.2.2; omega
                · have := e.1; have := (Array.getElem?_eq_some_iff.1 H3.out.1).1; omega
              have hb4 : b < w4.heap.size := (Array.getElem?_eq_some_iff.1 HG.out.2.1).1
              have hlb : lp ≠ b := fun e => hbT (e ▸ hm1.rest.lp_mem)
              have hXb : ¬ (S1 b ∨ b = a1.s ∨ b = a1.x ∨ a1.sv.ownBlock = some b) := fun e => by
                rcases e with e | e
                · exact hbS e
                · exact hbT (hm1.rest.foot b (LogR.seg_in (b := a1) (by simp) e))
              have gbb : wb.heap[b]? = some (.cells #[.int .i64 0] 28 (0, 0)) := (HSB.out.1.only.block b (Nat.lt_of_lt_of_le hb4 HSB.out.2.size) hXb).trans ((HSB.out.2.block b hb4).trans HG.out.2.1)
              have hXl : ¬ (S1 lp ∨ lp = a1.s ∨ lp = a1.x ∨ a1.sv.ownBlock = some lp) := fun e => by
                rcases e with e | e
                · exact H4.out.2.2.1.apart lp e hm1.rest.lp_mem
                · exact (List.nodup_cons.1 hm1.rest.apart).1 (List.mem_append_right _ (LogR.seg_mem (b := a1) (by simp) e))
              have hhb : logHead q lp log roll step g1 (G1.length + 1) pv1 wb := (HSB.out.1.only.block lp (Nat.lt_of_lt_of_le (Array.getElem?_eq_some_iff.1 hm1.head).1 HSB.out.2.size) hXl).trans ((HSB.out.2.block lp (Array.getElem?_eq_some_iff.1 hm1.head).1).trans hm1.head)
              have j1 : wb.cell? ⟨lp, 1, none⟩ = some (.int .i64 (g1.fin : Int)) := cell_of hhb rfl
              have y1 : wb.frozen? ⟨lp, 1, none⟩ = false := free_of hhb _
              have jb : wb.cell? ⟨b, 0, none⟩ = some (.int .i64 0) := cell_of gbb rfl
              have yb : wb.frozen? ⟨b, 0, none⟩ = false := free_of gbb _
              have hsum : (g1.fin : Int) + (n : Int) ≤ 9007199254740994 := by rw [HG.out.2.2.2.1]; have := HMX.out.1; omega
              have HFB := Lib.hid (And.intro hbS (And.intro hbT (And.intro hb4 (And.intro gbb hhb))))
              have hlb' := hlb.symm
              clear hm1 hbT hbS hb4 hXb gbb hXl hhb hQ
              go_wp2_with fail
              have hne0 : r.1 = 0 := HER.out
              rcases HSB.out.1 with ⟨c0, -, -⟩ | ⟨-, S2, sv', sp', c1, c2, c3, c4⟩
              · exact absurd (by rw [segName_data, show sname log a1.bn = sname log g1.lb by rw [H4.out.2.2.2.2.1.lb], ← H4.out.2.2.2.2.2.2.1]; exact hne0) c0
              rw [segName_data, show sname log a1.bn = sname log g1.lb by rw [H4.out.2.2.2.2.1.lb], ← H4.out.2.2.2.2.2.2.1] at c3
              have g4 : ((wb.setCell ⟨lp, 1, none⟩ (.int .i64 ((g1.fin : Int) + (n : Int)))).setCell ⟨b, 0, none⟩ (.int .i64 0)).heap[b]? = some (.cells #[.int .i64 0] 28 (0, 0)) := heap_setCell_here _ ((Below.heap_setCell _ _ _ _ hlb').trans HFB.out.2.2.2.1)
              refine leaves_cons (f := 62) (args := #[.pointer (some ⟨b, 0, none⟩)]) (by simp) (by simp [go_sem]) ?_
              refine caughtIdle_b.mono ?_
              rintro e u' w5 ⟨rfl, rfl, hw5⟩
              obtain rfl := hw5.symm
              clear hw5
              refine leaves_cons (f := 73) (args := #[.pointer (some ⟨lp, 0, none⟩), .pointer (some ⟨b, 0, none⟩)]) (by simp [settle]) (by simp [go_sem]) ?_
              refine (diesOk_b g4).mono ?_
              rintro e u' w5 ⟨rfl, rfl, hw5⟩
              rw [← hw5] at g4
              have c5 := cell_of (i := 0) g4 rfl
              have e2 : g.pushT log roll d l = (0, { g1 with lbs := g1.lbs ++ [((g1.fin : Int), l)] }, r.2) := by
                rw [HG.out.2.2.2.2.2]
                unfold Lg.addT
                rw [← H4.out.2.2.2.2.2.2.1, hne0]
                rfl
              have hfin2 : Lg.fin { g1 with lbs := g1.lbs ++ [((g1.fin : Int), l)] } = g1.fin + n := by
                show g1.lb + cntT (g1.lbs ++ [((g1.fin : Int), l)]) = _
                rw [cntT_append, show cntT [((g1.fin : Int), l)] = l.length by simp [cntT], HL.out.2.2.1]
                unfold Lg.fin
                omega
              have hh5 : logHead q lp log roll step { g1 with lbs := g1.lbs ++ [((g1.fin : Int), l)] } (G1.length + 1) pv1 w5 := by
                unfold logHead
                rw [hfin2, hw5]
                exact (Below.heap_setCell _ _ _ _ hlb).trans (heap_setCell_here _ HFB.out.2.2.2.2)
              have ho5 : Only (fun k => k = lp ∨ k = b) wb w5 := by
                rw [hw5]
                exact (only_setCell (fun k => k = lp ∨ k = b) _ lp 1 _ (.inl rfl)).trans (only_setCell (fun k => k = lp ∨ k = b) _ b 0 _ (.inr rfl)) (fun _ _ e => e)
              have up : ∀ (X X' : Nat → Prop), (∀ k, X' k → Wid X w3 w4 k) → ∀ k, X' k → Wid X w w4 k := fun X X' h k hk => by
                rcases h k hk with e | e
                · exact .inl e
                · exact .inr ⟨Nat.le_trans H3.out.2.2.size e.1, e.2⟩
              refine ⟨.tuple #[.int .i64 (g1.fin : Int), .int .i64 0], by simp [results, Tryz.results16, go_sem, c5], ?_, ?_⟩
              · rw [HE.out, e2, HG.out.2.2.2.1]
                rfl
              · rw [HE.out, e2]
                exact logAdd_end H4.out.2.2.1 H4.out.2.2.2.2.1 (up S S1 H4.out.1) (up T T1 H4.out.2.1) H4.out.2.2.2.2.2.2.2.2 HSB.out.2 c1 c2 c3 c4 ho5 (by have := HB.out.2.2; omega) HFB.out.1 HFB.out.2.1 HFB.out.2.2.1 (H4.out.2.2.2.2.1.ok.add H4.out.2.2.2.2.2.2.2.1) hh5
            · have h0' : er ≠ 0 := h0
              refine (must_no h0' wb).mono ?_
              rintro e wd ⟨rfl, hwd⟩
              obtain rfl := hwd.symm
              have hr1 : r.1 ≠ 0 := by rw [HER.out]; exact h0'
              have hav := HSB.out.1
              unfold AppV at hav
              rw [segName_data, show sname log a1.bn = sname log g1.lb by rw [H4.out.2.2.2.2.1.lb], ← H4.out.2.2.2.2.2.2.1] at hav
              rcases hav with ⟨-, c1, c2⟩ | ⟨c0, -⟩
              · have hzz := HSB.out.2.size
                have hcd : DiskAt wb (Wid S1 w4 wb) q r.2 := c1.wider (fun k hk => by
                  rcases hk with hk | hk
                  · exact .inl hk
                  · exact .inr ⟨Nat.le_trans hzz hk.1, hk.2⟩) (fun k hk => by
                  rcases hk with hk | hk
                  · exact Nat.lt_of_lt_of_le (H4.out.2.2.1.disk.lowS k hk) (Nat.le_trans hzz c2.size)
                  · exact hk.2)
                have hco : Only S1 w4 wb := (Only.of_below HSB.out.2 (Nat.le_refl _) S1).trans c2 (fun _ _ h => h)
                have htn : LogTurn w3 S T lp q log roll step g1 r.2 wb := LogTurn.join H4.out.1 H4.out.2.1 H4.out.2.2.2.1 (H4.out.2.2.1.diskTurn hcd hco)
                have hbS : ¬ S1 b := fun hk => by
                  rcases H4.out.1 b hk with e | e
                  · have := H.out.1.disk.lowS b e; have := HB.out.2.2; omega
                  · have := e.1; have := (Array.getElem?_eq_some_iff.1 H3.out.1).1; omega
                have gbb := (hco.block b (Array.getElem?_eq_some_iff.1 HG.out.2.1).1 hbS).trans HG.out.2.1
                have e2 : g.pushT log roll d l = (r.1, g1, r.2) := by
                  rw [HG.out.2.2.2.2.2]
                  unfold Lg.addT
                  rw [← H4.out.2.2.2.2.2.2.1, if_neg hr1]
                have h0r : er = r.1 := HER.out.symm
                rw [h0r, ← HQQ.out]
                refine fails_b hr1 H3.out.2.2 H.out.1.disk.lowS H.out.1.lowT htn (by have := HB.out.2.2; omega) (Array.getElem?_eq_some_iff.1 H3.out.1).1 gbb ?_
                intro w' hb' ht'
                have c2 := cell_of (i := 0) hb' rfl
                refine ⟨.tuple #[.int .i64 0, .int .i64 r.1], by simp [results, Tryz.results16, go_sem, c2], by rw [HE.out, e2]; unfold atT; rw [if_neg hr1], ?_⟩
                rw [HE.out, e2]
                exact ht'
              · exact absurd c0 hr1
    · have hc : (f2 == 0) = false := beq_eq_false_iff_ne.2 hf0
      have d1 : (f2 != 0) = true := by unfold bne; rw [hc]; rfl
      have e1 : g.appendT log roll d l = (f2, g, d) := by
        unfold Lg.appendT
        rw [if_neg (by rw [HDD.out]; simp), ← HF.out, if_pos hf0]
      have HE := Lib.hid e1
      have HNE := Lib.hid hf0
      clear hc hf0 e1
      go_wp2_with fail
      have g3 : (w2.setCell ⟨b, 0, none⟩ (.int .i64 f2)).heap[b]? = some (.cells #[.int .i64 f2] 28 (0, 0)) := heap_setCell_here _ H2.out.1
      have c2 := cell_of (i := 0) g3 rfl
      refine ⟨.tuple #[.int .i64 0, .int .i64 f2], by simp [results, Tryz.results16, go_sem, c2], by rw [HE.out]; unfold atT; rw [if_neg HNE.out], ?_⟩
      rw [HE.out]
      exact H.out.1.turn (H2.out.2.2.1.setCell (p := ⟨b, 0, none⟩) (by have := HB.out.2.2; show w.heap.size ≤ b; omega) _)
end Go.Proofs.YtlgcoaeddeiegaaGreat
