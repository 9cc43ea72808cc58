/- Disk: DiskRefused, the walk. -/
import Derived.Test.YtmkjejngnahpeaaFt
import Derived.Deep.CutBlock
namespace Go.Proofs.Ytmkjejngnahpeaa
open Go Go.Maps Go.RowKit

/-- an operation's contract, at the shape of OpIs -/
theorem DiskAt.narrow {w : World} {S S' : Nat → Prop} {q : Nat} {d : Dk} (h : DiskAt w S q d) (hn : ∀ k, S k → S' k) (hl : ∀ k, S' k → k < w.heap.size) : DiskAt w S' q d := by
  obtain ⟨mb, fv, L, h⟩ := h
  exact ⟨mb, fv, L, h.wider hn hl⟩
theorem DiskAt.only {w w' : World} {S T : Nat → Prop} {q : Nat} {d : Dk} (h : DiskAt w S q d) (ho : Only T w w') (hT : ∀ k, S k → ¬ T k) : DiskAt w' S q d := by
  obtain ⟨mb, fv, L, h⟩ := h
  exact ⟨mb, fv, L, h.only ho hT⟩
theorem DiskAt.low {w : World} {S : Nat → Prop} {q : Nat} {d : Dk} (h : DiskAt w S q d) : ∀ k, S k → k < w.heap.size := by
  obtain ⟨mb, fv, L, h⟩ := h
  exact h.low
/-- the call of a step's kind -/
def OpT (w : World) (S : Nat → Prop) (q : Nat) (d : Dk) (x : StepT) (v : Value) (w' : World) : Prop := OpIs w S q (d.doT x) (.returned v) w'
theorem opT_val {w w' : World} {S : Nat → Prop} {q : Nat} {d : Dk} {x : StepT} {v : Value} (h : OpT w S q d x v w') : v = .int .i64 (d.doT x).1 := by
  have := h.1
  simpa using this
/-- the state at a round's head -/
structure RefI (W wr : World) (q j : Nat) (d : Dk) : Prop where
  disk : DiskAt wr (Can W.heap.size wr) q d
  small : Small d j
  below : Below W.heap.size W wr
theorem opIs_only {w w' : World} {S : Nat → Prop} {q : Nat} {r : Int × Dk} {e : Ending} (h : OpIs w S q r e w') : DiskAt w' (Wid S w w') q r.2 ∧ Only S w w' := h.2
theorem not_vast {l : List StepT} (h : vastT l = false) : l.length ≤ 300 ∧ ∀ x ∈ l, x.bytes.length ≤ 3000 ∧ x.fates.length ≤ 100 ∧ x.picks.length ≤ 300 := by
  unfold vastT at h
  simp only [Bool.or_eq_false_iff, decide_eq_false_iff_not, List.any_eq_false] at h
  refine ⟨by omega, fun x hx => ?_⟩
  have := h.2 x hx
  simp only [StepT.vast, Bool.or_eq_true, decide_eq_true_eq] at this
  omega
set_option maxRecDepth 100000 in
set_option maxHeartbeats 4000000 in
theorem diskRefused_walk {W : World} {v1 v2 : Value} {fs : List (Int × Int)} {l : List StepT} (hf : readAt W 2 v1 fs.length (fateCells fs)) (hs : ScriptAt W v2 l) :
    Calls Try.prog 7 #[v1, v2] W fun e W' => e = .returned (.bool true) ∧ Below W.heap.size W W' := by
  obtain ⟨oa, c, rfl⟩ := hf.shape
  obtain ⟨ob, cb, rfl⟩ := hs.row.shape
  obtain ⟨m, hm⟩ : ∃ m, fs.length = m := ⟨_, rfl⟩
  obtain ⟨n, hn⟩ : ∃ n, l.length = n := ⟨_, rfl⟩
  rw [hm] at hf ⊢
  rw [hn] at hs ⊢
  have HF := Lib.hid hf
  have HS := Lib.hid hs
  have HM := Lib.hid hm
  have HN := Lib.hid hn
  have HVB : Hid (Calls Try.prog 36 #[.slice ob n cb] W fun e w' => e = .returned (.bool (vastT l)) ∧ w' = W) := Lib.hid (vast_b hs)
  clear hf hs hm hn
  by_cases hm1 : 100 < m
  · have hd : decide ((100 : Int) < (m : Int)) = true := by simp; omega
    go_enter Try.func7, Try.ntmps7
    go_wp2_with (go_at_call 38; refine (known7_b _).mono ?_; rintro e w' ⟨rfl, hb⟩; have HB := Lib.hid hb; clear hb)
    go_ret
    exact ⟨rfl, HB.out⟩
  · have hd : decide ((100 : Int) < (m : Int)) = false := by simp; omega
    obtain ⟨vt, hvt⟩ : ∃ b, vastT l = b := ⟨_, rfl⟩
    rw [hvt] at HVB
    have HVT := Lib.hid hvt
    clear hvt
    cases vt with
    | true =>
      go_enter Try.func7, Try.ntmps7
      go_wp2_with (first | (go_at_call 36; refine HVB.out.mono ?_; rintro e w' ⟨rfl, hw'⟩; obtain rfl := hw'.symm) | (go_at_call 38; refine (known7_b _).mono ?_; rintro e w' ⟨rfl, hb⟩; have HB := Lib.hid hb; clear hb))
      go_ret
      exact ⟨rfl, HB.out⟩
    | false =>
      obtain ⟨rg, hrg⟩ : ∃ b, fs.any badFate = b := ⟨_, rfl⟩
      have HRG := Lib.hid hrg
      have HRB : Hid (Calls Try.prog 37 #[.slice oa m c] W fun e w' => e = .returned (.bool (!rg)) ∧ w' = W) := Lib.hid (by
        have := refRight_b (w := W) (v := .slice oa m c) (l := fs) (by rw [HM.out]; exact HF.out) (by rw [HM.out]; omega)
        rwa [hrg] at this)
      clear hrg
      cases rg with
      | true =>
        go_enter Try.func7, Try.ntmps7
        go_wp2_with (first | (go_at_call 36; refine HVB.out.mono ?_; rintro e w' ⟨rfl, hw'⟩; obtain rfl := hw'.symm) | (go_at_call 37; refine HRB.out.mono ?_; rintro e w' ⟨rfl, hw'⟩; obtain rfl := hw'.symm) | (go_at_call 38; refine (known7_b _).mono ?_; rintro e w' ⟨rfl, hb⟩; have HB := Lib.hid hb; clear hb))
        go_ret
        exact ⟨rfl, HB.out⟩
      | false =>
        go_enter Try.func7, Try.ntmps7
        go_wp2_with (first | (go_at_call 36; refine HVB.out.mono ?_; rintro e w' ⟨rfl, hw'⟩; obtain rfl := hw'.symm) | (go_at_call 37; refine HRB.out.mono ?_; rintro e w' ⟨rfl, hw'⟩; obtain rfl := hw'.symm))
        refine (newF_b HM.out HF.out (by omega) HRG.out).mono ?_
        rintro e w1 ⟨q, rfl, hd1, hb1⟩
        have HD1 := Lib.hid hd1
        have HB1 := Lib.hid hb1
        obtain ⟨hl300, hlx⟩ := not_vast HVT.out
        have HLX := Lib.hid hlx
        rw [HN.out] at hl300
        clear hd1 hb1 HVB HRB hd hlx
        go_wp2_with fail
        go_loopw [7] (fun i wr => ∃ (j : Nat) (d : Dk), j ≤ n ∧ i = .int .i64 j ∧ Hid (RefI W wr q j d)) (fun i wr => n - (intOf i).toNat)
        case atStart =>
          refine ⟨0, ⟨[], fs, 0⟩, Nat.zero_le _, rfl, Lib.hid ⟨HD1.out, ⟨by simp, by simp, by simp, ?_⟩, HB1.out⟩⟩
          show fs.length ≤ _
          rw [HM.out]
          omega
        case round =>
          obtain ⟨j, d, hj, rfl, HI⟩ := hrel
          by_cases hlt : j < n
          · have hjl : j < l.length := by rw [HN.out]; exact hlt
            obtain ⟨x, hx⟩ : ∃ x, l[j] = x := ⟨_, rfl⟩
            have hxl : x ∈ l := by rw [← hx]; exact List.getElem_mem _
            have hsr := HS.out.below HI.out.below
            have hok := hsr.each x hxl
            have hrow : readAt wr 7 (.slice ob n cb) n (stepsCells l) := by have := hsr.row; rwa [HN.out] at this
            obtain ⟨g, off, rfl⟩ := hrow.addr (by omega)
            have hcell : ∀ i, i < 7 → ∀ u, x.cells[i]? = some u → wr.cell? ⟨g, off + (j * 7 + i), none⟩ = some u := fun i hi u hu => hrow.cellAt (by rw [stepsCells_get hjl hi, hx, hu])
            obtain ⟨oB, cB, hbv⟩ := hok.bytes.shape
            obtain ⟨oF, cF, hfv⟩ := hok.fates.shape
            obtain ⟨oP, cP, hpv⟩ := hok.picks.shape
            obtain ⟨kd, hkd⟩ : ∃ k, x.kind = k := ⟨_, rfl⟩
            obtain ⟨lb, hlb⟩ : ∃ k, x.bytes.length = k := ⟨_, rfl⟩
            obtain ⟨lf, hlf⟩ : ∃ k, x.fates.length = k := ⟨_, rfl⟩
            obtain ⟨lp, hlp⟩ : ∃ k, x.picks.length = k := ⟨_, rfl⟩
            rw [hlb] at hbv
            rw [hlf] at hfv
            rw [hlp] at hpv
            have k0 : wr.cell? ⟨g, off + j * 7, none⟩ = some (.int .i64 kd) := hcell 0 (by omega) _ (by rw [← hkd]; rfl)
            have k1 : wr.cell? ⟨g, off + j * 7 + 1, none⟩ = some (.int .i64 x.pl) := hcell 1 (by omega) _ rfl
            have k2 : wr.cell? ⟨g, off + j * 7 + 2, none⟩ = some (.int .i64 x.n) := hcell 2 (by omega) _ rfl
            have k3 : wr.cell? ⟨g, off + j * 7 + 3, none⟩ = some (.string x.name) := hcell 3 (by omega) _ rfl
            have k4 : wr.cell? ⟨g, off + j * 7 + 4, none⟩ = some (.slice oB lb cB) := hcell 4 (by omega) _ (by rw [← hbv]; rfl)
            have k5 : wr.cell? ⟨g, off + j * 7 + 5, none⟩ = some (.slice oF lf cF) := hcell 5 (by omega) _ (by rw [← hfv]; rfl)
            have k6 : wr.cell? ⟨g, off + j * 7 + 6, none⟩ = some (.slice oP lp cP) := hcell 6 (by omega) _ (by rw [← hpv]; rfl)
            obtain ⟨w2, hw2⟩ : ∃ w2 : World, w2 = wr.alloc (.cells #[.int .i64 kd, .int .i64 x.pl, .int .i64 x.n, .string x.name, .slice oB lb cB, .slice oF lf cF, .slice oP lp cP] 84) := ⟨_, rfl⟩
            obtain ⟨b8, hb8⟩ : ∃ b, b = wr.heap.size := ⟨_, rfl⟩
            have hc2 : w2.heap[b8]? = some (.cells #[.int .i64 kd, .int .i64 x.pl, .int .i64 x.n, .string x.name, .slice oB lb cB, .slice oF lf cF, .slice oP lp cP] 84 (0, 0)) := by rw [hw2, hb8]; exact alloc_cells _ _ _
            have hb2 : Below wr.heap.size wr w2 := by rw [hw2]; exact (Below.refl _ _).alloc (Nat.le_refl _) _
            have HB2 := Lib.hid hb2
            have HC2 := Lib.hid hc2
            have HX := Lib.hid (And.intro hbv (And.intro hlb (And.intro hkd hxl)))
            have HLB : Hid (lb ≤ 3000) := Lib.hid (by rw [← hlb]; exact (HLX.out x hxl).1)
            have HD2 : Hid (DiskAt w2 (Can W.heap.size wr) q d) := Lib.hid (HI.out.disk.below hb2)
            clear hx hxl hsr hok hrow hcell hbv hfv hpv hkd hlb hlf hlp hb2 hc2
            go_upto_region 9 with fail
            go_upto_region 10 with fail
            rw [← hw2, ← hb8]
            have HB8 := Lib.hid hb8
            clear hw2 hb8 k0 k1 k2 k3 k4 k5 k6
            go_wp2_with fail
            refine (copy_b HD2.out (by have := HI.out.small.fates; omega)).mono ?_
            rintro e w3 ⟨qo, rfl, hdo3, hb3⟩
            have HDO3 := Lib.hid hdo3
            have HD3 := Lib.hid (HD2.out.below hb3)
            have HC3 := Lib.hid ((hb3.block b8 (Array.getElem?_eq_some_iff.1 HC2.out).1).trans HC2.out)
            have HB3 := Lib.hid hb3
            clear hdo3 hb3
            go_wp2_with fail
            refine (steps_b HD3.out).mono ?_
            rintro e w4 ⟨rfl, hb4⟩
            obtain ⟨st, hst⟩ : ∃ st, d.steps = st := ⟨_, rfl⟩
            obtain ⟨fl, hfl⟩ : ∃ fl, d.fates.length = fl := ⟨_, rfl⟩
            rw [hst, hfl]
            have HD4 := Lib.hid (HD3.out.below hb4)
            have HDO4 := Lib.hid (HDO3.out.below hb4)
            have hc4 := (hb4.block b8 (Array.getElem?_eq_some_iff.1 HC3.out).1).trans HC3.out
            have HST := Lib.hid (And.intro hst hfl)
            have HS4 : Hid (StepOk w4 x) := Lib.hid (((((HS.out.each x HX.out.2.2.2).below HI.out.below).below HB2.out).below HB3.out).below hb4)
            have HB4 := Lib.hid hb4
            have c0 : w4.cell? ⟨b8, 0, none⟩ = some (.int .i64 kd) := cell_of hc4 rfl
            have c2 : w4.cell? ⟨b8, 2, none⟩ = some (.int .i64 x.n) := cell_of hc4 rfl
            have c3 : w4.cell? ⟨b8, 3, none⟩ = some (.string x.name) := cell_of hc4 rfl
            have c4 : w4.cell? ⟨b8, 4, none⟩ = some (.slice oB lb cB) := cell_of hc4 rfl
            have HBA : Hid (Below W.heap.size W w4) := Lib.hid (HI.out.below.trans ((((HB2.out.trans (HB3.out.mono HB2.out.size)).trans (hb4.mono (Nat.le_trans HB2.out.size HB3.out.size)))).mono HI.out.below.size))
            clear hst hfl hc4 hb4
            by_cases hkk : 1 ≤ kd ∧ kd ≤ 6
            · have HNS : Hid (∀ k, (Value.slice oB x.bytes.length cB).ownBlock = some k → 0 < x.bytes.length → ¬ Can W.heap.size wr k) := Lib.hid (fun k hk h0 hc => by
                have h1 := (HS.out.each x HX.out.2.2.2).bytes.lt h0 k (by rw [HX.out.1]; rw [HX.out.2.1] at hk; exact hk)
                have := hc.1
                omega)
              have hkc : kd = 1 ∨ kd = 2 ∨ kd = 3 ∨ kd = 4 ∨ kd = 5 ∨ kd = 6 := by omega
              go_upto_block 2 with fail
              go_cut [12] from 54 to 91 (fun s12 wx => s12 = .int .i64 (d.doT x).1 ∧ Hid (DiskAt wx (Wid (Can W.heap.size wr) w4 wx) q (d.doT x).2 ∧ Only (Can W.heap.size wr) w4 wx))
              case first =>
                rcases hkc with rfl | rfl | rfl | rfl | rfl | rfl
                · have HDT : Hid (d.doT x = d.create x.name.data.toList) := Lib.hid (by unfold Dk.doT; rw [HX.out.2.2.1]; rfl)
                  go_wp2_with fail
                  refine (create_b HD4.out x.name HS4.out.name).mono ?_
                  rintro e w5 ho
                  obtain ⟨rfl, hd5, ho5⟩ := ho
                  have H5 := Lib.hid (And.intro hd5 ho5)
                  clear hd5 ho5
                  go_wp2_with fail
                  go_meet
                  exact ⟨by rw [HDT.out], by rw [HDT.out]; exact H5⟩
                · have HDT : Hid (d.doT x = d.append x.name.data.toList x.bytes) := Lib.hid (by unfold Dk.doT; rw [HX.out.2.2.1]; rfl)
                  have hbr : bytesRd w4 (.slice oB x.bytes.length cB) x.bytes := by
                    have h1 := HS4.out.bytes
                    rwa [HX.out.1, ← HX.out.2.1] at h1
                  have HAP := Lib.hid (append_b HD4.out x.name HS4.out.name oB cB x.bytes hbr HNS.out (by rw [HX.out.2.1]; have := HLB.out; omega))
                  clear hbr
                  rw [HX.out.2.1] at HAP
                  go_wp2_with fail
                  refine (HAP.out).mono ?_
                  rintro e w5 ho
                  obtain ⟨rfl, hd5, ho5⟩ := ho
                  have H5 := Lib.hid (And.intro hd5 ho5)
                  clear hd5 ho5
                  go_wp2_with fail
                  go_meet
                  exact ⟨by rw [HDT.out], by rw [HDT.out]; exact H5⟩
                · have HDT : Hid (d.doT x = d.sync x.name.data.toList) := Lib.hid (by unfold Dk.doT; rw [HX.out.2.2.1]; rfl)
                  go_wp2_with fail
                  refine (sync_b HD4.out x.name HS4.out.name).mono ?_
                  rintro e w5 ho
                  obtain ⟨rfl, hd5, ho5⟩ := ho
                  have H5 := Lib.hid (And.intro hd5 ho5)
                  clear hd5 ho5
                  go_wp2_with fail
                  go_meet
                  exact ⟨by rw [HDT.out], by rw [HDT.out]; exact H5⟩
                · have HDT : Hid (d.doT x = d.syncdir) := Lib.hid (by unfold Dk.doT; rw [HX.out.2.2.1]; rfl)
                  go_wp2_with fail
                  refine (syncdir_b HD4.out).mono ?_
                  rintro e w5 ho
                  obtain ⟨rfl, hd5, ho5⟩ := ho
                  have H5 := Lib.hid (And.intro hd5 ho5)
                  clear hd5 ho5
                  go_wp2_with fail
                  go_meet
                  exact ⟨by rw [HDT.out], by rw [HDT.out]; exact H5⟩
                · have HDT : Hid (d.doT x = d.cut x.name.data.toList x.n) := Lib.hid (by unfold Dk.doT; rw [HX.out.2.2.1]; rfl)
                  go_wp2_with fail
                  refine (cut_b HD4.out x.name HS4.out.name x.n).mono ?_
                  rintro e w5 ho
                  obtain ⟨rfl, hd5, ho5⟩ := ho
                  have H5 := Lib.hid (And.intro hd5 ho5)
                  clear hd5 ho5
                  go_wp2_with fail
                  go_meet
                  exact ⟨by rw [HDT.out], by rw [HDT.out]; exact H5⟩
                · have HDT : Hid (d.doT x = d.remove x.name.data.toList) := Lib.hid (by unfold Dk.doT; rw [HX.out.2.2.1]; rfl)
                  go_wp2_with fail
                  refine (remove_b HD4.out x.name HS4.out.name).mono ?_
                  rintro e w5 ho
                  obtain ⟨rfl, hd5, ho5⟩ := ho
                  have H5 := Lib.hid (And.intro hd5 ho5)
                  clear hd5 ho5
                  go_wp2_with fail
                  go_meet
                  exact ⟨by rw [HDT.out], by rw [HDT.out]; exact H5⟩
              case rest =>
                obtain ⟨rfl, HC⟩ := hcut
                obtain ⟨er, her⟩ : ∃ er, (d.doT x).1 = er := ⟨_, rfl⟩
                obtain ⟨dn, hdn⟩ : ∃ dn, (d.doT x).2 = dn := ⟨_, rfl⟩
                obtain ⟨hlaw, hsm⟩ := doT_law (x := x) HI.out.small (by omega) (by rw [HX.out.2.1]; exact HLB.out) (by rw [HX.out.2.2.1]; exact hkk)
                rw [hdn] at hsm HC
                have hlaw' : Law d (er, dn) := by rw [← her, ← hdn]; exact hlaw
                rw [her]
                have hdo : DiskAt wc (fun k => w2.heap.size ≤ k ∧ k < w3.heap.size) qo d := HDO4.out.only HC.out.2 (fun k hk hc => by
                  have h1 := hk.1
                  have h2 := hc.2
                  have h3 := HB2.out.size
                  omega)
                have HDO := Lib.hid hdo
                have hst0 := HI.out.small.steps
                rw [HST.out.1] at hst0
                have HIN : Hid (RefI W wc q (j + 1) dn) := Lib.hid (by
                  have h1 := HBA.out.size
                  have h2 := HC.out.2.size
                  refine ⟨HC.out.1.narrow (fun k hk => ?_) (fun k hk => hk.2), hsm, HBA.out.trans (HC.out.2.below (fun i hi hc => by have := hc.1; omega) h1)⟩
                  rcases hk with hk | hk
                  · exact ⟨hk.1, HC.out.1.low k (.inl hk)⟩
                  · exact ⟨by omega, hk.2⟩)
                clear hlaw hsm her hdn hdo HB8 HC3 HB3 HD3 HDO3 HDO4 HD4
                go_wp2_with fail
                refine (steps_b HC.out.1).mono ?_
                rintro e w6 ⟨rfl, hb6⟩
                have HIN6 : Hid (RefI W w6 q (j + 1) dn) := Lib.hid ⟨(HIN.out.disk.below hb6).narrow (fun k hk => ⟨hk.1, Nat.lt_of_lt_of_le hk.2 hb6.size⟩) (fun k hk => hk.2), HIN.out.small, HIN.out.below.trans (hb6.mono HIN.out.below.size)⟩
                have HDO6 := Lib.hid (HDO.out.below hb6)
                have HDN6 := Lib.hid (HC.out.1.below hb6)
                clear hb6
                rcases hlaw' with ⟨he, h1, h2⟩ | ⟨he0, he5, he6, h2⟩
                · have h3 : dn.steps = st + 1 := by rw [← HST.out.1]; exact h1
                  have h4 : dn.fates.length = fl - 1 := by rw [show dn.fates = d.fates.tail from h2, List.length_tail, HST.out.2]
                  rw [h3, h4]
                  have h5 : wrap64 (st + 1) = st + 1 := by unfold wrap64; omega
                  have he' : er = 0 ∨ er = 5 ∨ er = 6 := he
                  clear h1 h2 h3 h4 he
                  go_upto_region 27 with fail
                  go_cut [106] from 97 to 106 (fun s wx => s = .bool true ∧ wx = w6)
                  case first =>
                    rcases he' with rfl | rfl | rfl <;> (go_wp2_with fail; go_meet; exact ⟨rfl, rfl⟩)
                  case rest =>
                    obtain ⟨rfl, rfl⟩ := hcut
                    obtain ⟨f1, hf1⟩ : ∃ f1 : Nat, fl - 1 = f1 := ⟨_, rfl⟩
                    have hfm := HI.out.small.fates
                    rw [HST.out.2] at hfm
                    have h6 : ((f1 : Int) != max 0 (wrap64 ((fl : Int) - 1))) = false := by
                      have : max 0 (wrap64 ((fl : Int) - 1)) = (f1 : Int) := by unfold wrap64; omega
                      rw [this]
                      simp
                    rw [hf1]
                    clear hf1 hfm
                    go_wp2_with fail
                    exact ⟨⟨j + 1, dn, by omega, by simp, HIN6⟩, by simp [intOf]; omega⟩
                · have h2' : dn = d := h2
                  subst h2'
                  rw [HST.out.1, HST.out.2]
                  have he1 : (er == 0) = false := by simpa using he0
                  have he2 : (er == 5) = false := by simpa using he5
                  have he3 : (er == 6) = false := by simpa using he6
                  clear h2 he0 he5 he6
                  go_upto_region 27 with fail
                  go_cut [106] from 97 to 106 (fun s wx => s = .bool false ∧ wx = w6)
                  case first => go_wp2_with fail; go_meet; exact ⟨rfl, rfl⟩
                  case rest =>
                    obtain ⟨rfl, rfl⟩ := hcut
                    have hsm : Hid (Calls Try.prog 51 #[.pointer (some ⟨q, 0, none⟩), .pointer (some ⟨qo, 0, none⟩)] wc fun e w' => e = .returned (.bool true) ∧ Below wc.heap.size wc w') := Lib.hid ((same_b HDN6.out HDO6.out).mono (fun e w' ⟨h1, h2⟩ => ⟨by rw [h1]; simp, h2⟩))
                    go_wp2_with (go_at_call 51; refine hsm.out.mono ?_; rintro e w7 ⟨rfl, hb7⟩; have HIN7 : Hid (RefI W w7 q (j + 1) dn) := Lib.hid ⟨(HIN6.out.disk.below hb7).narrow (fun k hk => ⟨hk.1, Nat.lt_of_lt_of_le hk.2 hb7.size⟩) (fun k hk => hk.2), HIN6.out.small, HIN6.out.below.trans (hb7.mono HIN6.out.below.size)⟩; clear hb7)
                    exact ⟨⟨j + 1, dn, by omega, by simp, HIN7⟩, by simp [intOf]; omega⟩
            · have e1 : (kd == 1) = false := by simp; omega
              have e2 : (kd == 2) = false := by simp; omega
              have e3 : (kd == 3) = false := by simp; omega
              have e4 : (kd == 4) = false := by simp; omega
              have e5 : (kd == 5) = false := by simp; omega
              have e6 : (kd == 6) = false := by simp; omega
              have HN5 : Hid (RefI W w4 q (j + 1) d) := Lib.hid ⟨HD4.out.narrow (fun k hk => ⟨hk.1, HD4.out.low k hk⟩) (fun k hk => hk.2), HI.out.small.same, HBA.out⟩
              clear hkk
              go_wp2_with fail
              exact ⟨⟨j + 1, d, by omega, by simp, HN5⟩, by simp [intOf]; omega⟩
          · obtain rfl : j = n := by omega
            go_wp2_with (go_at_call 38; refine (known7_b _).mono ?_; rintro e w' ⟨rfl, hb⟩; have HB := Lib.hid hb; clear hb)
            go_ret
            exact ⟨rfl, HI.out.below.trans (HB.out.mono HI.out.below.size)⟩
end Go.Proofs.Ytmkjejngnahpeaa
