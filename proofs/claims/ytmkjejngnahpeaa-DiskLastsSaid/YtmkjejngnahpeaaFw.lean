/- Disk: play: a script is done on a disk. -/
import Derived.Test.YtmkjejngnahpeaaFu
namespace Go.Proofs.Ytmkjejngnahpeaa
open Go Go.Maps Go.RowKit

def Dk.stepT (d : Dk) (x : StepT) : Dk := if 1 ≤ x.kind ∧ x.kind ≤ 6 then (d.doT x).2 else if x.kind = 9 then (d.feed x.fates).2 else d
def Dk.playT (d : Dk) (l : List StepT) : Dk := l.foldl Dk.stepT d
theorem playT_succ {d : Dk} {l : List StepT} {j : Nat} (hj : j < l.length) : d.playT (l.take (j + 1)) = (d.playT (l.take j)).stepT l[j] := by
  unfold Dk.playT
  rw [List.take_succ_eq_append_getElem hj, List.foldl_append]
  rfl
theorem stepT_small {d : Dk} {i : Nat} {x : StepT} (h : Small d i) (hi : i ≤ 300) (hb : x.bytes.length ≤ 3000) (hf : x.fates.length ≤ 100) : Small (d.stepT x) (i + 1) := by
  unfold Dk.stepT
  split
  · rename_i hk
    exact (doT_law h hi hb hk).2
  · split
    · unfold Dk.feed
      split
      · exact h.same
      · have h1 := h.same
        refine ⟨h1.files, h1.bytes, h1.steps, ?_⟩
        show (d.fates ++ x.fates).length ≤ _
        rw [List.length_append]
        have := h.fates
        omega
    · exact h.same
/-- the state at a round's head -/
structure PlayI (w wr : World) (q j : Nat) (d : Dk) : Prop where
  disk : DiskAt wr (Can w.heap.size wr) q d
  small : Small d j
  below : Below w.heap.size w wr
set_option maxRecDepth 100000 in
set_option maxHeartbeats 4000000 in
theorem play_b {w : World} {v1 v2 : Value} {fs : List (Int × Int)} {l : List StepT} (hf : readAt w 2 v1 fs.length (fateCells fs)) (hs : ScriptAt w v2 l) (hfl : fs.length ≤ 100) (hok : fs.any badFate = false) (hll : l.length ≤ 300) (hlx : ∀ x ∈ l, x.bytes.length ≤ 3000 ∧ x.fates.length ≤ 100 ∧ x.picks.length ≤ 300) :
    Calls Try.prog 39 #[v1, v2] w fun e w' => ∃ q, e = .returned (.pointer (some ⟨q, 0, none⟩)) ∧ DiskAt w' (Can w.heap.size w') q (Dk.playT ⟨[], fs, 0⟩ l) ∧ Small (Dk.playT ⟨[], fs, 0⟩ l) l.length ∧ Below w.heap.size w w' := by
  obtain ⟨oa, c, rfl⟩ := hf.shape
  obtain ⟨ob, cb, rfl⟩ := hs.row.shape
  obtain ⟨m, hm⟩ : ∃ m, fs.length = m := ⟨_, rfl⟩
  obtain ⟨n, hn⟩ : ∃ n, l.length = n := ⟨_, rfl⟩
  rw [hm] at hf hfl ⊢
  rw [hn] at hs hll ⊢
  have HF := Lib.hid hf
  have HS := Lib.hid hs
  have HM := Lib.hid hm
  have HN := Lib.hid hn
  have HLX := Lib.hid hlx
  have HOK := Lib.hid hok
  clear hf hs hm hn hlx hok
  go_enter Try.func39, Try.ntmps39
  go_wp2_with fail
  refine (newF_b HM.out HF.out (by omega) HOK.out).mono ?_
  rintro e w1 ⟨q, rfl, hd1, hb1⟩
  have HD1 := Lib.hid hd1
  have HB1 := Lib.hid hb1
  clear hd1 hb1
  go_wp2_with fail
  go_loopw [7] (fun i wr => ∃ (j : Nat), j ≤ n ∧ i = .int .i64 j ∧ Hid (PlayI w wr q j (Dk.playT ⟨[], fs, 0⟩ (l.take j)))) (fun i wr => n - (intOf i).toNat)
  case atStart =>
    refine ⟨0, Nat.zero_le _, rfl, Lib.hid ⟨HD1.out, ⟨by simp [Dk.playT], by simp [Dk.playT], by simp [Dk.playT], ?_⟩, HB1.out⟩⟩
    show fs.length ≤ _
    rw [HM.out]
    omega
  case round =>
    obtain ⟨j, hj, rfl, HI⟩ := hrel
    obtain ⟨d, hd⟩ : ∃ d, Dk.playT ⟨[], fs, 0⟩ (l.take j) = d := ⟨_, rfl⟩
    rw [hd] at HI
    by_cases hlt : j < n
    · have hjl : j < l.length := by rw [HN.out]; exact hlt
      obtain ⟨x, hx⟩ : ∃ x, l[j] = x := ⟨_, rfl⟩
      have hxl : x ∈ l := by rw [← hx]; exact List.getElem_mem _
      have HPT : Hid (Dk.playT ⟨[], fs, 0⟩ (l.take (j + 1)) = d.stepT x) := Lib.hid (by rw [playT_succ hjl, hd, hx])
      have hsr := HS.out.below HI.out.below
      have hok := hsr.each x hxl
      have hrow : readAt wr 7 (.slice ob n cb) n (stepsCells l) := by have := hsr.row; rwa [HN.out] at this
      obtain ⟨g, off, rfl⟩ := hrow.addr (by omega)
      have hcell : ∀ i, i < 7 → ∀ u, x.cells[i]? = some u → wr.cell? ⟨g, off + (j * 7 + i), none⟩ = some u := fun i hi u hu => hrow.cellAt (by rw [stepsCells_get hjl hi, hx, hu])
      obtain ⟨oB, cB, hbv⟩ := hok.bytes.shape
      obtain ⟨oF, cF, hfv⟩ := hok.fates.shape
      obtain ⟨oP, cP, hpv⟩ := hok.picks.shape
      obtain ⟨kd, hkd⟩ : ∃ k, x.kind = k := ⟨_, rfl⟩
      obtain ⟨lb, hlb⟩ : ∃ k, x.bytes.length = k := ⟨_, rfl⟩
      obtain ⟨lf, hlf⟩ : ∃ k, x.fates.length = k := ⟨_, rfl⟩
      obtain ⟨lp, hlp⟩ : ∃ k, x.picks.length = k := ⟨_, rfl⟩
      rw [hlb] at hbv
      rw [hlf] at hfv
      rw [hlp] at hpv
      have k0 : wr.cell? ⟨g, off + j * 7, none⟩ = some (.int .i64 kd) := hcell 0 (by omega) _ (by rw [← hkd]; rfl)
      have k1 : wr.cell? ⟨g, off + j * 7 + 1, none⟩ = some (.int .i64 x.pl) := hcell 1 (by omega) _ rfl
      have k2 : wr.cell? ⟨g, off + j * 7 + 2, none⟩ = some (.int .i64 x.n) := hcell 2 (by omega) _ rfl
      have k3 : wr.cell? ⟨g, off + j * 7 + 3, none⟩ = some (.string x.name) := hcell 3 (by omega) _ rfl
      have k4 : wr.cell? ⟨g, off + j * 7 + 4, none⟩ = some (.slice oB lb cB) := hcell 4 (by omega) _ (by rw [← hbv]; rfl)
      have k5 : wr.cell? ⟨g, off + j * 7 + 5, none⟩ = some (.slice oF lf cF) := hcell 5 (by omega) _ (by rw [← hfv]; rfl)
      have k6 : wr.cell? ⟨g, off + j * 7 + 6, none⟩ = some (.slice oP lp cP) := hcell 6 (by omega) _ (by rw [← hpv]; rfl)
      obtain ⟨w2, hw2⟩ : ∃ w2 : World, w2 = wr.alloc (.cells #[.int .i64 kd, .int .i64 x.pl, .int .i64 x.n, .string x.name, .slice oB lb cB, .slice oF lf cF, .slice oP lp cP] 84) := ⟨_, rfl⟩
      obtain ⟨b8, hb8⟩ : ∃ b, b = wr.heap.size := ⟨_, rfl⟩
      have hc2 : w2.heap[b8]? = some (.cells #[.int .i64 kd, .int .i64 x.pl, .int .i64 x.n, .string x.name, .slice oB lb cB, .slice oF lf cF, .slice oP lp cP] 84 (0, 0)) := by rw [hw2, hb8]; exact alloc_cells _ _ _
      have hb2 : Below wr.heap.size wr w2 := by rw [hw2]; exact (Below.refl _ _).alloc (Nat.le_refl _) _
      have HB2 := Lib.hid hb2
      have HX := Lib.hid (And.intro hbv (And.intro hlb (And.intro hkd (And.intro hfv (And.intro hlf hxl)))))
      have HLB : Hid (lb ≤ 3000 ∧ lf ≤ 100) := Lib.hid (by rw [← hlb, ← hlf]; exact ⟨(HLX.out x hxl).1, (HLX.out x hxl).2.1⟩)
      have HD2 : Hid (DiskAt w2 (Can w.heap.size wr) q d) := Lib.hid (HI.out.disk.below hb2)
      have HS2 : Hid (StepOk w2 x) := Lib.hid (hok.below hb2)
      have HBW : Hid (Below w.heap.size w w2) := Lib.hid (HI.out.below.trans (hb2.mono HI.out.below.size))
      have HNS : Hid (∀ k, (Value.slice oB x.bytes.length cB).ownBlock = some k → 0 < x.bytes.length → ¬ Can w.heap.size wr k) := Lib.hid (fun k hk h0 hc => by
        have h1 := (HS.out.each x hxl).bytes.lt h0 k (by rw [hbv]; rw [hlb] at hk; exact hk)
        have := hc.1
        omega)
      clear hx hxl hsr hok hrow hcell hbv hfv hpv hkd hlb hlf hlp hb2 hd
      go_upto_region 5 with fail
      go_upto_region 6 with fail
      rw [← hw2, ← hb8]
      have c0 : w2.cell? ⟨b8, 0, none⟩ = some (.int .i64 kd) := cell_of hc2 rfl
      have c2 : w2.cell? ⟨b8, 2, none⟩ = some (.int .i64 x.n) := cell_of hc2 rfl
      have c3 : w2.cell? ⟨b8, 3, none⟩ = some (.string x.name) := cell_of hc2 rfl
      have c4 : w2.cell? ⟨b8, 4, none⟩ = some (.slice oB lb cB) := cell_of hc2 rfl
      have c5 : w2.cell? ⟨b8, 5, none⟩ = some (.slice oF lf cF) := cell_of hc2 rfl
      clear hw2 hb8 hc2 k0 k1 k2 k3 k4 k5 k6
      have HFIN : Hid (∀ wx : World, DiskAt wx (Can w.heap.size wx) q (d.stepT x) → Below w.heap.size w2 wx → Hid (PlayI w wx q (j + 1) (Dk.playT ⟨[], fs, 0⟩ (l.take (j + 1))))) := Lib.hid (fun wx h1 h2 => Lib.hid (by
        rw [HPT.out]
        exact ⟨h1, stepT_small HI.out.small (by omega) (by rw [HX.out.2.1]; exact HLB.out.1) (by rw [HX.out.2.2.2.2.1]; exact HLB.out.2), HBW.out.trans h2⟩))
      by_cases hkk : kd = 1 ∨ kd = 2 ∨ kd = 3 ∨ kd = 4 ∨ kd = 5 ∨ kd = 6 ∨ kd = 9
      · rcases hkk with rfl | rfl | rfl | rfl | rfl | rfl | rfl
        · have HDT : Hid (d.stepT x = (d.create x.name.data.toList).2) := Lib.hid (by unfold Dk.stepT Dk.doT; rw [HX.out.2.2.1]; rfl)
          go_wp2_with fail
          refine (create_b HD2.out x.name HS2.out.name).mono ?_
          rintro e w5 ho
          obtain ⟨rfl, hd5, ho5⟩ := ho.canon HB2.out.size HBW.out.size
          have H5 := Lib.hid (And.intro hd5 ho5)
          clear ho hd5 ho5
          go_wp2_with fail
          have HIN := HFIN.out _ (by rw [HDT.out]; exact H5.out.1) H5.out.2
          exact ⟨⟨j + 1, by omega, by simp, HIN⟩, by simp [intOf]; omega⟩
        · have HDT : Hid (d.stepT x = (d.append x.name.data.toList x.bytes).2) := Lib.hid (by unfold Dk.stepT Dk.doT; rw [HX.out.2.2.1]; rfl)
          have hbr : bytesRd w2 (.slice oB x.bytes.length cB) x.bytes := by
            have h1 := HS2.out.bytes
            rwa [HX.out.1, ← HX.out.2.1] at h1
          have HAP := Lib.hid (append_b HD2.out x.name HS2.out.name oB cB x.bytes hbr HNS.out (by rw [HX.out.2.1]; have := HLB.out; omega))
          clear hbr
          rw [HX.out.2.1] at HAP
          go_wp2_with fail
          refine (HAP.out).mono ?_
          rintro e w5 ho
          obtain ⟨rfl, hd5, ho5⟩ := ho.canon HB2.out.size HBW.out.size
          have H5 := Lib.hid (And.intro hd5 ho5)
          clear ho hd5 ho5
          go_wp2_with fail
          have HIN := HFIN.out _ (by rw [HDT.out]; exact H5.out.1) H5.out.2
          exact ⟨⟨j + 1, by omega, by simp, HIN⟩, by simp [intOf]; omega⟩
        · have HDT : Hid (d.stepT x = (d.sync x.name.data.toList).2) := Lib.hid (by unfold Dk.stepT Dk.doT; rw [HX.out.2.2.1]; rfl)
          go_wp2_with fail
          refine (sync_b HD2.out x.name HS2.out.name).mono ?_
          rintro e w5 ho
          obtain ⟨rfl, hd5, ho5⟩ := ho.canon HB2.out.size HBW.out.size
          have H5 := Lib.hid (And.intro hd5 ho5)
          clear ho hd5 ho5
          go_wp2_with fail
          have HIN := HFIN.out _ (by rw [HDT.out]; exact H5.out.1) H5.out.2
          exact ⟨⟨j + 1, by omega, by simp, HIN⟩, by simp [intOf]; omega⟩
        · have HDT : Hid (d.stepT x = (d.syncdir).2) := Lib.hid (by unfold Dk.stepT Dk.doT; rw [HX.out.2.2.1]; rfl)
          go_wp2_with fail
          refine (syncdir_b HD2.out).mono ?_
          rintro e w5 ho
          obtain ⟨rfl, hd5, ho5⟩ := ho.canon HB2.out.size HBW.out.size
          have H5 := Lib.hid (And.intro hd5 ho5)
          clear ho hd5 ho5
          go_wp2_with fail
          have HIN := HFIN.out _ (by rw [HDT.out]; exact H5.out.1) H5.out.2
          exact ⟨⟨j + 1, by omega, by simp, HIN⟩, by simp [intOf]; omega⟩
        · have HDT : Hid (d.stepT x = (d.cut x.name.data.toList x.n).2) := Lib.hid (by unfold Dk.stepT Dk.doT; rw [HX.out.2.2.1]; rfl)
          go_wp2_with fail
          refine (cut_b HD2.out x.name HS2.out.name x.n).mono ?_
          rintro e w5 ho
          obtain ⟨rfl, hd5, ho5⟩ := ho.canon HB2.out.size HBW.out.size
          have H5 := Lib.hid (And.intro hd5 ho5)
          clear ho hd5 ho5
          go_wp2_with fail
          have HIN := HFIN.out _ (by rw [HDT.out]; exact H5.out.1) H5.out.2
          exact ⟨⟨j + 1, by omega, by simp, HIN⟩, by simp [intOf]; omega⟩
        · have HDT : Hid (d.stepT x = (d.remove x.name.data.toList).2) := Lib.hid (by unfold Dk.stepT Dk.doT; rw [HX.out.2.2.1]; rfl)
          go_wp2_with fail
          refine (remove_b HD2.out x.name HS2.out.name).mono ?_
          rintro e w5 ho
          obtain ⟨rfl, hd5, ho5⟩ := ho.canon HB2.out.size HBW.out.size
          have H5 := Lib.hid (And.intro hd5 ho5)
          clear ho hd5 ho5
          go_wp2_with fail
          have HIN := HFIN.out _ (by rw [HDT.out]; exact H5.out.1) H5.out.2
          exact ⟨⟨j + 1, by omega, by simp, HIN⟩, by simp [intOf]; omega⟩
        · have HDT : Hid (d.stepT x = (d.feed x.fates).2) := Lib.hid (by unfold Dk.stepT; rw [HX.out.2.2.1]; rfl)
          have hfr : readAt w2 2 (.slice oF lf cF) lf (fateCells x.fates) := by
            have h1 := HS2.out.fates
            rwa [HX.out.2.2.2.1, HX.out.2.2.2.2.1] at h1
          have HFE := Lib.hid (feed_b HD2.out HX.out.2.2.2.2.1 hfr (by have := HLB.out; omega) (by have := HI.out.small.fates; omega))
          clear hfr
          go_wp2_with fail
          refine (HFE.out).mono ?_
          rintro e w5 ho
          obtain ⟨rfl, hd5, ho5⟩ := ho.canon HB2.out.size HBW.out.size
          have H5 := Lib.hid (And.intro hd5 ho5)
          clear ho hd5 ho5
          go_wp2_with fail
          have HIN := HFIN.out _ (by rw [HDT.out]; exact H5.out.1) H5.out.2
          exact ⟨⟨j + 1, by omega, by simp, HIN⟩, by simp [intOf]; omega⟩
      · have e1 : (kd == 1) = false := by simp; omega
        have e2 : (kd == 2) = false := by simp; omega
        have e3 : (kd == 3) = false := by simp; omega
        have e4 : (kd == 4) = false := by simp; omega
        have e5 : (kd == 5) = false := by simp; omega
        have e6 : (kd == 6) = false := by simp; omega
        have e9 : (kd == 9) = false := by simp; omega
        have HDT : Hid (d.stepT x = d) := Lib.hid (by unfold Dk.stepT; rw [HX.out.2.2.1, if_neg (by omega), if_neg (by omega)])
        clear hkk
        go_wp2_with fail
        have HIN := HFIN.out _ (by rw [HDT.out]; exact HD2.out.narrow (fun k hk => ⟨hk.1, Nat.lt_of_lt_of_le hk.2 HB2.out.size⟩) (fun k hk => hk.2)) (Below.refl _ _)
        exact ⟨⟨j + 1, by omega, by simp, HIN⟩, by simp [intOf]; omega⟩
    · obtain rfl : j = n := by omega
      have HE : Hid (PlayI w wr q j (Dk.playT ⟨[], fs, 0⟩ l)) := Lib.hid (by
        rw [List.take_of_length_le (by rw [HN.out]; exact Nat.le_refl _)] at hd
        rw [hd]; exact HI.out)
      clear hd
      go_wp2_with fail
      go_ret
      exact ⟨q, rfl, HE.out.disk, HE.out.small, HE.out.below⟩
end Go.Proofs.Ytmkjejngnahpeaa
