/- The texts Fw, Fx, Fy, Ga in one. -/
import Derived.Test.YtmkjejngnahpeaaFu
/- Disk: play: a script is done on a disk. -/
namespace Go.Proofs.Ytmkjejngnahpeaa
open Go Go.Maps Go.RowKit

def Dk.stepT (d : Dk) (x : StepT) : Dk := if 1 ≤ x.kind ∧ x.kind ≤ 6 then (d.doT x).2 else if x.kind = 9 then (d.feed x.fates).2 else d
def Dk.playT (d : Dk) (l : List StepT) : Dk := l.foldl Dk.stepT d
theorem playT_succ {d : Dk} {l : List StepT} {j : Nat} (hj : j < l.length) : d.playT (l.take (j + 1)) = (d.playT (l.take j)).stepT l[j] := by
  unfold Dk.playT
  rw [List.take_succ_eq_append_getElem hj, List.foldl_append]
  rfl
theorem stepT_small {d : Dk} {i : Nat} {x : StepT} (h : Small d i) (hi : i ≤ 300) (hb : x.bytes.length ≤ 3000) (hf : x.fates.length ≤ 100) : Small (d.stepT x) (i + 1) := by
  unfold Dk.stepT
  split
  · rename_i hk
    exact (doT_law h hi hb hk).2
  · split
    · unfold Dk.feed
      split
      · exact h.same
      · have h1 := h.same
        refine ⟨h1.files, h1.bytes, h1.steps, ?_⟩
        show (d.fates ++ x.fates).length ≤ _
        rw [List.length_append]
        have := h.fates
        omega
    · exact h.same
/-- the state at a round's head -/
structure PlayI (w wr : World) (q j : Nat) (d : Dk) : Prop where
  disk : DiskAt wr (Can w.heap.size wr) q d
  small : Small d j
  below : Below w.heap.size w wr
set_option maxRecDepth 100000 in
set_option maxHeartbeats 4000000 in
theorem play_b {w : World} {v1 v2 : Value} {fs : List (Int × Int)} {l : List StepT} (hf : readAt w 2 v1 fs.length (fateCells fs)) (hs : ScriptAt w v2 l) (hfl : fs.length ≤ 100) (hok : fs.any badFate = false) (hll : l.length ≤ 300) (hlx : ∀ x ∈ l, x.bytes.length ≤ 3000 ∧ x.fates.length ≤ 100 ∧ x.picks.length ≤ 300) :
    Calls Try.prog 39 #[v1, v2] w fun e w' => ∃ q, e = .returned (.pointer (some ⟨q, 0, none⟩)) ∧ DiskAt w' (Can w.heap.size w') q (Dk.playT ⟨[], fs, 0⟩ l) ∧ Small (Dk.playT ⟨[], fs, 0⟩ l) l.length ∧ Below w.heap.size w w' := by
  obtain ⟨oa, c, rfl⟩ := hf.shape
  obtain ⟨ob, cb, rfl⟩ := hs.row.shape
  obtain ⟨m, hm⟩ : ∃ m, fs.length = m := ⟨_, rfl⟩
  obtain ⟨n, hn⟩ : ∃ n, l.length = n := ⟨_, rfl⟩
  rw [hm] at hf hfl ⊢
  rw [hn] at hs hll ⊢
  have HF := Lib.hid hf
  have HS := Lib.hid hs
  have HM := Lib.hid hm
  have HN := Lib.hid hn
  have HLX := Lib.hid hlx
  have HOK := Lib.hid hok
  clear hf hs hm hn hlx hok
  go_enter Try.func39, Try.ntmps39
  go_wp2_with fail
  refine (newF_b HM.out HF.out (by omega) HOK.out).mono ?_
  rintro e w1 ⟨q, rfl, hd1, hb1⟩
  have HD1 := Lib.hid hd1
  have HB1 := Lib.hid hb1
  clear hd1 hb1
  go_wp2_with fail
  go_loopw [7] (fun i wr => ∃ (j : Nat), j ≤ n ∧ i = .int .i64 j ∧ Hid (PlayI w wr q j (Dk.playT ⟨[], fs, 0⟩ (l.take j)))) (fun i wr => n - (intOf i).toNat)
  case atStart =>
    refine ⟨0, Nat.zero_le _, rfl, Lib.hid ⟨HD1.out, ⟨by simp [Dk.playT], by simp [Dk.playT], by simp [Dk.playT], ?_⟩, HB1.out⟩⟩
    show fs.length ≤ _
    rw [HM.out]
    omega
  case round =>
    obtain ⟨j, hj, rfl, HI⟩ := hrel
    obtain ⟨d, hd⟩ : ∃ d, Dk.playT ⟨[], fs, 0⟩ (l.take j) = d := ⟨_, rfl⟩
    rw [hd] at HI
    by_cases hlt : j < n
    · have hjl : j < l.length := by rw [HN.out]; exact hlt
      obtain ⟨x, hx⟩ : ∃ x, l[j] = x := ⟨_, rfl⟩
      have hxl : x ∈ l := by rw [← hx]; exact List.getElem_mem _
      have HPT : Hid (Dk.playT ⟨[], fs, 0⟩ (l.take (j + 1)) = d.stepT x) := Lib.hid (by rw [playT_succ hjl, hd, hx])
      have hsr := HS.out.below HI.out.below
      have hok := hsr.each x hxl
      have hrow : readAt wr 7 (.slice ob n cb) n (stepsCells l) := by have := hsr.row; rwa [HN.out] at this
      obtain ⟨g, off, rfl⟩ := hrow.addr (by omega)
      have hcell : ∀ i, i < 7 → ∀ u, x.cells[i]? = some u → wr.cell? ⟨g, off + (j * 7 + i), none⟩ = some u := fun i hi u hu => hrow.cellAt (by rw [stepsCells_get hjl hi, hx, hu])
      obtain ⟨oB, cB, hbv⟩ := hok.bytes.shape
      obtain ⟨oF, cF, hfv⟩ := hok.fates.shape
      obtain ⟨oP, cP, hpv⟩ := hok.picks.shape
      obtain ⟨kd, hkd⟩ : ∃ k, x.kind = k := ⟨_, rfl⟩
      obtain ⟨lb, hlb⟩ : ∃ k, x.bytes.length = k := ⟨_, rfl⟩
      obtain ⟨lf, hlf⟩ : ∃ k, x.fates.length = k := ⟨_, rfl⟩
      obtain ⟨lp, hlp⟩ : ∃ k, x.picks.length = k := ⟨_, rfl⟩
      rw [hlb] at hbv
      rw [hlf] at hfv
      rw [hlp] at hpv
      have k0 : wr.cell? ⟨g, off + j * 7, none⟩ = some (.int .i64 kd) := hcell 0 (by omega) _ (by rw [← hkd]; rfl)
      have k1 : wr.cell? ⟨g, off + j * 7 + 1, none⟩ = some (.int .i64 x.pl) := hcell 1 (by omega) _ rfl
      have k2 : wr.cell? ⟨g, off + j * 7 + 2, none⟩ = some (.int .i64 x.n) := hcell 2 (by omega) _ rfl
      have k3 : wr.cell? ⟨g, off + j * 7 + 3, none⟩ = some (.string x.name) := hcell 3 (by omega) _ rfl
      have k4 : wr.cell? ⟨g, off + j * 7 + 4, none⟩ = some (.slice oB lb cB) := hcell 4 (by omega) _ (by rw [← hbv]; rfl)
      have k5 : wr.cell? ⟨g, off + j * 7 + 5, none⟩ = some (.slice oF lf cF) := hcell 5 (by omega) _ (by rw [← hfv]; rfl)
      have k6 : wr.cell? ⟨g, off + j * 7 + 6, none⟩ = some (.slice oP lp cP) := hcell 6 (by omega) _ (by rw [← hpv]; rfl)
      obtain ⟨w2, hw2⟩ : ∃ w2 : World, w2 = wr.alloc (.cells #[.int .i64 kd, .int .i64 x.pl, .int .i64 x.n, .string x.name, .slice oB lb cB, .slice oF lf cF, .slice oP lp cP] 84) := ⟨_, rfl⟩
      obtain ⟨b8, hb8⟩ : ∃ b, b = wr.heap.size := ⟨_, rfl⟩
      have hc2 : w2.heap[b8]? = some (.cells #[.int .i64 kd, .int .i64 x.pl, .int .i64 x.n, .string x.name, .slice oB lb cB, .slice oF lf cF, .slice oP lp cP] 84 (0, 0)) := by rw [hw2, hb8]; exact alloc_cells _ _ _
      have hb2 : Below wr.heap.size wr w2 := by rw [hw2]; exact (Below.refl _ _).alloc (Nat.le_refl _) _
      have HB2 := Lib.hid hb2
      have HX := Lib.hid (And.intro hbv (And.intro hlb (And.intro hkd (And.intro hfv (And.intro hlf hxl)))))
      have HLB : Hid (lb ≤ 3000 ∧ lf ≤ 100) := Lib.hid (by rw [← hlb, ← hlf]; exact ⟨(HLX.out x hxl).1, (HLX.out x hxl).2.1⟩)
      have HD2 : Hid (DiskAt w2 (Can w.heap.size wr) q d) := Lib.hid (HI.out.disk.below hb2)
      have HS2 : Hid (StepOk w2 x) := Lib.hid (hok.below hb2)
      have HBW : Hid (Below w.heap.size w w2) := Lib.hid (HI.out.below.trans (hb2.mono HI.out.below.size))
      have HNS : Hid (∀ k, (Value.slice oB x.bytes.length cB).ownBlock = some k → 0 < x.bytes.length → ¬ Can w.heap.size wr k) := Lib.hid (fun k hk h0 hc => by
        have h1 := (HS.out.each x hxl).bytes.lt h0 k (by rw [hbv]; rw [hlb] at hk; exact hk)
        have := hc.1
        omega)
      clear hx hxl hsr hok hrow hcell hbv hfv hpv hkd hlb hlf hlp hb2 hd
      go_upto_region 5 with fail
      go_upto_region 6 with fail
      rw [← hw2, ← hb8]
      have c0 : w2.cell? ⟨b8, 0, none⟩ = some (.int .i64 kd) := cell_of hc2 rfl
      have c2 : w2.cell? ⟨b8, 2, none⟩ = some (.int .i64 x.n) := cell_of hc2 rfl
      have c3 : w2.cell? ⟨b8, 3, none⟩ = some (.string x.name) := cell_of hc2 rfl
      have c4 : w2.cell? ⟨b8, 4, none⟩ = some (.slice oB lb cB) := cell_of hc2 rfl
      have c5 : w2.cell? ⟨b8, 5, none⟩ = some (.slice oF lf cF) := cell_of hc2 rfl
      clear hw2 hb8 hc2 k0 k1 k2 k3 k4 k5 k6
      have HFIN : Hid (∀ wx : World, DiskAt wx (Can w.heap.size wx) q (d.stepT x) → Below w.heap.size w2 wx → Hid (PlayI w wx q (j + 1) (Dk.playT ⟨[], fs, 0⟩ (l.take (j + 1))))) := Lib.hid (fun wx h1 h2 => Lib.hid (by
        rw [HPT.out]
        exact ⟨h1, stepT_small HI.out.small (by omega) (by rw [HX.out.2.1]; exact HLB.out.1) (by rw [HX.out.2.2.2.2.1]; exact HLB.out.2), HBW.out.trans h2⟩))
      by_cases hkk : kd = 1 ∨ kd = 2 ∨ kd = 3 ∨ kd = 4 ∨ kd = 5 ∨ kd = 6 ∨ kd = 9
      · rcases hkk with rfl | rfl | rfl | rfl | rfl | rfl | rfl
        · have HDT : Hid (d.stepT x = (d.create x.name.data.toList).2) := Lib.hid (by unfold Dk.stepT Dk.doT; rw [HX.out.2.2.1]; rfl)
          go_wp2_with fail
          refine (create_b HD2.out x.name HS2.out.name).mono ?_
          rintro e w5 ho
          obtain ⟨rfl, hd5, ho5⟩ := ho.canon HB2.out.size HBW.out.size
          have H5 := Lib.hid (And.intro hd5 ho5)
          clear ho hd5 ho5
          go_wp2_with fail
          have HIN := HFIN.out _ (by rw [HDT.out]; exact H5.out.1) H5.out.2
          exact ⟨⟨j + 1, by omega, by simp, HIN⟩, by simp [intOf]; omega⟩
        · have HDT : Hid (d.stepT x = (d.append x.name.data.toList x.bytes).2) := Lib.hid (by unfold Dk.stepT Dk.doT; rw [HX.out.2.2.1]; rfl)
          have hbr : bytesRd w2 (.slice oB x.bytes.length cB) x.bytes := by
            have h1 := HS2.out.bytes
            rwa [HX.out.1, ← HX.out.2.1] at h1
          have HAP := Lib.hid (append_b HD2.out x.name HS2.out.name oB cB x.bytes hbr HNS.out (by rw [HX.out.2.1]; have := HLB.out; omega))
          clear hbr
          rw [HX.out.2.1] at HAP
          go_wp2_with fail
          refine (HAP.out).mono ?_
          rintro e w5 ho
          obtain ⟨rfl, hd5, ho5⟩ := ho.canon HB2.out.size HBW.out.size
          have H5 := Lib.hid (And.intro hd5 ho5)
          clear ho hd5 ho5
          go_wp2_with fail
          have HIN := HFIN.out _ (by rw [HDT.out]; exact H5.out.1) H5.out.2
          exact ⟨⟨j + 1, by omega, by simp, HIN⟩, by simp [intOf]; omega⟩
        · have HDT : Hid (d.stepT x = (d.sync x.name.data.toList).2) := Lib.hid (by unfold Dk.stepT Dk.doT; rw [HX.out.2.2.1]; rfl)
          go_wp2_with fail
          refine (sync_b HD2.out x.name HS2.out.name).mono ?_
          rintro e w5 ho
          obtain ⟨rfl, hd5, ho5⟩ := ho.canon HB2.out.size HBW.out.size
          have H5 := Lib.hid (And.intro hd5 ho5)
          clear ho hd5 ho5
          go_wp2_with fail
          have HIN := HFIN.out _ (by rw [HDT.out]; exact H5.out.1) H5.out.2
          exact ⟨⟨j + 1, by omega, by simp, HIN⟩, by simp [intOf]; omega⟩
        · have HDT : Hid (d.stepT x = (d.syncdir).2) := Lib.hid (by unfold Dk.stepT Dk.doT; rw [HX.out.2.2.1]; rfl)
          go_wp2_with fail
          refine (syncdir_b HD2.out).mono ?_
          rintro e w5 ho
          obtain ⟨rfl, hd5, ho5⟩ := ho.canon HB2.out.size HBW.out.size
          have H5 := Lib.hid (And.intro hd5 ho5)
          clear ho hd5 ho5
          go_wp2_with fail
          have HIN := HFIN.out _ (by rw [HDT.out]; exact H5.out.1) H5.out.2
          exact ⟨⟨j + 1, by omega, by simp, HIN⟩, by simp [intOf]; omega⟩
        · have HDT : Hid (d.stepT x = (d.cut x.name.data.toList x.n).2) := Lib.hid (by unfold Dk.stepT Dk.doT; rw [HX.out.2.2.1]; rfl)
          go_wp2_with fail
          refine (cut_b HD2.out x.name HS2.out.name x.n).mono ?_
          rintro e w5 ho
          obtain ⟨rfl, hd5, ho5⟩ := ho.canon HB2.out.size HBW.out.size
          have H5 := Lib.hid (And.intro hd5 ho5)
          clear ho hd5 ho5
          go_wp2_with fail
          have HIN := HFIN.out _ (by rw [HDT.out]; exact H5.out.1) H5.out.2
          exact ⟨⟨j + 1, by omega, by simp, HIN⟩, by simp [intOf]; omega⟩
        · have HDT : Hid (d.stepT x = (d.remove x.name.data.toList).2) := Lib.hid (by unfold Dk.stepT Dk.doT; rw [HX.out.2.2.1]; rfl)
          go_wp2_with fail
          refine (remove_b HD2.out x.name HS2.out.name).mono ?_
          rintro e w5 ho
          obtain ⟨rfl, hd5, ho5⟩ := ho.canon HB2.out.size HBW.out.size
          have H5 := Lib.hid (And.intro hd5 ho5)
          clear ho hd5 ho5
          go_wp2_with fail
          have HIN := HFIN.out _ (by rw [HDT.out]; exact H5.out.1) H5.out.2
          exact ⟨⟨j + 1, by omega, by simp, HIN⟩, by simp [intOf]; omega⟩
        · have HDT : Hid (d.stepT x = (d.feed x.fates).2) := Lib.hid (by unfold Dk.stepT; rw [HX.out.2.2.1]; rfl)
          have hfr : readAt w2 2 (.slice oF lf cF) lf (fateCells x.fates) := by
            have h1 := HS2.out.fates
            rwa [HX.out.2.2.2.1, HX.out.2.2.2.2.1] at h1
          have HFE := Lib.hid (feed_b HD2.out HX.out.2.2.2.2.1 hfr (by have := HLB.out; omega) (by have := HI.out.small.fates; omega))
          clear hfr
          go_wp2_with fail
          refine (HFE.out).mono ?_
          rintro e w5 ho
          obtain ⟨rfl, hd5, ho5⟩ := ho.canon HB2.out.size HBW.out.size
          have H5 := Lib.hid (And.intro hd5 ho5)
          clear ho hd5 ho5
          go_wp2_with fail
          have HIN := HFIN.out _ (by rw [HDT.out]; exact H5.out.1) H5.out.2
          exact ⟨⟨j + 1, by omega, by simp, HIN⟩, by simp [intOf]; omega⟩
      · have e1 : (kd == 1) = false := by simp; omega
        have e2 : (kd == 2) = false := by simp; omega
        have e3 : (kd == 3) = false := by simp; omega
        have e4 : (kd == 4) = false := by simp; omega
        have e5 : (kd == 5) = false := by simp; omega
        have e6 : (kd == 6) = false := by simp; omega
        have e9 : (kd == 9) = false := by simp; omega
        have HDT : Hid (d.stepT x = d) := Lib.hid (by unfold Dk.stepT; rw [HX.out.2.2.1, if_neg (by omega), if_neg (by omega)])
        clear hkk
        go_wp2_with fail
        have HIN := HFIN.out _ (by rw [HDT.out]; exact HD2.out.narrow (fun k hk => ⟨hk.1, Nat.lt_of_lt_of_le hk.2 HB2.out.size⟩) (fun k hk => hk.2)) (Below.refl _ _)
        exact ⟨⟨j + 1, by omega, by simp, HIN⟩, by simp [intOf]; omega⟩
    · obtain rfl : j = n := by omega
      have HE : Hid (PlayI w wr q j (Dk.playT ⟨[], fs, 0⟩ l)) := Lib.hid (by
        rw [List.take_of_length_le (by rw [HN.out]; exact Nat.le_refl _)] at hd
        rw [hd]; exact HI.out)
      clear hd
      go_wp2_with fail
      go_ret
      exact ⟨q, rfl, HE.out.disk, HE.out.small, HE.out.below⟩
end Go.Proofs.Ytmkjejngnahpeaa
/- Disk: all is synced: a crash leaves what there was. -/
namespace Go.Proofs.Ytmkjejngnahpeaa
open Go Go.RowKit

theorem fate_nil {d : Dk} (h : d.fates = []) : d.fate = (0, 0) := by unfold Dk.fate; rw [h]
/-- without fates, and without what feeds, none comes -/
theorem doT_fates {d : Dk} (h : d.fates = []) (x : StepT) : (d.doT x).2.fates = [] := by
  have hn : d.next.fates = [] := by show d.fates.tail = []; rw [h]; rfl
  unfold Dk.doT Dk.create Dk.append Dk.sync Dk.syncdir Dk.cut Dk.remove
  repeat' split
  all_goals first | exact h | exact hn
theorem playT_fates {l : List StepT} (hk : ∀ x ∈ l, x.kind ≠ 9) : ∀ d : Dk, d.fates = [] → (d.playT l).fates = [] := by
  induction l with
  | nil => exact fun d h => h
  | cons x r ih =>
    intro d h
    refine ih (fun y hy => hk y (by simp [hy])) (d.stepT x) ?_
    unfold Dk.stepT
    split
    · exact doT_fates h x
    · rw [if_neg (hk x (by simp))]
      exact h
def syncG (ns : List (List UInt8)) (f : F0) : F0 := if f.name ∈ ns then { f with lasts := f.bytes.length } else f
theorem syncG_name (ns : List (List UInt8)) (f : F0) : (syncG ns f).name = f.name ∧ (syncG ns f).there = f.there ∧ (syncG ns f).named = f.named ∧ (syncG ns f).bytes = f.bytes := by
  unfold syncG
  split <;> exact ⟨rfl, rfl, rfl, rfl⟩
/-- the names of ns are synced -/
structure Synced (d0 d : Dk) (ns : List (List UInt8)) : Prop where
  files : d.files = d0.files.map (syncG ns)
  fates : d.fates = []
theorem sync_next {d0 d : Dk} {ns : List (List UInt8)} {s : List UInt8} (h : Synced d0 d ns) (hs : (d0.files.map (·.name)).Pairwise (· < ·)) (hm : s ∈ d0.names) (hok : nameOk s = true) : (d.sync s).1 = 0 ∧ Synced d0 (d.sync s).2 (ns ++ [s]) := by
  obtain ⟨f, hf, rfl⟩ := List.mem_map.1 hm
  obtain ⟨hf0, hft⟩ := List.mem_filter.1 hf
  have hnd : (d0.files.map (·.name)).Nodup := hs.imp (fun {a b} hab he => by rw [he] at hab; exact List.lt_irrefl _ hab)
  have hat : ∃ g, d.find f.name = some g := by
    have hex : ∃ g, d.at f.name = some g := by
      cases ha : d.at f.name with
      | some g => exact ⟨g, rfl⟩
      | none =>
        have := List.find?_eq_none.1 ha (syncG ns f) (by rw [h.files]; exact List.mem_map_of_mem hf0)
        simp [(syncG_name ns f).1] at this
    obtain ⟨g, hg⟩ := hex
    have hgm : g ∈ d.files := List.mem_of_find?_eq_some hg
    have hgn : g.name = f.name := by have := List.find?_some hg; simpa using this
    rw [h.files] at hgm
    obtain ⟨f', hf', rfl⟩ := List.mem_map.1 hgm
    rw [(syncG_name ns f').1] at hgn
    have hff : f' = f := by
      clear hg hgm hm hf hok h
      generalize d0.files = L at hnd hf0 hf'
      induction L with
      | nil => cases hf'
      | cons a r ih =>
        rw [List.map_cons, List.nodup_cons] at hnd
        rcases List.mem_cons.1 hf' with h1 | h1
        · rcases List.mem_cons.1 hf0 with h2 | h2
          · rw [h1, h2]
          · exact absurd (by rw [← h1, hgn]; exact List.mem_map_of_mem (f := fun f : F0 => f.name) h2) hnd.1
        · rcases List.mem_cons.1 hf0 with h2 | h2
          · exact absurd (by rw [← h2, ← hgn]; exact List.mem_map_of_mem (f := fun f : F0 => f.name) h1) hnd.1
          · exact ih hnd.2 h2 h1
    subst hff
    refine ⟨syncG ns f', ?_⟩
    unfold Dk.find
    rw [hg]
    simp only [Option.filter_some, (syncG_name ns f').2.1, hft, if_true]
  obtain ⟨g, hg⟩ := hat
  have e : d.sync f.name = (0, d.next.turn f.name fun f => { f with lasts := f.bytes.length }) := by
    unfold Dk.sync
    rw [hok, hg, fate_nil h.fates]
    rfl
  rw [e]
  refine ⟨rfl, ?_, ?_⟩
  · show d.files.map _ = _
    rw [h.files, List.map_map]
    refine List.map_congr_left fun y _ => ?_
    have hmem : y.name ∈ ns ++ [f.name] ↔ y.name ∈ ns ∨ y.name = f.name := by simp
    show (if (syncG ns y).name = f.name then _ else syncG ns y) = syncG (ns ++ [f.name]) y
    rw [(syncG_name ns y).1]
    by_cases h2 : y.name = f.name
    · rw [if_pos h2]
      unfold syncG
      rw [if_pos (hmem.2 (.inr h2))]
      by_cases h1 : y.name ∈ ns
      · rw [if_pos h1]
      · rw [if_neg h1]
    · rw [if_neg h2]
      unfold syncG
      by_cases h1 : y.name ∈ ns
      · rw [if_pos h1, if_pos (hmem.2 (.inl h1))]
      · rw [if_neg h1, if_neg (fun h => (hmem.1 h).elim h1 h2)]
  · show d.fates.tail = []
    rw [h.fates]; rfl
/-- what stands when all is synced -/
def Firm (d : Dk) : Prop := d.fates = [] ∧ ∀ f ∈ d.files, f.there = true ∧ f.named = true ∧ f.lasts = f.bytes.length
theorem synced_dir {d0 d : Dk} (h : Synced d0 d d0.names) : d.syncdir.1 = 0 ∧ Firm d.syncdir.2 := by
  unfold Dk.syncdir
  rw [fate_nil h.fates, if_neg (by simp)]
  refine ⟨rfl, ?_, fun f hf => ?_⟩
  · show d.fates.tail = []
    rw [h.fates]; rfl
  · obtain ⟨g, hg, rfl⟩ := List.mem_map.1 hf
    obtain ⟨hg1, hg2⟩ := List.mem_filter.1 hg
    rw [h.files] at hg1
    obtain ⟨f0, hf0, rfl⟩ := List.mem_map.1 hg1
    rw [(syncG_name _ f0).2.1] at hg2
    have hn : f0.name ∈ d0.names := List.mem_map.2 ⟨f0, List.mem_filter.2 ⟨hf0, hg2⟩, rfl⟩
    unfold syncG
    rw [if_pos hn]
    exact ⟨hg2, rfl, rfl⟩
theorem firm_crash {d : Dk} (h : Firm d) (ps : List Int) : (d.crash ps).files = d.files := by
  have key : ∀ (l acc : List F0), (∀ f ∈ l, f.there = true ∧ f.named = true ∧ f.lasts = f.bytes.length) → l.foldl crashStep (acc, ps) = (acc ++ l, ps) := by
    intro l
    induction l with
    | nil => intro acc _; simp
    | cons f r ih =>
      intro acc hl
      obtain ⟨h1, h2, h3⟩ := hl f (by simp)
      have e : crashStep (acc, ps) f = (acc ++ [f], ps) := by
        unfold crashStep keepP moreP
        rw [h1, h2]
        simp only [Bool.and_self, if_true, Bool.true_and]
        rw [if_neg (by simp), if_neg (by simp [h3])]
        simp only [cutF, Nat.add_zero, h3, List.take_length]
        obtain ⟨a, b, c, t, n⟩ := f
        simp only at h1 h2 h3
        rw [h1, h2, h3]
      rw [List.foldl_cons, e, ih _ (fun g hg => hl g (by simp [hg])), List.append_assoc]
      rfl
  show (crashTo d.files ps).1 = _
  unfold crashTo
  rw [key d.files [] h.2]
  rfl
end Go.Proofs.Ytmkjejngnahpeaa
/- Disk: DiskSynced, the walk. -/
namespace Go.Proofs.Ytmkjejngnahpeaa
open Go Go.Maps Go.RowKit
open Go.Proofs (encStr)

theorem info_step : (Try.prog.info? 84).map (fun i => (i.zero, i.size, i.bytes)) = some (some (.agg #[.int .i64 0, .int .i64 0, .int .i64 0, .string ⟨#[]⟩, .slice none 0 0, .slice none 0 0, .slice none 0 0]), 7, 112) := by kernel_rfl
theorem seven_row (w : World) (a b c d e f g : Value) : rowAt (w.alloc (.cells #[a, b, c, d, e, f, g] 84)) 84 7 (.slice (some ⟨w.heap.size, 0, none⟩) 1 1) 1 [a, b, c, d, e, f, g] :=
  ⟨rfl, .inr ⟨_, 0, 1, _, _, rfl, alloc_cells _ _ _, Nat.le_refl _, by unfold maxLen; omega, by simp, freeRow_zero _, rfl⟩⟩
theorem wpList_append_step {w2 : World} {ops : Array Oper} {rest : List Oper} {o : Oper} {a : Act} {Q : Exit → Act → World → Prop} (hgd : o.guard = none) (s x : Operand)
    (ho : o.op = .call { callee := .builtin .append, args := #[s, x], argTypes := #[66, 66] })
    {oa : Option Addr} {m c : Nat} {xs : List Value} {a0 a1 a2 a3 a4 a5 a6 : Value} (h : rowAt w2 84 7 (.slice oa m c) m xs) (hm : m ≤ 1000000) (h1 : ∀ v ∈ [a0, a1, a2, a3, a4, a5, a6], v.oneCell' = true)
    (hs : a.eval s = .slice oa m c) (hx : a.eval x = .slice (some ⟨w2.heap.size, 0, none⟩) 1 1)
    (hK : ∀ oa3 c3 w3, Hid (rowAt w3 84 7 (.slice oa3 (m + 1) c3) (m + 1) (xs ++ [a0, a1, a2, a3, a4, a5, a6])) → Hid ((w2.alloc (.cells #[a0, a1, a2, a3, a4, a5, a6] 84)).grownBy w3 (Value.slice oa m c).ownBlock) →
      Hid ((Value.slice oa3 (m + 1) c3).ownBlock = (Value.slice oa m c).ownBlock ∨ (Value.slice oa3 (m + 1) c3).ownBlock = some (w2.heap.size + 1)) → wpList Try.prog ops Q rest (a.put o.dst (.slice oa3 (m + 1) c3)) w3) :
    wpList Try.prog ops Q (o :: rest) a (w2.alloc (.cells #[a0, a1, a2, a3, a4, a5, a6] 84)) := by
  refine wpList_append_at _ hgd s x 66 66 ho 84 (.agg #[.int .i64 0, .int .i64 0, .int .i64 0, .string ⟨#[]⟩, .slice none 0 0, .slice none 0 0, .slice none 0 0]) 7 112 Try.underlying66 info_step rfl _ m xs hs (h.kept (fun k hk => Below.heap_alloc _ _ k (h.lt k hk))) _ 1 _ hx (Src.of_row Try.underlying66 (seven_row w2 a0 a1 a2 a3 a4 a5 a6) h1) (by unfold maxLen; omega) (by omega) ?_
  intro v' w3 hr hg hown _
  obtain ⟨oa3, c3, rfl, _⟩ := hr.shape
  exact hK oa3 c3 w3 (Lib.hid hr) (Lib.hid hg) (Lib.hid (by simpa using hown))
/-- a step that does not feed -/
def noFeed (x : StepT) : Bool := decide (x.kind ≠ 9)
theorem filter_take_succ {l : List StepT} {j : Nat} (hj : j < l.length) : (l.take (j + 1)).filter noFeed = (l.take j).filter noFeed ++ (if noFeed l[j] = true then [l[j]] else []) := by
  rw [List.take_succ_eq_append_getElem hj, List.filter_append]
  congr 1
  cases h : noFeed l[j] <;> simp [h]
theorem stepsCells_snoc (l : List StepT) (x : StepT) : stepsCells (l ++ [x]) = stepsCells l ++ x.cells := by simp [stepsCells]
/-- the state while names are synced -/
structure SyncI (wp wn wr : World) (W : World) (q : Nat) (d0 d : Dk) (j : Nat) : Prop where
  disk : DiskAt wr (fun k => Can W.heap.size wp k ∨ (wn.heap.size ≤ k ∧ k < wr.heap.size)) q d
  synced : Synced d0 d (d0.names.take j)
  only : Only (Can W.heap.size wp) wn wr
theorem below_of_only {B : Nat} {W wp wn wr : World} (h : Below B W wn) (ho : Only (Can B wp) wn wr) (hB : B ≤ wn.heap.size) : Below B W wr := h.trans (ho.below (fun i hi hc => by have := hc.1; omega) hB)
theorem DiskAt.files_of {w : World} {S : Nat → Prop} {q : Nat} {d : Dk} (h : DiskAt w S q d) : (d.files.map (·.name)).Pairwise (· < ·) ∧ ∀ f ∈ d.files, nameOk f.name = true := by
  obtain ⟨mb, fv, L, h⟩ := h
  exact ⟨h.sorted, h.names⟩
theorem name_size {s : List UInt8} (h : nameOk s = true) : (⟨s.toArray⟩ : ByteArray).size ≤ maxLen := by
  simp only [nameOk, Bool.and_eq_true, decide_eq_true_eq] at h
  have h4 : (⟨s.toArray⟩ : ByteArray).size = s.length := rfl
  unfold maxLen
  omega
theorem names_ok {d : Dk} (h : ∀ f ∈ d.files, nameOk f.name = true) : ∀ s ∈ d.names, nameOk s = true := fun s hs => by
  obtain ⟨f, hf, rfl⟩ := List.mem_map.1 hs
  exact h f (List.mem_filter.1 hf).1
theorem synced_start {d : Dk} (h : d.fates = []) : Synced d d [] := ⟨by
  have : ∀ l : List F0, l.map (syncG []) = l := fun l => (List.map_congr_left fun f _ => by simp [syncG]).trans (List.map_id _)
  rw [this], h⟩
theorem take_succ_names {α : Type} {l : List α} {j : Nat} (hj : j < l.length) : l.take (j + 1) = l.take j ++ [l[j]] := List.take_succ_eq_append_getElem hj
theorem SyncI.next {wp wn wr w' W : World} {q j : Nat} {d0 d : Dk} {s : List UInt8} {e : Ending} (h : SyncI wp wn wr W q d0 d j) (hs : (d0.files.map (·.name)).Pairwise (· < ·)) (hok : ∀ f ∈ d0.files, nameOk f.name = true) (hj : j < d0.names.length) (hx : d0.names[j] = s)
    (ho : OpIs wr (fun k => Can W.heap.size wp k ∨ (wn.heap.size ≤ k ∧ k < wr.heap.size)) q (d.sync s) e w') : e = .returned (.int .i64 0) ∧ SyncI wp wn w' W q d0 (d.sync s).2 (j + 1) := by
  obtain ⟨he, hd, hoo⟩ := ho
  have hm : s ∈ d0.names := by rw [← hx]; exact List.getElem_mem _
  obtain ⟨h1, h2⟩ := sync_next h.synced hs hm (names_ok hok s hm)
  refine ⟨by rw [he, h1], ⟨hd.narrow (fun k hk => ?_) (fun k hk => ?_), by rw [take_succ_names hj, hx]; exact h2, h.only.trans hoo (fun i hi hc => ?_)⟩⟩
  · rcases hk with (hk | hk) | hk
    · exact .inl hk
    · exact .inr ⟨hk.1, Nat.lt_of_lt_of_le hk.2 hoo.size⟩
    · exact .inr ⟨Nat.le_trans h.only.size hk.1, hk.2⟩
  · rcases hk with hk | hk
    · exact hd.low k (.inl (.inl hk))
    · exact hk.2
  · rcases hc with hc | hc
    · exact hc
    · omega
/-- what a crash call answers -/
theorem crash_c {w : World} {S : Nat → Prop} {q : Nat} {d : Dk} (h : DiskAt w S q d) (hf : Firm d) {oa : Option Addr} {c n : Nat} {ps : List Int} (hn : ps.length = n) (hp : readAt w 1 (.slice oa n c) n (intCells ps)) (hpl : n ≤ 1000) (hpm : ∀ x ∈ ps, x ≤ 9223372036854775807) :
    Calls Try.prog 40 #[.pointer (some ⟨q, 0, none⟩), .agg #[.slice oa n c]] w fun e w' => (e = .returned (.tuple #[.pointer none, .int .i64 2]) ∧ Below w.heap.size w w') ∨
      (∃ q2 d2, e = .returned (.tuple #[.pointer (some ⟨q2, 0, none⟩), .int .i64 0]) ∧ Hid (DiskAt w' (fun k => w.heap.size ≤ k ∧ k < w'.heap.size) q2 d2 ∧ d2.files = d.files) ∧ Below w.heap.size w w') := by
  subst hn
  refine (crash_b h oa c ps hp (by omega) hpm).mono ?_
  rintro e w' (⟨_, he, hb⟩ | ⟨_, q2, he, hd, hb⟩)
  · exact .inl ⟨he, hb⟩
  · exact .inr ⟨q2, d.crash ps, he, Lib.hid ⟨hd, firm_crash hf ps⟩, hb⟩
end Go.Proofs.Ytmkjejngnahpeaa
/- Disk: DiskSynced, the walk. -/
namespace Go.Proofs.Ytmkjejngnahpeaa
open Go Go.Maps Go.RowKit
open Go.Proofs (encStr)

set_option maxRecDepth 100000 in
set_option maxHeartbeats 4000000 in
theorem diskSynced_walk {W : World} {v0 v1 v2 : Value} {l : List StepT} {p1 p2 : List Int} (hs : ScriptAt W v0 l) (h1 : readAt W 1 v1 p1.length (intCells p1)) (h2 : readAt W 1 v2 p2.length (intCells p2)) (hm1 : ∀ x ∈ p1, x ≤ 9223372036854775807) (hm2 : ∀ x ∈ p2, x ≤ 9223372036854775807) :
    Calls Try.prog 8 #[v0, v1, v2] W fun e W' => e = .returned (.bool true) ∧ Below W.heap.size W W' := by
  obtain ⟨ob, cb, rfl⟩ := hs.row.shape
  obtain ⟨o1, c1, rfl⟩ := h1.shape
  obtain ⟨o2, c2, rfl⟩ := h2.shape
  obtain ⟨n, hn⟩ : ∃ n, l.length = n := ⟨_, rfl⟩
  obtain ⟨n1, hn1⟩ : ∃ n, p1.length = n := ⟨_, rfl⟩
  obtain ⟨n2, hn2⟩ : ∃ n, p2.length = n := ⟨_, rfl⟩
  rw [hn] at hs ⊢
  rw [hn1] at h1 ⊢
  rw [hn2] at h2 ⊢
  have HS := Lib.hid hs
  have HN := Lib.hid hn
  have HP1 := Lib.hid (And.intro h1 (And.intro hn1 hm1))
  have HP2 := Lib.hid (And.intro h2 (And.intro hn2 hm2))
  obtain ⟨vt, hvt⟩ : ∃ b, vastT l = b := ⟨_, rfl⟩
  have HVB : Hid (Calls Try.prog 36 #[.slice ob n cb] W fun e w' => e = .returned (.bool vt) ∧ w' = W) := Lib.hid (by rw [← hvt]; exact vast_b hs)
  have HVT := Lib.hid hvt
  clear hs h1 h2 hm1 hm2 hn hn1 hn2 hvt
  by_cases hbig : vt = true ∨ 300 < n1 ∨ 300 < n2
  · have hg : (vt || decide ((300 : Int) < (n1 : Int)) || decide ((300 : Int) < (n2 : Int))) = true := by
      rcases hbig with h | h | h
      · rw [h]; rfl
      · have : decide ((300 : Int) < (n1 : Int)) = true := by simp; omega
        rw [this]; simp
      · have : decide ((300 : Int) < (n2 : Int)) = true := by simp; omega
        rw [this]; simp
    clear hbig
    obtain ⟨b1, hb1⟩ : ∃ b, decide ((300 : Int) < (n1 : Int)) = b := ⟨_, rfl⟩
    obtain ⟨b2, hb2⟩ : ∃ b, decide ((300 : Int) < (n2 : Int)) = b := ⟨_, rfl⟩
    rw [hb1, hb2] at hg
    cases vt <;> cases b1 <;> cases b2 <;> first
      | (exfalso; revert hg; decide)
      | (go_enter Try.func8, Try.ntmps8
         go_wp2_with (first | (go_at_call 36; refine HVB.out.mono ?_; rintro e w' ⟨rfl, hw'⟩; obtain rfl := hw'.symm) | (go_at_call 38; refine (known7_b _).mono ?_; rintro e w' ⟨rfl, hb⟩; have HB := Lib.hid hb; clear hb))
         go_ret
         exact ⟨rfl, HB.out⟩)
  · have hvf : vt = false := by cases vt; rfl; exact absurd (.inl rfl) hbig
    subst hvf
    have hd1 : decide ((300 : Int) < (n1 : Int)) = false := by simp; omega
    have hd2 : decide ((300 : Int) < (n2 : Int)) = false := by simp; omega
    obtain ⟨hl300, hlx⟩ := not_vast HVT.out
    have HLX := Lib.hid hlx
    rw [HN.out] at hl300
    have hn12 : n1 ≤ 300 ∧ n2 ≤ 300 := by omega
    clear hbig hlx
    go_enter Try.func8, Try.ntmps8
    go_wp2_with (go_at_call 36; refine HVB.out.mono ?_; rintro e w' ⟨rfl, hw'⟩; obtain rfl := hw'.symm)
    clear HVB
    go_loopw [7, 8] (fun s i wr => ∃ (j m c' : Nat) (oa' : Option Addr), j ≤ n ∧ Hid (m = ((l.take j).filter noFeed).length) ∧ m ≤ j ∧ i = .int .i64 j ∧ s = .slice oa' m c' ∧ Hid (rowAt wr 84 7 (.slice oa' m c') m (stepsCells ((l.take j).filter noFeed))) ∧ Hid (∀ k, (Value.slice oa' m c').ownBlock = some k → W.heap.size ≤ k) ∧ Hid (Below W.heap.size W wr)) (fun s i wr => n - (intOf i).toNat)
    case atStart => exact ⟨0, 0, 0, none, Nat.zero_le _, Lib.hid (by simp), Nat.le_refl _, rfl, rfl, Lib.hid ⟨by simp [stepsCells], .inl ⟨rfl, rfl⟩⟩, Lib.hid (fun k hk => by simp [Value.ownBlock] at hk), Lib.hid (Below.refl _ _)⟩
    case round =>
      obtain ⟨j, m, c', oa', hjn, HMJ, hmj, rfl, rfl, HRO, HLO, HBL⟩ := hrel
      by_cases hlt : j < n
      · have hjl : j < l.length := by rw [HN.out]; exact hlt
        obtain ⟨x, hx⟩ : ∃ x, l[j] = x := ⟨_, rfl⟩
        have hxl : x ∈ l := by rw [← hx]; exact List.getElem_mem _
        have hsr := HS.out.below HBL.out
        have hok := hsr.each x hxl
        have hrow : readAt wr 7 (.slice ob n cb) n (stepsCells l) := by have := hsr.row; rwa [HN.out] at this
        obtain ⟨g, off, rfl⟩ := hrow.addr (by omega)
        have hcell : ∀ i, i < 7 → ∀ u, x.cells[i]? = some u → wr.cell? ⟨g, off + (j * 7 + i), none⟩ = some u := fun i hi u hu => hrow.cellAt (by rw [stepsCells_get hjl hi, hx, hu])
        obtain ⟨oB, cB, hbv⟩ := hok.bytes.shape
        obtain ⟨oF, cF, hfv⟩ := hok.fates.shape
        obtain ⟨oP, cP, hpv⟩ := hok.picks.shape
        obtain ⟨kd, hkd⟩ : ∃ k, x.kind = k := ⟨_, rfl⟩
        obtain ⟨lb, hlb⟩ : ∃ k, x.bytes.length = k := ⟨_, rfl⟩
        obtain ⟨lf, hlf⟩ : ∃ k, x.fates.length = k := ⟨_, rfl⟩
        obtain ⟨lp, hlp⟩ : ∃ k, x.picks.length = k := ⟨_, rfl⟩
        rw [hlb] at hbv
        rw [hlf] at hfv
        rw [hlp] at hpv
        have k0 : wr.cell? ⟨g, off + j * 7, none⟩ = some (.int .i64 kd) := hcell 0 (by omega) _ (by rw [← hkd]; rfl)
        have k1 : wr.cell? ⟨g, off + j * 7 + 1, none⟩ = some (.int .i64 x.pl) := hcell 1 (by omega) _ rfl
        have k2 : wr.cell? ⟨g, off + j * 7 + 2, none⟩ = some (.int .i64 x.n) := hcell 2 (by omega) _ rfl
        have k3 : wr.cell? ⟨g, off + j * 7 + 3, none⟩ = some (.string x.name) := hcell 3 (by omega) _ rfl
        have k4 : wr.cell? ⟨g, off + j * 7 + 4, none⟩ = some (.slice oB lb cB) := hcell 4 (by omega) _ (by rw [← hbv]; rfl)
        have k5 : wr.cell? ⟨g, off + j * 7 + 5, none⟩ = some (.slice oF lf cF) := hcell 5 (by omega) _ (by rw [← hfv]; rfl)
        have k6 : wr.cell? ⟨g, off + j * 7 + 6, none⟩ = some (.slice oP lp cP) := hcell 6 (by omega) _ (by rw [← hpv]; rfl)
        have HCL : Hid (x.cells = [.int .i64 kd, .int .i64 x.pl, .int .i64 x.n, .string x.name, .slice oB lb cB, .slice oF lf cF, .slice oP lp cP]) := Lib.hid (by unfold StepT.cells; rw [hbv, hfv, hpv, hkd])
        have HTK : Hid ((l.take (j + 1)).filter noFeed = (l.take j).filter noFeed ++ (if kd = 9 then [] else [x])) := Lib.hid (by
          rw [filter_take_succ hjl, hx]
          congr 1
          by_cases h9 : kd = 9
          · rw [if_pos h9, if_neg (by simp [noFeed, hkd, h9])]
          · rw [if_neg h9, if_pos (by simp [noFeed, hkd, h9])])
        clear hx hxl hsr hok hrow hcell hbv hfv hpv hkd hlb hlf hlp
        by_cases h9 : kd = 9
        · have e9 : (kd != 9) = false := by simp [h9]
          have HT2 : Hid ((l.take (j + 1)).filter noFeed = (l.take j).filter noFeed) := Lib.hid (by rw [HTK.out, if_pos h9, List.append_nil])
          clear h9
          go_wp2_with fail
          exact ⟨⟨j + 1, m, c', oa', by omega, by rw [HT2.out]; exact HMJ, by omega, by simp, rfl, by rw [HT2.out]; exact HRO, HLO, HBL⟩, by simp [intOf]; omega⟩
        · have e9 : (kd != 9) = true := by simpa using h9
          have HT2 : Hid ((l.take (j + 1)).filter noFeed = (l.take j).filter noFeed ++ [x]) := Lib.hid (by rw [HTK.out, if_neg h9])
          clear h9
          go_wp2_with (at_builtin; refine wpList_append_step rfl (.tmp 41) (.tmp 46) rfl HRO.out (by omega) (by intro v hv; simp only [List.mem_cons, List.not_mem_nil, or_false] at hv; rcases hv with rfl | rfl | rfl | rfl | rfl | rfl | rfl <;> rfl) rfl rfl ?_; intro oa3 c3 w3 HR3 HG3 HOW)
          have HB3 : Hid (Below W.heap.size W w3) := Lib.hid ((HBL.out.alloc HBL.out.size _).grown HG3.out (by have := HBL.out.size; simp; omega) (fun k hk => HLO.out k hk))
          have HRN : Hid (rowAt w3 84 7 (.slice oa3 (m + 1) c3) (m + 1) (stepsCells ((l.take (j + 1)).filter noFeed))) := Lib.hid (by rw [HT2.out, stepsCells_snoc, HCL.out]; exact HR3.out)
          have HLN2 : Hid (∀ k, (Value.slice oa3 (m + 1) c3).ownBlock = some k → W.heap.size ≤ k) := Lib.hid (fun k hk => by
            rcases HOW.out with h1 | h1
            · exact HLO.out k (by rw [← h1]; exact hk)
            · rw [hk] at h1
              simp at h1
              have h2 := HBL.out.size
              omega)
          have HMN : Hid (m + 1 = ((l.take (j + 1)).filter noFeed).length) := Lib.hid (by rw [HT2.out, List.length_append, ← HMJ.out]; rfl)
          exact ⟨⟨j + 1, m + 1, c3, oa3, by omega, HMN, by omega, by simp, rfl, HRN, HLN2, HB3⟩, by simp [intOf]; omega⟩
      · obtain rfl : j = n := by omega
        obtain ⟨sm, hsm⟩ : ∃ sm, l.filter noFeed = sm := ⟨_, rfl⟩
        have hrr := HRO.out
        have hmm := HMJ.out
        rw [List.take_of_length_le (by rw [HN.out]; exact Nat.le_refl _), hsm] at hrr hmm
        have hssc : ScriptAt wr (.slice oa' m c') sm := ⟨by rw [← hmm]; exact hrr.read, fun x hx => (HS.out.below HBL.out).each x (by rw [← hsm] at hx; exact (List.mem_filter.1 hx).1)⟩
        have hk9 : ∀ x ∈ sm, x.kind ≠ 9 := fun x hx => by
          rw [← hsm] at hx
          have := (List.mem_filter.1 hx).2
          simpa [noFeed] using this
        have hlsm : sm.length ≤ 300 := by omega
        have HPL : Hid (Calls Try.prog 39 #[.slice none 0 0, .slice oa' m c'] wr fun e w' => ∃ q, e = .returned (.pointer (some ⟨q, 0, none⟩)) ∧ DiskAt w' (Can wr.heap.size w') q (Dk.playT ⟨[], [], 0⟩ sm) ∧ Small (Dk.playT ⟨[], [], 0⟩ sm) sm.length ∧ Below wr.heap.size wr w') := Lib.hid
          (play_b (fs := []) ⟨by simp [fateCells], .inl ⟨rfl, none, 0, rfl, fun _ => rfl⟩⟩ hssc (by simp) (by simp) hlsm (fun x hx => HLX.out x (by rw [← hsm] at hx; exact (List.mem_filter.1 hx).1)))
        have HF0 : Hid ((Dk.playT ⟨[], [], 0⟩ sm).fates = []) := Lib.hid (playT_fates hk9 _ rfl)
        clear hrr hmm hssc hk9 hsm hlsm hmj
        go_wp2_with fail
        refine HPL.out.mono ?_
        rintro e wp ⟨q, rfl, hdp, -, hbp⟩
        obtain ⟨d0, hd0⟩ : ∃ d0, Dk.playT ⟨[], [], 0⟩ sm = d0 := ⟨_, rfl⟩
        rw [hd0] at hdp HF0
        have HDP : Hid (DiskAt wp (Can W.heap.size wp) q d0) := Lib.hid (hdp.narrow (fun k hk => ⟨by have := HBL.out.size; have := hk.1; omega, hk.2⟩) (fun k hk => hk.2))
        have HBP : Hid (Below W.heap.size W wp) := Lib.hid (HBL.out.trans (hbp.mono HBL.out.size))
        clear hdp hbp hd0 HPL HRO HLO HMJ
        go_wp2_with fail
        refine (Names_b HDP.out).mono ?_
        rintro e wn ⟨vn, rfl, hrn, hvn, hbn⟩
        obtain ⟨on, cn, rfl, _⟩ := hrn.shape
        obtain ⟨N, hN⟩ : ∃ N, d0.names.length = N := ⟨_, rfl⟩
        rw [hN] at hrn hvn ⊢
        have HRN := Lib.hid (And.intro hrn (And.intro hvn hN))
        have HDN : Hid (DiskAt wn (Can W.heap.size wp) q d0) := Lib.hid (HDP.out.below hbn)
        have HBN : Hid (Below W.heap.size W wn) := Lib.hid (HBP.out.trans (hbn.mono HBP.out.size))
        have HPN : Hid (wp.heap.size ≤ wn.heap.size) := Lib.hid hbn.size
        have hN4 : N ≤ 4096 := by
          obtain ⟨mb, fv, L, hd⟩ := HDP.out
          have h1 := hd.few
          have h2 := List.length_filter_le (fun f : F0 => f.there) d0.files
          rw [← hN]
          simp only [Dk.names, List.length_map]
          omega
        clear hrn hvn hbn hN
        have hfo := HDP.out.files_of
        have HFO := Lib.hid hfo
        clear hfo
        go_wp2_with fail
        go_loopw [11] (fun i wr => ∃ (j : Nat) (d : Dk), j ≤ N ∧ i = .int .i64 j ∧ Hid (SyncI wp wn wr W q d0 d j)) (fun i wr => N - (intOf i).toNat)
        case atStart => exact ⟨0, d0, Nat.zero_le _, rfl, Lib.hid ⟨HDN.out.narrow (fun k hk => .inl hk) (fun k hk => by
          rcases hk with hk | hk
          · exact HDN.out.low k hk
          · exact hk.2), by rw [List.take_zero]; exact synced_start HF0.out, Only.refl _ _⟩⟩
        case round =>
          obtain ⟨j2, d, hj2, rfl, HI⟩ := hrel
          by_cases hlt2 : j2 < N
          · have hjl : j2 < d0.names.length := by rw [HRN.out.2.2]; exact hlt2
            obtain ⟨s, hsx⟩ : ∃ s, d0.names[j2] = s := ⟨_, rfl⟩
            have hrw := HRN.out.1.kept (fun k hk => HI.out.only.block k (HRN.out.1.lt k hk) (fun hc => by
              have h1 := HRN.out.2.1 k hk
              have h2 := hc.2
              omega))
            obtain ⟨g, off, rfl⟩ := hrw.addr (by omega)
            obtain ⟨nm, hnm⟩ : ∃ nm : ByteArray, nm = ⟨s.toArray⟩ := ⟨_, rfl⟩
            have hnmd : nm.data.toList = s := by rw [hnm]
            have hnsz : nm.size ≤ maxLen := by rw [hnm]; exact name_size (names_ok HFO.out.2 s (by rw [← hsx]; exact List.getElem_mem _))
            have hcx : wr.cell? ⟨g, off + j2, none⟩ = some (.string nm) := by
              have h1 := hrw.cell1 (i := j2) (u := encStr s) (by simp [hjl, hsx])
              rw [h1, hnm]
            have HSY := Lib.hid (sync_b HI.out.disk nm hnsz)
            rw [hnmd] at HSY
            have HNX : Hid (∀ e w', OpIs wr (fun k => Can W.heap.size wp k ∨ (wn.heap.size ≤ k ∧ k < wr.heap.size)) q (d.sync s) e w' → e = .returned (.int .i64 0) ∧ SyncI wp wn w' W q d0 (d.sync s).2 (j2 + 1)) := Lib.hid (fun e w' ho => HI.out.next HFO.out.1 HFO.out.2 hjl hsx ho)
            clear hjl hrw hnm hnmd hnsz hsx
            go_wp2_with fail
            refine HSY.out.mono ?_
            rintro e w5 ho
            obtain ⟨rfl, hi5⟩ := HNX.out _ _ ho
            have HI5 := Lib.hid hi5
            clear ho hi5
            go_wp2_with fail
            exact ⟨⟨j2 + 1, (d.sync s).2, by omega, by simp, HI5⟩, by simp [intOf]; omega⟩
          · obtain rfl : j2 = N := by omega
            have hsy : Synced d0 d d0.names := by have := HI.out.synced; rwa [List.take_of_length_le (by rw [HRN.out.2.2]; exact Nat.le_refl _)] at this
            obtain ⟨hc0, hfirm⟩ := synced_dir hsy
            have hdw : DiskAt wr (Can W.heap.size wr) q d := HI.out.disk.narrow (fun k hk => by
              have h1 := HBN.out.size
              have h2 := HI.out.only.size
              have h3 := HPN.out
              rcases hk with hk | hk
              · exact ⟨hk.1, by have := hk.2; omega⟩
              · exact ⟨by omega, hk.2⟩) (fun k hk => hk.2)
            have hbw : Below W.heap.size W wr := below_of_only HBN.out HI.out.only HBN.out.size
            have HDW := Lib.hid hdw
            have HBW := Lib.hid hbw
            have HFI := Lib.hid (And.intro hc0 hfirm)
            clear hsy hc0 hfirm hdw hbw HRN HDN HPN HFO HI
            go_wp2_with fail
            refine (syncdir_b HDW.out).mono ?_
            rintro e w5 ho
            obtain ⟨rfl, hd5, hb5⟩ := ho.canon (Nat.le_refl _) HBW.out.size
            obtain ⟨d5, hd5e⟩ : ∃ d5, d.syncdir.2 = d5 := ⟨_, rfl⟩
            rw [HFI.out.1]
            have HFR : Hid (Firm d5) := Lib.hid (by rw [← hd5e]; exact HFI.out.2)
            rw [hd5e] at hd5
            have HD5 := Lib.hid hd5
            have HB5 : Hid (Below W.heap.size W w5) := Lib.hid (HBW.out.trans hb5)
            clear ho hd5 hb5 hd5e HFI HDW
            go_wp2_with fail
            refine (crash_c HD5.out HFR.out HP1.out.2.1 (HP1.out.1.kept (fun k hl _ _ => HB5.out.block k hl)) (by omega) HP1.out.2.2).mono ?_
            rintro e w6 (⟨rfl, hb6⟩ | ⟨qa, da, rfl, HA, hb6⟩)
            · have HB6 : Hid (Below W.heap.size W w6) := Lib.hid (HB5.out.trans (hb6.mono HB5.out.size))
              have HD6 := Lib.hid (HD5.out.below hb6)
              clear hb6
              go_wp2_with fail
              refine (crash_c HD6.out HFR.out HP2.out.2.1 (HP2.out.1.kept (fun k hl _ _ => HB6.out.block k hl)) (by omega) HP2.out.2.2).mono ?_
              rintro e w7 (⟨rfl, hb7⟩ | ⟨qb, db, rfl, HBB, hb7⟩)
              all_goals
                have HB7 : Hid (Below W.heap.size W w7) := Lib.hid (HB6.out.trans (hb7.mono HB6.out.size))
                clear hb7
                go_wp2_with (go_at_call 38; refine (known7_b _).mono ?_; rintro e w' ⟨rfl, hb⟩; have HB := Lib.hid hb; clear hb)
                go_ret
                exact ⟨rfl, HB7.out.trans (HB.out.mono HB7.out.size)⟩
            · have HB6 : Hid (Below W.heap.size W w6) := Lib.hid (HB5.out.trans (hb6.mono HB5.out.size))
              have HD6 := Lib.hid (HD5.out.below hb6)
              clear hb6
              go_wp2_with fail
              refine (crash_c HD6.out HFR.out HP2.out.2.1 (HP2.out.1.kept (fun k hl _ _ => HB6.out.block k hl)) (by omega) HP2.out.2.2).mono ?_
              rintro e w7 (⟨rfl, hb7⟩ | ⟨qb, db, rfl, HBB, hb7⟩)
              · have HB7 : Hid (Below W.heap.size W w7) := Lib.hid (HB6.out.trans (hb7.mono HB6.out.size))
                clear hb7
                go_wp2_with (go_at_call 38; refine (known7_b _).mono ?_; rintro e w' ⟨rfl, hb⟩; have HB := Lib.hid hb; clear hb)
                go_ret
                exact ⟨rfl, HB7.out.trans (HB.out.mono HB7.out.size)⟩
              · have HB7 : Hid (Below W.heap.size W w7) := Lib.hid (HB6.out.trans (hb7.mono HB6.out.size))
                have HA7 := Lib.hid (And.intro (HA.out.1.below hb7) HA.out.2)
                have HD7 := Lib.hid (HD6.out.below hb7)
                clear hb7
                have HS1 : Hid (Calls Try.prog 51 #[.pointer (some ⟨qa, 0, none⟩), .pointer (some ⟨qb, 0, none⟩)] w7 fun e w' => e = .returned (.bool true) ∧ Below w7.heap.size w7 w') := Lib.hid ((same_b HA7.out.1 HBB.out.1).mono (fun e w' ⟨h1, h2⟩ => ⟨by rw [h1, HA7.out.2, HBB.out.2]; simp, h2⟩))
                go_wp2_with fail
                refine HS1.out.mono ?_
                rintro e w8 ⟨rfl, hb8⟩
                have HB8 : Hid (Below W.heap.size W w8) := Lib.hid (HB7.out.trans (hb8.mono HB7.out.size))
                have HS2 : Hid (Calls Try.prog 51 #[.pointer (some ⟨qa, 0, none⟩), .pointer (some ⟨q, 0, none⟩)] w8 fun e w' => e = .returned (.bool true) ∧ Below w8.heap.size w8 w') := Lib.hid ((same_b (HA7.out.1.below hb8) (HD7.out.below hb8)).mono (fun e w' ⟨h1, h2⟩ => ⟨by rw [h1, HA7.out.2]; simp, h2⟩))
                clear hb8
                go_wp2_with fail
                refine HS2.out.mono ?_
                rintro e w9 ⟨rfl, hb9⟩
                have HB9 : Hid (Below W.heap.size W w9) := Lib.hid (HB8.out.trans (hb9.mono HB8.out.size))
                clear hb9
                go_wp2_with (go_at_call 38; refine (known7_b _).mono ?_; rintro e w' ⟨rfl, hb⟩; have HB := Lib.hid hb; clear hb)
                go_ret
                exact ⟨rfl, HB9.out.trans (HB.out.mono HB9.out.size)⟩
end Go.Proofs.Ytmkjejngnahpeaa
