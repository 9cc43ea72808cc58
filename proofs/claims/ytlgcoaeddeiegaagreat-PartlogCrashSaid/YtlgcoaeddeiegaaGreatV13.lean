/- The texts Ee, Gc, Mo, Mp, SegG0, Yg, Za in one. -/
import Derived.Test.YtlgcoaeddeiegaaGreatV12
import Derived.Test.YtlgcoaeddeiegaaGreatV2
import Derived.Test.YtlgcoaeddeiegaaGreatV5
import Derived.Test.YtlgcoaeddeiegaaGreatV8
import Derived.Test.YtlgcoaeddeiegaaGreatV7
/- Disk: Crash. -/
namespace Go.Proofs.YtlgcoaeddeiegaaGreat
open Go Go.Maps Go.RowKit
open Go.Proofs (encStr)

set_option maxRecDepth 100000 in
set_option maxHeartbeats 1000000 in
theorem crash_b {w : World} {S : Nat → Prop} {q : Nat} {d : Dk} (h : DiskAt w S q d) (oa : Option Addr) (c : Nat) (ps : List Int) (hp : readAt w 1 (.slice oa ps.length c) ps.length (intCells ps)) (hpl : ps.length ≤ 1000000000) (hpm : ∀ x ∈ ps, x ≤ 9223372036854775807) :
    Calls Tryz.prog 29 #[.pointer (some ⟨q, 0, none⟩), .agg #[.slice oa ps.length c]] w fun e w' => CrashIs w d ps e w' := by
  obtain ⟨mb, fv, L, h⟩ := h
  obtain ⟨np, hnp⟩ : ∃ np, ps.length = np := ⟨_, rfl⟩
  rw [hnp] at hp hpl ⊢
  have hmm := @run_makeMap Tryz.prog
  go_enter Tryz.func29, Tryz.ntmps29
  go_upto_region 1 with fail
  obtain ⟨w1, hw1⟩ : ∃ w1 : World, w1 = w.alloc (.cells #[.slice oa np c] 72) := ⟨_, rfl⟩
  obtain ⟨r, hr⟩ : ∃ r, r = w.heap.size := ⟨_, rfl⟩
  have hr1 : w1.heap[r]? = some (.cells #[.slice oa np c] 72 (0, 0)) := by rw [hw1, hr]; exact alloc_cells _ _ _
  have hb1 : Below w.heap.size w w1 := by rw [hw1]; exact (Below.refl _ _).alloc (Nat.le_refl _) _
  have h1 := h.below hb1
  have hp1 : readAt w1 1 (.slice oa np c) np (intCells ps) := hp.kept (fun k hl _ _ => hb1.block k hl)
  have HSL : Hid (∀ k, S k → k < w.heap.size) := Lib.hid h.low
  have hpz : 0 < np → ∀ k, (Value.slice oa np c).ownBlock = some k → k < w.heap.size := fun h0 k hk => hp.lt h0 k hk
  have hs1 : w1.heap.size = w.heap.size + 1 := by rw [hw1]; simp
  rw [← hr, ← hw1]
  have HR := Lib.hid hr
  have H1 := Lib.hid h1
  have HP1 := Lib.hid hp1
  have HPZ := Lib.hid hpz
  have HB1 := Lib.hid hb1
  have HS1 := Lib.hid hs1
  clear hw1 hr h h1 hp hp1 hpz hb1 hs1
  have r0 : w1.cell? ⟨r, 0, none⟩ = some (.slice oa np c) := cell_of hr1 rfl
  go_wp2_with fail
  refine (none_b H1.out).mono ?_
  rintro e w' ⟨rfl, rfl⟩
  go_wp2_with fail
  refine (containsInt_b hnp HP1.out hpl).mono ?_
  rintro e w1 ⟨b, rfl, hbb, rfl⟩
  cases b with
  | true =>
    have HO : Hid (CrashIs w d ps (.returned (.tuple #[.pointer none, .int .i64 2])) w1) := Lib.hid (.inl ⟨fun h => (by have := hbb.2 h; cases this), rfl, HB1.out⟩)
    clear hbb
    go_wp2_with fail
    go_ret2
    exact HO.out
  | false =>
    have HGE : Hid (AllGe ps) := Lib.hid (hbb.1 rfl)
    clear hbb
    go_upto_region 8 with fail
    obtain ⟨pb, hpb⟩ : ∃ pb, pb = w1.heap.size := ⟨_, rfl⟩
    obtain ⟨wa, hwa⟩ : ∃ wa : World, wa = w1.alloc (.cells #[.slice oa np c] 38) := ⟨_, rfl⟩
    have hsa : wa.heap.size = pb + 1 := by rw [hwa, hpb]; simp
    have hpa : wa.heap[pb]? = some (.cells #[.slice oa np c] 38 (0, 0)) := by rw [hwa, hpb]; exact alloc_cells _ _ _
    have hba : Below w1.heap.size w1 wa := by rw [hwa]; exact (Below.refl _ _).alloc (Nat.le_refl _) _
    have hdn := disk_new wa
    obtain ⟨w2, hw2⟩ : ∃ w2 : World, w2 = (wa.alloc (.map #[] 0)).alloc (.cells #[.map (some wa.heap.size), .slice none 0 0, .int .i64 0] 120) := ⟨_, rfl⟩
    have hb2 : Below wa.heap.size wa w2 := by rw [hw2]; exact ((Below.refl _ _).alloc (Nat.le_refl _) _).alloc (by simp) _
    have hs2 : w2.heap.size = pb + 3 := by rw [hw2]; simp [hsa]
    rw [← hw2] at hdn
    rw [hsa] at hdn hw2
    rw [← hpb, ← hwa, ← hw2]
    have hB2 : Below w.heap.size w w2 := HB1.out.trans ((hba.trans (hb2.mono hba.size)).mono HB1.out.size)
    have h2 : DiskIs w2 S q mb fv L d := (H1.out.below hba).below hb2
    have hpk : PicksAt w2 pb w.heap.size ps := by
      refine ⟨oa, c, ?_, ?_, fun h0 k hk => ?_⟩
      · rw [hnp]; exact (hb2.block pb (by omega)).trans hpa
      · rw [hnp]
        have := HP1.out
        exact (this.kept (fun k hl _ _ => hba.block k hl)).kept (fun k hl _ _ => hb2.block k hl)
      · have h3 := HPZ.out (by omega) k (by rw [hnp] at hk; exact hk)
        have h4 := HS1.out
        exact ⟨by omega, h3⟩
    have HZ : Hid (w.heap.size < pb) := Lib.hid (by have := HS1.out; omega)
    have H2 := Lib.hid h2
    have HPK := Lib.hid hpk
    have HDN := Lib.hid hdn
    have HB2 := Lib.hid hB2
    have HS2 := Lib.hid hs2
    clear hpb hwa hsa hpa hba hdn hw2 hb2 hs2 hB2 h2 hpk r0 hr1 HR H1 HP1 HPZ HB1 HS1
    go_wp2_with fail
    refine (names_b H2.out).mono ?_
    rintro e w3 ⟨v, rfl, hown, hnil, hb3⟩
    obtain ⟨n, hn⟩ : ∃ n, L.length = n := ⟨_, rfl⟩
    rw [hn] at hown
    have hrow := rowAt.of_row (hasRow.of_own hown)
    obtain ⟨oan, cn, rfl, _⟩ := hrow.shape
    have hge : ∀ k, (Value.slice oan n cn).ownBlock = some k → w2.heap.size ≤ k := fun k hk => ((hasRow.of_own hown).lt k hk).1
    have HROW := Lib.hid hrow
    have HGE2 := Lib.hid hge
    have HB3 := Lib.hid hb3
    have HLN := Lib.hid hn
    have hnle : n ≤ 4096 := by
      have h3 := H2.out.few
      rw [← H2.out.files, List.length_map, hn] at h3
      exact h3
    clear hown hnil hb3 hn hrow hge
    have hinv : CrashInv w3 w3 S q mb fv L d pb w.heap.size 0 ps := by
      have hs3 := HB3.out.size
      have hs2 := HS2.out
      refine ⟨⟨H2.out.below HB3.out, Only.refl _ _, ⟨[], ?_⟩, HSL.out, HZ.out, by omega⟩, ?_, ?_⟩
      · have h3 := HDN.out.wider (S' := fun k => (k = pb + 2 ∨ k = pb + 1) ∧ k < w2.heap.size) (fun k hk => by
          have := hk.1
          have := hk.2
          exact ⟨by omega, by omega⟩) (fun k hk => hk.2)
        exact (h3.below HB3.out).wider (fun k hk => ⟨by rcases hk.1 with h | h <;> simp [h], Nat.lt_of_lt_of_le hk.2 hs3⟩) (fun k hk => hk.2)
      · have := HZ.out
        exact HPK.out.kept (fun k hk => HB3.out.block k (by omega))
      · exact fun x hx => ⟨HGE.out x hx, hpm x hx⟩
    have HINV := Lib.hid hinv
    clear hinv hmm
    go_wp2_with fail
    go_loopw [28] (fun i wr => ∃ j : Nat, j ≤ n ∧ i = .int .i64 j ∧ Hid (CrashInv w3 wr S q mb fv L d pb w.heap.size j ps)) (fun i _ => n - (intOf i).toNat)
    case atStart => exact ⟨0, Nat.zero_le _, rfl, HINV⟩
    case round =>
      obtain ⟨j, hj, rfl, HI⟩ := hrel
      clear HINV
      by_cases hlt : j < n
      · have hjL : j < L.length := by rw [HLN.out]; exact hlt
        obtain ⟨x, hx⟩ : ∃ x, L[j] = x := ⟨_, rfl⟩
        have hxm : x ∈ L := by rw [← hx]; exact List.getElem_mem _
        obtain ⟨nm, hnm⟩ : ∃ nm : ByteArray, nm = ⟨x.f.name.toArray⟩ := ⟨_, rfl⟩
        have hnmd : nm.data.toList = x.f.name := by rw [hnm]
        obtain ⟨gn, on, rfl⟩ := HROW.out.addr (by omega)
        have hgn := HGE2.out gn rfl
        have hgl := HROW.out.lt gn rfl
        have hs2 := HS2.out
        have hcn : wr.cell? ⟨gn, on + j, none⟩ = some (.string nm) := by
          have h3 := HROW.out.cells (g := gn) (off := on) rfl j (.string nm) (by
            rw [List.getElem?_map, List.getElem?_eq_getElem hjL, hx, hnm]
            rfl)
          rw [Go.WideShapes.add_plain] at h3
          have h4 := HI.out.pre.only.block gn hgl (by omega)
          rw [← h3]
          exact cell_kept_at h4
        have hnok : nameOk x.f.name = true := HI.out.pre.old.names _ (by rw [← HI.out.pre.old.files]; exact List.mem_map_of_mem hxm)
        have hnsz : nm.size ≤ 32 := by
          have h3 : x.f.name.length ≤ 32 := by simp [nameOk] at hnok; exact hnok.2
          rw [hnm]; simpa [ByteArray.size] using h3
        have hl := HI.out.pre.old.lookup1_some hxm (nm := nm) (by unfold maxLen; omega) hnmd.symm
        have hxf := HI.out.pre.old.each x hxm
        obtain ⟨oab, cb, hbv, hnb⟩ := hxf.row.shape
        obtain ⟨N, hN⟩ : ∃ N, x.f.bytes.length = N := ⟨_, rfl⟩
        obtain ⟨l, hll⟩ : ∃ l, x.f.lasts = l := ⟨_, rfl⟩
        obtain ⟨th, hth⟩ : ∃ b, x.f.there = b := ⟨_, rfl⟩
        obtain ⟨nd, hnd⟩ : ∃ b, x.f.named = b := ⟨_, rfl⟩
        have hxc := hxf.cells
        rw [hbv, hN, hll, hth, hnd] at hxc
        have hlN : l ≤ N ∧ N ≤ 16777216 := by
          have h3 := hxf.lasts
          have h4 := hxf.size
          omega
        have c0 : wr.cell? ⟨q, 0, none⟩ = some (.map (some mb)) := cell_of HI.out.pre.old.head rfl
        have k2 : wr.cell? ⟨x.blk, 2, none⟩ = some (.bool th) := cell_of hxc rfl
        have k3 : wr.cell? ⟨x.blk, 3, none⟩ = some (.bool nd) := cell_of hxc rfl
        obtain ⟨P, hP⟩ : ∃ P, (crashTo (d.files.take j) ps).2 = P := ⟨_, rfl⟩
        have hpk := HI.out.picks
        have hok := HI.out.ok
        rw [hP] at hpk hok
        have HX := Lib.hid (And.intro hx (And.intro hxm (And.intro hnmd hnok)))
        have HF := Lib.hid (And.intro hbv (And.intro hN (And.intro hll (And.intro hth hnd))))
        have HXC := Lib.hid hxc
        have HPK2 := Lib.hid hpk
        have HOK := Lib.hid hok
        have HPP := Lib.hid hP
        have HGN : Hid (w2.heap.size ≤ gn ∧ gn < w3.heap.size) := Lib.hid ⟨hgn, hgl⟩
        clear hx hxm hnm hnmd hgn hgl hnok hxf hbv hnb hN hll hth hnd hxc hpk hok hP hs2
        go_upto_region 12 with fail
        go_cut [54] from 38 to 54 (fun s54 wx => s54 = .bool (!(keepP x.f P).1) ∧ Hid (PicksAt wx pb w.heap.size (keepP x.f P).2 ∧ Only (fun k => k = pb) wr wx))
        case first =>
          cases th
          · have hk : keepP x.f P = (decide ((nextP 2 P).1 ≠ 0), (nextP 2 P).2) := by simp [keepP, HF.out.2.2.2.1]
            have HK := Lib.hid hk
            clear hk
            go_wp2_with fail
            refine (next_b HPK2.out (fun y hy => (HOK.out y hy).1) 2 (by omega) (by omega) (fun y hy => (HOK.out y hy).2)).mono ?_
            rintro e w4 ⟨rfl, hp4, ho4⟩
            have HP4 := Lib.hid (And.intro hp4 ho4)
            clear hp4 ho4
            go_wp2_with fail
            go_meet
            exact ⟨by rw [HK.out, keep_eq], by rw [HK.out]; exact HP4⟩
          · cases nd
            · have hk : keepP x.f P = (decide ((nextP 2 P).1 ≠ 0), (nextP 2 P).2) := by simp [keepP, HF.out.2.2.2.2]
              have HK := Lib.hid hk
              clear hk
              go_wp2_with fail
              refine (next_b HPK2.out (fun y hy => (HOK.out y hy).1) 2 (by omega) (by omega) (fun y hy => (HOK.out y hy).2)).mono ?_
              rintro e w4 ⟨rfl, hp4, ho4⟩
              have HP4 := Lib.hid (And.intro hp4 ho4)
              clear hp4 ho4
              go_wp2_with fail
              go_meet
              exact ⟨by rw [HK.out, keep_eq], by rw [HK.out]; exact HP4⟩
            · have hk : keepP x.f P = (true, P) := by simp [keepP, HF.out.2.2.2.1, HF.out.2.2.2.2]
              have HK := Lib.hid hk
              clear hk
              go_wp2_with fail
              go_meet
              exact ⟨by rw [HK.out]; rfl, by rw [HK.out]; exact Lib.hid ⟨HPK2.out, Only.refl _ _⟩⟩
        case rest =>
          obtain ⟨rfl, HC1⟩ := hcut
          have HPRE : Hid (CrashPre w3 wc S q mb fv L d pb w.heap.size (crashTo (d.files.take j) ps).1) := Lib.hid (HI.out.pre.pick HC1.out.2)
          have HOK1 : Hid (PicksOk (keepP x.f P).2) := Lib.hid (keepP_ok _ HOK.out)
          have HTK : Hid (crashTo (d.files.take (j + 1)) ps = crashStep (crashTo (d.files.take j) ps) x.f) := Lib.hid (by
            rw [take_files HI.out.pre.old.files hjL, HX.out.1, crashTo_snoc])
          obtain ⟨kp, hkp⟩ : ∃ kp, (keepP x.f P).1 = kp := ⟨_, rfl⟩
          obtain ⟨P1, hP1⟩ : ∃ P1, (keepP x.f P).2 = P1 := ⟨_, rfl⟩
          rw [hP1] at HC1
          rw [hkp]
          rw [hP1] at HOK1
          have HKP := Lib.hid (And.intro hkp hP1)
          clear hkp hP1
          cases kp with
          | false =>
            have HN : Hid (CrashInv w3 wc S q mb fv L d pb w.heap.size (j + 1) ps) := Lib.hid (by
              have e : crashStep (crashTo (d.files.take j) ps) x.f = ((crashTo (d.files.take j) ps).1, P1) := by
                unfold crashStep
                rw [HPP.out, HKP.out.1, HKP.out.2]
                rfl
              exact ⟨by rw [HTK.out, e]; exact HPRE.out, by rw [HTK.out, e]; exact HC1.out.1, by rw [HTK.out, e]; exact HOK1.out⟩)
            clear HTK HPRE
            go_wp2_with fail
            exact ⟨⟨j + 1, by omega, by simp, HN⟩, by simp [intOf]; omega⟩
          | true =>
            have hxf2 := HPRE.out.old.each x HX.out.2.1
            have hxc2 := hxf2.cells
            rw [HF.out.1, HF.out.2.1, HF.out.2.2.1, HF.out.2.2.2.1, HF.out.2.2.2.2] at hxc2
            have k0 : wc.cell? ⟨x.blk, 0, none⟩ = some (.slice oab N cb) := cell_of hxc2 rfl
            have k1 : wc.cell? ⟨x.blk, 1, none⟩ = some (.int .i64 l) := cell_of hxc2 rfl
            have k2' : wc.cell? ⟨x.blk, 2, none⟩ = some (.bool th) := cell_of hxc2 rfl
            clear hxf2 hxc2 c0 k2 k3 hl hcn
            obtain ⟨m, hm⟩ : ∃ m, (moreP x.f P1).1 = m := ⟨_, rfl⟩
            obtain ⟨P2, hP2⟩ : ∃ P2, (moreP x.f P1).2 = P2 := ⟨_, rfl⟩
            have HM := Lib.hid (And.intro hm hP2)
            clear hm hP2
            go_upto_region 14 with fail
            go_region
            go_upto_region 15 with fail
            obtain ⟨bm, hbm⟩ : ∃ bm : Bool, (th && decide (l < N)) = bm := ⟨_, rfl⟩
            go_cut [76] from 69 to 76 (fun s76 wx => s76 = .bool bm ∧ wx = wc.drew)
            case first =>
              have HBM := Lib.hid hbm
              clear hbm
              cases th
              · go_wp2_with fail
                go_meet
                exact ⟨by rw [← HBM.out]; rfl, rfl⟩
              · by_cases hlt2 : l < N
                · have hd1 : decide ((0 : Int) < (N : Int) - (l : Int)) = true := by simp; omega
                  have HL2 := Lib.hid hlt2
                  clear hlt2
                  go_wp2_with fail
                  go_meet
                  exact ⟨by rw [← HBM.out]; simp [HL2.out], rfl⟩
                · have hd1 : decide ((0 : Int) < (N : Int) - (l : Int)) = false := by simp; omega
                  have HL2 := Lib.hid hlt2
                  clear hlt2
                  go_wp2_with fail
                  go_meet
                  exact ⟨by rw [← HBM.out]; simp [HL2.out], rfl⟩
            case rest =>
              obtain ⟨rfl, hwx⟩ := hcut
              subst hwx
              have hmo : moreP x.f P1 = if bm then nextP (N - l + 1) P1 else (0, P1) := by
                unfold moreP
                rw [HF.out.2.1, HF.out.2.2.1, HF.out.2.2.2.1, hbm]
              have HMO := Lib.hid hmo
              obtain ⟨wd, hwd⟩ : ∃ wd : World, wd = wc.drew := ⟨_, rfl⟩
              have HPD : Hid (PicksAt wd pb w.heap.size P1) := Lib.hid (by rw [hwd]; exact HC1.out.1)
              have HPRD : Hid (CrashPre w3 wd S q mb fv L d pb w.heap.size (crashTo (d.files.take j) ps).1) := Lib.hid (by rw [hwd]; exact HPRE.out.drew)
              rw [← hwd]
              clear hmo hbm hwd k0 k1 k2' HPRE HC1
              go_upto_if 76 with fail
              go_cut [12] from 77 to 82 (fun s12 wx => s12 = .int .i64 ((l + m : Nat) : Int) ∧ Hid (PicksAt wx pb w.heap.size P2 ∧ Only (fun k => k = pb) wd wx))
              case first =>
                cases bm
                · have h1 := HM.out
                  rw [HMO.out] at h1
                  have HF2 : Hid (Value.int .i64 (l : Int) = Value.int .i64 ((l + m : Nat) : Int) ∧ Hid (PicksAt wd pb w.heap.size P2 ∧ Only (fun k => k = pb) wd wd)) := Lib.hid ⟨by rw [← h1.1]; simp, Lib.hid ⟨by rw [← h1.2]; exact HPD.out, Only.refl _ _⟩⟩
                  clear h1
                  go_wp2_with fail
                  go_meet
                  exact HF2.out
                · go_wp2_with fail
                  refine (next_v (v := (N : Int) - (l : Int) + 1) HPD.out (fun y hy => (HOK1.out y hy).1) (N - l + 1) (by omega) (by omega) (fun y hy => (HOK1.out y hy).2) (by omega)).mono ?_
                  rintro e w4 ⟨rfl, hp4, ho4⟩
                  have HP4 := Lib.hid (And.intro hp4 ho4)
                  clear hp4 ho4
                  have hmb2 : (nextP (N - l + 1) P1).1 < N - l + 1 := nextP_lt _ _ (by omega)
                  go_wp2_with fail
                  go_meet
                  have h1 := HM.out
                  rw [HMO.out] at h1
                  exact ⟨by rw [← h1.1]; simp, Lib.hid ⟨by rw [← h1.2]; exact HP4.out.1, HP4.out.2⟩⟩
              case rest =>
                obtain ⟨rfl, HC2⟩ := hcut
                have HPR2 : Hid (CrashPre w3 wc S q mb fv L d pb w.heap.size (crashTo (d.files.take j) ps).1) := Lib.hid (HPRD.out.pick HC2.out.2)
                have hxf2 := HPR2.out.old.each x HX.out.2.1
                have hxc2 := hxf2.cells
                have hxr2 := hxf2.row
                rw [HF.out.1, HF.out.2.1] at hxr2
                rw [HF.out.1, HF.out.2.1, HF.out.2.2.1, HF.out.2.2.2.1, HF.out.2.2.2.2] at hxc2
                obtain ⟨Lo, hLo⟩ := HPR2.out.new
                obtain ⟨D, hown, hdsz, hdic⟩ := hLo.look
                have hmle : l + m ≤ N := by
                  have h1 := moreP_le x.f P1 hxf2.lasts
                  rw [HM.out.1, HF.out.2.1, HF.out.2.2.1] at h1
                  exact h1
                obtain ⟨E, hE⟩ : ∃ E, E = l + m := ⟨_, rfl⟩
                obtain ⟨hm0, hNc⟩ := hxr2.map0
                have hsl : ∀ W : World, (Instr.slice 39 (.slice oab N cb) none (some (.int .i64 (E : Int))) none).run Tryz.prog W = .ok (.slice oab E cb) W := fun W => run_take oab N cb E (by omega) hm0 W
                have hrow2 : rowAt wc 5 1 (.slice oab E cb) E (byteCells (x.f.bytes.take E)) := by
                  have h1 := hxr2.take E (by omega)
                  rw [Nat.mul_one, byteCells_take] at h1
                  exact h1
                have hEl : (x.f.bytes.take E).length = E := by rw [List.length_take, HF.out.2.1]; omega
                have HCL : Hid (Calls Tryz.prog 83 #[.slice oab E cb] wc.drew fun e w'' => ∃ v, e = .returned v ∧ NewBytes wc w'' v (x.f.bytes.take E)) := Lib.hid (by
                  refine (clone_b (w := wc.drew) hEl hrow2 (by omega)).mono ?_
                  rintro e w'' ⟨v, rfl, h1, h2, h3⟩
                  exact ⟨v, rfl, h1, h2, ⟨h3.os, h3.tape, h3.output, h3.size, h3.block⟩⟩)
                have co : wc.cell? ⟨pb + 1 + 1, 0, none⟩ = some (.map (some (pb + 1))) := cell_of hLo.head rfl
                have k0 : wc.cell? ⟨x.blk, 0, none⟩ = some (.slice oab N cb) := cell_of hxc2 rfl
                have HLO := Lib.hid hLo
                have HOW := Lib.hid (And.intro hown hdic)
                have HEL := Lib.hid hEl
                have HEE := Lib.hid hE
                have HEN : Hid (E ≤ N) := Lib.hid (by omega)
                have HLL : Hid (Lo.length ≤ 4096) := Lib.hid (by
                  have h1 := hLo.few
                  have h2 := hLo.files
                  rw [← h2, List.length_map] at h1
                  exact h1)
                rw [← hE]
                clear hxf2 hxc2 hxr2 hLo hown hdsz hdic hmle hE hm0 hrow2 hEl
                go_upto_region 17 with fail
                have HKEY : Hid (keyOf Tryz.prog 9 (.string nm) = some (.string x.f.name)) := Lib.hid (by rw [← HX.out.2.2.1]; exact WideMaps.keyOf_string_mk (P := Tryz.prog) Tryz.underlying9 (by unfold maxLen; omega))
                go_region_law (first | (go_simp; go_at_call 83; refine HCL.out.mono ?_; rintro e w5 ⟨v, rfl, hnb⟩; obtain ⟨oav, cv, hve, _⟩ := hnb.1.shape; rw [HEL.out] at hve; subst hve; have co5 : w5.cell? ⟨pb + 1 + 1, 0, none⟩ = some (.map (some (pb + 1))) := (by rw [← co]; exact cell_kept_at (hnb.2.2.block _ (HLO.out.low _ (HLO.out.foot _ (by simp [diskBlocks]))))); have co6 : ∀ o : Obj, (w5.alloc o).cell? ⟨pb + 1 + 1, 0, none⟩ = some (.map (some (pb + 1))) := (fun o => by rw [← co5]; exact cell_kept_at (Below.heap_alloc w5 o _ (Nat.lt_of_lt_of_le (HLO.out.low _ (HLO.out.foot _ (by simp [diskBlocks]))) hnb.2.2.size))); have HOW5 : Hid (w5.ownsMap Tryz.prog 9 ptrElem (pb + 1) Lo.length D) := Lib.hid (ownsMap_kept HOW.out.1 (hnb.2.2.block _ (HLO.out.low (pb + 1) (HLO.out.foot (pb + 1) (by simp [diskBlocks]))))); obtain ⟨w6, hmu, hown6, hg6⟩ := World.ownsMap.update (t := 118) (HOW5.out.alloc (.cells #[.slice oav E cv, .int .i64 E, .bool true, .bool true] 179)) (string_keyed Tryz.underlying9) Tryz.underlying118 (by unfold maxLen; have := HLL.out; omega) HKEY.out (ptrElem_mk w5.heap.size); have HNB := Lib.hid hnb; have HOW6 := Lib.hid hown6; have HG6 := Lib.hid hg6; clear hnb hown6 hg6))
                all_goals
                  have HN : Hid (CrashInv w3 w6 S q mb fv L d pb w.heap.size (j + 1) ps) := Lib.hid (by
                    have hg0 : cutF x.f m = ⟨x.f.name, x.f.bytes.take E, E, true, true⟩ := by unfold cutF; rw [HF.out.2.2.1, ← HEE.out]
                    have htf := take_files HI.out.pre.old.files hjL
                    rw [HX.out.1] at htf
                    have hlen : (crashTo (d.files.take j) ps).1.length < 4096 := by
                      have h1 := crashTo_length ps (d.files.take j) ([], ps)
                      rw [List.length_take] at h1
                      have h2 : (crashTo (d.files.take j) ps).1.length ≤ 0 + min j d.files.length := h1
                      omega
                    have hel := HEL.out
                    have ha := HPR2.out.add (g := ⟨x.f.name, x.f.bytes.take E, E, true, true⟩) HLO.out HOW.out.2 HNB.out HG6.out HOW6.out (by show E ≤ (x.f.bytes.take E).length; omega) (by show (x.f.bytes.take E).length ≤ 16777216; have := HEN.out; omega) HX.out.2.2.2 (fun g' hg' => crash_lt (f := x.f) HI.out.pre.old.sorted htf g' hg') hlen
                    have e : crashStep (crashTo (d.files.take j) ps) x.f = ((crashTo (d.files.take j) ps).1 ++ [⟨x.f.name, x.f.bytes.take E, E, true, true⟩], P2) := by
                      unfold crashStep
                      rw [HPP.out, HKP.out.1, HKP.out.2, HM.out.1, HM.out.2, hg0]
                      rfl
                    have hpb : pb + 1 < wc.heap.size := HLO.out.low (pb + 1) (HLO.out.foot (pb + 1) (by simp [diskBlocks]))
                    have hz := HZ.out
                    have hao := add_only HNB.out HG6.out
                    refine ⟨by rw [HTK.out, e]; exact ha, ?_, ?_⟩
                    · rw [HTK.out, e]
                      exact HC2.out.1.kept (fun k hk => hao.block k (by omega) (by omega))
                    · rw [HTK.out, e]
                      have := moreP_ok x.f HOK1.out
                      rw [HM.out.2] at this
                      exact this)
                  clear hmu co5 co6
                  go_wp2_with fail
                  exact ⟨⟨j + 1, by omega, by simp, HN⟩, by simp [intOf]; omega⟩
      · obtain rfl : j = n := by omega
        have HO : Hid (CrashIs w d ps (.returned (.tuple #[.pointer (some ⟨pb + 2, 0, none⟩), .int .i64 0])) wr) := Lib.hid (by
          have hs3 := HB3.out.size
          have hs2 := HS2.out
          have hz := HZ.out
          obtain ⟨Lo, hLo⟩ := HI.out.pre.new
          have hb : Below w.heap.size w wr := HB2.out.trans ((HB3.out.mono HB2.out.size).trans (HI.out.pre.only.below (fun i hi hk => by omega) (by omega)))
          refine .inr ⟨HGE.out, pb + 2, rfl, ⟨pb + 1, .slice none 0 0, Lo, ?_⟩, hb⟩
          have e : (⟨(crashTo (d.files.take j) ps).1, [], 0⟩ : Dk) = d.crash ps := by
            rw [List.take_of_length_le (by rw [← H2.out.files, List.length_map, HLN.out]; exact Nat.le_refl _)]; rfl
          rw [e] at hLo
          exact hLo.wider (fun k hk => ⟨by have := hk.1; omega, hk.2⟩) (fun k hk => hk.2))
        go_wp2_with fail
        go_ret2
        exact HO.out
end Go.Proofs.YtlgcoaeddeiegaaGreat
/- Disk: what a crash leaves of each file, in plain words. -/
namespace Go.Proofs.YtlgcoaeddeiegaaGreat
open Go Go.RowKit

structure Left (w f : F0) : Prop where
  name : f.name = w.name
  there : f.there = true
  named : f.named = true
  lasts : f.lasts = f.bytes.length
  least : w.lasts ≤ f.bytes.length
  most : f.bytes.length ≤ w.bytes.length
  begins : f.bytes = w.bytes.take f.bytes.length
def firmF (w : F0) : Bool := w.there && w.named
def leftPairs : List F0 → List Int → List (F0 × F0)
  | [], _ => []
  | w :: r, ps => if (keepP w ps).1 = false then leftPairs r (keepP w ps).2 else (w, cutF w (moreP w (keepP w ps).2).1) :: leftPairs r (moreP w (keepP w ps).2).2
theorem crash_pairs : ∀ (l acc : List F0) (ps : List Int), (l.foldl crashStep (acc, ps)).1 = acc ++ (leftPairs l ps).map (·.2)
  | [], acc, ps => by simp [leftPairs]
  | w :: r, acc, ps => by
    rw [List.foldl_cons]
    cases hk : (keepP w ps).1 with
    | false =>
      have e : crashStep (acc, ps) w = (acc, (keepP w ps).2) := by unfold crashStep; rw [if_pos hk]
      have e2 : leftPairs (w :: r) ps = leftPairs r (keepP w ps).2 := by rw [leftPairs, if_pos hk]
      rw [e, e2, crash_pairs r acc]
    | true =>
      have hk' : ¬ (keepP w ps).1 = false := by rw [hk]; simp
      have e : crashStep (acc, ps) w = (acc ++ [cutF w (moreP w (keepP w ps).2).1], (moreP w (keepP w ps).2).2) := by unfold crashStep; rw [if_neg hk']
      have e2 : leftPairs (w :: r) ps = (w, cutF w (moreP w (keepP w ps).2).1) :: leftPairs r (moreP w (keepP w ps).2).2 := by rw [leftPairs, if_neg hk']
      rw [e, e2, crash_pairs r]
      simp
theorem pairs_left : ∀ (l : List F0) (ps : List Int), (∀ w ∈ l, w.lasts ≤ w.bytes.length) → ∀ p ∈ leftPairs l ps, p.1 ∈ l ∧ Left p.1 p.2
  | [], ps, _, p, hp => by cases hp
  | w :: r, ps, hl, p, hp => by
    unfold leftPairs at hp
    split at hp
    · have := pairs_left r _ (fun x hx => hl x (by simp [hx])) p hp
      exact ⟨by simp [this.1], this.2⟩
    · rcases List.mem_cons.1 hp with rfl | hp
      · have hm := moreP_le w (keepP w ps).2 (hl w (by simp))
        have hlen : (w.bytes.take (w.lasts + (moreP w (keepP w ps).2).1)).length = w.lasts + (moreP w (keepP w ps).2).1 := by
          rw [List.length_take]; omega
        refine ⟨by simp, rfl, rfl, rfl, hlen.symm, ?_, ?_, ?_⟩
        · show w.lasts ≤ (w.bytes.take (w.lasts + (moreP w (keepP w ps).2).1)).length
          rw [hlen]; omega
        · show (w.bytes.take (w.lasts + (moreP w (keepP w ps).2).1)).length ≤ _
          rw [hlen]; omega
        · show w.bytes.take _ = w.bytes.take (w.bytes.take (w.lasts + (moreP w (keepP w ps).2).1)).length
          rw [hlen]
      · have := pairs_left r _ (fun x hx => hl x (by simp [hx])) p hp
        exact ⟨by simp [this.1], this.2⟩
end Go.Proofs.YtlgcoaeddeiegaaGreat
/- record: Same, SameAll; the document's Large. -/
namespace Go.Proofs.YtlgcoaeddeiegaaGreat
open Go Go.RowKit
attribute [local go_sem] Oper.semAt_some

theorem run_string_rdR {P : Program} (w : World) (src dst e : TypeId) (oa : Option Addr) (n c : Nat) (l : List UInt8) (hl : l.length = n) (hs : P.underlying src = some (.slice e)) (he : P.underlying e = some (.int .u8)) (hd : P.underlying dst = some .string)
    (h : readAt w 1 (.slice oa n c) n (byteCells l)) : (convert src dst (.slice oa n c)).run P w = .ok (.string ⟨l.toArray⟩) w := by
  subst hl
  rcases h.2 with ⟨h0, oa', c', hv, hn⟩ | ⟨g, off, c', hv, h0, hg, hc, hj⟩
  · simp only [Value.slice.injEq] at hv
    obtain ⟨rfl, -, rfl⟩ := hv
    have hl : l = [] := List.eq_nil_of_length_eq_zero h0
    subst hl
    cases oa with
    | none => 
      obtain rfl := hn rfl
      exact run_string_row w 0 src dst e _ [] hs he hd ⟨rfl, .inl ⟨rfl, rfl⟩⟩
    | some a => exact run_convert_bytes_back w src dst e a c [] hs he hd fun j hj => by cases hj
  · simp only [Value.slice.injEq] at hv
    obtain ⟨rfl, -, rfl⟩ := hv
    refine run_convert_bytes_back w src dst e ⟨g, off, none⟩ c l hs he hd fun j hj' => ?_
    rw [Go.WideShapes.add_plain]
    exact hj j _ (by simp [byteCells, hj'])
set_option maxHeartbeats 400000 in
theorem bytesEqR_b {w : World} {oa ob : Option Addr} {n c m d : Nat} {a b : List UInt8} (hn : a.length = n) (hm : b.length = m) (ha : readAt w 1 (.slice oa n c) n (byteCells a)) (hb : readAt w 1 (.slice ob m d) m (byteCells b)) :
    Calls Tryz.prog 157 #[.slice oa n c, .slice ob m d] w fun e w' => e = .returned (.bool (decide (a = b))) ∧ w' = w := by
  have h1 := run_string_rdR (P := Tryz.prog) w 39 9 5 oa n c a hn Tryz.underlying39 Tryz.underlying5 Tryz.underlying9 ha
  have h2 := run_string_rdR (P := Tryz.prog) w 39 9 5 ob m d b hm Tryz.underlying39 Tryz.underlying5 Tryz.underlying9 hb
  have he : (a == b) = decide (a = b) := by by_cases h : a = b <;> simp [h]
  have HE := Lib.hid he
  clear ha hb he
  go_enter Tryz.func157, Tryz.ntmps157
  go_wp2_with fail
  go_ret
  refine ⟨?_, rfl⟩
  rw [← HE.out]
  rfl
set_option maxRecDepth 100000 in
set_option maxHeartbeats 1000000 in
theorem recSame_b {w : World} {t1 t2 : Int} {oa ob oc od : Option Addr} {n c m d n2 c2 m2 d2 : Nat} {k1 v1 k2 v2 : List UInt8} (e1 : k1.length = n) (e2 : v1.length = m) (e3 : k2.length = n2) (e4 : v2.length = m2)
    (h1 : readAt w 1 (.slice oa n c) n (byteCells k1)) (h2 : readAt w 1 (.slice ob m d) m (byteCells v1)) (h3 : readAt w 1 (.slice oc n2 c2) n2 (byteCells k2)) (h4 : readAt w 1 (.slice od m2 d2) m2 (byteCells v2)) :
    Calls Tryz.prog 90 #[.agg #[.int .i64 t1, .slice oa n c, .slice ob m d], .agg #[.int .i64 t2, .slice oc n2 c2, .slice od m2 d2]] w fun e w' => e = .returned (.bool (decide (t1 = t2) && decide (k1 = k2) && decide (v1 = v2))) ∧ Below w.heap.size w w' := by
  obtain ⟨w1, hw1⟩ : ∃ W : World, W = (w.alloc (.cells #[.int .i64 t1, .slice oa n c, .slice ob m d] 150)).alloc (.cells #[.int .i64 t2, .slice oc n2 c2, .slice od m2 d2] 150) := ⟨_, rfl⟩
  obtain ⟨b2, hb2⟩ : ∃ b, b = w.heap.size := ⟨_, rfl⟩
  obtain ⟨b3, hb3⟩ : ∃ b, b = w.heap.size + 1 := ⟨_, rfl⟩
  have g2 : w1.heap[b2]? = some (.cells #[.int .i64 t1, .slice oa n c, .slice ob m d] 150 (0, 0)) := by rw [hw1, hb2]; exact (Below.heap_alloc _ _ _ (by simp)).trans (alloc_cells _ _ _)
  have g3 : w1.heap[b3]? = some (.cells #[.int .i64 t2, .slice oc n2 c2, .slice od m2 d2] 150 (0, 0)) := by
    rw [hw1, hb3]
    have := alloc_cells (w.alloc (.cells #[.int .i64 t1, .slice oa n c, .slice ob m d] 150)) #[.int .i64 t2, .slice oc n2 c2, .slice od m2 d2] 150
    rwa [World.size_alloc] at this
  have hbl : Below w.heap.size w w1 := by rw [hw1]; exact ((Below.refl _ _).alloc (Nat.le_refl _) _).alloc (by simp) _
  have q0 : w1.cell? ⟨b2, 0, none⟩ = some (.int .i64 t1) := cell_of g2 rfl
  have q1 : w1.cell? ⟨b2, 1, none⟩ = some (.slice oa n c) := cell_of g2 rfl
  have q2 : w1.cell? ⟨b2, 2, none⟩ = some (.slice ob m d) := cell_of g2 rfl
  have r0 : w1.cell? ⟨b3, 0, none⟩ = some (.int .i64 t2) := cell_of g3 rfl
  have r1 : w1.cell? ⟨b3, 1, none⟩ = some (.slice oc n2 c2) := cell_of g3 rfl
  have r2 : w1.cell? ⟨b3, 2, none⟩ = some (.slice od m2 d2) := cell_of g3 rfl
  have HK := Lib.hid (bytesEqR_b e1 e3 (h1.kept (fun k hk _ _ => hbl.block k hk)) (h3.kept (fun k hk _ _ => hbl.block k hk)))
  have HV := Lib.hid (bytesEqR_b e2 e4 (h2.kept (fun k hk _ _ => hbl.block k hk)) (h4.kept (fun k hk _ _ => hbl.block k hk)))
  have HB := Lib.hid hbl
  clear e1 e2 e3 e4 h1 h2 h3 h4 g2 g3 hbl
  by_cases ht : t1 = t2
  · have dt : (t1 == t2) = true := by rw [beq_iff_eq]; exact ht
    have HT : Hid (decide (t1 = t2) = true) := Lib.hid (decide_eq_true ht)
    clear ht
    by_cases hk : k1 = k2
    · have hk' : decide (k1 = k2) = true := decide_eq_true hk
      rw [hk'] at HK ⊢
      rw [HT.out]
      clear hk hk'
      go_enter Tryz.func90, Tryz.ntmps90
      go_upto_region 1 with fail
      rw [← hw1, ← hb3, ← hb2]
      clear hw1 hb3 hb2
      go_wp2_with fail
      refine HK.out.mono ?_
      rintro e w2 ⟨rfl, hw2⟩
      obtain rfl := hw2.symm
      clear hw2
      go_wp2_with fail
      refine HV.out.mono ?_
      rintro e w2 ⟨rfl, hw2⟩
      obtain rfl := hw2.symm
      clear hw2
      go_wp2_with fail
      go_ret
      exact ⟨by simp, HB.out⟩
    · have hk' : decide (k1 = k2) = false := decide_eq_false hk
      rw [hk'] at HK ⊢
      rw [HT.out]
      clear hk hk'
      go_enter Tryz.func90, Tryz.ntmps90
      go_upto_region 1 with fail
      rw [← hw1, ← hb3, ← hb2]
      clear hw1 hb3 hb2
      go_wp2_with fail
      refine HK.out.mono ?_
      rintro e w2 ⟨rfl, hw2⟩
      obtain rfl := hw2.symm
      clear hw2
      go_wp2_with fail
      go_ret
      exact ⟨by simp, HB.out⟩
  · have dt : (t1 == t2) = false := by rw [beq_eq_false_iff_ne]; exact ht
    have HT : Hid (decide (t1 = t2) = false) := Lib.hid (decide_eq_false ht)
    clear ht
    rw [HT.out]
    go_enter Tryz.func90, Tryz.ntmps90
    go_upto_region 1 with fail
    rw [← hw1, ← hb3, ← hb2]
    clear hw1 hb3 hb2
    go_wp2_with fail
    go_ret
    exact ⟨by simp, HB.out⟩
theorem rc_eq (a b : Rc) : (decide (a.time = b.time) && decide (a.key = b.key) && decide (a.val = b.val)) = decide (a = b) := by
  obtain ⟨t, k, v⟩ := a
  obtain ⟨t', k', v'⟩ := b
  by_cases h1 : t = t' <;> by_cases h2 : k = k' <;> by_cases h3 : v = v' <;> simp [h1, h2, h3]
end Go.Proofs.YtlgcoaeddeiegaaGreat
/- record: SameAll; the document's Large. -/
namespace Go.Proofs.YtlgcoaeddeiegaaGreat
open Go Go.RowKit
attribute [local go_sem] Oper.semAt_some

set_option maxRecDepth 100000 in
set_option maxHeartbeats 2000000 in
theorem equalFunc_b {w : World} {oa ob : Option Addr} {n c m d : Nat} {xs ys : List RcV} {l k : List Rc} (hl : xs.map (·.r) = l) (hk : ys.map (·.r) = k) (hn : xs.length = n) (hm : ys.length = m) (h1 : RecsIs w (.slice oa n c) xs) (h2 : RecsIs w (.slice ob m d) ys) (hnm : n ≤ 1000000000) :
    Calls Tryz.prog 89 #[.slice oa n c, .slice ob m d, .func (.func 90) #[] #[]] w fun e w' => e = .returned (.bool (decide (l = k))) ∧ Below w.heap.size w w' := by
  have HL := Lib.hid (And.intro hl (And.intro hk (And.intro hn hm)))
  have HLL : Hid (l.length = n ∧ k.length = m) := Lib.hid ⟨by rw [← hl, List.length_map, hn], by rw [← hk, List.length_map, hm]⟩
  have H := Lib.hid (And.intro h1 h2)
  clear hl hk hn hm h1 h2
  by_cases hnm2 : n = m
  case neg =>
    have hd : ((n : Int) == (m : Int)) = false := by rw [beq_eq_false_iff_ne]; omega
    have hne : decide (l = k) = false := decide_eq_false (fun e => by
      have h3 := HLL.out
      rw [e] at h3
      omega)
    have HD := Lib.hid hne
    clear hne
    go_enter Tryz.func89, Tryz.ntmps89
    go_wp2_with fail
    go_ret
    exact ⟨by rw [HD.out]; rfl, Below.refl _ _⟩
  case pos =>
    subst hnm2
    go_enter Tryz.func89, Tryz.ntmps89
    go_wp2_with fail
    go_loopw [17] (fun i wr => ∃ j : Nat, i = .int .i64 (j : Int) ∧ j ≤ n ∧ Hid (l.take j = k.take j ∧ Below w.heap.size w wr)) (fun i _ => n - (intOf i).toNat)
    case atStart => exact ⟨0, rfl, by omega, Lib.hid ⟨by simp, Below.refl _ _⟩⟩
    case round =>
      obtain ⟨j, rfl, hj, HI⟩ := hrel
      by_cases hlt : j < n
      · have hjx : j < xs.length := by rw [HL.out.2.2.1]; exact hlt
        have hjy : j < ys.length := by rw [HL.out.2.2.2]; exact hlt
        have hjl : j < l.length := by rw [HLL.out.1]; exact hlt
        have hjk : j < k.length := by rw [HLL.out.2]; exact hlt
        have g1 := H.out.1.below HI.out.2
        have g2 := H.out.2.below HI.out.2
        have e1 := g1.each xs[j] (List.getElem_mem hjx)
        have e2 := g2.each ys[j] (List.getElem_mem hjy)
        obtain ⟨ga, fa, ka, kc, va, vc, rfl, hkv, hvv, c0, c1, c2⟩ := g1.cells HL.out.2.2.1 hjx
        obtain ⟨gb, fb, kb, kd, vb, vd, rfl, hkw, hvw, d0, d1, d2⟩ := g2.cells HL.out.2.2.2 hjy
        have hx : xs[j].r = l[j] := by simp [← HL.out.1]
        have hy : ys[j].r = k[j] := by simp [← HL.out.2.1]
        rw [hkv, hvv] at e1
        rw [hkw, hvw] at e2
        have e11 : readAt wr 1 (.slice ka xs[j].r.key.length kc) xs[j].r.key.length (byteCells xs[j].r.key) := e1.1
        have e12 : readAt wr 1 (.slice va xs[j].r.val.length vc) xs[j].r.val.length (byteCells xs[j].r.val) := e1.2
        have e21 : readAt wr 1 (.slice kb ys[j].r.key.length kd) ys[j].r.key.length (byteCells ys[j].r.key) := e2.1
        have e22 : readAt wr 1 (.slice vb ys[j].r.val.length vd) ys[j].r.val.length (byteCells ys[j].r.val) := e2.2
        rw [hx] at c0 c1 c2 e11 e12
        rw [hy] at d0 d1 d2 e21 e22
        have HT : Hid (l.take (j + 1) = l.take j ++ [l[j]] ∧ k.take (j + 1) = k.take j ++ [k[j]] ∧ l[j]? = some l[j] ∧ k[j]? = some k[j]) := Lib.hid ⟨List.take_succ_eq_append_getElem hjl, List.take_succ_eq_append_getElem hjk, List.getElem?_eq_getElem hjl, List.getElem?_eq_getElem hjk⟩
        obtain ⟨r, hr⟩ : ∃ r, l[j] = r := ⟨_, rfl⟩
        obtain ⟨s, hs⟩ : ∃ s, k[j] = s := ⟨_, rfl⟩
        rw [hr] at c0 c1 c2 e11 e12 HT
        rw [hs] at d0 d1 d2 e21 e22 HT
        obtain ⟨rt, hrt⟩ : ∃ x, r.time = x := ⟨_, rfl⟩
        obtain ⟨rk, hrk⟩ : ∃ x, r.key.length = x := ⟨_, rfl⟩
        obtain ⟨rv, hrv⟩ : ∃ x, r.val.length = x := ⟨_, rfl⟩
        obtain ⟨st, hst⟩ : ∃ x, s.time = x := ⟨_, rfl⟩
        obtain ⟨sk, hsk⟩ : ∃ x, s.key.length = x := ⟨_, rfl⟩
        obtain ⟨sv, hsv⟩ : ∃ x, s.val.length = x := ⟨_, rfl⟩
        rw [hrt] at c0
        rw [hrk] at c1 e11
        rw [hrv] at c2 e12
        rw [hst] at d0
        rw [hsk] at d1 e21
        rw [hsv] at d2 e22
        have hgb : gb < wr.heap.size := World.block_lt_of_cell? _ _ d0
        have hbA : Below wr.heap.size wr (wr.alloc (.cells #[.int .i64 rt, .slice ka rk kc, .slice va rv vc] 150)) := (Below.refl _ _).alloc (Nat.le_refl _) _
        have d0a := (hbA.cell (p := ⟨gb, fb + j * 3, none⟩) hgb).trans d0
        have d1a := (hbA.cell (p := ⟨gb, fb + j * 3 + 1, none⟩) hgb).trans d1
        have d2a := (hbA.cell (p := ⟨gb, fb + j * 3 + 2, none⟩) hgb).trans d2
        clear hgb hbA
        obtain ⟨w1, hw1⟩ : ∃ W : World, W = (wr.alloc (.cells #[.int .i64 rt, .slice ka rk kc, .slice va rv vc] 150)).alloc (.cells #[.int .i64 st, .slice kb sk kd, .slice vb sv vd] 150) := ⟨_, rfl⟩
        obtain ⟨b8, hb8⟩ : ∃ b, b = wr.heap.size := ⟨_, rfl⟩
        obtain ⟨b9, hb9⟩ : ∃ b, b = wr.heap.size + 1 := ⟨_, rfl⟩
        have q8 : w1.heap[b8]? = some (.cells #[.int .i64 rt, .slice ka rk kc, .slice va rv vc] 150 (0, 0)) := by rw [hw1, hb8]; exact (Below.heap_alloc _ _ _ (by simp)).trans (alloc_cells _ _ _)
        have q9 : w1.heap[b9]? = some (.cells #[.int .i64 st, .slice kb sk kd, .slice vb sv vd] 150 (0, 0)) := by
          rw [hw1, hb9]
          have := alloc_cells (wr.alloc (.cells #[.int .i64 rt, .slice ka rk kc, .slice va rv vc] 150)) #[.int .i64 st, .slice kb sk kd, .slice vb sv vd] 150
          rwa [World.size_alloc] at this
        have hbl : Below wr.heap.size wr w1 := by rw [hw1]; exact ((Below.refl _ _).alloc (Nat.le_refl _) _).alloc (by simp) _
        have hsm := recSame_b (w := w1) (t1 := rt) (t2 := st) hrk hrv hsk hsv (e11.kept (fun i hi _ _ => hbl.block i hi)) (e12.kept (fun i hi _ _ => hbl.block i hi)) (e21.kept (fun i hi _ _ => hbl.block i hi)) (e22.kept (fun i hi _ _ => hbl.block i hi))
        obtain ⟨q, hq⟩ : ∃ q, (decide (rt = st) && decide (r.key = s.key) && decide (r.val = s.val)) = q := ⟨_, rfl⟩
        rw [hq] at hsm
        have HQ : Hid (decide (r = s) = q) := Lib.hid (by rw [← rc_eq, hrt, hst]; exact hq)
        have HSM := Lib.hid hsm
        have HB := Lib.hid hbl
        have y0 : w1.cell? ⟨b8, 0, none⟩ = some (.int .i64 rt) := cell_of q8 rfl
        have y1 : w1.cell? ⟨b8, 1, none⟩ = some (.slice ka rk kc) := cell_of q8 rfl
        have y2 : w1.cell? ⟨b8, 2, none⟩ = some (.slice va rv vc) := cell_of q8 rfl
        have z0 : w1.cell? ⟨b9, 0, none⟩ = some (.int .i64 st) := cell_of q9 rfl
        have z1 : w1.cell? ⟨b9, 1, none⟩ = some (.slice kb sk kd) := cell_of q9 rfl
        have z2 : w1.cell? ⟨b9, 2, none⟩ = some (.slice vb sv vd) := cell_of q9 rfl
        clear hjx hjy hjl hjk g1 g2 e1 e2 hkv hvv hkw hvw hx hy e11 e12 e21 e22 hr hs hrt hrk hrv hst hsk hsv q8 q9 hbl hsm hq
        go_upto_region 7 with fail
        rw [← hw1, ← hb9, ← hb8]
        clear hw1 hb9 hb8 d0a d1a d2a c0 c1 c2 d0 d1 d2
        go_wp2_with fail
        refine HSM.out.mono ?_
        rintro e w2 ⟨rfl, hb2⟩
        have HB2 := Lib.hid (HI.out.2.trans ((HB.out.trans (hb2.mono HB.out.size)).mono HI.out.2.size))
        clear hb2 HSM
        cases q with
        | false =>
          have hne : decide (l = k) = false := decide_eq_false (fun e => by
            have h1 := HT.out.2.2.1
            rw [e, HT.out.2.2.2] at h1
            simp only [Option.some.injEq] at h1
            have h2 := HQ.out
            rw [h1, decide_eq_true rfl] at h2
            cases h2)
          have HD := Lib.hid hne
          clear hne
          go_wp2_with fail
          go_ret
          exact ⟨by rw [HD.out]; rfl, HB2.out⟩
        | true =>
          go_wp2_with fail
          refine ⟨⟨j + 1, by simp, by omega, Lib.hid ⟨?_, HB2.out⟩⟩, by simp [intOf]; omega⟩
          rw [HT.out.1, HT.out.2.1, HI.out.1, of_decide_eq_true HQ.out]
      · obtain rfl : j = n := by omega
        have heq : decide (l = k) = true := decide_eq_true (by
          have h1 := HI.out.1
          rwa [List.take_of_length_le (by rw [HLL.out.1]; exact Nat.le_refl _), List.take_of_length_le (by rw [HLL.out.2]; exact Nat.le_refl _)] at h1)
        have HD := Lib.hid heq
        have HB := Lib.hid HI.out.2
        clear heq HI hlt
        go_wp2_with fail
        go_ret
        exact ⟨by rw [HD.out]; rfl, HB.out⟩
set_option maxHeartbeats 400000 in
theorem sameAll_b {w : World} {oa ob : Option Addr} {n c m d : Nat} {xs ys : List RcV} {l k : List Rc} (hl : xs.map (·.r) = l) (hk : ys.map (·.r) = k) (hn : xs.length = n) (hm : ys.length = m) (h1 : RecsIs w (.slice oa n c) xs) (h2 : RecsIs w (.slice ob m d) ys) (hnm : n ≤ 1000000000) :
    Calls Tryz.prog 24 #[.slice oa n c, .slice ob m d] w fun e w' => e = .returned (.bool (decide (l = k))) ∧ Below w.heap.size w w' := by
  have H := Lib.hid (equalFunc_b hl hk hn hm h1 h2 hnm)
  clear hl hk hn hm h1 h2
  go_enter Tryz.func24, Tryz.ntmps24
  go_wp2_with fail
  refine H.out.mono ?_
  rintro e w2 ⟨rfl, hb⟩
  have HB := Lib.hid hb
  clear hb H
  go_wp2_with fail
  go_ret
  exact ⟨rfl, HB.out⟩
def Rc.large (r : Rc) : Bool := decide (9000 < r.key.length) || decide (9000 < r.val.length)
def largeT (n : Nat) (l : List Rc) : Bool := decide (n < l.length) || l.any Rc.large
set_option maxRecDepth 100000 in
set_option maxHeartbeats 1000000 in
theorem large_b {w : World} {oa : Option Addr} {n c : Nat} {xs : List RcV} {l : List Rc} {most : Nat} (hl : xs.map (·.r) = l) (hn : xs.length = n) (h1 : RecsIs w (.slice oa n c) xs) (hm : most ≤ 1000000) (hnm : n ≤ maxLen) :
    Calls Tryz.prog 57 #[.int .i64 (most : Int), .slice oa n c] w fun e w' => e = .returned (.bool (largeT most l)) ∧ w' = w := by
  have hln : l.length = n := by rw [← hl, List.length_map, hn]
  have HL := Lib.hid (And.intro hl (And.intro hn hln))
  have H := Lib.hid h1
  unfold maxLen at hnm
  clear hl hn h1 hln
  by_cases hbig : most < n
  · have hd : decide ((most : Int) < (n : Int)) = true := decide_eq_true (by omega)
    have hd2 : decide (most < n) = true := decide_eq_true hbig
    have HT : Hid (largeT most l = true) := Lib.hid (by unfold largeT; rw [HL.out.2.2, hd2]; rfl)
    go_enter Tryz.func57, Tryz.ntmps57
    go_wp2_with fail
    go_ret
    exact ⟨by rw [HT.out]; rfl, rfl⟩
  · have hd : decide ((most : Int) < (n : Int)) = false := decide_eq_false (by omega)
    have hd2 : decide (most < n) = false := decide_eq_false hbig
    have HT : Hid (largeT most l = l.any Rc.large) := Lib.hid (by unfold largeT; rw [HL.out.2.2, hd2]; rfl)
    go_enter Tryz.func57, Tryz.ntmps57
    go_wp2_with fail
    go_loopw [5] (fun i wr => ∃ j : Nat, i = .int .i64 (j : Int) ∧ j ≤ n ∧ wr = w ∧ Hid ((l.take j).any Rc.large = false)) (fun i _ => n - (intOf i).toNat)
    case atStart => exact ⟨0, rfl, by omega, rfl, Lib.hid (by simp)⟩
    case round =>
      obtain ⟨j, rfl, hj, rfl, HI⟩ := hrel
      by_cases hlt : j < n
      · have hjx : j < xs.length := by rw [HL.out.2.1]; exact hlt
        have hjl : j < l.length := by rw [HL.out.2.2]; exact hlt
        obtain ⟨ga, fa, ka, kc, va, vc, rfl, -, -, c0, c1, c2⟩ := H.out.cells HL.out.2.1 hjx
        have hx : xs[j].r = l[j] := by simp [← HL.out.1]
        rw [hx] at c1 c2
        have HTK : Hid (l.take (j + 1) = l.take j ++ [l[j]] ∧ l[j] ∈ l) := Lib.hid ⟨List.take_succ_eq_append_getElem hjl, List.getElem_mem hjl⟩
        obtain ⟨r, hr⟩ : ∃ r, l[j] = r := ⟨_, rfl⟩
        rw [hr] at c1 c2 HTK
        obtain ⟨rk, hrk⟩ : ∃ x, r.key.length = x := ⟨_, rfl⟩
        obtain ⟨rv, hrv⟩ : ∃ x, r.val.length = x := ⟨_, rfl⟩
        rw [hrk] at c1
        rw [hrv] at c2
        have HR : Hid (r.large = (decide (9000 < rk) || decide (9000 < rv))) := Lib.hid (by unfold Rc.large; rw [hrk, hrv])
        clear hjx hjl hx hr hrk hrv c0
        by_cases h9 : 9000 < rk ∨ 9000 < rv
        · have HTT : Hid (largeT most l = true) := Lib.hid (by
            rw [HT.out]
            refine List.any_eq_true.2 ⟨r, HTK.out.2, ?_⟩
            rw [HR.out]
            rcases h9 with h | h
            · rw [decide_eq_true h]; rfl
            · rw [decide_eq_true h]; simp)
          by_cases hk9 : 9000 < rk
          · have e1 : decide ((9000 : Int) < (rk : Int)) = true := decide_eq_true (by omega)
            have e1' : decide (9000 < rk) = true := decide_eq_true hk9
            go_wp2_with fail
            go_ret
            exact ⟨by rw [HTT.out]; rfl, rfl⟩
          · have e1 : decide ((9000 : Int) < (rk : Int)) = false := decide_eq_false (by omega)
            have e1' : decide (9000 < rk) = false := decide_eq_false hk9
            have e2 : decide ((9000 : Int) < (rv : Int)) = true := decide_eq_true (by omega)
            have e2' : decide (9000 < rv) = true := decide_eq_true (by omega)
            go_wp2_with fail
            go_ret
            exact ⟨by rw [HTT.out]; rfl, rfl⟩
        · have e1 : decide ((9000 : Int) < (rk : Int)) = false := decide_eq_false (by omega)
          have e1' : decide (9000 < rk) = false := decide_eq_false (by omega)
          have e2 : decide ((9000 : Int) < (rv : Int)) = false := decide_eq_false (by omega)
          have e2' : decide (9000 < rv) = false := decide_eq_false (by omega)
          rw [e1', e2'] at HR
          go_wp2_with fail
          refine ⟨⟨j + 1, by simp, by omega, trivial, Lib.hid ?_⟩, by simp [intOf]; omega⟩
          rw [HTK.out.1, List.any_append, HI.out]
          simp [HR.out]
      · obtain rfl : j = n := by omega
        have HTT : Hid (largeT most l = false) := Lib.hid (by
          rw [HT.out]
          have h1 := HI.out
          rwa [List.take_of_length_le (by rw [HL.out.2.2]; exact Nat.le_refl _)] at h1)
        clear HI
        go_wp2_with fail
        go_ret
        exact ⟨by rw [HTT.out]; rfl, rfl⟩
end Go.Proofs.YtlgcoaeddeiegaaGreat
/- Segment names: known, and the law. -/
namespace Go.Proofs.YtlgcoaeddeiegaaGreat
open Go.RowKit

theorem parse_true (s a : ByteArray) (b : Int) (w : World) (hs : s.size ≤ maxLen) (h : okName s.data.toList = true) (ha : s.extract 0 (s.size - 15) = a) (hb : ((hnum (digs s.data.toList) : Nat) : Int) = b) :
    Calls Tryz.prog 19 #[.string s] w fun e w' => e = .returned (.tuple #[.string a, .int .i64 b, .bool true]) ∧ Below w.heap.size w w' :=
  (parse_any s w hs).mono fun _ _ ⟨hp, hbl⟩ => ⟨by rw [← ha, ← hb]; exact hp.1 h, hbl⟩
theorem parse_false (s : ByteArray) (w : World) (hs : s.size ≤ maxLen) (h : okName s.data.toList = false) :
    Calls Tryz.prog 19 #[.string s] w fun e w' => e = .returned (.tuple #[.string ⟨#[]⟩, .int .i64 0, .bool false]) ∧ Below w.heap.size w w' :=
  (parse_any s w hs).mono fun _ _ ⟨hp, hbl⟩ => ⟨hp.2 h, hbl⟩
end Go.Proofs.YtlgcoaeddeiegaaGreat
/- segment: lists of records in memory, parts of records, a segment that an append left as it was. -/
namespace Go.Proofs.YtlgcoaeddeiegaaGreat
open Go Go.RowKit
attribute [local go_sem] Oper.semAt_some

structure ListsAt (w : World) (v : Value) (ll : List (List Rc)) : Prop where
  row : ∃ vs : List Value, vs.length = ll.length ∧ readAt w 1 v ll.length vs ∧ ∀ i (h : i < ll.length), ∃ oa c, vs[i]? = some (.slice oa ll[i].length c) ∧ RecsAt w (.slice oa ll[i].length c) ll[i] ∧ ll[i].length ≤ 9223372036854775807
theorem ListsAt.below {w w' : World} {v : Value} {ll : List (List Rc)} (h : ListsAt w v ll) (hb : Below w.heap.size w w') : ListsAt w' v ll := by
  obtain ⟨vs, h1, h2, h3⟩ := h.row
  refine ⟨vs, h1, h2.kept (fun k hk _ _ => hb.block k hk), fun i hi => ?_⟩
  obtain ⟨oa, c, g1, g2, g3⟩ := h3 i hi
  exact ⟨oa, c, g1, g2.below hb, g3⟩
theorem ListsAt.at {w : World} {oa : Option Addr} {n c i : Nat} {ll : List (List Rc)} (h : ListsAt w (.slice oa n c) ll) (hn : ll.length = n) (hi : i < ll.length) : ∃ g off ob d, oa = some ⟨g, off, none⟩ ∧ w.cell? ⟨g, off + i, none⟩ = some (.slice ob ll[i].length d) ∧ RecsAt w (.slice ob ll[i].length d) ll[i] ∧ ll[i].length ≤ 9223372036854775807 := by
  subst hn
  obtain ⟨vs, h1, h2, h3⟩ := h.row
  obtain ⟨ob, d, g1, g2, g3⟩ := h3 i hi
  obtain ⟨g, off, rfl⟩ := h2.addr (by omega)
  exact ⟨g, off, ob, d, rfl, rdCell h2 g1, g2, g3⟩
theorem recsCells_sub (xs : List RcV) (l m : Nat) : ((recsCells xs).drop (l * 3)).take (m * 3) = recsCells ((xs.drop l).take m) := by
  have h1 : ∀ (ys : List RcV) (m : Nat), (recsCells ys).take (m * 3) = recsCells (ys.take m) := fun ys => by
    induction ys with
    | nil => intro m; simp [recsCells]
    | cons a t ih =>
      intro m
      cases m with
      | zero => simp [recsCells]
      | succ m =>
        have e : recsCells (a :: t) = recCells a ++ recsCells t := rfl
        rw [e, List.take_succ_cons, show (m + 1) * 3 = 3 + m * 3 by omega, List.take_append, show recsCells (a :: t.take m) = recCells a ++ recsCells (t.take m) from rfl, ← ih m, List.take_of_length_le (show (recCells a).length ≤ 3 + m * 3 by show 3 ≤ _; omega), show 3 + m * 3 - (recCells a).length = m * 3 by show 3 + m * 3 - 3 = _; omega]
  have h2 : ∀ (ys : List RcV) (l : Nat), (recsCells ys).drop (l * 3) = recsCells (ys.drop l) := fun ys => by
    induction ys with
    | nil => intro l; simp [recsCells]
    | cons a t ih =>
      intro l
      cases l with
      | zero => simp
      | succ l =>
        have e : recsCells (a :: t) = recCells a ++ recsCells t := rfl
        rw [e, List.drop_succ_cons, show (l + 1) * 3 = 3 + l * 3 by omega, List.drop_append, ← ih l, List.drop_of_length_le (show (recCells a).length ≤ 3 + l * 3 by show 3 ≤ _; omega), show 3 + l * 3 - (recCells a).length = l * 3 by show 3 + l * 3 - 3 = _; omega, List.nil_append]
  rw [h2, h1]
theorem RecsIs.sub {w : World} {oa : Option Addr} {n c : Nat} {xs : List RcV} (h : RecsIs w (.slice oa n c) xs) (hn : xs.length = n) {l k : Nat} (hl : l ≤ k) (hk : k ≤ n) : RecsIs w (.slice (if c = l then oa else oa.map (·.add (l * 3))) (k - l) (c - l)) ((xs.drop l).take (k - l)) := by
  subst hn
  have h1 := h.row.sub l k c hl hk (Nat.le_trans hk h.row.cap) (Nat.le_refl _)
  rw [recsCells_sub] at h1
  have e : ((xs.drop l).take (k - l)).length = k - l := by rw [List.length_take, List.length_drop]; omega
  refine ⟨by rw [e]; exact h1, fun x hx => h.each x (List.mem_of_mem_drop (List.mem_of_mem_take hx))⟩
section
variable {w w' : World} {S S' : Nat → Prop} {s x q : Nat} {nm : ByteArray} {bn step : Nat} {sv : Value} {sp : List Sp} {bs : List Bat} {d d' : Dk}
theorem SegI.turn (h : SegI w S s x q nm bn step sv sp bs d) (hd : DiskAt w' S' q d') (hS : ∀ k, S' k → S k ∨ w.heap.size ≤ k) (ho : Only S w w') (hf : ∃ f, d'.find nm.data.toList = some f ∧ f.bytes = batsT bs) : SegI w' S' s x q nm bn step sv sp bs d' := by
  have hsl := (Array.getElem?_eq_some_iff.1 h.head).1
  have hxl := (Array.getElem?_eq_some_iff.1 h.idx.head).1
  have hvl := h.idx.row.lt
  have nS : ∀ k, k < w.heap.size → ¬ S k → ¬ S' k := fun k hk hn hw => by
    rcases hS k hw with hw | hw
    · exact hn hw
    · omega
  exact {
    head := (ho.block s hsl h.sS).trans h.head
    idx := ⟨(ho.block x hxl h.xS).trans h.idx.head, h.idx.row.kept (fun k hk => ho.block k (hvl k hk) (h.vS k hk))⟩
    spots := h.spots
    chain := h.chain
    disk := hd
    file := hf
    sS := nS s hsl h.sS
    xS := nS x hxl h.xS
    vS := fun k hk => nS k (hvl k hk) (h.vS k hk)
    sx := h.sx
    sv := h.sv
    stp := h.stp
    off := h.off
    nms := h.nms }
end
structure SegJ (w2 w : World) (s x q : Nat) (nm : ByteArray) (bn step m : Nat) (bs : List Bat) : Prop where
  seg : ∃ S sv sp d, SegI w S s x q nm bn step sv sp bs d ∧ d.fates = [] ∧ (∀ k, S k → w2.heap.size ≤ k) ∧ ∀ k, sv.ownBlock = some k → w2.heap.size ≤ k
  hs : w2.heap.size ≤ s
  hx : w2.heap.size ≤ x
  below : Below w2.heap.size w2 w
  few : bs.length ≤ m
theorem SegJ.later {w2 w w' : World} {s x q : Nat} {nm : ByteArray} {bn step m : Nat} {bs : List Bat} (h : SegJ w2 w s x q nm bn step m bs) (hb : Below w.heap.size w w') : SegJ w2 w' s x q nm bn step m bs := by
  obtain ⟨S, sv, sp, d, h1, h2, h3, h4⟩ := h.seg
  exact ⟨⟨S, sv, sp, d, h1.later hb, h2, h3, h4⟩, h.hs, h.hx, h.below.trans (hb.mono h.below.size), h.few⟩
end Go.Proofs.YtlgcoaeddeiegaaGreat
/- segment: what a crash leaves of batches' bytes; a disk of one file (plain). -/
namespace Go.Proofs.YtlgcoaeddeiegaaGreat
open Go Go.RowKit

theorem batch_torn {base : Int} {l : List Rc} {m : Nat} (hg : GoodB base l) (h0 : 0 < m) (hm : m < (batchT base l).length) : TornL ((batchT base l).take m) := by
  have hlen : ((batchT base l).take m).length = m := by rw [List.length_take]; omega
  refine ⟨fun e => by rw [e] at hlen; simp at hlen; omega, ?_⟩
  by_cases h4 : m < 4
  · exact .inl (by omega)
  · refine .inr ⟨by omega, ?_⟩
    have hp := hg.pos.2
    have hs := hg.size
    have e4 : ((batchT base l).take m).take 4 = leT (rcsSize l - 4) 4 := by
      rw [List.take_take, Nat.min_eq_left (by omega)]
      unfold batchT
      rw [List.append_assoc, List.take_append_of_le_length (by rw [leT_len]; exact Nat.le_refl _), List.take_of_length_le (by rw [leT_len]; exact Nat.le_refl _)]
    rw [e4, getT_leT 4 (rcsSize l - 4) (by omega), hlen]
    rw [batchT_len] at hm
    omega
theorem posT_cons (b : Bat) (r : List Bat) (j : Nat) : posT (b :: r) (j + 1) = (batchT b.1 b.2).length + posT r j := by
  unfold posT
  rw [List.take_succ_cons, show batsT (b :: r.take j) = batchT b.1 b.2 ++ batsT (r.take j) from rfl, List.length_append]
theorem torn_split : ∀ (bs : List Bat) (m : Nat), (∀ b ∈ bs, GoodB b.1 b.2) → m ≤ (batsT bs).length →
    ∃ k t, k ≤ bs.length ∧ (batsT bs).take m = batsT (bs.take k) ++ t ∧ (t = [] ∨ TornL t) ∧ ∀ j, j ≤ bs.length → posT bs j ≤ m → j ≤ k
  | [], m, _, _ => ⟨0, [], Nat.le_refl _, by simp [batsT], .inl rfl, fun j hj _ => hj⟩
  | b :: r, m, hg, hm => by
    have hgb := hg b (List.mem_cons_self ..)
    have e : batsT (b :: r) = batchT b.1 b.2 ++ batsT r := rfl
    rw [e, List.length_append] at hm
    by_cases hb : (batchT b.1 b.2).length ≤ m
    · obtain ⟨k, t, h1, h2, h3, h4⟩ := torn_split r (m - (batchT b.1 b.2).length) (fun c hc => hg c (List.mem_cons_of_mem _ hc)) (by omega)
      refine ⟨k + 1, t, by simp; omega, ?_, h3, fun j hj hp => ?_⟩
      · rw [e, List.take_append, List.take_of_length_le hb, h2, List.take_succ_cons, show batsT (b :: r.take k) = batchT b.1 b.2 ++ batsT (r.take k) from rfl, List.append_assoc]
      · cases j with
        | zero => omega
        | succ j =>
          rw [posT_cons] at hp
          have := h4 j (by simpa using hj) (by omega)
          omega
    · refine ⟨0, (batchT b.1 b.2).take m, Nat.zero_le _, ?_, ?_, fun j hj hp => ?_⟩
      · rw [e, List.take_append_of_le_length (by omega)]
        simp [batsT]
      · by_cases h0 : m = 0
        · exact .inl (by rw [h0]; rfl)
        · exact .inr (batch_torn hgb (by omega) (by omega))
      · cases j with
        | zero => exact Nat.le_refl _
        | succ j =>
          rw [posT_cons] at hp
          omega
structure OneF (d : Dk) (s : List UInt8) (f : F0) : Prop where
  files : d.files = [f]
  fates : d.fates = []
  name : f.name = s
  there : f.there = true
  named : f.named = true
  ok : nameOk s = true
section
variable {d : Dk} {s : List UInt8} {f : F0}
theorem OneF.find (h : OneF d s f) : d.find s = some f := by
  unfold Dk.find Dk.at
  rw [h.files, List.find?_cons, show (f.name == s) = true by rw [h.name]; exact beq_self_eq_true s]
  show Option.filter _ (some f) = _
  rw [Option.filter_some, if_pos h.there]
theorem OneF.fate (h : OneF d s f) : d.fate = (0, 0) := by unfold Dk.fate; rw [h.fates]
theorem OneF.turn (h : OneF d s f) (t : F0 → F0) (hn : (t f).name = f.name) (ht : (t f).there = true) (hm : (t f).named = true) : OneF (d.next.turn s t) s (t f) :=
  ⟨by unfold Dk.turn Dk.next; dsimp only; rw [h.files, List.map_cons, List.map_nil, if_pos h.name], by unfold Dk.turn Dk.next; dsimp only; rw [h.fates]; rfl, hn.trans h.name, ht, hm, h.ok⟩
theorem OneF.append (h : OneF d s f) {b : List UInt8} (h0 : (d.append s b).1 = 0) : OneF (d.append s b).2 s { f with bytes := f.bytes ++ b } := by
  unfold Dk.append at h0 ⊢
  rw [if_neg (by rw [h.ok]; simp), h.find] at h0 ⊢
  dsimp only at h0 ⊢
  split at h0
  · cases h0
  · rename_i h2
    rw [if_neg h2, h.fate]
    exact h.turn _ rfl h.there h.named
theorem OneF.sync (h : OneF d s f) : (d.sync s).1 = 0 ∧ OneF (d.sync s).2 s { f with lasts := f.bytes.length } := by
  unfold Dk.sync
  rw [if_neg (by rw [h.ok]; simp), h.find]
  dsimp only
  rw [h.fate]
  exact ⟨rfl, h.turn _ rfl h.there h.named⟩
theorem OneF.cut (h : OneF d s f) {n : Nat} (hn : n ≤ f.bytes.length) : (d.cut s (n : Int)).1 = 0 ∧ OneF (d.cut s (n : Int)).2 s { f with bytes := f.bytes.take n, lasts := min f.lasts n } := by
  unfold Dk.cut
  rw [if_neg (by rw [h.ok]; simp), h.find]
  dsimp only
  rw [if_neg (by omega), h.fate, if_neg (by simp)]
  exact ⟨rfl, h.turn _ rfl h.there h.named⟩
theorem OneF.crash (h : OneF d s f) (hl : f.lasts ≤ f.bytes.length) (ps : List Int) : ∃ k, f.lasts + k ≤ f.bytes.length ∧ OneF (d.crash ps) s (cutF f k) := by
  refine ⟨(moreP f (keepP f ps).2).1, moreP_le f _ hl, ?_, rfl, h.name, rfl, rfl, h.ok⟩
  unfold Dk.crash crashTo
  dsimp only
  rw [h.files]
  show (crashStep ([], ps) f).1 = _
  unfold crashStep
  rw [if_neg (by unfold keepP; rw [h.there, h.named]; simp)]
  rfl
end
end Go.Proofs.YtlgcoaeddeiegaaGreat
