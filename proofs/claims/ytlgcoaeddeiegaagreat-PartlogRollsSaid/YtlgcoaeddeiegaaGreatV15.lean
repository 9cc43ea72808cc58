/- The texts Ee, Ff, Fg, Fh, Fi, Pv, Str, Px, Py, SegG0, Pt, Pzq in one. -/
import Derived.Test.YtlgcoaeddeiegaaGreatV14
import Derived.Test.YtlgcoaeddeiegaaGreatV9
import Derived.Test.YtlgcoaeddeiegaaGreatV6
import Derived.Test.YtlgcoaeddeiegaaGreatV2
import Derived.RangeFuncCalls
import Derived.RangeFuncLeaves
import Derived.RangeFuncFrom
import Derived.Shelf.Abstract
import Derived.Shelf.RegionOpen
import Derived.OwnWalkIn
import Derived.TacticsInMore
import Derived.LoopNIn
import Derived.LoopIn
import Derived.Test.YtlgcoaeddeiegaaGreatV10
import Derived.Test.YtlgcoaeddeiegaaGreatV7
/- Disk: Crash. -/
namespace Go.Proofs.YtlgcoaeddeiegaaGreat
open Go Go.Maps Go.RowKit
open Go.Proofs (encStr)

set_option maxRecDepth 100000 in
set_option maxHeartbeats 1000000 in
theorem crash_b {w : World} {S : Nat → Prop} {q : Nat} {d : Dk} (h : DiskAt w S q d) (oa : Option Addr) (c : Nat) (ps : List Int) (hp : readAt w 1 (.slice oa ps.length c) ps.length (intCells ps)) (hpl : ps.length ≤ 1000000000) (hpm : ∀ x ∈ ps, x ≤ 9223372036854775807) :
    Calls Tryz.prog 29 #[.pointer (some ⟨q, 0, none⟩), .agg #[.slice oa ps.length c]] w fun e w' => CrashIs w d ps e w' := by
  obtain ⟨mb, fv, L, h⟩ := h
  obtain ⟨np, hnp⟩ : ∃ np, ps.length = np := ⟨_, rfl⟩
  rw [hnp] at hp hpl ⊢
  have hmm := @run_makeMap Tryz.prog
  go_enter Tryz.func29, Tryz.ntmps29
  go_upto_region 1 with fail
  obtain ⟨w1, hw1⟩ : ∃ w1 : World, w1 = w.alloc (.cells #[.slice oa np c] 72) := ⟨_, rfl⟩
  obtain ⟨r, hr⟩ : ∃ r, r = w.heap.size := ⟨_, rfl⟩
  have hr1 : w1.heap[r]? = some (.cells #[.slice oa np c] 72 (0, 0)) := by rw [hw1, hr]; exact alloc_cells _ _ _
  have hb1 : Below w.heap.size w w1 := by rw [hw1]; exact (Below.refl _ _).alloc (Nat.le_refl _) _
  have h1 := h.below hb1
  have hp1 : readAt w1 1 (.slice oa np c) np (intCells ps) := hp.kept (fun k hl _ _ => hb1.block k hl)
  have HSL : Hid (∀ k, S k → k < w.heap.size) := Lib.hid h.low
  have hpz : 0 < np → ∀ k, (Value.slice oa np c).ownBlock = some k → k < w.heap.size := fun h0 k hk => hp.lt h0 k hk
  have hs1 : w1.heap.size = w.heap.size + 1 := by rw [hw1]; simp
  rw [← hr, ← hw1]
  have HR := Lib.hid hr
  have H1 := Lib.hid h1
  have HP1 := Lib.hid hp1
  have HPZ := Lib.hid hpz
  have HB1 := Lib.hid hb1
  have HS1 := Lib.hid hs1
  clear hw1 hr h h1 hp hp1 hpz hb1 hs1
  have r0 : w1.cell? ⟨r, 0, none⟩ = some (.slice oa np c) := cell_of hr1 rfl
  go_wp2_with fail
  refine (none_b H1.out).mono ?_
  rintro e w' ⟨rfl, rfl⟩
  go_wp2_with fail
  refine (containsInt_b hnp HP1.out hpl).mono ?_
  rintro e w1 ⟨b, rfl, hbb, rfl⟩
  cases b with
  | true =>
    have HO : Hid (CrashIs w d ps (.returned (.tuple #[.pointer none, .int .i64 2])) w1) := Lib.hid (.inl ⟨fun h => (by have := hbb.2 h; cases this), rfl, HB1.out⟩)
    clear hbb
    go_wp2_with fail
    go_ret2
    exact HO.out
  | false =>
    have HGE : Hid (AllGe ps) := Lib.hid (hbb.1 rfl)
    clear hbb
    go_upto_region 8 with fail
    obtain ⟨pb, hpb⟩ : ∃ pb, pb = w1.heap.size := ⟨_, rfl⟩
    obtain ⟨wa, hwa⟩ : ∃ wa : World, wa = w1.alloc (.cells #[.slice oa np c] 38) := ⟨_, rfl⟩
    have hsa : wa.heap.size = pb + 1 := by rw [hwa, hpb]; simp
    have hpa : wa.heap[pb]? = some (.cells #[.slice oa np c] 38 (0, 0)) := by rw [hwa, hpb]; exact alloc_cells _ _ _
    have hba : Below w1.heap.size w1 wa := by rw [hwa]; exact (Below.refl _ _).alloc (Nat.le_refl _) _
    have hdn := disk_new wa
    obtain ⟨w2, hw2⟩ : ∃ w2 : World, w2 = (wa.alloc (.map #[] 0)).alloc (.cells #[.map (some wa.heap.size), .slice none 0 0, .int .i64 0] 120) := ⟨_, rfl⟩
    have hb2 : Below wa.heap.size wa w2 := by rw [hw2]; exact ((Below.refl _ _).alloc (Nat.le_refl _) _).alloc (by simp) _
    have hs2 : w2.heap.size = pb + 3 := by rw [hw2]; simp [hsa]
    rw [← hw2] at hdn
    rw [hsa] at hdn hw2
    rw [← hpb, ← hwa, ← hw2]
    have hB2 : Below w.heap.size w w2 := HB1.out.trans ((hba.trans (hb2.mono hba.size)).mono HB1.out.size)
    have h2 : DiskIs w2 S q mb fv L d := (H1.out.below hba).below hb2
    have hpk : PicksAt w2 pb w.heap.size ps := by
      refine ⟨oa, c, ?_, ?_, fun h0 k hk => ?_⟩
      · rw [hnp]; exact (hb2.block pb (by omega)).trans hpa
      · rw [hnp]
        have := HP1.out
        exact (this.kept (fun k hl _ _ => hba.block k hl)).kept (fun k hl _ _ => hb2.block k hl)
      · have h3 := HPZ.out (by omega) k (by rw [hnp] at hk; exact hk)
        have h4 := HS1.out
        exact ⟨by omega, h3⟩
    have HZ : Hid (w.heap.size < pb) := Lib.hid (by have := HS1.out; omega)
    have H2 := Lib.hid h2
    have HPK := Lib.hid hpk
    have HDN := Lib.hid hdn
    have HB2 := Lib.hid hB2
    have HS2 := Lib.hid hs2
    clear hpb hwa hsa hpa hba hdn hw2 hb2 hs2 hB2 h2 hpk r0 hr1 HR H1 HP1 HPZ HB1 HS1
    go_wp2_with fail
    refine (names_b H2.out).mono ?_
    rintro e w3 ⟨v, rfl, hown, hnil, hb3⟩
    obtain ⟨n, hn⟩ : ∃ n, L.length = n := ⟨_, rfl⟩
    rw [hn] at hown
    have hrow := rowAt.of_row (hasRow.of_own hown)
    obtain ⟨oan, cn, rfl, _⟩ := hrow.shape
    have hge : ∀ k, (Value.slice oan n cn).ownBlock = some k → w2.heap.size ≤ k := fun k hk => ((hasRow.of_own hown).lt k hk).1
    have HROW := Lib.hid hrow
    have HGE2 := Lib.hid hge
    have HB3 := Lib.hid hb3
    have HLN := Lib.hid hn
    have hnle : n ≤ 4096 := by
      have h3 := H2.out.few
      rw [← H2.out.files, List.length_map, hn] at h3
      exact h3
    clear hown hnil hb3 hn hrow hge
    have hinv : CrashInv w3 w3 S q mb fv L d pb w.heap.size 0 ps := by
      have hs3 := HB3.out.size
      have hs2 := HS2.out
      refine ⟨⟨H2.out.below HB3.out, Only.refl _ _, ⟨[], ?_⟩, HSL.out, HZ.out, by omega⟩, ?_, ?_⟩
      · have h3 := HDN.out.wider (S' := fun k => (k = pb + 2 ∨ k = pb + 1) ∧ k < w2.heap.size) (fun k hk => by
          have := hk.1
          have := hk.2
          exact ⟨by omega, by omega⟩) (fun k hk => hk.2)
        exact (h3.below HB3.out).wider (fun k hk => ⟨by rcases hk.1 with h | h <;> simp [h], Nat.lt_of_lt_of_le hk.2 hs3⟩) (fun k hk => hk.2)
      · have := HZ.out
        exact HPK.out.kept (fun k hk => HB3.out.block k (by omega))
      · exact fun x hx => ⟨HGE.out x hx, hpm x hx⟩
    have HINV := Lib.hid hinv
    clear hinv hmm
    go_wp2_with fail
    go_loopw [28] (fun i wr => ∃ j : Nat, j ≤ n ∧ i = .int .i64 j ∧ Hid (CrashInv w3 wr S q mb fv L d pb w.heap.size j ps)) (fun i _ => n - (intOf i).toNat)
    case atStart => exact ⟨0, Nat.zero_le _, rfl, HINV⟩
    case round =>
      obtain ⟨j, hj, rfl, HI⟩ := hrel
      clear HINV
      by_cases hlt : j < n
      · have hjL : j < L.length := by rw [HLN.out]; exact hlt
        obtain ⟨x, hx⟩ : ∃ x, L[j] = x := ⟨_, rfl⟩
        have hxm : x ∈ L := by rw [← hx]; exact List.getElem_mem _
        obtain ⟨nm, hnm⟩ : ∃ nm : ByteArray, nm = ⟨x.f.name.toArray⟩ := ⟨_, rfl⟩
        have hnmd : nm.data.toList = x.f.name := by rw [hnm]
        obtain ⟨gn, on, rfl⟩ := HROW.out.addr (by omega)
        have hgn := HGE2.out gn rfl
        have hgl := HROW.out.lt gn rfl
        have hs2 := HS2.out
        have hcn : wr.cell? ⟨gn, on + j, none⟩ = some (.string nm) := by
          have h3 := HROW.out.cells (g := gn) (off := on) rfl j (.string nm) (by
            rw [List.getElem?_map, List.getElem?_eq_getElem hjL, hx, hnm]
            rfl)
          rw [Go.WideShapes.add_plain] at h3
          have h4 := HI.out.pre.only.block gn hgl (by omega)
          rw [← h3]
          exact cell_kept_at h4
        have hnok : nameOk x.f.name = true := HI.out.pre.old.names _ (by rw [← HI.out.pre.old.files]; exact List.mem_map_of_mem hxm)
        have hnsz : nm.size ≤ 32 := by
          have h3 : x.f.name.length ≤ 32 := by simp [nameOk] at hnok; exact hnok.2
          rw [hnm]; simpa [ByteArray.size] using h3
        have hl := HI.out.pre.old.lookup1_some hxm (nm := nm) (by unfold maxLen; omega) hnmd.symm
        have hxf := HI.out.pre.old.each x hxm
        obtain ⟨oab, cb, hbv, hnb⟩ := hxf.row.shape
        obtain ⟨N, hN⟩ : ∃ N, x.f.bytes.length = N := ⟨_, rfl⟩
        obtain ⟨l, hll⟩ : ∃ l, x.f.lasts = l := ⟨_, rfl⟩
        obtain ⟨th, hth⟩ : ∃ b, x.f.there = b := ⟨_, rfl⟩
        obtain ⟨nd, hnd⟩ : ∃ b, x.f.named = b := ⟨_, rfl⟩
        have hxc := hxf.cells
        rw [hbv, hN, hll, hth, hnd] at hxc
        have hlN : l ≤ N ∧ N ≤ 16777216 := by
          have h3 := hxf.lasts
          have h4 := hxf.size
          omega
        have c0 : wr.cell? ⟨q, 0, none⟩ = some (.map (some mb)) := cell_of HI.out.pre.old.head rfl
        have k2 : wr.cell? ⟨x.blk, 2, none⟩ = some (.bool th) := cell_of hxc rfl
        have k3 : wr.cell? ⟨x.blk, 3, none⟩ = some (.bool nd) := cell_of hxc rfl
        obtain ⟨P, hP⟩ : ∃ P, (crashTo (d.files.take j) ps).2 = P := ⟨_, rfl⟩
        have hpk := HI.out.picks
        have hok := HI.out.ok
        rw [hP] at hpk hok
        have HX := Lib.hid (And.intro hx (And.intro hxm (And.intro hnmd hnok)))
        have HF := Lib.hid (And.intro hbv (And.intro hN (And.intro hll (And.intro hth hnd))))
        have HXC := Lib.hid hxc
        have HPK2 := Lib.hid hpk
        have HOK := Lib.hid hok
        have HPP := Lib.hid hP
        have HGN : Hid (w2.heap.size ≤ gn ∧ gn < w3.heap.size) := Lib.hid ⟨hgn, hgl⟩
        clear hx hxm hnm hnmd hgn hgl hnok hxf hbv hnb hN hll hth hnd hxc hpk hok hP hs2
        go_upto_region 12 with fail
        go_cut [54] from 38 to 54 (fun s54 wx => s54 = .bool (!(keepP x.f P).1) ∧ Hid (PicksAt wx pb w.heap.size (keepP x.f P).2 ∧ Only (fun k => k = pb) wr wx))
        case first =>
          cases th
          · have hk : keepP x.f P = (decide ((nextP 2 P).1 ≠ 0), (nextP 2 P).2) := by simp [keepP, HF.out.2.2.2.1]
            have HK := Lib.hid hk
            clear hk
            go_wp2_with fail
            refine (next_b HPK2.out (fun y hy => (HOK.out y hy).1) 2 (by omega) (by omega) (fun y hy => (HOK.out y hy).2)).mono ?_
            rintro e w4 ⟨rfl, hp4, ho4⟩
            have HP4 := Lib.hid (And.intro hp4 ho4)
            clear hp4 ho4
            go_wp2_with fail
            go_meet
            exact ⟨by rw [HK.out, keep_eq], by rw [HK.out]; exact HP4⟩
          · cases nd
            · have hk : keepP x.f P = (decide ((nextP 2 P).1 ≠ 0), (nextP 2 P).2) := by simp [keepP, HF.out.2.2.2.2]
              have HK := Lib.hid hk
              clear hk
              go_wp2_with fail
              refine (next_b HPK2.out (fun y hy => (HOK.out y hy).1) 2 (by omega) (by omega) (fun y hy => (HOK.out y hy).2)).mono ?_
              rintro e w4 ⟨rfl, hp4, ho4⟩
              have HP4 := Lib.hid (And.intro hp4 ho4)
              clear hp4 ho4
              go_wp2_with fail
              go_meet
              exact ⟨by rw [HK.out, keep_eq], by rw [HK.out]; exact HP4⟩
            · have hk : keepP x.f P = (true, P) := by simp [keepP, HF.out.2.2.2.1, HF.out.2.2.2.2]
              have HK := Lib.hid hk
              clear hk
              go_wp2_with fail
              go_meet
              exact ⟨by rw [HK.out]; rfl, by rw [HK.out]; exact Lib.hid ⟨HPK2.out, Only.refl _ _⟩⟩
        case rest =>
          obtain ⟨rfl, HC1⟩ := hcut
          have HPRE : Hid (CrashPre w3 wc S q mb fv L d pb w.heap.size (crashTo (d.files.take j) ps).1) := Lib.hid (HI.out.pre.pick HC1.out.2)
          have HOK1 : Hid (PicksOk (keepP x.f P).2) := Lib.hid (keepP_ok _ HOK.out)
          have HTK : Hid (crashTo (d.files.take (j + 1)) ps = crashStep (crashTo (d.files.take j) ps) x.f) := Lib.hid (by
            rw [take_files HI.out.pre.old.files hjL, HX.out.1, crashTo_snoc])
          obtain ⟨kp, hkp⟩ : ∃ kp, (keepP x.f P).1 = kp := ⟨_, rfl⟩
          obtain ⟨P1, hP1⟩ : ∃ P1, (keepP x.f P).2 = P1 := ⟨_, rfl⟩
          rw [hP1] at HC1
          rw [hkp]
          rw [hP1] at HOK1
          have HKP := Lib.hid (And.intro hkp hP1)
          clear hkp hP1
          cases kp with
          | false =>
            have HN : Hid (CrashInv w3 wc S q mb fv L d pb w.heap.size (j + 1) ps) := Lib.hid (by
              have e : crashStep (crashTo (d.files.take j) ps) x.f = ((crashTo (d.files.take j) ps).1, P1) := by
                unfold crashStep
                rw [HPP.out, HKP.out.1, HKP.out.2]
                rfl
              exact ⟨by rw [HTK.out, e]; exact HPRE.out, by rw [HTK.out, e]; exact HC1.out.1, by rw [HTK.out, e]; exact HOK1.out⟩)
            clear HTK HPRE
            go_wp2_with fail
            exact ⟨⟨j + 1, by omega, by simp, HN⟩, by simp [intOf]; omega⟩
          | true =>
            have hxf2 := HPRE.out.old.each x HX.out.2.1
            have hxc2 := hxf2.cells
            rw [HF.out.1, HF.out.2.1, HF.out.2.2.1, HF.out.2.2.2.1, HF.out.2.2.2.2] at hxc2
            have k0 : wc.cell? ⟨x.blk, 0, none⟩ = some (.slice oab N cb) := cell_of hxc2 rfl
            have k1 : wc.cell? ⟨x.blk, 1, none⟩ = some (.int .i64 l) := cell_of hxc2 rfl
            have k2' : wc.cell? ⟨x.blk, 2, none⟩ = some (.bool th) := cell_of hxc2 rfl
            clear hxf2 hxc2 c0 k2 k3 hl hcn
            obtain ⟨m, hm⟩ : ∃ m, (moreP x.f P1).1 = m := ⟨_, rfl⟩
            obtain ⟨P2, hP2⟩ : ∃ P2, (moreP x.f P1).2 = P2 := ⟨_, rfl⟩
            have HM := Lib.hid (And.intro hm hP2)
            clear hm hP2
            go_upto_region 14 with fail
            go_region
            go_upto_region 15 with fail
            obtain ⟨bm, hbm⟩ : ∃ bm : Bool, (th && decide (l < N)) = bm := ⟨_, rfl⟩
            go_cut [76] from 69 to 76 (fun s76 wx => s76 = .bool bm ∧ wx = wc.drew)
            case first =>
              have HBM := Lib.hid hbm
              clear hbm
              cases th
              · go_wp2_with fail
                go_meet
                exact ⟨by rw [← HBM.out]; rfl, rfl⟩
              · by_cases hlt2 : l < N
                · have hd1 : decide ((0 : Int) < (N : Int) - (l : Int)) = true := by simp; omega
                  have HL2 := Lib.hid hlt2
                  clear hlt2
                  go_wp2_with fail
                  go_meet
                  exact ⟨by rw [← HBM.out]; simp [HL2.out], rfl⟩
                · have hd1 : decide ((0 : Int) < (N : Int) - (l : Int)) = false := by simp; omega
                  have HL2 := Lib.hid hlt2
                  clear hlt2
                  go_wp2_with fail
                  go_meet
                  exact ⟨by rw [← HBM.out]; simp [HL2.out], rfl⟩
            case rest =>
              obtain ⟨rfl, hwx⟩ := hcut
              subst hwx
              have hmo : moreP x.f P1 = if bm then nextP (N - l + 1) P1 else (0, P1) := by
                unfold moreP
                rw [HF.out.2.1, HF.out.2.2.1, HF.out.2.2.2.1, hbm]
              have HMO := Lib.hid hmo
              obtain ⟨wd, hwd⟩ : ∃ wd : World, wd = wc.drew := ⟨_, rfl⟩
              have HPD : Hid (PicksAt wd pb w.heap.size P1) := Lib.hid (by rw [hwd]; exact HC1.out.1)
              have HPRD : Hid (CrashPre w3 wd S q mb fv L d pb w.heap.size (crashTo (d.files.take j) ps).1) := Lib.hid (by rw [hwd]; exact HPRE.out.drew)
              rw [← hwd]
              clear hmo hbm hwd k0 k1 k2' HPRE HC1
              go_upto_if 76 with fail
              go_cut [12] from 77 to 82 (fun s12 wx => s12 = .int .i64 ((l + m : Nat) : Int) ∧ Hid (PicksAt wx pb w.heap.size P2 ∧ Only (fun k => k = pb) wd wx))
              case first =>
                cases bm
                · have h1 := HM.out
                  rw [HMO.out] at h1
                  have HF2 : Hid (Value.int .i64 (l : Int) = Value.int .i64 ((l + m : Nat) : Int) ∧ Hid (PicksAt wd pb w.heap.size P2 ∧ Only (fun k => k = pb) wd wd)) := Lib.hid ⟨by rw [← h1.1]; simp, Lib.hid ⟨by rw [← h1.2]; exact HPD.out, Only.refl _ _⟩⟩
                  clear h1
                  go_wp2_with fail
                  go_meet
                  exact HF2.out
                · go_wp2_with fail
                  refine (next_v (v := (N : Int) - (l : Int) + 1) HPD.out (fun y hy => (HOK1.out y hy).1) (N - l + 1) (by omega) (by omega) (fun y hy => (HOK1.out y hy).2) (by omega)).mono ?_
                  rintro e w4 ⟨rfl, hp4, ho4⟩
                  have HP4 := Lib.hid (And.intro hp4 ho4)
                  clear hp4 ho4
                  have hmb2 : (nextP (N - l + 1) P1).1 < N - l + 1 := nextP_lt _ _ (by omega)
                  go_wp2_with fail
                  go_meet
                  have h1 := HM.out
                  rw [HMO.out] at h1
                  exact ⟨by rw [← h1.1]; simp, Lib.hid ⟨by rw [← h1.2]; exact HP4.out.1, HP4.out.2⟩⟩
              case rest =>
                obtain ⟨rfl, HC2⟩ := hcut
                have HPR2 : Hid (CrashPre w3 wc S q mb fv L d pb w.heap.size (crashTo (d.files.take j) ps).1) := Lib.hid (HPRD.out.pick HC2.out.2)
                have hxf2 := HPR2.out.old.each x HX.out.2.1
                have hxc2 := hxf2.cells
                have hxr2 := hxf2.row
                rw [HF.out.1, HF.out.2.1] at hxr2
                rw [HF.out.1, HF.out.2.1, HF.out.2.2.1, HF.out.2.2.2.1, HF.out.2.2.2.2] at hxc2
                obtain ⟨Lo, hLo⟩ := HPR2.out.new
                obtain ⟨D, hown, hdsz, hdic⟩ := hLo.look
                have hmle : l + m ≤ N := by
                  have h1 := moreP_le x.f P1 hxf2.lasts
                  rw [HM.out.1, HF.out.2.1, HF.out.2.2.1] at h1
                  exact h1
                obtain ⟨E, hE⟩ : ∃ E, E = l + m := ⟨_, rfl⟩
                obtain ⟨hm0, hNc⟩ := hxr2.map0
                have hsl : ∀ W : World, (Instr.slice 39 (.slice oab N cb) none (some (.int .i64 (E : Int))) none).run Tryz.prog W = .ok (.slice oab E cb) W := fun W => run_take oab N cb E (by omega) hm0 W
                have hrow2 : rowAt wc 5 1 (.slice oab E cb) E (byteCells (x.f.bytes.take E)) := by
                  have h1 := hxr2.take E (by omega)
                  rw [Nat.mul_one, byteCells_take] at h1
                  exact h1
                have hEl : (x.f.bytes.take E).length = E := by rw [List.length_take, HF.out.2.1]; omega
                have HCL : Hid (Calls Tryz.prog 83 #[.slice oab E cb] wc.drew fun e w'' => ∃ v, e = .returned v ∧ NewBytes wc w'' v (x.f.bytes.take E)) := Lib.hid (by
                  refine (clone_b (w := wc.drew) hEl hrow2 (by omega)).mono ?_
                  rintro e w'' ⟨v, rfl, h1, h2, h3⟩
                  exact ⟨v, rfl, h1, h2, ⟨h3.os, h3.tape, h3.output, h3.size, h3.block⟩⟩)
                have co : wc.cell? ⟨pb + 1 + 1, 0, none⟩ = some (.map (some (pb + 1))) := cell_of hLo.head rfl
                have k0 : wc.cell? ⟨x.blk, 0, none⟩ = some (.slice oab N cb) := cell_of hxc2 rfl
                have HLO := Lib.hid hLo
                have HOW := Lib.hid (And.intro hown hdic)
                have HEL := Lib.hid hEl
                have HEE := Lib.hid hE
                have HEN : Hid (E ≤ N) := Lib.hid (by omega)
                have HLL : Hid (Lo.length ≤ 4096) := Lib.hid (by
                  have h1 := hLo.few
                  have h2 := hLo.files
                  rw [← h2, List.length_map] at h1
                  exact h1)
                rw [← hE]
                clear hxf2 hxc2 hxr2 hLo hown hdsz hdic hmle hE hm0 hrow2 hEl
                go_upto_region 17 with fail
                have HKEY : Hid (keyOf Tryz.prog 9 (.string nm) = some (.string x.f.name)) := Lib.hid (by rw [← HX.out.2.2.1]; exact WideMaps.keyOf_string_mk (P := Tryz.prog) Tryz.underlying9 (by unfold maxLen; omega))
                go_region_law (first | (go_simp; go_at_call 83; refine HCL.out.mono ?_; rintro e w5 ⟨v, rfl, hnb⟩; obtain ⟨oav, cv, hve, _⟩ := hnb.1.shape; rw [HEL.out] at hve; subst hve; have co5 : w5.cell? ⟨pb + 1 + 1, 0, none⟩ = some (.map (some (pb + 1))) := (by rw [← co]; exact cell_kept_at (hnb.2.2.block _ (HLO.out.low _ (HLO.out.foot _ (by simp [diskBlocks]))))); have co6 : ∀ o : Obj, (w5.alloc o).cell? ⟨pb + 1 + 1, 0, none⟩ = some (.map (some (pb + 1))) := (fun o => by rw [← co5]; exact cell_kept_at (Below.heap_alloc w5 o _ (Nat.lt_of_lt_of_le (HLO.out.low _ (HLO.out.foot _ (by simp [diskBlocks]))) hnb.2.2.size))); have HOW5 : Hid (w5.ownsMap Tryz.prog 9 ptrElem (pb + 1) Lo.length D) := Lib.hid (ownsMap_kept HOW.out.1 (hnb.2.2.block _ (HLO.out.low (pb + 1) (HLO.out.foot (pb + 1) (by simp [diskBlocks]))))); obtain ⟨w6, hmu, hown6, hg6⟩ := World.ownsMap.update (t := 118) (HOW5.out.alloc (.cells #[.slice oav E cv, .int .i64 E, .bool true, .bool true] 179)) (string_keyed Tryz.underlying9) Tryz.underlying118 (by unfold maxLen; have := HLL.out; omega) HKEY.out (ptrElem_mk w5.heap.size); have HNB := Lib.hid hnb; have HOW6 := Lib.hid hown6; have HG6 := Lib.hid hg6; clear hnb hown6 hg6))
                all_goals
                  have HN : Hid (CrashInv w3 w6 S q mb fv L d pb w.heap.size (j + 1) ps) := Lib.hid (by
                    have hg0 : cutF x.f m = ⟨x.f.name, x.f.bytes.take E, E, true, true⟩ := by unfold cutF; rw [HF.out.2.2.1, ← HEE.out]
                    have htf := take_files HI.out.pre.old.files hjL
                    rw [HX.out.1] at htf
                    have hlen : (crashTo (d.files.take j) ps).1.length < 4096 := by
                      have h1 := crashTo_length ps (d.files.take j) ([], ps)
                      rw [List.length_take] at h1
                      have h2 : (crashTo (d.files.take j) ps).1.length ≤ 0 + min j d.files.length := h1
                      omega
                    have hel := HEL.out
                    have ha := HPR2.out.add (g := ⟨x.f.name, x.f.bytes.take E, E, true, true⟩) HLO.out HOW.out.2 HNB.out HG6.out HOW6.out (by show E ≤ (x.f.bytes.take E).length; omega) (by show (x.f.bytes.take E).length ≤ 16777216; have := HEN.out; omega) HX.out.2.2.2 (fun g' hg' => crash_lt (f := x.f) HI.out.pre.old.sorted htf g' hg') hlen
                    have e : crashStep (crashTo (d.files.take j) ps) x.f = ((crashTo (d.files.take j) ps).1 ++ [⟨x.f.name, x.f.bytes.take E, E, true, true⟩], P2) := by
                      unfold crashStep
                      rw [HPP.out, HKP.out.1, HKP.out.2, HM.out.1, HM.out.2, hg0]
                      rfl
                    have hpb : pb + 1 < wc.heap.size := HLO.out.low (pb + 1) (HLO.out.foot (pb + 1) (by simp [diskBlocks]))
                    have hz := HZ.out
                    have hao := add_only HNB.out HG6.out
                    refine ⟨by rw [HTK.out, e]; exact ha, ?_, ?_⟩
                    · rw [HTK.out, e]
                      exact HC2.out.1.kept (fun k hk => hao.block k (by omega) (by omega))
                    · rw [HTK.out, e]
                      have := moreP_ok x.f HOK1.out
                      rw [HM.out.2] at this
                      exact this)
                  clear hmu co5 co6
                  go_wp2_with fail
                  exact ⟨⟨j + 1, by omega, by simp, HN⟩, by simp [intOf]; omega⟩
      · obtain rfl : j = n := by omega
        have HO : Hid (CrashIs w d ps (.returned (.tuple #[.pointer (some ⟨pb + 2, 0, none⟩), .int .i64 0])) wr) := Lib.hid (by
          have hs3 := HB3.out.size
          have hs2 := HS2.out
          have hz := HZ.out
          obtain ⟨Lo, hLo⟩ := HI.out.pre.new
          have hb : Below w.heap.size w wr := HB2.out.trans ((HB3.out.mono HB2.out.size).trans (HI.out.pre.only.below (fun i hi hk => by omega) (by omega)))
          refine .inr ⟨HGE.out, pb + 2, rfl, ⟨pb + 1, .slice none 0 0, Lo, ?_⟩, hb⟩
          have e : (⟨(crashTo (d.files.take j) ps).1, [], 0⟩ : Dk) = d.crash ps := by
            rw [List.take_of_length_le (by rw [← H2.out.files, List.length_map, HLN.out]; exact Nat.le_refl _)]; rfl
          rw [e] at hLo
          exact hLo.wider (fun k hk => ⟨by have := hk.1; omega, hk.2⟩) (fun k hk => hk.2))
        go_wp2_with fail
        go_ret2
        exact HO.out
end Go.Proofs.YtlgcoaeddeiegaaGreat
/- Disk: rows that are written; the names of files that are there: looked through. -/
namespace Go.Proofs.YtlgcoaeddeiegaaGreat
open Go Go.Maps Go.RowKit
open Go.Proofs (encStr)

section
variable {w : World} {e : TypeId} {n cap g off : Nat} {xs : List Value}
theorem rowAt.parts (h : rowAt w e 1 (.slice (some ⟨g, off, none⟩) n cap) n xs) : ∃ cur fr, w.heap[g]? = some (.cells cur e fr) ∧ n ≤ cap ∧ cap ≤ maxLen ∧ off + cap ≤ cur.size ∧ freeRow fr cur.size ∧ (cur.toList.drop off).take n = xs := by
  rcases h.2 with ⟨hv, _⟩ | ⟨g', o', c', cur, fr, hv, hg, hn, hm, hs, hf, ht⟩
  · cases hv
  · simp only [Value.slice.injEq, Option.some.injEq, Addr.mk.injEq] at hv
    obtain ⟨⟨rfl, rfl, -⟩, -, rfl⟩ := hv
    exact ⟨cur, fr, hg, hn, hm, by simpa using hs, hf, by simpa using ht⟩
theorem rowAt.mk' {cur : Array Value} {fr : Nat × Nat} (hg : w.heap[g]? = some (.cells cur e fr)) (hn : n ≤ cap) (hm : cap ≤ maxLen) (hs : off + cap ≤ cur.size) (hf : freeRow fr cur.size) (ht : (cur.toList.drop off).take n = xs) : rowAt w e 1 (.slice (some ⟨g, off, none⟩) n cap) n xs := by
  refine ⟨?_, .inr ⟨g, off, cap, cur, fr, rfl, hg, hn, hm, by simpa using hs, hf, by simpa using ht⟩⟩
  rw [← ht, List.length_take, List.length_drop, Array.length_toList]
  omega
theorem rowAt.free (h : rowAt w e 1 (.slice (some ⟨g, off, none⟩) n cap) n xs) {i : Nat} (hi : i < n) : w.frozen? ⟨g, off + i, none⟩ = false := by
  obtain ⟨cur, fr, hg, hn, _, hs, hf, _⟩ := h.parts
  simp only [World.frozen?, hg]
  exact hf _ (by omega)
theorem rowAt.cell1 (h : rowAt w e 1 (.slice (some ⟨g, off, none⟩) n cap) n xs) {i : Nat} {u : Value} (hu : xs[i]? = some u) : w.cell? ⟨g, off + i, none⟩ = some u := by
  have := h.cells (g := g) (off := off) rfl i u hu
  simpa [Go.WideShapes.add_plain] using this
theorem rowAt.set (h : rowAt w e 1 (.slice (some ⟨g, off, none⟩) n cap) n xs) {i : Nat} (u : Value) : rowAt (w.setCell ⟨g, off + i, none⟩ u) e 1 (.slice (some ⟨g, off, none⟩) n cap) n (xs.set i u) := by
  obtain ⟨cur, fr, hg, hn, hm, hs, hf, ht⟩ := h.parts
  refine rowAt.mk' (heap_setCell_here u hg) hn hm (by simpa using hs) (by simpa using hf) ?_
  rw [Array.toList_setIfInBounds, ← ht, List.drop_set, if_neg (by omega), ← List.take_set]
  congr 2
  omega
theorem rowAt.short (h : rowAt w e 1 (.slice (some ⟨g, off, none⟩) n cap) n xs) {i : Nat} (hi : i ≤ n) : rowAt w e 1 (.slice (some ⟨g, off, none⟩) i cap) i (xs.take i) := by
  obtain ⟨cur, fr, hg, hn, hm, hs, hf, ht⟩ := h.parts
  refine rowAt.mk' hg (by omega) hm hs hf ?_
  rw [← ht, List.take_take]
  congr 1
  omega
end
theorem zeroString (W : World) : (zeroValue 9).run Tryz.prog W = .ok (.string ⟨#[]⟩) W := by kernel_rfl
/-- the row's end is cleared -/
theorem run_clear_at {w : World} {n cap g off : Nat} {xs : List Value} (h : rowAt w 9 1 (.slice (some ⟨g, off, none⟩) n cap) n xs) {i : Nat} (hi : i ≤ n) :
    ∃ w', (Builtin.clear_ #[43] 0 #[.slice (if cap = i then some ⟨g, off, none⟩ else some ⟨g, off + i, none⟩) (n - i) (cap - i)]).run Tryz.prog w = .ok (.tuple #[]) w' ∧
      rowAt w' 9 1 (.slice (some ⟨g, off, none⟩) i cap) i (xs.take i) ∧ w.grownBy w' (some g) := by
  obtain ⟨cur, fr, hg, hn, hm, hs, hf, ht⟩ := h.parts
  by_cases hin : n = i
  · subst hin
    refine ⟨w, ?_, h.short (Nat.le_refl _), World.grownBy.refl _ _⟩
    rw [Nat.sub_self]
    split <;> simp [Builtin.clear_, run_underlying Tryz.underlying43]
  · have hne : ¬ cap = i := by omega
    rw [if_neg hne]
    obtain ⟨m, hmm⟩ : ∃ m, n - i = m + 1 := ⟨n - i - 1, by omega⟩
    rw [hmm]
    have hz := zeroString
    have hfit : off + i + (List.replicate (m + 1) (Value.string ⟨#[]⟩)).length ≤ cur.size := by rw [List.length_replicate]; omega
    have hst := run_storeCells_fr Tryz.prog g (off + i) 9 fr (List.replicate (m + 1) (Value.string ⟨#[]⟩)) 0 cur w hg hf (by simpa using hfit) (fun v hv => by rw [List.eq_of_mem_replicate hv]; rfl)
    simp only [Nat.add_zero] at hst
    obtain ⟨C, hC⟩ : ∃ C, C = (cur.toList.take (off + i) ++ List.replicate (m + 1) (Value.string ⟨#[]⟩) ++ cur.toList.drop (off + i + (List.replicate (m + 1) (Value.string ⟨#[]⟩)).length)).toArray := ⟨_, rfl⟩
    rw [← hC] at hst
    have hCs : C.size = cur.size := by
      rw [hC]
      simp only [List.size_toArray, List.length_append, List.length_take, List.length_drop, Array.length_toList]
      omega
    have hzc : (Builtin.zeroCells (Value.string ⟨#[]⟩).cells (m + 1)).toList = List.replicate (m + 1) (Value.string ⟨#[]⟩) := by
      show (Builtin.zeroCells #[Value.string ⟨#[]⟩] (m + 1)).toList = _
      simp only [Builtin.zeroCells]
      apply List.ext_getElem
      · simp
      · intro i h1 h2
        simp [Nat.mod_one]
    refine ⟨w.setRow g C, ?_, rowAt.mk' (setRow_heap w g cur C _ fr hg) (by omega) hm (by rw [hCs]; exact hs) (by rw [hCs]; exact hf) ?_, ⟨rfl, rfl, rfl, by simp, fun k _ hk => setRow_other w g k _ (fun e => hk (by simp [e]))⟩⟩
    · simp [Builtin.clear_, run_underlying Tryz.underlying43, hz, hzc, hst]
    · rw [hC, ← ht]
      simp only [List.append_assoc]
      rw [List.drop_append_of_le_length (by rw [List.length_take, Array.length_toList]; omega), List.take_append_of_le_length (by rw [List.length_drop, List.length_take, Array.length_toList]; omega), List.drop_take, List.take_take, List.take_take]
      congr 1
      omega
set_option maxHeartbeats 400000 in
theorem name1_b {w : World} {S : Nat → Prop} {q mb : Nat} {fv : Value} {L : List Fl} {d : Dk} (h : DiskIs w S q mb fv L d) {x : Fl} (hx : x ∈ L) {b : Nat} (hb : w.cell? ⟨b, 0, none⟩ = some (.pointer (some ⟨q, 0, none⟩))) :
    Calls Tryz.prog 181 #[encStr x.f.name, .pointer (some ⟨b, 0, none⟩)] w fun e w' => e = .returned (.bool (!x.f.there)) ∧ w' = w := by
  obtain ⟨nm, hnm⟩ : ∃ nm : ByteArray, nm = ⟨x.f.name.toArray⟩ := ⟨_, rfl⟩
  have hnmd : nm.data.toList = x.f.name := by rw [hnm]
  have hsz : nm.size ≤ maxLen := by
    have h3 := h.names x.f (by rw [← h.files]; exact List.mem_map_of_mem hx)
    simp only [nameOk, Bool.and_eq_true, decide_eq_true_eq] at h3
    have h4 : nm.size = x.f.name.length := by rw [← hnmd]; exact Array.length_toList.symm
    unfold maxLen
    omega
  have henc : encStr x.f.name = .string nm := by rw [hnm]
  rw [henc]
  have hlk := h.lookup1_some hx hsz hnmd.symm
  have c0 : w.cell? ⟨q, 0, none⟩ = some (.map (some mb)) := cell_of h.head rfl
  obtain ⟨th, hth⟩ : ∃ th, x.f.there = th := ⟨_, rfl⟩
  have c2 : w.cell? ⟨x.blk, 2, none⟩ = some (.bool th) := by rw [← hth]; exact cell_of (h.each x hx).cells rfl
  rw [hth]
  clear h hnm hnmd hsz henc hth
  go_enter Tryz.func181, Tryz.ntmps181
  go_wp2_with fail
  go_ret
  exact ⟨rfl, rfl⟩
end Go.Proofs.YtlgcoaeddeiegaaGreat
/- Disk: Names. -/
namespace Go.Proofs.YtlgcoaeddeiegaaGreat
open Go Go.Maps Go.RowKit
open Go.Proofs (encStr)

def encN (L : List Fl) : List Value := L.map fun x => encStr x.f.name
def AllThere (L : List Fl) : Prop := ∀ x ∈ L, x.f.there = true
theorem AllThere.snoc {L : List Fl} {k : Nat} (h : k < L.length) (ha : AllThere (L.take k)) (hc : L[k].f.there = true) : AllThere (L.take (k + 1)) := by
  intro x hx
  rw [List.take_succ_eq_append_getElem h, List.mem_append, List.mem_singleton] at hx
  rcases hx with hx | rfl
  · exact ha x hx
  · exact hc
set_option maxRecDepth 100000 in
set_option maxHeartbeats 400000 in
theorem indexGone_b {w : World} {S : Nat → Prop} {q mb : Nat} {fv : Value} {L : List Fl} {d : Dk} (h : DiskIs w S q mb fv L d) {b : Nat} (hb : w.cell? ⟨b, 0, none⟩ = some (.pointer (some ⟨q, 0, none⟩)))
    {oa : Option Addr} {n c : Nat} (hn : L.length = n) (hr : rowAt w 9 1 (.slice oa n c) n (encN L)) (hm : n ≤ 1000000000) :
    Calls Tryz.prog 208 #[.slice oa n c, .func (.func 181) #[] #[.pointer (some ⟨b, 0, none⟩)]] w fun e w' => ∃ i : Int, e = .returned (.int .i64 i) ∧ ((i = -1 ∧ AllThere L) ∨ ∃ k : Nat, ∃ h : k < L.length, i = (k : Int) ∧ AllThere (L.take k) ∧ L[k].f.there = false) ∧ w' = w := by
  have H := Lib.hid h
  have HR := Lib.hid hr
  have HB := Lib.hid hb
  clear h hr hb
  go_enter Tryz.func208, Tryz.ntmps208
  go_wp2_with fail
  go_loop [8] (fun i => ∃ k : Nat, k ≤ n ∧ i = .int .i64 k ∧ AllThere (L.take k)) (fun i => n - (intOf i).toNat)
  case atStart => exact ⟨0, Nat.zero_le _, rfl, fun x hx => by simp at hx⟩
  case round =>
    obtain ⟨k, hk, rfl, hge⟩ := hrel
    by_cases hlt : k < n
    · obtain ⟨g, off, rfl⟩ := HR.out.addr (by omega)
      have hkL : k < L.length := by omega
      obtain ⟨x, hx⟩ : ∃ x, L[k] = x := ⟨_, rfl⟩
      have hxm : x ∈ L := by rw [← hx]; exact List.getElem_mem _
      have hcx : w.cell? ⟨g, off + k, none⟩ = some (encStr x.f.name) := HR.out.cell1 (by simp [encN, hkL, hx])
      have HXM := Lib.hid hxm
      obtain ⟨th, hth⟩ : ∃ th, x.f.there = th := ⟨_, rfl⟩
      have HC : Hid (Calls Tryz.prog 181 #[encStr x.f.name, .pointer (some ⟨b, 0, none⟩)] w fun e w' => e = .returned (.bool (!th)) ∧ w' = w) := Lib.hid (by rw [← hth]; exact name1_b H.out hxm HB.out)
      obtain ⟨sv, hsv⟩ : ∃ sv : ByteArray, encStr x.f.name = .string sv := ⟨_, rfl⟩
      rw [hsv] at hcx HC
      cases th
      · have HX : Hid (∃ h : k < L.length, AllThere (L.take k) ∧ L[k].f.there = false) := Lib.hid ⟨hkL, hge, by rw [hx]; exact hth⟩
        clear hge hx hxm hth hsv
        go_wp2_with (go_at_call 181; refine HC.out.mono ?_; rintro e w' ⟨rfl, rfl⟩)
        go_ret
        exact ⟨_, rfl, .inr ⟨k, HX.out.1, rfl, HX.out.2⟩, rfl⟩
      · have HX : Hid (AllThere (L.take (k + 1))) := Lib.hid (AllThere.snoc hkL hge (by rw [hx]; exact hth))
        clear hge hx hxm hth hsv
        go_wp2_with (go_at_call 181; refine HC.out.mono ?_; rintro e w' ⟨rfl, rfl⟩)
        exact ⟨⟨k + 1, by omega, by simp, HX.out⟩, by simp [intOf]; omega⟩
    · obtain rfl : k = n := by omega
      have HA : Hid (AllThere L) := Lib.hid (by rwa [List.take_of_length_le (by omega)] at hge)
      clear hge
      go_wp2_with fail
      go_ret
      exact ⟨_, rfl, .inl ⟨rfl, HA.out⟩, rfl⟩
/-- the row while the names are parted: the first k are those kept of the first m -/
structure Parted (L : List Fl) (m k : Nat) (xs : List Value) : Prop where
  len : xs.length = L.length
  kept : xs.take k = encN ((L.take m).filter (·.f.there))
  k : k = ((L.take m).filter (·.f.there)).length
  rest : ∀ j, m ≤ j → xs[j]? = (encN L)[j]?
theorem Parted.start {L : List Fl} {k : Nat} (hk : k < L.length) (ha : AllThere (L.take k)) (hc : L[k].f.there = false) : Parted L (k + 1) k (encN L) := by
  have e : (L.take (k + 1)).filter (·.f.there) = L.take k := by
    rw [List.take_succ_eq_append_getElem hk, List.filter_append, List.filter_eq_self.2 (fun x hx => ha x hx)]
    simp [hc]
  exact ⟨by simp [encN], by rw [e]; simp [encN, List.map_take], by rw [e, List.length_take]; omega, fun _ _ => rfl⟩
theorem Parted.skip {L : List Fl} {m k : Nat} {xs : List Value} (h : Parted L m k xs) (hm : m < L.length) (hc : L[m].f.there = false) : Parted L (m + 1) k xs := by
  have e : (L.take (m + 1)).filter (·.f.there) = (L.take m).filter (·.f.there) := by
    rw [List.take_succ_eq_append_getElem hm, List.filter_append]
    simp [hc]
  exact ⟨h.len, by rw [e]; exact h.kept, by rw [e]; exact h.k, fun j hj => h.rest j (by omega)⟩
theorem Parted.lt {L : List Fl} {m k : Nat} {xs : List Value} (h : Parted L m k xs) : k ≤ m := by
  have h1 := h.k
  have h2 := List.length_filter_le (fun x : Fl => x.f.there) (L.take m)
  rw [List.length_take] at h2
  omega
theorem Parted.keep {L : List Fl} {m k : Nat} {xs : List Value} (h : Parted L m k xs) (hm : m < L.length) (hc : L[m].f.there = true) : Parted L (m + 1) (k + 1) (xs.set k (encStr L[m].f.name)) := by
  have e : (L.take (m + 1)).filter (·.f.there) = (L.take m).filter (·.f.there) ++ [L[m]] := by
    rw [List.take_succ_eq_append_getElem hm, List.filter_append]
    simp [hc]
  have hkm := h.lt
  have hkx : k < xs.length := by rw [h.len]; omega
  refine ⟨by simp [h.len], ?_, by rw [e, List.length_append, ← h.k]; rfl, fun j hj => ?_⟩
  · rw [e, List.take_succ_eq_append_getElem (by simpa using hkx)]
    simp only [List.getElem_set_self, List.take_set_of_le (Nat.le_refl k)]
    rw [h.kept]
    simp [encN]
  · rw [List.getElem?_set_ne (by omega)]
    exact h.rest j (by omega)
theorem take_run {oa : Option Addr} {n c : Nat} (i : Nat) (hi : i ≤ c) (h0 : oa.map (fun x => x.add 0) = oa) (W : World) : (Instr.slice 43 (.slice oa n c) none (some (.int .i64 (i : Int))) none).run Tryz.prog W = .ok (.slice oa i c) W := by
  have hs : (sizeOf 9).run Tryz.prog W = .ok 1 W := by kernel_rfl
  have he : Tryz.prog.elem 43 = 9 := by kernel_rfl
  rw [run_slice_h (P := Tryz.prog) (w := W) 43 oa n c (by rw [he]; exact Tryz.underlying43) .i64 i (by omega) (by omega), he, hs]
  simp [Result.andThen, sliced, h0]
theorem drop_run (g off n c i : Nat) (hi : i ≤ n) (W : World) : (Instr.slice 43 (.slice (some ⟨g, off, none⟩) n c) (some (.int .i64 (i : Int))) none none).run Tryz.prog W = .ok (.slice (if c = i then some ⟨g, off, none⟩ else some ⟨g, off + i, none⟩) (n - i) (c - i)) W := by
  have hs : (sizeOf 9).run Tryz.prog W = .ok 1 W := by kernel_rfl
  have he : Tryz.prog.elem 43 = 9 := by kernel_rfl
  rw [run_slice_l (P := Tryz.prog) (w := W) 43 (some ⟨g, off, none⟩) n c (by rw [he]; exact Tryz.underlying43) .i64 i (by omega) (by omega), he, hs]
  simp [Result.andThen, sliced, Go.WideShapes.add_plain]
end Go.Proofs.YtlgcoaeddeiegaaGreat
/- Disk: Names, the walk. -/
namespace Go.Proofs.YtlgcoaeddeiegaaGreat
open Go Go.Maps Go.RowKit
open Go.Proofs (encStr)

theorem encN_take_filter {L : List Fl} {m k : Nat} {xs : List Value} (h : Parted L m k xs) (hm : L.length ≤ m) : xs.take k = encN (L.filter (·.f.there)) ∧ k = (L.filter (·.f.there)).length := by
  have h1 := h.kept
  have h2 := h.k
  rw [List.take_of_length_le hm] at h1 h2
  exact ⟨h1, h2⟩
set_option maxRecDepth 100000 in
set_option maxHeartbeats 1000000 in
theorem deleteGone_b {w : World} {S : Nat → Prop} {q mb : Nat} {fv : Value} {L : List Fl} {d : Dk} (h : DiskIs w S q mb fv L d) {b : Nat} (hb : w.cell? ⟨b, 0, none⟩ = some (.pointer (some ⟨q, 0, none⟩)))
    {v : Value} {n : Nat} (hn : L.length = n) (hr : rowAt w 9 1 v n (encN L)) (hm : n ≤ 1000000000) (hv : ∀ k, v.ownBlock = some k → ¬ S k ∧ k ≠ b) :
    Calls Tryz.prog 180 #[v, .func (.func 181) #[] #[.pointer (some ⟨b, 0, none⟩)]] w fun e w' => ∃ v', e = .returned v' ∧ rowAt w' 9 1 v' (L.filter (·.f.there)).length (encN (L.filter (·.f.there))) ∧ v'.ownBlock = v.ownBlock ∧ w.grownBy w' v.ownBlock := by
  obtain ⟨oa, c, rfl, hnc⟩ := hr.shape
  have H := Lib.hid h
  have HR := Lib.hid hr
  have HB := Lib.hid hb
  have HV := Lib.hid hv
  have HN := Lib.hid hn
  have hbl : b < w.heap.size := World.block_lt_of_cell? w _ hb
  have hm0 := hr.map0.1
  clear h hr hb hv hn
  go_enter Tryz.func180, Tryz.ntmps180
  go_wp2_with fail
  refine (indexGone_b H.out HB.out HN.out HR.out hm).mono ?_
  rintro e w' ⟨i, rfl, hi, rfl⟩
  rcases hi with ⟨rfl, ha⟩ | ⟨k, hk, rfl, ha, hc⟩
  · have e : L.filter (·.f.there) = L := List.filter_eq_self.2 ha
    have HE := Lib.hid e
    clear ha e
    go_wp2_with fail
    go_ret
    exact ⟨_, rfl, by rw [HE.out, HN.out]; exact HR.out, rfl, World.grownBy.refl _ _⟩
  · have hkn : k < n := by rw [← HN.out]; exact hk
    obtain ⟨g, off, rfl⟩ := HR.out.addr (by omega)
    have hgS := HV.out g rfl
    have hgl : g < w'.heap.size := HR.out.lt g rfl
    have HP := Lib.hid (Parted.start hk ha hc)
    have hk1 : ¬ ((k : Int) = -1) := by omega
    have hk2 : (((k : Nat) : Int) == -1) = false := by simp
    clear ha hc hk
    go_wp2_with fail
    go_loopw [5, 6] (fun i j wr => ∃ (m k : Nat) (xs : List Value), i = .int .i64 k ∧ j = .int .i64 m ∧ m ≤ n ∧ k < m ∧ Hid (Parted L m k xs) ∧ Hid (rowAt wr 9 1 (.slice (some ⟨g, off, none⟩) n c) n xs) ∧ Hid (Only (fun x => x = g) w' wr))
      (fun i j wr => n - (intOf j).toNat)
    case atStart => exact ⟨k + 1, k, _, rfl, by simp, by omega, by omega, HP, HR, Lib.hid (Only.refl _ _)⟩
    case round =>
      obtain ⟨m, k', xs, rfl, rfl, hmn, hkm, HPA, HRO, HO⟩ := hrel
      by_cases hlt : m < n
      · have hmL : m < L.length := by rw [HN.out]; exact hlt
        obtain ⟨x, hx⟩ : ∃ x, L[m] = x := ⟨_, rfl⟩
        have hxm : x ∈ L := by rw [← hx]; exact List.getElem_mem _
        have hcx : wr.cell? ⟨g, off + m, none⟩ = some (encStr x.f.name) := HRO.out.cell1 (by rw [HPA.out.rest m (Nat.le_refl _)]; simp [encN, hmL, hx])
        have hkx : k' < xs.length := by rw [HPA.out.len]; omega
        have hck : wr.cell? ⟨g, off + k', none⟩ = some (xs[k']) := HRO.out.cell1 (by simp [hkx])
        have hfk : wr.frozen? ⟨g, off + k', none⟩ = false := HRO.out.free (by omega)
        obtain ⟨th, hth⟩ : ∃ th, x.f.there = th := ⟨_, rfl⟩
        have hdw := H.out.only HO.out (fun j hj he => hgS.1 (he ▸ hj))
        have hbw : wr.cell? ⟨b, 0, none⟩ = some (.pointer (some ⟨q, 0, none⟩)) := by rw [← HB.out]; exact cell_kept_at (HO.out.block b hbl (fun he => hgS.2 he.symm))
        have HC : Hid (Calls Tryz.prog 181 #[encStr x.f.name, .pointer (some ⟨b, 0, none⟩)] wr fun e w' => e = .returned (.bool (!th)) ∧ w' = wr) := Lib.hid (by rw [← hth]; exact name1_b hdw hxm hbw)
        have HXE : Hid (L[m].f.there = th ∧ encStr L[m].f.name = encStr x.f.name) := Lib.hid ⟨by rw [hx]; exact hth, by rw [hx]⟩
        obtain ⟨sv, hsv⟩ : ∃ sv : ByteArray, encStr x.f.name = .string sv := ⟨_, rfl⟩
        rw [hsv] at hcx HC HXE
        clear hx hxm hth hdw hbw hsv
        cases th
        · have HPN := Lib.hid (HPA.out.skip hmL HXE.out.1)
          go_wp2_with (go_at_call 181; refine HC.out.mono ?_; rintro e w' ⟨rfl, rfl⟩)
          exact ⟨⟨m + 1, k', xs, rfl, by simp, by omega, by omega, HPN, HRO, HO⟩, by simp [intOf]; omega⟩
        · have HPN := Lib.hid (HPA.out.keep hmL HXE.out.1)
          have HRN : Hid (rowAt (wr.setCell ⟨g, off + k', none⟩ (.string sv)) 9 1 (.slice (some ⟨g, off, none⟩) n c) n (xs.set k' (encStr L[m].f.name))) := Lib.hid (by rw [HXE.out.2]; exact HRO.out.set _)
          have HON : Hid (Only (fun x => x = g) w' (wr.setCell ⟨g, off + k', none⟩ (.string sv))) := Lib.hid (HO.out.trans (only_setCell (fun x => x = g) _ _ _ _ rfl) (fun _ _ h => h))
          go_wp2_with (go_at_call 181; refine HC.out.mono ?_; rintro e w' ⟨rfl, rfl⟩)
          exact ⟨⟨m + 1, k' + 1, _, by simp, by simp, by omega, by omega, HPN, HRN, HON⟩, by simp [intOf]; omega⟩
      · obtain rfl : m = n := by omega
        obtain ⟨w9, hclr, hr9, hg9⟩ := run_clear_at HRO.out (i := k') (by omega)
        obtain ⟨hx1, hx2⟩ := encN_take_filter HPA.out (by rw [HN.out]; exact Nat.le_refl _)
        have hdrop := fun W => drop_run g off m c k' (by omega) W
        rw [if_neg (show ¬ c = k' by omega)] at hclr
        simp only [if_neg (show ¬ c = k' by omega)] at hdrop
        have htake := fun W => take_run (oa := some ⟨g, off, none⟩) (n := m) (c := c) k' (by omega) rfl W
        have HX : Hid (rowAt w9 9 1 (.slice (some ⟨g, off, none⟩) k' c) k' (encN (L.filter (·.f.there))) ∧ k' = (L.filter (·.f.there)).length) := Lib.hid ⟨by rw [← hx1]; exact hr9, hx2⟩
        have HG9 : Hid (w'.grownBy w9 (some g)) := Lib.hid ((Only.grown HO.out (fun k _ hk => by rw [hk])).andThen hg9 (fun j hj => by cases hj; exact Or.inr rfl))
        clear hx1 hx2 hr9 hg9
        go_wp2_with fail
        go_ret
        exact ⟨_, rfl, by rw [← HX.out.2]; exact HX.out.1, rfl, HG9.out⟩
end Go.Proofs.YtlgcoaeddeiegaaGreat
/- Disk: Names. -/
namespace Go.Proofs.YtlgcoaeddeiegaaGreat
open Go Go.Maps Go.RowKit
open Go.Proofs (encStr)

/-- the names of the files that are there -/
def Dk.names (d : Dk) : List (List UInt8) := (d.files.filter (·.there)).map (·.name)
theorem encN_names {L : List Fl} {d : Dk} (h : L.map (·.f) = d.files) : encN (L.filter (·.f.there)) = d.names.map encStr ∧ (L.filter (·.f.there)).length = d.names.length := by
  have e : d.names = (L.filter (·.f.there)).map (·.f.name) := by
    unfold Dk.names
    rw [← h, List.filter_map, List.map_map]
    rfl
  rw [e]
  exact ⟨by simp [encN, List.map_map, Function.comp_def], by simp⟩
set_option maxRecDepth 100000 in
set_option maxHeartbeats 1000000 in
theorem Names_b {w : World} {S : Nat → Prop} {q : Nat} {d : Dk} (h : DiskAt w S q d) :
    Calls Tryz.prog 130 #[.pointer (some ⟨q, 0, none⟩)] w fun e w' => ∃ v, e = .returned v ∧ rowAt w' 9 1 v d.names.length (d.names.map encStr) ∧ (∀ k, v.ownBlock = some k → w.heap.size ≤ k) ∧ Below w.heap.size w w' := by
  obtain ⟨mb, fv, L, h⟩ := h
  obtain ⟨hE1, hE2⟩ := encN_names h.files
  have HE := Lib.hid (And.intro hE1 hE2)
  have hlen : L.length ≤ 4096 := by
    have h1 := h.few
    rw [← h.files, List.length_map] at h1
    exact h1
  have HLN := Lib.hid hlen
  clear hE1 hE2 hlen
  go_enter Tryz.func130, Tryz.ntmps130
  go_upto_region 1 with fail
  obtain ⟨w1, hw1⟩ : ∃ w1 : World, w1 = w.alloc (.cells #[.pointer (some ⟨q, 0, none⟩)] 27) := ⟨_, rfl⟩
  obtain ⟨b, hb⟩ : ∃ b, b = w.heap.size := ⟨_, rfl⟩
  have hc1 : w1.heap[b]? = some (.cells #[.pointer (some ⟨q, 0, none⟩)] 27 (0, 0)) := by rw [hw1, hb]; exact alloc_cells _ _ _
  have hb1 : Below w.heap.size w w1 := by rw [hw1]; exact (Below.refl _ _).alloc (Nat.le_refl _) _
  rw [← hb, ← hw1]
  have HB1 := Lib.hid hb1
  have H1 := Lib.hid (h.below hb1)
  have HBB := Lib.hid hb
  clear hw1 hb hb1 h
  have c0 : w1.cell? ⟨b, 0, none⟩ = some (.pointer (some ⟨q, 0, none⟩)) := cell_of hc1 rfl
  have HC1 := Lib.hid hc1
  clear hc1
  go_wp2_with fail
  refine (names_b H1.out).mono ?_
  rintro e w2 ⟨v, rfl, hrow, hnil, hb2⟩
  have hr2 := rowAt.of_row (hasRow.of_own hrow)
  have hlow := (hasRow.of_own hrow).lt
  have hbl : b < w1.heap.size := (Array.getElem?_eq_some_iff.1 HC1.out).1
  have hc2 : w2.cell? ⟨b, 0, none⟩ = some (.pointer (some ⟨q, 0, none⟩)) := cell_of ((hb2.block b hbl).trans HC1.out) rfl
  have HD : Hid (Calls Tryz.prog 180 #[v, .func (.func 181) #[] #[.pointer (some ⟨b, 0, none⟩)]] w2 fun e w' => ∃ v', e = .returned v' ∧ rowAt w' 9 1 v' (L.filter (·.f.there)).length (encN (L.filter (·.f.there))) ∧ v'.ownBlock = v.ownBlock ∧ w2.grownBy w' v.ownBlock) := Lib.hid
    (deleteGone_b (H1.out.below hb2) hc2 rfl hr2 (by have := HLN.out; omega) (fun k hk => ⟨fun hs => by
      have h1 := H1.out.low k hs
      have h2 := (hlow k hk).1
      omega, fun e => by have h2 := (hlow k hk).1; omega⟩))
  have HB2 : Hid (Below w.heap.size w w2 ∧ w1.heap.size ≤ w2.heap.size) := Lib.hid ⟨HB1.out.trans (hb2.mono HB1.out.size), hb2.size⟩
  have HLOW := Lib.hid hlow
  clear hrow hnil hb2 hr2 hlow hc2 c0 hbl
  go_wp2_with fail
  refine HD.out.mono ?_
  rintro e w3 ⟨v', rfl, hr3, hv3, hg3⟩
  have hb3 : Below w.heap.size w w3 := HB2.out.1.grown hg3 HB2.out.1.size (fun k hk => by
    have h1 := (HLOW.out k hk).1
    have h2 := HB1.out.size
    omega)
  have HR : Hid (rowAt w3 9 1 v' d.names.length (d.names.map encStr)) := Lib.hid (by rw [← HE.out.1, ← HE.out.2]; exact hr3)
  have HV : Hid (∀ k, v'.ownBlock = some k → w.heap.size ≤ k) := Lib.hid (fun k hk => by
    rw [hv3] at hk
    have h1 := (HLOW.out k hk).1
    have h2 := HB1.out.size
    omega)
  have HB3 := Lib.hid hb3
  clear hr3 hv3 hg3 hb3
  go_wp2_with fail
  go_ret
  exact ⟨_, rfl, HR.out, HV.out, HB3.out⟩
end Go.Proofs.YtlgcoaeddeiegaaGreat
/- slices.Values at elements of one cell: the iterator tells a row, in order. -/
namespace Go.Proofs.YtlgcoaeddeiegaaGreat
open Go Go.RowKit Go.Shelf
attribute [local go_sem] Oper.semAt_some

/-- a boxed slice at vb, with its elements -/
def ValsAt (w : World) (T e : TypeId) (vb : Nat) (xs : List Value) : Prop := ∃ v, w.heap[vb]? = some (.cells #[v] T (0, 0)) ∧ rowAt w e 1 v xs.length xs
theorem ValsAt.later {w w' : World} {T e : TypeId} {vb : Nat} {xs : List Value} (h : ValsAt w T e vb xs) (hb : Below w.heap.size w w') : ValsAt w' T e vb xs := by
  obtain ⟨v, h1, h2⟩ := h
  exact ⟨v, (hb.block vb (Array.getElem?_eq_some_iff.1 h1).1).trans h1, h2.kept (fun k hk => hb.block k (h2.lt k hk))⟩
def encOne (x : Value) : Array Value := #[x]
set_option maxHeartbeats 400000 in
theorem valuesStrs_b (w : World) (oa : Option Addr) (n c : Nat) : Calls Tryz.prog 132 #[.slice oa n c] w fun e w' => e = .returned (.func (.func 184) #[] #[.pointer (some ⟨w.heap.size, 0, none⟩)]) ∧ w' = w.alloc (.cells #[.slice oa n c] 43) := by
  go_enter Tryz.func132, Tryz.ntmps132
  go_wp2_with fail
  go_ret
  exact ⟨rfl, rfl⟩
theorem valuesStrs_at {w : World} {v : Value} {xs : List Value} (h : rowAt w 9 1 v xs.length xs) : ValsAt (w.alloc (.cells #[v] 43)) 43 9 w.heap.size xs :=
  ⟨v, alloc_cells _ _ _, h.kept (fun k hk => Below.heap_alloc _ _ k (h.lt k hk))⟩
set_option maxRecDepth 100000 in
set_option maxHeartbeats 1000000 in
theorem valsStrs_in (n : Nat) (hn : 1 ≤ n) (l vb : Nat) (w : World) (xs : List Value) (hsq : ValsAt w 43 9 vb xs) (hfs : xs.length ≤ 1000000000) (J Jx : Nat → World → Prop) (W : World) (hW : Below w.heap.size w W)
    (hJ : ∀ j A B, J j A → Below A.heap.size A B → J j B)
    (hY : ∀ j (hj : j < xs.length) W1, J j W1 → YieldAt Fence.wide (n - 1) Tryz.prog l #[xs[j]] W1 fun e W' =>
      (e = .returned (.bool true) ∧ J (j + 1) W' ∧ Below w.heap.size W1 W') ∨ (e = .returned (.bool false) ∧ Jx (j + 1) W')) (h0 : J 0 W) :
    CallsIn Fence.wide n Tryz.prog 184 #[.func (.yield l) #[] #[], .pointer (some ⟨vb, 0, none⟩)] W fun e W' => (∃ v, e = .returned v) ∧ (J xs.length W' ∨ ∃ j, j ≤ xs.length ∧ Jx j W') := by
  obtain ⟨v, hv, hrow⟩ := hsq
  obtain ⟨oa, c, rfl, hnc⟩ := hrow.shape
  obtain ⟨N, hN⟩ : ∃ N, xs.length = N := ⟨_, rfl⟩
  rw [hN] at hv hrow hnc hfs
  have cv : W.cell? ⟨vb, 0, none⟩ = some (.slice oa N c) := cell_of ((hW.block vb (Array.getElem?_eq_some_iff.1 hv).1).trans hv) rfl
  have HR := Lib.hid hrow
  have HN := Lib.hid hN
  have HY := Lib.hid hY
  have HJ := Lib.hid hJ
  have HW := Lib.hid hW
  clear hv hrow hN hY hJ hW
  refine callsIn_of_wp Tryz.func184 rfl trivial ?_ rfl
  simp only [Tryz.ntmps184, List.size_toArray, List.length_cons, List.length_nil, Nat.reduceAdd, Nat.reduceSub, Array.replicate_succ, Array.replicate_zero, List.push_toArray, List.append_toArray, List.nil_append, List.cons_append]
  gi_wp2
  gi_loopw [7] (fun i wr => ∃ j : Nat, j ≤ N ∧ i = .int .i64 j ∧ J j wr ∧ Below w.heap.size w wr ∧ W.heap.size ≤ wr.heap.size) (fun i wr => N - (intOf i).toNat)
  case atStart => exact ⟨0, Nat.zero_le _, rfl, h0, HW.out, Nat.le_refl _⟩
  case round =>
    obtain ⟨j, hj, rfl, hJs, hbw, hWr⟩ := hrel
    by_cases hlt : j < N
    · have hjf : j < xs.length := by rw [HN.out]; exact hlt
      have hrw := HR.out.kept (fun k hk => hbw.block k (HR.out.lt k hk))
      obtain ⟨g, off, rfl⟩ := hrw.addr (by omega)
      obtain ⟨x, hx⟩ : ∃ x, xs[j] = x := ⟨_, rfl⟩
      have k0 : wr.cell? ⟨g, off + j, none⟩ = some x := by
        have := hrw.cells (g := g) (off := off) rfl j x (by rw [← hx]; exact List.getElem?_eq_getElem hjf)
        simpa [Go.WideShapes.add_plain] using this
      obtain ⟨fn, tmps, assign, body, hy, hR⟩ := HY.out j hjf wr hJs
      rw [hx] at hy
      have HRD := Lib.hid hR
      have HB2 : Hid (Below w.heap.size w wr ∧ W.heap.size ≤ wr.heap.size) := Lib.hid ⟨hbw, hWr⟩
      clear hrw hx hJs hbw hR
      gi_wp2
      refine HRD.out.mono ?_
      rintro e W3 (⟨rfl, hJ3, hk3⟩ | ⟨rfl, hJx3⟩)
      · have HJ3 : Hid (J (j + 1) W3) := Lib.hid hJ3
        have HB3 : Hid (Below w.heap.size w W3 ∧ W.heap.size ≤ W3.heap.size) := Lib.hid ⟨HB2.out.1.trans hk3, Nat.le_trans HB2.out.2 hk3.size⟩
        clear hJ3 hk3
        gi_wp2
        exact ⟨⟨j + 1, by omega, by simp, HJ3.out, HB3.out.1, HB3.out.2⟩, by simp [intOf]; omega⟩
      · have HX3 : Hid (Jx (j + 1) W3) := Lib.hid hJx3
        clear hJx3
        gi_wp2
        refine bodyPost_ret (results_none rfl _ _ _) rfl ?_
        exact ⟨⟨_, rfl⟩, .inr ⟨j + 1, by rw [HN.out]; omega, HX3.out⟩⟩
    · obtain rfl : j = N := by omega
      have HE : Hid (J xs.length wr) := Lib.hid (by rw [HN.out]; exact hJs)
      clear hJs
      gi_wp2
      go_end0
      exact ⟨⟨_, rfl⟩, .inl HE.out⟩
/-- **going over a row: the next one is the next element** -/
theorem valsStrs_told (n : Nat) (hn : 1 ≤ n) (vb : Nat) (w : World) (xs : List Value) (hsq : ValsAt w 43 9 vb xs) (hfs : xs.length ≤ 1000000000) :
    SeqTold Fence.wide n Tryz.prog 184 #[.pointer (some ⟨vb, 0, none⟩)] encOne (fun _ _ pre x _ => xs[pre.length]? = some x ∧ pre = xs.take pre.length) (fun ys => ys = xs) (fun pre => pre.length ≤ xs.length) xs.length w := fun l J Jx W hW hs hJ hJx hY => by
  refine (valsStrs_in n hn l vb w xs hsq hfs (fun j V => J (fun _ => False) (xs.take j) V ∧ W.heap.size ≤ V.heap.size) (fun j V => Jx (fun _ => False) (xs.take j) V ∧ j ≤ xs.length) W hW (fun j A B h hb => ⟨hJ _ _ A B h.1 (Only.of_below hb (Nat.le_refl _) _), Nat.le_trans h.2 hb.size⟩) (fun j hj W1 h1 => ?_) ⟨by
    have := hs (fun _ => False) W (Below.refl _ _) (fun _ hf => hf.elim)
    rwa [List.take_zero], Nat.le_refl _⟩).mono ?_
  · have htl : (xs.take j).length = j := by rw [List.length_take]; omega
    have ht1 : xs.take j ++ [xs[j]] = xs.take (j + 1) := (List.take_succ_eq_append_getElem hj).symm
    refine (hY (fun _ => False) (xs.take j) xs[j] W1 W1 (fun _ hf => hf.elim) h1.1 (Only.refl _ _) h1.2 ⟨by rw [htl]; exact List.getElem?_eq_getElem hj, by rw [htl]⟩ (by rw [htl]; exact hj)).mono (fun e W' hr => ?_)
    rcases hr with ⟨h3, h4, h5⟩ | ⟨h3, h4, h5⟩
    · exact .inl ⟨h3, ⟨by rw [ht1] at h4; exact h4, Nat.le_trans h1.2 h5.size⟩, h5.below (fun i hi hc => by have := hc.1; omega) (Nat.le_trans hW.size h1.2)⟩
    · exact .inr ⟨h3, by rw [ht1] at h4; exact h4, hj⟩
  · rintro e W' ⟨he, h⟩
    refine ⟨he, ?_⟩
    rcases h with h | ⟨j, hj, h⟩
    · exact .inl ⟨fun _ => False, xs, rfl, by have := h.1; rwa [List.take_length] at this⟩
    · exact .inr ⟨fun _ => False, xs.take j, by show (xs.take j).length ≤ xs.length; rw [List.length_take]; omega, h.1⟩
end Go.Proofs.YtlgcoaeddeiegaaGreat
/- Rows of strings: one is appended. -/
namespace Go.Proofs.YtlgcoaeddeiegaaGreat
open Go Go.RowKit

theorem info_strR : (Tryz.prog.info? 9).map (fun i => (i.zero, i.size, i.bytes)) = some (some (.string ⟨#[]⟩), 1, 16) := by kernel_rfl
theorem str_row (w : World) (a : Value) : rowAt (w.alloc (.cells #[a] 9)) 9 1 (.slice (some ⟨w.heap.size, 0, none⟩) 1 1) 1 [a] :=
  ⟨rfl, .inr ⟨_, 0, 1, _, _, rfl, alloc_cells _ _ _, Nat.le_refl _, by unfold maxLen; omega, by simp, freeRow_zero _, rfl⟩⟩
theorem wpList_append_str {w2 : World} {ops : Array Oper} {rest : List Oper} {o : Oper} {a : Act} {Q : Exit → Act → World → Prop} (hgd : o.guard = none) (s x : Operand)
    (ho : o.op = .call { callee := .builtin .append, args := #[s, x], argTypes := #[43, 43] })
    {oa : Option Addr} {m c : Nat} {xs : List Value} {nm : ByteArray} (h : rowAt w2 9 1 (.slice oa m c) m xs) (hm : m ≤ 1000000)
    (hs : a.eval s = .slice oa m c) (hx : a.eval x = .slice (some ⟨w2.heap.size, 0, none⟩) 1 1)
    (hK : ∀ oa3 c3 w3, Hid (rowAt w3 9 1 (.slice oa3 (m + 1) c3) (m + 1) (xs ++ [.string nm])) → Hid ((w2.alloc (.cells #[.string nm] 9)).grownBy w3 (Value.slice oa m c).ownBlock) →
      Hid ((Value.slice oa3 (m + 1) c3).ownBlock = (Value.slice oa m c).ownBlock ∨ (Value.slice oa3 (m + 1) c3).ownBlock = some (w2.heap.size + 1)) → wpList Tryz.prog ops Q rest (a.put o.dst (.slice oa3 (m + 1) c3)) w3) :
    wpList Tryz.prog ops Q (o :: rest) a (w2.alloc (.cells #[.string nm] 9)) := by
  refine wpList_append_at _ hgd s x 43 43 ho 9 (.string ⟨#[]⟩) 1 16 Tryz.underlying43 info_strR rfl _ m xs hs (h.kept (fun k hk => Below.heap_alloc _ _ k (h.lt k hk))) _ 1 _ hx (Src.of_row Tryz.underlying43 (str_row w2 (.string nm)) (fun v hv => by rw [List.mem_singleton] at hv; subst hv; rfl)) (by unfold maxLen; omega) (by omega) ?_
  intro v' w3 hr hg hown _
  obtain ⟨oa3, c3, rfl, _⟩ := hr.shape
  exact hK oa3 c3 w3 (Lib.hid hr) (Lib.hid hg) (Lib.hid (by simpa using hown))
end Go.Proofs.YtlgcoaeddeiegaaGreat
/- slices.AppendSeq, Collect, Sorted at strings, of a row that is told. -/
namespace Go.Proofs.YtlgcoaeddeiegaaGreat
open Go Go.Maps Go.RowKit Go.Shelf Go.Sort
open Go.Proofs (encStr)
attribute [local go_sem] Oper.semAt_some

/-- what stands at a round's head: the box holds what came, in a block that is new -/
structure CollI (w4 W : World) (b : Nat) (T : Nat → Prop) (xs : List Value) : Prop where
  below : Below w4.heap.size w4 W
  box : ∃ oa c, W.heap[b]? = some (.cells #[.slice oa xs.length c] 43 (0, 0)) ∧ rowAt W 9 1 (.slice oa xs.length c) xs.length xs ∧ (∀ k, (Value.slice oa xs.length c).ownBlock = some k → b + 3 ≤ k ∧ ¬ T k)
  low : ∀ k, T k → b + 3 ≤ k
  at' : b = w4.heap.size
theorem CollI.kept {w4 A B : World} {b : Nat} {T X : Nat → Prop} {xs : List Value} (h : CollI w4 A b T xs) (ho : Only X A B) (hX : ∀ k, X k → T k ∨ k = b + 1 ∨ k = b + 2) : CollI w4 B b T xs := by
  obtain ⟨oa, c, h1, h2, h3⟩ := h.box
  refine ⟨h.below.trans (ho.below (fun i hi e => ?_) h.below.size), ⟨oa, c, (ho.block _ (Array.getElem?_eq_some_iff.1 h1).1 (fun e => ?_)).trans h1, h2.kept (fun k hk => ho.block k (h2.lt k hk) (fun e => ?_)), h3⟩, h.low, h.at'⟩
  · have := h.at'
    rcases hX i e with e | e | e
    · have := h.low i e; omega
    · omega
    · omega
  · rcases hX _ e with e | e | e
    · have := h.low _ e; omega
    · omega
    · omega
  · have := h3 k hk
    rcases hX k e with e | e | e
    · exact this.2 e
    · omega
    · omega
set_option maxRecDepth 100000 in
set_option maxHeartbeats 8000000 in
theorem appendSeq_b {w : World} {gf : Nat} {lb : Array Value} {l : List Value} {w0 : World} (hFg : Fence.wide.fn gf) (eg : ∀ args w, (callFunc gf args).run Tryz.prog w = .ok (.enter gf args) w) (hs : ∀ v ∈ l, ∃ s : ByteArray, v = .string s) (hl : l.length ≤ 1000000)
    (hst : SeqTold Fence.wide 7 Tryz.prog gf lb encOne (fun _ _ pre x _ => l[pre.length]? = some x ∧ pre = l.take pre.length) (fun ys => ys = l) (fun pre => pre.length ≤ l.length) l.length w0) (hb0 : Below w0.heap.size w0 w) :
    Calls Tryz.prog 209 #[.slice none 0 0, .func (.func gf) #[] lb] w fun e w' => ∃ v, e = .returned v ∧ rowAt w' 9 1 v l.length l ∧ (∀ k, v.ownBlock = some k → w.heap.size ≤ k) ∧ Below w.heap.size w w' := by
  obtain ⟨w1, hw1⟩ : ∃ V : World, V = w.alloc (.cells #[.slice none 0 0] 43) := ⟨_, rfl⟩
  obtain ⟨b2, hb2⟩ : ∃ b, b = w.heap.size := ⟨_, rfl⟩
  have hbl : Below w.heap.size w w1 := by rw [hw1]; exact (Below.refl _ _).alloc (Nat.le_refl _) _
  have h2 : w1.heap[b2]? = some (.cells #[.slice none 0 0] 43 (0, 0)) := by rw [hw1, hb2]; exact alloc_cells _ _ _
  have hs1 : w1.heap.size = b2 + 1 := by rw [hw1, hb2]; simp
  have H := Lib.hid (And.intro hbl (And.intro h2 (And.intro hs1 (And.intro hb2 (And.intro hs (And.intro hl hb0))))))
  clear hs hbl h2 hs1
  refine (callsIn_wide (n := 8)).1 ?_
  refine callsIn_of_wp_marks Tryz.func209 rfl trivial ?_ rfl
  simp only [Tryz.ntmps209, List.size_toArray, List.length_cons, List.length_nil, Nat.reduceAdd, Nat.reduceSub, Array.replicate_succ, Array.replicate_zero, List.push_toArray, List.append_toArray, List.nil_append, List.cons_append]
  gi_upto_region 1 with fail
  rw [← hw1, ← hb2]
  clear hw1 hb2
  gi_wp2_with fail
  refine wpIn_rangeFunc_told (n := 8) (α := Value) rfl (by omega) (gf := gf) (lb := lb) rfl hFg eg hst (hb0.trans (H.out.1.mono hb0.size)) (fun _ => rfl)
    (fun T pre V => CollI w V b2 T pre) (fun _ _ _ _ => False) ?I ?Ix ?h0 ?round ?done ?stop
  case I =>
    rintro T pre A B hi ho
    rw [H.out.2.2.1] at ho
    exact hi.kept ho (fun k hk => hk)
  case Ix =>
    rintro c T pre A B hf ho
    exact hf
  case h0 =>
    intro T W1 hb hsz hT
    rw [H.out.2.2.1] at hT
    exact ⟨H.out.1.trans (hb.mono H.out.1.size), ⟨none, 0, (hb.block b2 (Array.getElem?_eq_some_iff.1 H.out.2.1).1).trans H.out.2.1, ⟨rfl, .inl ⟨rfl, rfl⟩⟩, fun k hk => by simp [Value.ownBlock] at hk⟩, fun k hk => by have := (hT k hk).1; omega, H.out.2.2.2.1⟩
  case stop =>
    rintro T c0 pre V hS hf hD
    exact hf.elim
  case done =>
    rintro T xs V hS hi hD
    have hS' : xs = l := hS
    subst hS'
    obtain ⟨oa, c, h1, h2, h3⟩ := hi.box
    rw [H.out.2.2.1] at hD ⊢
    have k2 : V.cell? ⟨b2, 0, none⟩ = some (.slice oa xs.length c) := cell_of h1 rfl
    have HI := Lib.hid (And.intro hi (And.intro h1 (And.intro h2 (And.intro h3 hD))))
    obtain ⟨n, hn⟩ : ∃ n, n = xs.length := ⟨_, rfl⟩
    rw [← hn] at k2
    have HN := Lib.hid hn
    clear hS hi h1 h2 h3 hD hst hn
    gi_wp2_with fail
    have hm := HI.out.2.2.2.2
    have hg := grownBy_putObj' V (b2 + 1) (.deferred none)
    refine ⟨by simp, .inl ⟨_, _, rfl, run_takeDeferred hm, ?_⟩⟩
    refine ⟨.slice oa n c, by simp [results, Tryz.results209, go_sem], ?_⟩
    rw [HN.out]
    refine ⟨_, rfl, HI.out.2.2.1.kept (fun k hk => hg.block k (HI.out.2.2.1.lt k hk) (fun e => by
      simp only [Option.some.injEq] at e
      have := (HI.out.2.2.2.1 k hk).1; omega)), fun k hk => by have := (HI.out.2.2.2.1 k hk).1; have := H.out.2.2.2.1; omega, HI.out.1.below.grown hg HI.out.1.below.size (fun k e => by
      simp only [Option.some.injEq] at e
      have := H.out.2.2.2.1; omega)⟩
  case round =>
    rintro T pre x Wp V hT hrec hdef hip hop hszp hgv hlt K hK
    rw [H.out.2.2.1] at hT hrec hdef hK hszp
    obtain ⟨hgx, -⟩ := hgv
    obtain ⟨nm, rfl⟩ := H.out.2.2.2.2.1 x (List.mem_of_getElem? hgx)
    rw [show encOne (Value.string nm) = #[.string nm] from rfl]
    obtain ⟨n, hn⟩ : ∃ n, pre.length = n := ⟨_, rfl⟩
    have hVl : b2 + 2 < V.heap.size := by
      obtain ⟨r, hr⟩ := hrec
      exact (Array.getElem?_eq_some_iff.1 hr).1
    have HK := Lib.hid hK
    have HI := Lib.hid (And.intro hip (And.intro hop (And.intro hn hVl)))
    have HT := Lib.hid (fun k hk => (hT k hk).2)
    have hn6 : n < 1000000 := by have := H.out.2.2.2.2.2.1; omega
    clear hT hrec hdef hip hop hgx hlt hK hszp hVl hn hst
    gi_wp2_with fail
    refine HK.out _ _ (Only.refl _ _) ?_
    intro W2 ho hr2
    have hop2 : Only (fun k => T k ∨ k = b2 + 2) Wp W2 := (HI.out.2.1.mono (fun _ _ h => .inl h)).trans (ho.mono (fun k _ h => .inr h)) (fun _ _ h => h)
    have hi2 : CollI w W2 b2 T pre := HI.out.1.kept hop2 (fun k hk => by
      rcases hk with hk | hk
      · exact .inl hk
      · exact .inr (.inr hk))
    obtain ⟨oa, c, g1, g2, g3⟩ := hi2.box
    rw [HI.out.2.2.1] at g1 g2 g3
    have k2 : W2.cell? ⟨b2, 0, none⟩ = some (.slice oa n c) := cell_of g1 rfl
    have f2 : W2.frozen? ⟨b2, 0, none⟩ = false := free_of g1 _
    have hone : ∀ v ∈ ([.string nm] : List Value), v.oneCell' = true := by
      intro v hv
      simp only [List.mem_cons, List.not_mem_nil, or_false] at hv
      rcases hv with rfl
      rfl
    generalize hQ : toldPost _ _ _ _ _ = Q
    have HQ := Lib.hid hQ
    have HVW := Lib.hid ho.size
    have H2 := Lib.hid (And.intro hi2 (And.intro g1 (And.intro g2 (And.intro g3 (show b2 + 2 < W2.heap.size from Nat.lt_of_lt_of_le HI.out.2.2.2 ho.size)))))
    clear hop2 hi2 g1 g2 g3 hQ ho hr2
    gi_wp2_with (gi_at_builtin; refine wpListIn_append_one rfl (.tmp 8) (.tmp 10) 43 9 rfl Tryz.underlying43 info_strR rfl (by omega) H2.out.2.2.1 (by omega) [.string nm] rfl hone rfl rfl ?_; intro oa3 c3 w3 HR3 HG3 HO3; have hb3 := (HG3.out.block b2 (by have := H2.out.2.2.2.2; simp; omega) (fun e => by have := H2.out.2.2.2.1 b2 e.symm; omega)).trans ((Below.heap_alloc _ _ _ (by have := H2.out.2.2.2.2; omega)).trans H2.out.2.1); have kb : w3.cell? ⟨b2, 0, none⟩ = some (.slice oa n c) := cell_of hb3 rfl; have fb : w3.frozen? ⟨b2, 0, none⟩ = false := free_of hb3 _; have HB3 := Lib.hid hb3; clear hb3)
    rw [← HQ.out]
    have hg4 : Only (fun k => (Value.slice oa n c).ownBlock = some k) W2 w3 := (Only.of_below ((Below.refl _ W2).alloc (Nat.le_refl _) (.cells #[.string nm] 9)) (Nat.le_refl _) _).trans (Only.of_grown HG3.out (fun k e => e)) (fun _ _ e => e)
    have hs4 : Only (fun k => k = b2) w3 (w3.setCell ⟨b2, 0, none⟩ (.slice oa3 (n + 1) c3)) := only_setCell (fun k => k = b2) _ b2 0 _ rfl
    have hown3 : ∀ k, (Value.slice oa3 (n + 1) c3).ownBlock = some k → (Value.slice oa n c).ownBlock = some k ∨ k = W2.heap.size + 1 := fun k hk => by
      rcases HO3.out with e | e
      · exact .inl (by rw [← e]; exact hk)
      · rw [hk] at e
        simp only [Option.some.injEq] at e
        exact .inr e
    have e0 := H.out.2.2.2.1
    have e1 := H.out.2.2.2.2.2.2.size
    have hbig := H2.out.2.2.2.2
    have e5 := H.out.2.2.1
    have ho4 : Only (fun k => (Value.slice oa n c).ownBlock = some k ∨ k = b2) W2 (w3.setCell ⟨b2, 0, none⟩ (.slice oa3 (n + 1) c3)) := (hg4.mono (fun _ _ e => .inl e)).trans hs4 (fun _ _ e => .inr e)
    have hl1 : (pre ++ [Value.string nm]).length = n + 1 := by rw [List.length_append, HI.out.2.2.1]; rfl
    refine ⟨ho4.mono (fun k _ hk => ?_), ?_, ?_, ?_, ?_⟩
    · rcases hk with hk | hk
      · have := H2.out.2.2.2.1 k hk
        refine ⟨by omega, fun e => ?_⟩
        rcases e with e | e | e
        · exact this.2 e
        · omega
        · omega
      · subst hk
        refine ⟨by omega, fun e => ?_⟩
        rcases e with e | e | e
        · have := H2.out.1.low k e; omega
        · omega
        · omega
    · exact H2.out.1.below.trans (ho4.below (fun i hi e => by
        rcases e with e | e
        · have := H2.out.2.2.2.1 i e; omega
        · omega) H2.out.1.below.size)
    · rw [hl1]
      refine ⟨oa3, c3, heap_setCell_here _ HB3.out, HR3.out.kept (fun k hk => Below.heap_setCell _ _ _ _ (fun e => by
        have e : k = b2 := e
        rcases hown3 k hk with e2 | e2
        · have := H2.out.2.2.2.1 k e2; omega
        · omega)), fun k hk => ?_⟩
      rcases hown3 k hk with e2 | e2
      · exact H2.out.2.2.2.1 k e2
      · refine ⟨by omega, fun e => ?_⟩
        have := HT.out k e
        have := HVW.out
        omega
    · exact H2.out.1.low
    · exact H2.out.1.at'
end Go.Proofs.YtlgcoaeddeiegaaGreat
/- slices.Sorted at strings, of a row that is told and sorted already. -/
namespace Go.Proofs.YtlgcoaeddeiegaaGreat
open Go Go.Maps Go.RowKit Go.Shelf Go.Sort
open Go.Proofs (encStr)
attribute [local go_sem] Oper.semAt_some

theorem rowAt.holds {w : World} {e : TypeId} {g off c : Nat} {l : List (List UInt8)} (h : rowAt w e 1 (.slice (some ⟨g, off, none⟩) l.length c) l.length (l.map encStr)) : Holds encStr w g off l.toArray := by
  intro j hj
  have hj' : j < l.length := by simpa using hj
  have h1 := h.cells rfl j (encStr l[j]) (by rw [List.getElem?_map, List.getElem?_eq_getElem hj']; rfl)
  have e1 : (l.toArray)[j]! = l[j] := by rw [getElem!_pos _ j hj]; simp
  rw [e1]
  refine ⟨by simpa [Go.WideShapes.add_plain] using h1, ?_⟩
  rcases h.2 with ⟨hn, -⟩ | ⟨g', off', cap, cur, fr, hv, hg, h1, h2, h3, hf, -⟩
  · cases hn
  · simp only [Value.slice.injEq, Option.some.injEq, Addr.mk.injEq] at hv
    obtain ⟨⟨rfl, rfl, -⟩, -, rfl⟩ := hv
    have hfr := hf (off + j) (by omega)
    unfold World.frozen?
    rw [hg]
    simpa using hfr
theorem below_sorted (w : World) (n : Nat) (os : Array Obj) : Below w.heap.size w (grow (Sort.ahead w n) os) :=
  ⟨rfl, rfl, rfl, by simp [grow, Sort.ahead], fun k hk => by simp [grow, Sort.ahead, Array.getElem?_append_left hk]⟩
/-- what is sorted stays -/
theorem sort_b {w : World} {oa : Option Addr} {n c : Nat} {l : List (List UInt8)} (hn : l.length = n) (h : rowAt w 9 1 (.slice oa n c) n (l.map encStr)) (hs : l.Pairwise (fun a b => leB a b = true)) (hl : n ≤ 1000000) :
    Calls Tryz.prog 183 #[.slice oa n c] w fun e w' => e = .returned (.tuple #[]) ∧ Below w.heap.size w w' := by
  subst hn
  by_cases h0 : l.length = 0
  · rw [h0]
    refine (AnyM.slices_Sort_string_none sortL oa c w).mono ?_
    rintro e w' ⟨rfl, rfl⟩
    exact ⟨rfl, Below.refl _ _⟩
  · obtain ⟨g, off, rfl⟩ := h.read.addr (by omega)
    have hH := h.holds
    have hgl : g < w.heap.size := h.lt g rfl
    refine (AnyM.slices_Sort_string sortL g off c l w hH hgl (by omega)).mono ?_
    rintro e w' ⟨rfl, k, os, rfl⟩
    refine ⟨rfl, ?_⟩
    have e1 : (l.mergeSort fun x y => decide (x ≤ y)) = l := mergeSort_self hs
    rw [e1, putRow_self encStr (Sort.ahead w k) g off l.toArray (fun j hj => hH j hj)]
    exact below_sorted w k os
set_option maxRecDepth 100000 in
set_option maxHeartbeats 1000000 in
theorem collect_b {w : World} {gf : Nat} {lb : Array Value} {l : List Value} {w0 : World} (hFg : Fence.wide.fn gf) (eg : ∀ args w, (callFunc gf args).run Tryz.prog w = .ok (.enter gf args) w) (hs : ∀ v ∈ l, ∃ s : ByteArray, v = .string s) (hl : l.length ≤ 1000000)
    (hst : SeqTold Fence.wide 7 Tryz.prog gf lb encOne (fun _ _ pre x _ => l[pre.length]? = some x ∧ pre = l.take pre.length) (fun ys => ys = l) (fun pre => pre.length ≤ l.length) l.length w0) (hb0 : Below w0.heap.size w0 w) :
    Calls Tryz.prog 182 #[.func (.func gf) #[] lb] w fun e w' => ∃ v, e = .returned v ∧ rowAt w' 9 1 v l.length l ∧ (∀ k, v.ownBlock = some k → w.heap.size ≤ k) ∧ Below w.heap.size w w' := by
  have HA := Lib.hid (appendSeq_b hFg eg hs hl hst hb0)
  clear hst
  go_enter Tryz.func182, Tryz.ntmps182
  go_wp2_with fail
  refine HA.out.mono ?_
  rintro e w1 ⟨v, rfl, h1, h2, h3⟩
  have H := Lib.hid (And.intro h1 (And.intro h2 h3))
  clear h1 h2 h3
  go_wp2_with fail
  go_ret
  exact ⟨v, rfl, H.out⟩
set_option maxRecDepth 100000 in
set_option maxHeartbeats 1000000 in
theorem sorted_b {w : World} {gf : Nat} {lb : Array Value} {l : List (List UInt8)} {w0 : World} (hFg : Fence.wide.fn gf) (eg : ∀ args w, (callFunc gf args).run Tryz.prog w = .ok (.enter gf args) w) (hl : l.length ≤ 1000000) (hs : l.Pairwise (fun a b => leB a b = true))
    (hst : SeqTold Fence.wide 7 Tryz.prog gf lb encOne (fun _ _ pre x _ => (l.map encStr)[pre.length]? = some x ∧ pre = (l.map encStr).take pre.length) (fun ys => ys = l.map encStr) (fun pre => pre.length ≤ (l.map encStr).length) (l.map encStr).length w0) (hb0 : Below w0.heap.size w0 w) :
    Calls Tryz.prog 131 #[.func (.func gf) #[] lb] w fun e w' => ∃ v, e = .returned v ∧ rowAt w' 9 1 v l.length (l.map encStr) ∧ (∀ k, v.ownBlock = some k → w.heap.size ≤ k) ∧ Below w.heap.size w w' := by
  have HA := Lib.hid (collect_b hFg eg (l := l.map encStr) (fun v hv => by
    obtain ⟨s, -, rfl⟩ := List.mem_map.1 hv
    exact ⟨_, rfl⟩) (by rw [List.length_map]; exact hl) hst hb0)
  have HS := Lib.hid hs
  clear hst hs
  go_enter Tryz.func131, Tryz.ntmps131
  go_wp2_with fail
  refine HA.out.mono ?_
  rintro e w1 ⟨v, rfl, h1, h2, h3⟩
  rw [List.length_map] at h1
  obtain ⟨oa, c, rfl, -⟩ := h1.shape
  obtain ⟨n, hn⟩ : ∃ n, l.length = n := ⟨_, rfl⟩
  rw [hn] at h1 h2 hl ⊢
  have hst := sort_b hn h1 HS.out hl
  have HC := Lib.hid hst
  have H := Lib.hid (And.intro h1 (And.intro h2 h3))
  have HN := Lib.hid hn
  clear h1 h2 h3 hn hst
  go_wp2_with fail
  refine HC.out.mono ?_
  rintro e w2 ⟨rfl, hb2⟩
  have HB := Lib.hid hb2
  clear hb2
  go_wp2_with fail
  go_ret
  rw [HN.out]
  exact ⟨.slice oa n c, rfl, H.out.1.kept (fun k hk => HB.out.block k (H.out.1.lt k hk)), H.out.2.1, H.out.2.2.trans (HB.out.mono H.out.2.2.size)⟩
end Go.Proofs.YtlgcoaeddeiegaaGreat
/- Segment names: known, and the law. -/
namespace Go.Proofs.YtlgcoaeddeiegaaGreat
open Go.RowKit

theorem parse_true (s a : ByteArray) (b : Int) (w : World) (hs : s.size ≤ maxLen) (h : okName s.data.toList = true) (ha : s.extract 0 (s.size - 15) = a) (hb : ((hnum (digs s.data.toList) : Nat) : Int) = b) :
    Calls Tryz.prog 19 #[.string s] w fun e w' => e = .returned (.tuple #[.string a, .int .i64 b, .bool true]) ∧ Below w.heap.size w w' :=
  (parse_any s w hs).mono fun _ _ ⟨hp, hbl⟩ => ⟨by rw [← ha, ← hb]; exact hp.1 h, hbl⟩
theorem parse_false (s : ByteArray) (w : World) (hs : s.size ≤ maxLen) (h : okName s.data.toList = false) :
    Calls Tryz.prog 19 #[.string s] w fun e w' => e = .returned (.tuple #[.string ⟨#[]⟩, .int .i64 0, .bool false]) ∧ Below w.heap.size w w' :=
  (parse_any s w hs).mono fun _ _ ⟨hp, hbl⟩ => ⟨hp.2 h, hbl⟩
theorem create_nilS (s : ByteArray) (b st : Int) (w : World) :
    Calls Tryz.prog 64 #[.pointer none, .string s, .int .i64 b, .int .i64 st] w fun e w' => e = .returned (.tuple #[.pointer none, .int .i64 1]) ∧ w = w' := by
  go_enter Tryz.func64, Tryz.ntmps64
  go_wp2
  go_ret2
  exact ⟨rfl, rfl⟩
end Go.Proofs.YtlgcoaeddeiegaaGreat
/- partlog: the names of a log's files. -/
namespace Go.Proofs.YtlgcoaeddeiegaaGreat
open Go Go.Maps Go.RowKit
open Go.Proofs (encStr)
attribute [local go_sem] Oper.semAt_some

/-- the names of the log's files that are there -/
def Dk.namesOf (d : Dk) (log : ByteArray) : List (List UInt8) := d.names.filter (ofLog log)
def namesUp (log : ByteArray) (l : List (List UInt8)) (t : Nat) : List Value := ((l.take t).filter (ofLog log)).map encStr
theorem namesUp_succ {log : ByteArray} {l : List (List UInt8)} {t : Nat} (h : t < l.length) : namesUp log l (t + 1) = if ofLog log l[t] then namesUp log l t ++ [encStr l[t]] else namesUp log l t := by
  unfold namesUp
  rw [List.take_succ_eq_append_getElem h, List.filter_append, List.map_append]
  cases hb : ofLog log l[t] <;> simp [hb]
/-- does a name parse, and is its log that one? -/
theorem parse_of (s log : ByteArray) (w : World) (hs : s.size ≤ maxLen) : Calls Tryz.prog 19 #[.string s] w fun e w' => ∃ (a : ByteArray) (b : Int) (o : Bool), e = .returned (.tuple #[.string a, .int .i64 b, .bool o]) ∧ ((o && (a.toList == log.toList)) = ofLog log s.data.toList) ∧ Below w.heap.size w w' := by
  have he : (s.extract 0 (s.size - 15)).toList = s.data.toList.take (s.data.toList.length - 15) := by
    rw [ByteArray.toList_eq]
    simp
  cases hk : okName s.data.toList with
  | true =>
    refine (parse_true s _ _ w hs hk rfl rfl).mono ?_
    rintro e w' ⟨rfl, hb⟩
    refine ⟨_, _, _, rfl, ?_, hb⟩
    unfold ofLog
    rw [hk, he, ByteArray.toList_eq]
  | false =>
    refine (parse_false s w hs hk).mono ?_
    rintro e w' ⟨rfl, hb⟩
    refine ⟨_, _, _, rfl, ?_, hb⟩
    unfold ofLog
    rw [hk]
    rfl
theorem name_max {s : List UInt8} (h : nameOk s = true) : s.length ≤ 32 := by
  unfold nameOk at h
  simp only [Bool.and_eq_true, decide_eq_true_eq] at h
  exact h.2
set_option maxRecDepth 100000 in
set_option maxHeartbeats 2000000 in
theorem logNames_b {w : World} {S : Nat → Prop} {q : Nat} {d : Dk} (h : DiskAt w S q d) (log : ByteArray) :
    Calls Tryz.prog 63 #[.pointer (some ⟨q, 0, none⟩), .string log] w fun e w' => ∃ v, e = .returned v ∧ rowAt w' 9 1 v (d.namesOf log).length ((d.namesOf log).map encStr) ∧ (∀ k, v.ownBlock = some k → w.heap.size ≤ k) ∧ Below w.heap.size w w' := by
  have hnm : ∀ x ∈ d.names, x.length ≤ 32 := fun x hx => by
    obtain ⟨mb, fv, L, h⟩ := h
    unfold Dk.names at hx
    obtain ⟨f, hf, rfl⟩ := List.mem_map.1 hx
    exact name_max (h.names f (List.mem_filter.1 hf).1)
  have hso : (d.namesOf log).Pairwise (fun a b => leB a b = true) := by
    obtain ⟨mb, fv, L, h⟩ := h
    have h1 : (d.namesOf log).Sublist (d.files.map (·.name)) := (List.filter_sublist).trans (show d.names.Sublist _ from (List.filter_sublist (p := fun f : F0 => f.there) (l := d.files)).map (fun f : F0 => f.name))
    exact (h.sorted.sublist h1).imp (fun {a b} hab => by simpa [leB] using List.le_of_lt hab)
  have hfw : d.names.length ≤ 4096 := by
    obtain ⟨mb, fv, L, h⟩ := h
    unfold Dk.names
    rw [List.length_map]
    exact Nat.le_trans (List.length_filter_le _ _) h.few
  obtain ⟨N, hN⟩ : ∃ N, d.names.length = N := ⟨_, rfl⟩
  rw [hN] at hfw
  have HN := Lib.hid (And.intro hnm (And.intro hso hN))
  have HNM := Lib.hid (Names_b h)
  clear h hnm hso hN
  go_enter Tryz.func63, Tryz.ntmps63
  go_wp2_with fail
  refine HNM.out.mono ?_
  rintro e w1 ⟨v, rfl, hr, hown, hb⟩
  obtain ⟨oa, c, rfl, -⟩ := hr.shape
  rw [HN.out.2.2] at hr hown ⊢
  have H1 := Lib.hid (And.intro hr (And.intro hown hb))
  clear hr hown hb HNM
  go_wp2_with fail
  go_loopw [5, 14] (fun s5 s14 wr => ∃ (t k : Nat) (oz : Option Addr) (cz : Nat), s14 = .int .i64 (t : Int) ∧ s5 = .slice oz k cz ∧ t ≤ N ∧ k ≤ t ∧ Hid (rowAt wr 9 1 (.slice oz k cz) k (namesUp log d.names t) ∧ (∀ j, (Value.slice oz k cz).ownBlock = some j → w1.heap.size ≤ j) ∧ Below w1.heap.size w1 wr)) (fun _ s14 _ => N - (intOf s14).toNat)
  case atStart => exact ⟨0, 0, none, 0, rfl, rfl, Nat.zero_le _, Nat.le_refl _, Lib.hid ⟨⟨rfl, .inl ⟨rfl, rfl⟩⟩, fun j hj => by simp [Value.ownBlock] at hj, Below.refl _ _⟩⟩
  case round =>
    obtain ⟨t, k, oz, cz, rfl, rfl, ht, hkt, HR⟩ := hrel
    by_cases hlt : t < N
    · have hi : t < d.names.length := by rw [HN.out.2.2]; exact hlt
      have hrw := H1.out.1.kept (fun k hk => HR.out.2.2.block k (H1.out.1.lt k hk))
      obtain ⟨g, off, rfl⟩ := hrw.read.addr (by omega)
      obtain ⟨nm, hnm⟩ : ∃ a : ByteArray, a = ⟨(d.names[t]).toArray⟩ := ⟨_, rfl⟩
      have hnd : nm.data.toList = d.names[t] := by rw [hnm]
      have k0 : wr.cell? ⟨g, off + t, none⟩ = some (.string nm) := by
        have := hrw.cells rfl t (encStr d.names[t]) (by rw [List.getElem?_map, List.getElem?_eq_getElem hi]; rfl)
        rw [hnm]
        simpa [Go.WideShapes.add_plain] using this
      have hsz : nm.size ≤ maxLen := by
        have h1 := HN.out.1 _ (List.getElem_mem hi)
        rw [← hnd] at h1
        have : nm.data.toList.length = nm.size := by simp
        unfold maxLen
        omega
      have hs := namesUp_succ (log := log) hi
      rw [← hnd, show encStr nm.data.toList = .string nm from rfl] at hs
      have HS := Lib.hid hs
      have HP := Lib.hid (parse_of nm log wr hsz)
      clear hrw hnm hnd hsz hs hi
      go_wp2_with fail
      refine HP.out.mono ?_
      rintro e w2 ⟨a, b, o, rfl, hof, hb2⟩
      have hrow2 := HR.out.1.kept (fun k hk => hb2.block k (HR.out.1.lt k hk))
      have H2 := Lib.hid (And.intro hrow2 (And.intro hb2 hof))
      clear hrow2 hb2 HP
      cases ho : ofLog log nm.data.toList with
      | false =>
        rw [ho] at hof
        have hst : Hid (rowAt w2 9 1 (.slice oz k cz) k (namesUp log d.names (t + 1)) ∧ (∀ j, (Value.slice oz k cz).ownBlock = some j → w1.heap.size ≤ j) ∧ Below w1.heap.size w1 w2) := Lib.hid ⟨by rw [HS.out, ho]; exact H2.out.1, HR.out.2.1, HR.out.2.2.trans (H2.out.2.1.mono HR.out.2.2.size)⟩
        clear ho
        cases o
        · clear hof
          go_wp2_with fail
          exact ⟨⟨t + 1, k, oz, cz, by simp, rfl, by omega, by omega, hst⟩, by simp [intOf]; omega⟩
        · have ha : (a.toList == log.toList) = false := hof
          clear hof
          go_wp2_with fail
          exact ⟨⟨t + 1, k, oz, cz, by simp, rfl, by omega, by omega, hst⟩, by simp [intOf]; omega⟩
      | true =>
        rw [ho] at hof
        have HO := Lib.hid ho
        clear ho
        cases o
        · cases hof
        · have ha : (a.toList == log.toList) = true := hof
          clear hof
          go_wp2_with (at_builtin; refine wpList_append_str rfl (.tmp 30) (.tmp 32) rfl H2.out.1 (by omega) (by rfl) (by rfl) ?_; intro oa3 c3 w3 HR3 HG3 HO3)
          have hb0 : Below w1.heap.size w1 w2 := HR.out.2.2.trans (H2.out.2.1.mono HR.out.2.2.size)
          refine ⟨⟨t + 1, k + 1, oa3, c3, by simp, rfl, by omega, by omega, Lib.hid ⟨by rw [HS.out, HO.out]; exact HR3.out, fun j hj => ?_, ?_⟩⟩, by simp [intOf]; omega⟩
          · have := hb0.size
            rcases HO3.out with e | e
            · exact HR.out.2.1 j (by rw [← e]; exact hj)
            · rw [hj] at e
              simp only [Option.some.injEq] at e
              omega
          · exact (hb0.alloc hb0.size _).grown HG3.out (by have := hb0.size; simp; omega) (fun j hj => HR.out.2.1 j hj)
    · obtain rfl : N = t := by omega
      have e : namesUp log d.names N = (d.namesOf log).map encStr := by
        unfold namesUp Dk.namesOf
        rw [← HN.out.2.2, List.take_length]
      have hk : k = (d.namesOf log).length := by
        have := HR.out.1.1
        rw [e, List.length_map] at this
        omega
      have hrow := HR.out.1
      rw [e] at hrow
      have HROW := Lib.hid hrow
      have HK := Lib.hid hk
      clear e hrow hk
      go_wp2_with fail
      refine (valuesStrs_b wr oz k cz).mono ?_
      rintro e w2 ⟨rfl, hw2⟩
      have hat : ValsAt w2 43 9 wr.heap.size ((d.namesOf log).map encStr) := by
        rw [hw2]
        exact valuesStrs_at (by rw [List.length_map, ← HK.out]; exact HROW.out)
      have hb2 : Below wr.heap.size wr w2 := by rw [hw2]; exact (Below.refl _ _).alloc (Nat.le_refl _) _
      have hst := valsStrs_told 7 (by omega) wr.heap.size w2 ((d.namesOf log).map encStr) hat (by rw [List.length_map, ← HK.out]; omega)
      have HSO := Lib.hid (sorted_b (w := w2) (gf := 184) (lb := #[.pointer (some ⟨wr.heap.size, 0, none⟩)]) trivial (enters_of Tryz.func184 (by kernel_rfl) rfl) (by rw [← HK.out]; omega) HN.out.2.1 hst (Below.refl _ _))
      have HB2 := Lib.hid hb2
      clear hat hb2 hst hw2
      go_wp2_with fail
      refine HSO.out.mono ?_
      rintro e w3 ⟨v, rfl, h1, h2, h3⟩
      have H3 := Lib.hid (And.intro h1 (And.intro h2 h3))
      clear h1 h2 h3
      go_wp2_with fail
      go_ret
      have b1 := H1.out.2.2
      have b2 := b1.trans (HR.out.2.2.mono b1.size)
      have b3 := b2.trans (HB2.out.mono b2.size)
      exact ⟨v, rfl, H3.out.1, fun k hk => Nat.le_trans b3.size (H3.out.2.1 k hk), b3.trans (H3.out.2.2.mono b3.size)⟩
end Go.Proofs.YtlgcoaeddeiegaaGreat
/- partlog: Segments. -/
namespace Go.Proofs.YtlgcoaeddeiegaaGreat
open Go Go.Maps Go.RowKit
attribute [local go_sem] Oper.semAt_some

def segNamesV (log : ByteArray) (l : List (Nat × List Bat)) : List Value := l.map fun s => encStr (sname log s.1)
theorem segNamesV_succ {log : ByteArray} {l : List (Nat × List Bat)} {t : Nat} (h : t < l.length) : segNamesV log (l.take (t + 1)) = segNamesV log (l.take t) ++ [encStr (sname log l[t].1)] := by
  unfold segNamesV
  rw [List.take_succ_eq_append_getElem h, List.map_append]
  rfl
set_option maxRecDepth 100000 in
set_option maxHeartbeats 4000000 in
theorem segments_b {w : World} {T : Nat → Prop} {lp q : Nat} {log : ByteArray} {roll step : Nat} {g : Lg} {G : List Sg} {a : Sg} {pv : Value} (hm : LogM w T lp q log roll step g G a pv) (hsm : g.segs.length ≤ 4096) :
    Calls Tryz.prog 18 #[.pointer (some ⟨lp, 0, none⟩)] w fun e w' => ∃ v, e = .returned v ∧ rowAt w' 9 1 v g.segs.length (segNamesV log g.segs) ∧ (∀ k, v.ownBlock = some k → w.heap.size ≤ k) ∧ Below w.heap.size w w' := by
  have hN := Lib.hid (noneLog_b hm)
  obtain ⟨N, hNN⟩ : ∃ N, g.segs.length = N := ⟨_, rfl⟩
  have hgl : (G ++ [a]).length = N := by rw [← hNN, hm.segs, List.length_map]
  have hfw : N ≤ 4096 := by rw [← hNN]; exact hsm
  clear hsm
  have hrow := hm.rest.row
  rw [hgl] at hrow
  obtain ⟨oa, c, rfl, -⟩ := hrow.shape
  have k9 : w.cell? ⟨lp, 9, none⟩ = some (.slice oa N c) := cell_of hm.head rfl
  have HM := Lib.hid (And.intro hm (And.intro hrow (And.intro hgl hNN)))
  clear hm hrow hgl
  rw [hNN]
  clear hNN
  go_enter Tryz.func18, Tryz.ntmps18
  go_wp2_with fail
  refine hN.out.mono ?_
  rintro e w1 ⟨rfl, hw1⟩
  obtain rfl := hw1.symm
  clear hw1 hN
  go_wp2_with fail
  go_loopw [3, 15] (fun s3 s15 wr => ∃ (t : Nat) (oz : Option Addr) (cz : Nat), s15 = .int .i64 (t : Int) ∧ s3 = .slice oz t cz ∧ t ≤ N ∧ Hid (rowAt wr 9 1 (.slice oz t cz) t (segNamesV log (g.segs.take t)) ∧ (∀ j, (Value.slice oz t cz).ownBlock = some j → w.heap.size ≤ j) ∧ Below w.heap.size w wr)) (fun _ s15 _ => N - (intOf s15).toNat)
  case atStart => exact ⟨0, none, 0, rfl, rfl, Nat.zero_le _, Lib.hid ⟨⟨rfl, .inl ⟨rfl, rfl⟩⟩, fun j hj => by simp [Value.ownBlock] at hj, Below.refl _ _⟩⟩
  case round =>
    obtain ⟨t, oz, cz, rfl, rfl, ht, HR⟩ := hrel
    by_cases hlt : t < N
    · have hi : t < (G ++ [a]).length := by rw [HM.out.2.2.1]; exact hlt
      have hi2 : t < g.segs.length := by rw [HM.out.2.2.2]; exact hlt
      obtain ⟨x, hx⟩ : ∃ x, (G ++ [a])[t] = x := ⟨_, rfl⟩
      have hxm : x ∈ G ++ [a] := by rw [← hx]; exact List.getElem_mem hi
      have hxs : g.segs[t] = (x.bn, x.bs) := by
        have h1 : g.segs[t]? = ((G ++ [a]).map Sg.seg)[t]? := by rw [HM.out.1.segs]
        rw [List.getElem?_eq_getElem hi2, List.getElem?_map, List.getElem?_eq_getElem hi, hx] at h1
        simpa [Sg.seg] using h1
      have hbn : x.bn ≤ 9007199254740992 := by
        have := (HM.out.1.ok.chain _ (List.getElem_mem hi2)).2
        rw [hxs] at this
        exact this
      have hrw := HM.out.2.1.kept (fun k hk => HR.out.2.2.block k (HM.out.2.1.lt k hk))
      obtain ⟨gb, off, rfl⟩ := hrw.read.addr (by omega)
      have k0 : wr.cell? ⟨gb, off + t, none⟩ = some (.pointer (some ⟨x.s, 0, none⟩)) := by
        have := hrw.cells rfl t (Sg.ptr x) (by rw [List.getElem?_map, List.getElem?_eq_getElem hi, hx]; rfl)
        simpa [Go.WideShapes.add_plain, Sg.ptr] using this
      obtain ⟨nm, hnm⟩ : ∃ nm, nm = segName log x.bn := ⟨_, rfl⟩
      have hna := fun W => name_ok log x.bn W HM.out.1.lsize HM.out.1.logd hbn
      rw [show (⟨(log.data.toList ++ 45 :: hex 14 x.bn).toArray⟩ : ByteArray) = nm from hnm.symm] at hna
      have hsu := segNamesV_succ (log := log) hi2
      rw [hxs, show encStr (sname log (x.bn, x.bs).1) = .string nm from by rw [hnm]; rfl] at hsu
      have HSU := Lib.hid hsu
      have hb0 : Below wr.heap.size wr wr.drew := bdrew wr
      have hsd : Below wr.heap.size wr wr.drew ∧ wr.drew.cell? ⟨lp, 6, none⟩ = some (.string log) := ⟨hb0, cell_of ((HR.out.2.2.block lp (Array.getElem?_eq_some_iff.1 HM.out.1.head).1).trans HM.out.1.head) rfl⟩
      have HBA : Hid (∀ W, (Below wr.heap.size wr W ∧ W.cell? ⟨lp, 6, none⟩ = some (.string log)) → Calls Tryz.prog 79 #[.pointer (some ⟨x.s, 0, none⟩)] W fun e w' => e = .returned (.int .i64 (x.bn : Int)) ∧ w' = W) := Lib.hid (fun W hW => baseM_b ((HM.out.1.later (HR.out.2.2.trans (hW.1.mono HR.out.2.2.size))).rest.each x hxm))
      have HNA : Hid (∀ W, (Below wr.heap.size wr W ∧ W.cell? ⟨lp, 6, none⟩ = some (.string log)) → Calls Tryz.prog 78 #[.string log, .int .i64 (x.bn : Int)] W fun e w' => e = .returned (.tuple #[.string nm, .int .i64 0]) ∧ (Below wr.heap.size wr w' ∧ w'.cell? ⟨lp, 6, none⟩ = some (.string log))) := Lib.hid (fun W hW => (hna W).mono (fun e w' h => ⟨h.1, hW.1.trans (h.2.mono hW.1.size), (h.2.cell (p := ⟨lp, 6, none⟩) (World.block_lt_of_cell? W _ hW.2)).trans hW.2⟩))
      have k6 : wr.cell? ⟨lp, 6, none⟩ = some (.string log) := hsd.2
      clear hna hsu hrw hxs hx hxm hi2 hi hb0 hbn hnm
      go_wp2_with fail
      go_region_held3 (fun W => Below wr.heap.size wr W ∧ W.cell? ⟨lp, 6, none⟩ = some (.string log))
        (first | assumption)
        (first | (go_at_call 79; refine (HBA.out _ (by assumption)).mono ?_; rintro e wa ⟨rfl, hwa⟩; obtain rfl := hwa) | (go_at_call 78; refine (HNA.out _ (by assumption)).mono ?_; rintro e wa ⟨rfl, hsa⟩))
      all_goals
        have hrow2 := HR.out.1.kept (fun k hk => hsa.1.block k (HR.out.1.lt k hk))
        have HW2 := Lib.hid (And.intro hrow2 (HR.out.2.2.trans (hsa.1.mono HR.out.2.2.size)))
        clear hsd hsa HBA HNA k6 k0 hrow2
        go_wp2_with (at_builtin; refine wpList_append_str rfl (.tmp 29) (.tmp 31) rfl HW2.out.1 (by omega) (by rfl) (by rfl) ?_; intro oa3 c3 w3 HR3 HG3 HO3)
        refine ⟨⟨t + 1, oa3, c3, by simp, rfl, by omega, Lib.hid ⟨by rw [HSU.out]; exact HR3.out, fun j hj => ?_, ?_⟩⟩, by simp [intOf]; omega⟩
        · have := HW2.out.2.size
          rcases HO3.out with e | e
          · exact HR.out.2.1 j (by rw [← e]; exact hj)
          · rw [hj] at e
            simp only [Option.some.injEq] at e
            omega
        · exact (HW2.out.2.alloc HW2.out.2.size _).grown HG3.out (by have := HW2.out.2.size; simp; omega) (fun j hj => HR.out.2.1 j hj)
    · obtain rfl : N = t := by omega
      have hrow := HR.out.1
      rw [← HM.out.2.2.2, List.take_length] at hrow
      have HROW := Lib.hid hrow
      clear hrow
      go_wp2_with fail
      go_ret
      refine ⟨_, rfl, ?_, HR.out.2.1, HR.out.2.2⟩
      rw [← HM.out.2.2.2]
      exact HROW.out
end Go.Proofs.YtlgcoaeddeiegaaGreat
