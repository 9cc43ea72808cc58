/- The texts Ee in one. -/
import Derived.Test.YtmkjejngnahpeaaA6
/- Disk: Crash. -/
namespace Go.Proofs.Ytmkjejngnahpeaa
open Go Go.Maps Go.RowKit
open Go.Proofs (encStr)

set_option maxRecDepth 100000 in
set_option maxHeartbeats 1000000 in
theorem crash_b {w : World} {S : Nat → Prop} {q : Nat} {d : Dk} (h : DiskAt w S q d) (oa : Option Addr) (c : Nat) (ps : List Int) (hp : readAt w 1 (.slice oa ps.length c) ps.length (intCells ps)) (hpl : ps.length ≤ 1000000000) (hpm : ∀ x ∈ ps, x ≤ 9223372036854775807) :
    Calls Try.prog 40 #[.pointer (some ⟨q, 0, none⟩), .agg #[.slice oa ps.length c]] w fun e w' => CrashIs w d ps e w' := by
  obtain ⟨mb, fv, L, h⟩ := h
  obtain ⟨np, hnp⟩ : ∃ np, ps.length = np := ⟨_, rfl⟩
  rw [hnp] at hp hpl ⊢
  have hmm := @run_makeMap Try.prog
  go_enter Try.func40, Try.ntmps40
  go_upto_region 1 with fail
  obtain ⟨w1, hw1⟩ : ∃ w1 : World, w1 = w.alloc (.cells #[.slice oa np c] 72) := ⟨_, rfl⟩
  obtain ⟨r, hr⟩ : ∃ r, r = w.heap.size := ⟨_, rfl⟩
  have hr1 : w1.heap[r]? = some (.cells #[.slice oa np c] 72 (0, 0)) := by rw [hw1, hr]; exact alloc_cells _ _ _
  have hb1 : Below w.heap.size w w1 := by rw [hw1]; exact (Below.refl _ _).alloc (Nat.le_refl _) _
  have h1 := h.below hb1
  have hp1 : readAt w1 1 (.slice oa np c) np (intCells ps) := hp.kept (fun k hl _ _ => hb1.block k hl)
  have HSL : Hid (∀ k, S k → k < w.heap.size) := Lib.hid h.low
  have hpz : 0 < np → ∀ k, (Value.slice oa np c).ownBlock = some k → k < w.heap.size := fun h0 k hk => hp.lt h0 k hk
  have hs1 : w1.heap.size = w.heap.size + 1 := by rw [hw1]; simp
  rw [← hr, ← hw1]
  have HR := Lib.hid hr
  have H1 := Lib.hid h1
  have HP1 := Lib.hid hp1
  have HPZ := Lib.hid hpz
  have HB1 := Lib.hid hb1
  have HS1 := Lib.hid hs1
  clear hw1 hr h h1 hp hp1 hpz hb1 hs1
  have r0 : w1.cell? ⟨r, 0, none⟩ = some (.slice oa np c) := cell_of hr1 rfl
  go_wp2_with fail
  refine (none_b H1.out).mono ?_
  rintro e w' ⟨rfl, rfl⟩
  go_wp2_with fail
  refine (containsInt_b hnp HP1.out hpl).mono ?_
  rintro e w1 ⟨b, rfl, hbb, rfl⟩
  cases b with
  | true =>
    have HO : Hid (CrashIs w d ps (.returned (.tuple #[.pointer none, .int .i64 2])) w1) := Lib.hid (.inl ⟨fun h => (by have := hbb.2 h; cases this), rfl, HB1.out⟩)
    clear hbb
    go_wp2_with fail
    go_ret2
    exact HO.out
  | false =>
    have HGE : Hid (AllGe ps) := Lib.hid (hbb.1 rfl)
    clear hbb
    go_upto_region 8 with fail
    obtain ⟨pb, hpb⟩ : ∃ pb, pb = w1.heap.size := ⟨_, rfl⟩
    obtain ⟨wa, hwa⟩ : ∃ wa : World, wa = w1.alloc (.cells #[.slice oa np c] 32) := ⟨_, rfl⟩
    have hsa : wa.heap.size = pb + 1 := by rw [hwa, hpb]; simp
    have hpa : wa.heap[pb]? = some (.cells #[.slice oa np c] 32 (0, 0)) := by rw [hwa, hpb]; exact alloc_cells _ _ _
    have hba : Below w1.heap.size w1 wa := by rw [hwa]; exact (Below.refl _ _).alloc (Nat.le_refl _) _
    have hdn := disk_new wa
    obtain ⟨w2, hw2⟩ : ∃ w2 : World, w2 = (wa.alloc (.map #[] 0)).alloc (.cells #[.map (some wa.heap.size), .slice none 0 0, .int .i64 0] 122) := ⟨_, rfl⟩
    have hb2 : Below wa.heap.size wa w2 := by rw [hw2]; exact ((Below.refl _ _).alloc (Nat.le_refl _) _).alloc (by simp) _
    have hs2 : w2.heap.size = pb + 3 := by rw [hw2]; simp [hsa]
    rw [← hw2] at hdn
    rw [hsa] at hdn hw2
    rw [← hpb, ← hwa, ← hw2]
    have hB2 : Below w.heap.size w w2 := HB1.out.trans ((hba.trans (hb2.mono hba.size)).mono HB1.out.size)
    have h2 : DiskIs w2 S q mb fv L d := (H1.out.below hba).below hb2
    have hpk : PicksAt w2 pb w.heap.size ps := by
      refine ⟨oa, c, ?_, ?_, fun h0 k hk => ?_⟩
      · rw [hnp]; exact (hb2.block pb (by omega)).trans hpa
      · rw [hnp]
        have := HP1.out
        exact (this.kept (fun k hl _ _ => hba.block k hl)).kept (fun k hl _ _ => hb2.block k hl)
      · have h3 := HPZ.out (by omega) k (by rw [hnp] at hk; exact hk)
        have h4 := HS1.out
        exact ⟨by omega, h3⟩
    have HZ : Hid (w.heap.size < pb) := Lib.hid (by have := HS1.out; omega)
    have H2 := Lib.hid h2
    have HPK := Lib.hid hpk
    have HDN := Lib.hid hdn
    have HB2 := Lib.hid hB2
    have HS2 := Lib.hid hs2
    clear hpb hwa hsa hpa hba hdn hw2 hb2 hs2 hB2 h2 hpk r0 hr1 HR H1 HP1 HPZ HB1 HS1
    go_wp2_with fail
    refine (names_b H2.out).mono ?_
    rintro e w3 ⟨v, rfl, hown, hnil, hb3⟩
    obtain ⟨n, hn⟩ : ∃ n, L.length = n := ⟨_, rfl⟩
    rw [hn] at hown
    have hrow := rowAt.of_row (hasRow.of_own hown)
    obtain ⟨oan, cn, rfl, _⟩ := hrow.shape
    have hge : ∀ k, (Value.slice oan n cn).ownBlock = some k → w2.heap.size ≤ k := fun k hk => ((hasRow.of_own hown).lt k hk).1
    have HROW := Lib.hid hrow
    have HGE2 := Lib.hid hge
    have HB3 := Lib.hid hb3
    have HLN := Lib.hid hn
    have hnle : n ≤ 4096 := by
      have h3 := H2.out.few
      rw [← H2.out.files, List.length_map, hn] at h3
      exact h3
    clear hown hnil hb3 hn hrow hge
    have hinv : CrashInv w3 w3 S q mb fv L d pb w.heap.size 0 ps := by
      have hs3 := HB3.out.size
      have hs2 := HS2.out
      refine ⟨⟨H2.out.below HB3.out, Only.refl _ _, ⟨[], ?_⟩, HSL.out, HZ.out, by omega⟩, ?_, ?_⟩
      · have h3 := HDN.out.wider (S' := fun k => (k = pb + 2 ∨ k = pb + 1) ∧ k < w2.heap.size) (fun k hk => by
          have := hk.1
          have := hk.2
          exact ⟨by omega, by omega⟩) (fun k hk => hk.2)
        exact (h3.below HB3.out).wider (fun k hk => ⟨by rcases hk.1 with h | h <;> simp [h], Nat.lt_of_lt_of_le hk.2 hs3⟩) (fun k hk => hk.2)
      · have := HZ.out
        exact HPK.out.kept (fun k hk => HB3.out.block k (by omega))
      · exact fun x hx => ⟨HGE.out x hx, hpm x hx⟩
    have HINV := Lib.hid hinv
    clear hinv hmm
    go_wp2_with fail
    go_loopw [28] (fun i wr => ∃ j : Nat, j ≤ n ∧ i = .int .i64 j ∧ Hid (CrashInv w3 wr S q mb fv L d pb w.heap.size j ps)) (fun i _ => n - (intOf i).toNat)
    case atStart => exact ⟨0, Nat.zero_le _, rfl, HINV⟩
    case round =>
      obtain ⟨j, hj, rfl, HI⟩ := hrel
      clear HINV
      by_cases hlt : j < n
      · have hjL : j < L.length := by rw [HLN.out]; exact hlt
        obtain ⟨x, hx⟩ : ∃ x, L[j] = x := ⟨_, rfl⟩
        have hxm : x ∈ L := by rw [← hx]; exact List.getElem_mem _
        obtain ⟨nm, hnm⟩ : ∃ nm : ByteArray, nm = ⟨x.f.name.toArray⟩ := ⟨_, rfl⟩
        have hnmd : nm.data.toList = x.f.name := by rw [hnm]
        obtain ⟨gn, on, rfl⟩ := HROW.out.addr (by omega)
        have hgn := HGE2.out gn rfl
        have hgl := HROW.out.lt gn rfl
        have hs2 := HS2.out
        have hcn : wr.cell? ⟨gn, on + j, none⟩ = some (.string nm) := by
          have h3 := HROW.out.cells (g := gn) (off := on) rfl j (.string nm) (by
            rw [List.getElem?_map, List.getElem?_eq_getElem hjL, hx, hnm]
            rfl)
          rw [Go.WideShapes.add_plain] at h3
          have h4 := HI.out.pre.only.block gn hgl (by omega)
          rw [← h3]
          exact cell_kept_at h4
        have hnok : nameOk x.f.name = true := HI.out.pre.old.names _ (by rw [← HI.out.pre.old.files]; exact List.mem_map_of_mem hxm)
        have hnsz : nm.size ≤ 32 := by
          have h3 : x.f.name.length ≤ 32 := by simp [nameOk] at hnok; exact hnok.2
          rw [hnm]; simpa [ByteArray.size] using h3
        have hl := HI.out.pre.old.lookup1_some hxm (nm := nm) (by unfold maxLen; omega) hnmd.symm
        have hxf := HI.out.pre.old.each x hxm
        obtain ⟨oab, cb, hbv, hnb⟩ := hxf.row.shape
        obtain ⟨N, hN⟩ : ∃ N, x.f.bytes.length = N := ⟨_, rfl⟩
        obtain ⟨l, hll⟩ : ∃ l, x.f.lasts = l := ⟨_, rfl⟩
        obtain ⟨th, hth⟩ : ∃ b, x.f.there = b := ⟨_, rfl⟩
        obtain ⟨nd, hnd⟩ : ∃ b, x.f.named = b := ⟨_, rfl⟩
        have hxc := hxf.cells
        rw [hbv, hN, hll, hth, hnd] at hxc
        have hlN : l ≤ N ∧ N ≤ 16777216 := by
          have h3 := hxf.lasts
          have h4 := hxf.size
          omega
        have c0 : wr.cell? ⟨q, 0, none⟩ = some (.map (some mb)) := cell_of HI.out.pre.old.head rfl
        have k2 : wr.cell? ⟨x.blk, 2, none⟩ = some (.bool th) := cell_of hxc rfl
        have k3 : wr.cell? ⟨x.blk, 3, none⟩ = some (.bool nd) := cell_of hxc rfl
        obtain ⟨P, hP⟩ : ∃ P, (crashTo (d.files.take j) ps).2 = P := ⟨_, rfl⟩
        have hpk := HI.out.picks
        have hok := HI.out.ok
        rw [hP] at hpk hok
        have HX := Lib.hid (And.intro hx (And.intro hxm (And.intro hnmd hnok)))
        have HF := Lib.hid (And.intro hbv (And.intro hN (And.intro hll (And.intro hth hnd))))
        have HXC := Lib.hid hxc
        have HPK2 := Lib.hid hpk
        have HOK := Lib.hid hok
        have HPP := Lib.hid hP
        have HGN : Hid (w2.heap.size ≤ gn ∧ gn < w3.heap.size) := Lib.hid ⟨hgn, hgl⟩
        clear hx hxm hnm hnmd hgn hgl hnok hxf hbv hnb hN hll hth hnd hxc hpk hok hP hs2
        go_upto_region 12 with fail
        go_cut [54] from 38 to 54 (fun s54 wx => s54 = .bool (!(keepP x.f P).1) ∧ Hid (PicksAt wx pb w.heap.size (keepP x.f P).2 ∧ Only (fun k => k = pb) wr wx))
        case first =>
          cases th
          · have hk : keepP x.f P = (decide ((nextP 2 P).1 ≠ 0), (nextP 2 P).2) := by simp [keepP, HF.out.2.2.2.1]
            have HK := Lib.hid hk
            clear hk
            go_wp2_with fail
            refine (next_b HPK2.out (fun y hy => (HOK.out y hy).1) 2 (by omega) (by omega) (fun y hy => (HOK.out y hy).2)).mono ?_
            rintro e w4 ⟨rfl, hp4, ho4⟩
            have HP4 := Lib.hid (And.intro hp4 ho4)
            clear hp4 ho4
            go_wp2_with fail
            go_meet
            exact ⟨by rw [HK.out, keep_eq], by rw [HK.out]; exact HP4⟩
          · cases nd
            · have hk : keepP x.f P = (decide ((nextP 2 P).1 ≠ 0), (nextP 2 P).2) := by simp [keepP, HF.out.2.2.2.2]
              have HK := Lib.hid hk
              clear hk
              go_wp2_with fail
              refine (next_b HPK2.out (fun y hy => (HOK.out y hy).1) 2 (by omega) (by omega) (fun y hy => (HOK.out y hy).2)).mono ?_
              rintro e w4 ⟨rfl, hp4, ho4⟩
              have HP4 := Lib.hid (And.intro hp4 ho4)
              clear hp4 ho4
              go_wp2_with fail
              go_meet
              exact ⟨by rw [HK.out, keep_eq], by rw [HK.out]; exact HP4⟩
            · have hk : keepP x.f P = (true, P) := by simp [keepP, HF.out.2.2.2.1, HF.out.2.2.2.2]
              have HK := Lib.hid hk
              clear hk
              go_wp2_with fail
              go_meet
              exact ⟨by rw [HK.out]; rfl, by rw [HK.out]; exact Lib.hid ⟨HPK2.out, Only.refl _ _⟩⟩
        case rest =>
          obtain ⟨rfl, HC1⟩ := hcut
          have HPRE : Hid (CrashPre w3 wc S q mb fv L d pb w.heap.size (crashTo (d.files.take j) ps).1) := Lib.hid (HI.out.pre.pick HC1.out.2)
          have HOK1 : Hid (PicksOk (keepP x.f P).2) := Lib.hid (keepP_ok _ HOK.out)
          have HTK : Hid (crashTo (d.files.take (j + 1)) ps = crashStep (crashTo (d.files.take j) ps) x.f) := Lib.hid (by
            rw [take_files HI.out.pre.old.files hjL, HX.out.1, crashTo_snoc])
          obtain ⟨kp, hkp⟩ : ∃ kp, (keepP x.f P).1 = kp := ⟨_, rfl⟩
          obtain ⟨P1, hP1⟩ : ∃ P1, (keepP x.f P).2 = P1 := ⟨_, rfl⟩
          rw [hP1] at HC1
          rw [hkp]
          rw [hP1] at HOK1
          have HKP := Lib.hid (And.intro hkp hP1)
          clear hkp hP1
          cases kp with
          | false =>
            have HN : Hid (CrashInv w3 wc S q mb fv L d pb w.heap.size (j + 1) ps) := Lib.hid (by
              have e : crashStep (crashTo (d.files.take j) ps) x.f = ((crashTo (d.files.take j) ps).1, P1) := by
                unfold crashStep
                rw [HPP.out, HKP.out.1, HKP.out.2]
                rfl
              exact ⟨by rw [HTK.out, e]; exact HPRE.out, by rw [HTK.out, e]; exact HC1.out.1, by rw [HTK.out, e]; exact HOK1.out⟩)
            clear HTK HPRE
            go_wp2_with fail
            exact ⟨⟨j + 1, by omega, by simp, HN⟩, by simp [intOf]; omega⟩
          | true =>
            have hxf2 := HPRE.out.old.each x HX.out.2.1
            have hxc2 := hxf2.cells
            rw [HF.out.1, HF.out.2.1, HF.out.2.2.1, HF.out.2.2.2.1, HF.out.2.2.2.2] at hxc2
            have k0 : wc.cell? ⟨x.blk, 0, none⟩ = some (.slice oab N cb) := cell_of hxc2 rfl
            have k1 : wc.cell? ⟨x.blk, 1, none⟩ = some (.int .i64 l) := cell_of hxc2 rfl
            have k2' : wc.cell? ⟨x.blk, 2, none⟩ = some (.bool th) := cell_of hxc2 rfl
            clear hxf2 hxc2 c0 k2 k3 hl hcn
            obtain ⟨m, hm⟩ : ∃ m, (moreP x.f P1).1 = m := ⟨_, rfl⟩
            obtain ⟨P2, hP2⟩ : ∃ P2, (moreP x.f P1).2 = P2 := ⟨_, rfl⟩
            have HM := Lib.hid (And.intro hm hP2)
            clear hm hP2
            go_upto_region 14 with fail
            go_region
            go_upto_region 15 with fail
            obtain ⟨bm, hbm⟩ : ∃ bm : Bool, (th && decide (l < N)) = bm := ⟨_, rfl⟩
            go_cut [76] from 69 to 76 (fun s76 wx => s76 = .bool bm ∧ wx = wc.drew)
            case first =>
              have HBM := Lib.hid hbm
              clear hbm
              cases th
              · go_wp2_with fail
                go_meet
                exact ⟨by rw [← HBM.out]; rfl, rfl⟩
              · by_cases hlt2 : l < N
                · have hd1 : decide ((0 : Int) < (N : Int) - (l : Int)) = true := by simp; omega
                  have HL2 := Lib.hid hlt2
                  clear hlt2
                  go_wp2_with fail
                  go_meet
                  exact ⟨by rw [← HBM.out]; simp [HL2.out], rfl⟩
                · have hd1 : decide ((0 : Int) < (N : Int) - (l : Int)) = false := by simp; omega
                  have HL2 := Lib.hid hlt2
                  clear hlt2
                  go_wp2_with fail
                  go_meet
                  exact ⟨by rw [← HBM.out]; simp [HL2.out], rfl⟩
            case rest =>
              obtain ⟨rfl, hwx⟩ := hcut
              subst hwx
              have hmo : moreP x.f P1 = if bm then nextP (N - l + 1) P1 else (0, P1) := by
                unfold moreP
                rw [HF.out.2.1, HF.out.2.2.1, HF.out.2.2.2.1, hbm]
              have HMO := Lib.hid hmo
              obtain ⟨wd, hwd⟩ : ∃ wd : World, wd = wc.drew := ⟨_, rfl⟩
              have HPD : Hid (PicksAt wd pb w.heap.size P1) := Lib.hid (by rw [hwd]; exact HC1.out.1)
              have HPRD : Hid (CrashPre w3 wd S q mb fv L d pb w.heap.size (crashTo (d.files.take j) ps).1) := Lib.hid (by rw [hwd]; exact HPRE.out.drew)
              rw [← hwd]
              clear hmo hbm hwd k0 k1 k2' HPRE HC1
              go_upto_if 76 with fail
              go_cut [12] from 77 to 82 (fun s12 wx => s12 = .int .i64 ((l + m : Nat) : Int) ∧ Hid (PicksAt wx pb w.heap.size P2 ∧ Only (fun k => k = pb) wd wx))
              case first =>
                cases bm
                · have h1 := HM.out
                  rw [HMO.out] at h1
                  have HF2 : Hid (Value.int .i64 (l : Int) = Value.int .i64 ((l + m : Nat) : Int) ∧ Hid (PicksAt wd pb w.heap.size P2 ∧ Only (fun k => k = pb) wd wd)) := Lib.hid ⟨by rw [← h1.1]; simp, Lib.hid ⟨by rw [← h1.2]; exact HPD.out, Only.refl _ _⟩⟩
                  clear h1
                  go_wp2_with fail
                  go_meet
                  exact HF2.out
                · go_wp2_with fail
                  refine (next_v (v := (N : Int) - (l : Int) + 1) HPD.out (fun y hy => (HOK1.out y hy).1) (N - l + 1) (by omega) (by omega) (fun y hy => (HOK1.out y hy).2) (by omega)).mono ?_
                  rintro e w4 ⟨rfl, hp4, ho4⟩
                  have HP4 := Lib.hid (And.intro hp4 ho4)
                  clear hp4 ho4
                  have hmb2 : (nextP (N - l + 1) P1).1 < N - l + 1 := nextP_lt _ _ (by omega)
                  go_wp2_with fail
                  go_meet
                  have h1 := HM.out
                  rw [HMO.out] at h1
                  exact ⟨by rw [← h1.1]; simp, Lib.hid ⟨by rw [← h1.2]; exact HP4.out.1, HP4.out.2⟩⟩
              case rest =>
                obtain ⟨rfl, HC2⟩ := hcut
                have HPR2 : Hid (CrashPre w3 wc S q mb fv L d pb w.heap.size (crashTo (d.files.take j) ps).1) := Lib.hid (HPRD.out.pick HC2.out.2)
                have hxf2 := HPR2.out.old.each x HX.out.2.1
                have hxc2 := hxf2.cells
                have hxr2 := hxf2.row
                rw [HF.out.1, HF.out.2.1] at hxr2
                rw [HF.out.1, HF.out.2.1, HF.out.2.2.1, HF.out.2.2.2.1, HF.out.2.2.2.2] at hxc2
                obtain ⟨Lo, hLo⟩ := HPR2.out.new
                obtain ⟨D, hown, hdsz, hdic⟩ := hLo.look
                have hmle : l + m ≤ N := by
                  have h1 := moreP_le x.f P1 hxf2.lasts
                  rw [HM.out.1, HF.out.2.1, HF.out.2.2.1] at h1
                  exact h1
                obtain ⟨E, hE⟩ : ∃ E, E = l + m := ⟨_, rfl⟩
                obtain ⟨hm0, hNc⟩ := hxr2.map0
                have hsl : ∀ W : World, (Instr.slice 79 (.slice oab N cb) none (some (.int .i64 (E : Int))) none).run Try.prog W = .ok (.slice oab E cb) W := fun W => run_take oab N cb E (by omega) hm0 W
                have hrow2 : rowAt wc 5 1 (.slice oab E cb) E (byteCells (x.f.bytes.take E)) := by
                  have h1 := hxr2.take E (by omega)
                  rw [Nat.mul_one, byteCells_take] at h1
                  exact h1
                have hEl : (x.f.bytes.take E).length = E := by rw [List.length_take, HF.out.2.1]; omega
                have HCL : Hid (Calls Try.prog 113 #[.slice oab E cb] wc.drew fun e w'' => ∃ v, e = .returned v ∧ NewBytes wc w'' v (x.f.bytes.take E)) := Lib.hid (by
                  refine (clone_b (w := wc.drew) hEl hrow2 (by omega)).mono ?_
                  rintro e w'' ⟨v, rfl, h1, h2, h3⟩
                  exact ⟨v, rfl, h1, h2, ⟨h3.os, h3.tape, h3.output, h3.size, h3.block⟩⟩)
                have co : wc.cell? ⟨pb + 1 + 1, 0, none⟩ = some (.map (some (pb + 1))) := cell_of hLo.head rfl
                have k0 : wc.cell? ⟨x.blk, 0, none⟩ = some (.slice oab N cb) := cell_of hxc2 rfl
                have HLO := Lib.hid hLo
                have HOW := Lib.hid (And.intro hown hdic)
                have HEL := Lib.hid hEl
                have HEE := Lib.hid hE
                have HEN : Hid (E ≤ N) := Lib.hid (by omega)
                have HLL : Hid (Lo.length ≤ 4096) := Lib.hid (by
                  have h1 := hLo.few
                  have h2 := hLo.files
                  rw [← h2, List.length_map] at h1
                  exact h1)
                rw [← hE]
                clear hxf2 hxc2 hxr2 hLo hown hdsz hdic hmle hE hm0 hrow2 hEl
                go_upto_region 17 with fail
                have HKEY : Hid (keyOf Try.prog 9 (.string nm) = some (.string x.f.name)) := Lib.hid (by rw [← HX.out.2.2.1]; exact WideMaps.keyOf_string_mk (P := Try.prog) Try.underlying9 (by unfold maxLen; omega))
                go_region_law (first | (go_simp; go_at_call 113; refine HCL.out.mono ?_; rintro e w5 ⟨v, rfl, hnb⟩; obtain ⟨oav, cv, hve, _⟩ := hnb.1.shape; rw [HEL.out] at hve; subst hve; have co5 : w5.cell? ⟨pb + 1 + 1, 0, none⟩ = some (.map (some (pb + 1))) := (by rw [← co]; exact cell_kept_at (hnb.2.2.block _ (HLO.out.low _ (HLO.out.foot _ (by simp [diskBlocks]))))); have co6 : ∀ o : Obj, (w5.alloc o).cell? ⟨pb + 1 + 1, 0, none⟩ = some (.map (some (pb + 1))) := (fun o => by rw [← co5]; exact cell_kept_at (Below.heap_alloc w5 o _ (Nat.lt_of_lt_of_le (HLO.out.low _ (HLO.out.foot _ (by simp [diskBlocks]))) hnb.2.2.size))); have HOW5 : Hid (w5.ownsMap Try.prog 9 ptrElem (pb + 1) Lo.length D) := Lib.hid (ownsMap_kept HOW.out.1 (hnb.2.2.block _ (HLO.out.low (pb + 1) (HLO.out.foot (pb + 1) (by simp [diskBlocks]))))); obtain ⟨w6, hmu, hown6, hg6⟩ := World.ownsMap.update (t := 120) (HOW5.out.alloc (.cells #[.slice oav E cv, .int .i64 E, .bool true, .bool true] 178)) (string_keyed Try.underlying9) Try.underlying120 (by unfold maxLen; have := HLL.out; omega) HKEY.out (ptrElem_mk w5.heap.size); have HNB := Lib.hid hnb; have HOW6 := Lib.hid hown6; have HG6 := Lib.hid hg6; clear hnb hown6 hg6))
                all_goals
                  have HN : Hid (CrashInv w3 w6 S q mb fv L d pb w.heap.size (j + 1) ps) := Lib.hid (by
                    have hg0 : cutF x.f m = ⟨x.f.name, x.f.bytes.take E, E, true, true⟩ := by unfold cutF; rw [HF.out.2.2.1, ← HEE.out]
                    have htf := take_files HI.out.pre.old.files hjL
                    rw [HX.out.1] at htf
                    have hlen : (crashTo (d.files.take j) ps).1.length < 4096 := by
                      have h1 := crashTo_length ps (d.files.take j) ([], ps)
                      rw [List.length_take] at h1
                      have h2 : (crashTo (d.files.take j) ps).1.length ≤ 0 + min j d.files.length := h1
                      omega
                    have hel := HEL.out
                    have ha := HPR2.out.add (g := ⟨x.f.name, x.f.bytes.take E, E, true, true⟩) HLO.out HOW.out.2 HNB.out HG6.out HOW6.out (by show E ≤ (x.f.bytes.take E).length; omega) (by show (x.f.bytes.take E).length ≤ 16777216; have := HEN.out; omega) HX.out.2.2.2 (fun g' hg' => crash_lt (f := x.f) HI.out.pre.old.sorted htf g' hg') hlen
                    have e : crashStep (crashTo (d.files.take j) ps) x.f = ((crashTo (d.files.take j) ps).1 ++ [⟨x.f.name, x.f.bytes.take E, E, true, true⟩], P2) := by
                      unfold crashStep
                      rw [HPP.out, HKP.out.1, HKP.out.2, HM.out.1, HM.out.2, hg0]
                      rfl
                    have hpb : pb + 1 < wc.heap.size := HLO.out.low (pb + 1) (HLO.out.foot (pb + 1) (by simp [diskBlocks]))
                    have hz := HZ.out
                    have hao := add_only HNB.out HG6.out
                    refine ⟨by rw [HTK.out, e]; exact ha, ?_, ?_⟩
                    · rw [HTK.out, e]
                      exact HC2.out.1.kept (fun k hk => hao.block k (by omega) (by omega))
                    · rw [HTK.out, e]
                      have := moreP_ok x.f HOK1.out
                      rw [HM.out.2] at this
                      exact this)
                  clear hmu co5 co6
                  go_wp2_with fail
                  exact ⟨⟨j + 1, by omega, by simp, HN⟩, by simp [intOf]; omega⟩
      · obtain rfl : j = n := by omega
        have HO : Hid (CrashIs w d ps (.returned (.tuple #[.pointer (some ⟨pb + 2, 0, none⟩), .int .i64 0])) wr) := Lib.hid (by
          have hs3 := HB3.out.size
          have hs2 := HS2.out
          have hz := HZ.out
          obtain ⟨Lo, hLo⟩ := HI.out.pre.new
          have hb : Below w.heap.size w wr := HB2.out.trans ((HB3.out.mono HB2.out.size).trans (HI.out.pre.only.below (fun i hi hk => by omega) (by omega)))
          refine .inr ⟨HGE.out, pb + 2, rfl, ⟨pb + 1, .slice none 0 0, Lo, ?_⟩, hb⟩
          have e : (⟨(crashTo (d.files.take j) ps).1, [], 0⟩ : Dk) = d.crash ps := by
            rw [List.take_of_length_le (by rw [← H2.out.files, List.length_map, HLN.out]; exact Nat.le_refl _)]; rfl
          rw [e] at hLo
          exact hLo.wider (fun k hk => ⟨by have := hk.1; omega, hk.2⟩) (fun k hk => hk.2))
        go_wp2_with fail
        go_ret2
        exact HO.out
end Go.Proofs.Ytmkjejngnahpeaa
