/- The texts Ku in one. -/
import Derived.Test.YtmkjejngnahpeaaY5
import Derived.Test.YtmkjejngnahpeaaZ2
/- law08: StopsNumbers, the walk. -/
namespace Go.Proofs.Ytmkjejngnahpeaa
open Go Go.Maps Go.RowKit
open Go.Proofs (encStr)

set_option maxRecDepth 100000 in
set_option maxHeartbeats 8000000 in
theorem stopsNumbers_walk {w : World} {v v1 : Value} {l : List OpT} {ps : List Int} (x : Int) (hs : OpsAt w v l) (hp : readAt w 1 v1 ps.length (intCells ps)) (hmx : ∀ y ∈ ps, y ≤ 9223372036854775807) (hx : x ≤ 9223372036854775807) (hx0 : -9223372036854775808 ≤ x) :
    Calls Try.prog 11 #[v, v1, .int .i64 x] w fun e w' => e = .returned (.bool true) ∧ Below w.heap.size w w' := by
  obtain ⟨ob, cb, rfl⟩ := hs.row.shape
  obtain ⟨oa, c, rfl⟩ := hp.shape
  obtain ⟨n, hn⟩ : ∃ n, l.length = n := ⟨_, rfl⟩
  obtain ⟨n1, hn1⟩ : ∃ n, ps.length = n := ⟨_, rfl⟩
  have HVB := vast8_b hs
  have HBO := fun h1 h2 => both_b hs h1 h2
  rw [hn] at HVB HBO ⊢
  rw [hn1] at hp ⊢
  obtain ⟨vt, hvt⟩ : ∃ b, vast8 l = b := ⟨_, rfl⟩
  rw [hvt] at HVB
  have HVB := Lib.hid HVB
  have HBO := Lib.hid HBO
  have HVT := Lib.hid hvt
  have HP := Lib.hid (And.intro hn1 (And.intro hp hmx))
  have HNN := Lib.hid hn
  clear hs hn hvt hp hmx hn1
  by_cases hbig : vt = true ∨ 300 < n1
  · have hg : (vt || decide ((300 : Int) < (n1 : Int))) = true := by
      rcases hbig with h | h
      · rw [h]; rfl
      · have : decide ((300 : Int) < (n1 : Int)) = true := by simp; omega
        rw [this]; simp
    clear hbig
    obtain ⟨b1, hb1⟩ : ∃ b, decide ((300 : Int) < (n1 : Int)) = b := ⟨_, rfl⟩
    rw [hb1] at hg
    cases vt <;> cases b1 <;> first
      | (exfalso; revert hg; decide)
      | (go_enter Try.func11, Try.ntmps11
         go_wp2_with (first | (go_at_call 70; refine HVB.out.mono ?_; rintro e w' ⟨rfl, hw'⟩; obtain rfl := hw'.symm) | (go_at_call 71; refine (known8_b _).mono ?_; rintro e w' ⟨rfl, hb⟩; have HB := Lib.hid hb; clear hb))
         go_ret
         exact ⟨rfl, HB.out⟩)
  · have hvf : vt = false := by cases vt; rfl; exact absurd (.inl rfl) hbig
    subst hvf
    have hd1 : decide ((300 : Int) < (n1 : Int)) = false := by simp; omega
    obtain ⟨h100, hlx⟩ := not_vast8 HVT.out
    have hn300 : n1 ≤ 300 := by omega
    have h100' := HNN.out ▸ h100
    have HBT := Lib.hid (HBO.out h100' hlx)
    clear hbig hlx h100 HBO
    go_enter Try.func11, Try.ntmps11
    go_wp2_with (go_at_call 70; refine HVB.out.mono ?_; rintro e w' ⟨rfl, hw'⟩; obtain rfl := hw'.symm)
    refine HBT.out.mono ?_
    rintro e w2 ⟨q, p, rfl, ⟨S1, S2, ht⟩⟩
    have hfa := opsT_fates l ⟨[], [], 0⟩ rfl
    obtain ⟨d, hd⟩ : ∃ d, Dk.opsT ⟨[], [], 0⟩ l = d := ⟨_, rfl⟩
    rw [hd] at ht hfa
    have HD := Lib.hid (And.intro ht.one (And.intro ht.two ht.below))
    have HF : Hid (d.fates.length ≤ 1000000000) := Lib.hid (by rw [hfa]; simp)
    have hP : ∃ P er, PicksTold d ps P er ∧ (er = 0 ∨ er = 2) := by
      by_cases hg : AllGe ps
      · exact ⟨_, 0, .inl ⟨hg, rfl, rfl⟩, .inl rfl⟩
      · exact ⟨_, 2, .inr ⟨hg, rfl, rfl⟩, .inr rfl⟩
    obtain ⟨P, er, hP, her⟩ := hP
    have HPT := Lib.hid (And.intro hP her)
    clear ht hfa hd HBT HVB hP her hd1 h100'
    go_wp2_with fail
    refine (refWays_b HD.out.2.1).mono ?_
    rintro e w3 ⟨rfl, hb3⟩
    obtain ⟨wy, hwy⟩ : ∃ k : Int, (waysV d : Int) = k := ⟨_, rfl⟩
    have HWY := Lib.hid hwy
    rw [hwy]
    have HB3 := Lib.hid hb3
    clear hb3 hwy
    go_wp2_with fail
    refine (sCount_b (HD.out.1.below HB3.out) HF.out).mono ?_
    rintro e w4 ⟨rfl, hb4⟩
    obtain ⟨cv, hcv⟩ : ∃ k : Int, (countV d).1 = .int .i64 k := by
      unfold countV cntV
      split
      · exact ⟨_, rfl⟩
      · exact ⟨_, rfl⟩
    obtain ⟨ce, hce⟩ : ∃ k : Int, (countV d).2 = k := ⟨_, rfl⟩
    have HCV := Lib.hid (And.intro hcv hce)
    rw [hcv, hce]
    have HB4 := Lib.hid (HB3.out.trans (hb4.mono HB3.out.size))
    clear hb4 hcv hce
    have hone : ∀ v ∈ intCells ps, v.oneCell' = true := fun v hv => by
      obtain ⟨y, _, rfl⟩ := List.mem_map.1 hv
      rfl
    have hone2 : ∀ v ∈ ([.int .i64 4242] : List Value), v.oneCell' = true := fun v hv => by
      rw [List.mem_singleton] at hv
      subst hv
      rfl
    have hbw4 : Below w.heap.size w w4 := HD.out.2.2.trans (HB4.out.mono HD.out.2.2.size)
    have hpr4 : readAt w4 1 (.slice oa n1 c) n1 (intCells ps) := HP.out.2.1.kept (fun k hk _ _ => hbw4.block k hk)
    have hnil : rowAt w4 3 1 (.slice none 0 0) 0 [] := ⟨rfl, .inl ⟨rfl, rfl⟩⟩
    have HA := Lib.hid (And.intro hpr4 (And.intro hnil (And.intro hone hone2)))
    clear hone hone2 hbw4 hpr4 hnil
    go_upto_region 7 with (at_builtin; first | (refine wpList_append_at w4 rfl (.const (.slice none 0 0)) (.tmp 50) 32 32 rfl 3 (.int .i64 0) 1 8 Try.underlying32 info_int rfl (.slice none 0 0) 0 [] (by rfl) HA.out.2.1 (.slice oa n1 c) n1 (intCells ps) (by rfl) (Src.of_read Try.underlying32 HA.out.1 HA.out.2.2.1) (by unfold maxLen; omega) (by omega) ?_; intro v5 w5 hr5 hg5 ho5 hnn5; rw [Nat.zero_add, List.nil_append] at hr5; obtain ⟨o5, c5, hv5, hc5⟩ := hr5.shape; subst hv5; have HR5 := Lib.hid (And.intro hr5 (And.intro hg5 ho5)); clear hr5 hg5 ho5 hnn5 hc5) | (refine wpList_append_one rfl (.tmp 51) (.tmp 52) 32 3 rfl Try.underlying32 info_int rfl (by omega) HR5.out.1 (by omega) [.int .i64 4242] rfl HA.out.2.2.2 (by rfl) (by rfl) ?_; intro o6 c6 w6 HR6 HG6 HO6; have hc6 : n1 + 1 ≤ c6 := HR6.out.read.cap; have hsl := itake_run (oa := o6) (n := n1 + 1) (c := c6) n1 (by omega) (add_zero_map o6)))
    have hb46 : Below w4.heap.size w4 w6 := by
      have h5 : Below w4.heap.size w4 w5 := (Below.refl _ _).grown HR5.out.2.1 (Nat.le_refl _) (fun k e => by simp [Value.ownBlock] at e)
      refine (h5.alloc h5.size _).grown HG6.out (h5.alloc h5.size _).size (fun k e => ?_)
      rcases HR5.out.2.2 with h | h
      · rw [e] at h
        simp [Value.ownBlock] at h
      · rw [e] at h
        simp only [Option.some.injEq] at h
        omega
    have hm6 : readAt w6 1 (.slice o6 n1 c6) n1 (intCells ps) := by
      have h1 := HR6.out.read.take n1 (by omega)
      have e : (intCells ps ++ [Value.int .i64 4242]).take (n1 * 1) = intCells ps := by
        rw [Nat.mul_one, List.take_append_of_le_length (by unfold intCells; rw [List.length_map, HP.out.1]; exact Nat.le_refl _)]
        exact List.take_of_length_le (by unfold intCells; rw [List.length_map, HP.out.1]; exact Nat.le_refl _)
      rwa [e] at h1
    have H6 := Lib.hid (And.intro (HB4.out.trans (hb46.mono HB4.out.size)) (And.intro hm6 HR6.out))
    have HC6 := Lib.hid hc6
    clear hb46 hm6 hsl HA hc6
    go_wp2_with fail
    refine (sPlain_u HPT.out.1 (HD.out.1.below H6.out.1) HF.out HP.out.1 H6.out.2.1 (by omega) HP.out.2.2).mono ?_
    rintro e w7 ⟨o7, m7, c7, rfl, hm7, hr7, hb7⟩
    obtain ⟨w8, hw8⟩ : ∃ W : World, W = w7.alloc (.cells #[.slice o7 m7 c7] 72) := ⟨_, rfl⟩
    obtain ⟨b13, hb13⟩ : ∃ b, b = w7.heap.size := ⟨_, rfl⟩
    have h813 : w8.heap[b13]? = some (.cells #[.slice o7 m7 c7] 72 (0, 0)) := by rw [hw8, hb13]; exact alloc_cells _ _ _
    have hb78 : Below w7.heap.size w7 w8 := by rw [hw8]; exact (Below.refl _ _).alloc (Nat.le_refl _) _
    have hb68 := hb7.trans (hb78.mono hb7.size)
    have H8 := Lib.hid (And.intro (H6.out.1.trans (hb68.mono H6.out.1.size)) (And.intro (H6.out.2.1.kept (fun k hk _ _ => hb68.block k hk)) (And.intro (H6.out.2.2.kept (fun k hk => hb68.block k (H6.out.2.2.lt k hk))) (And.intro h813 (And.intro hm7 (hr7.kept (fun k hk _ _ => hb78.block k hk)))))))
    go_upto_region 8 with fail
    rw [← hw8, ← hb13]
    clear hw8 hb13 h813 hb78 hb68 hm7 hr7 hb7 HR5 HR6 HG6 HO6 H6
    go_wp2_with fail
    refine (sNumber_u (HD.out.1.below H8.out.1) HF.out HP.out.1 H8.out.2.1 (by omega) HP.out.2.2).mono ?_
    rintro e w9 ⟨kn, gn, rfl, HKN, hb9⟩
    have H9 := Lib.hid (And.intro (H8.out.1.trans (hb9.mono H8.out.1.size)) (And.intro (H8.out.2.1.kept (fun k hk _ _ => hb9.block k hk)) (And.intro (H8.out.2.2.1.kept (fun k hk => hb9.block k (H8.out.2.2.1.lt k hk))) (And.intro ((hb9.block b13 (Array.getElem?_eq_some_iff.1 H8.out.2.2.2.1).1).trans H8.out.2.2.2.1) (And.intro H8.out.2.2.2.2.1 (H8.out.2.2.2.2.2.kept (fun k hk _ _ => hb9.block k hk)))))))
    clear hb9 H8
    go_wp2_with fail
    refine (sAt_b (HD.out.1.below H9.out.1) HF.out x hx).mono ?_
    rintro e w10 ⟨oq, nq, cq, rfl, hnq, hnr⟩
    obtain ⟨aq, haq⟩ : ∃ k : Int, (atV d x).2 = k := ⟨_, rfl⟩
    rw [haq]
    obtain ⟨w11, hw11⟩ : ∃ W : World, W = w10.alloc (.cells #[.slice oq nq cq] 72) := ⟨_, rfl⟩
    obtain ⟨b17, hb17⟩ : ∃ b, b = w10.heap.size := ⟨_, rfl⟩
    have h1117 : w11.heap[b17]? = some (.cells #[.slice oq nq cq] 72 (0, 0)) := by rw [hw11, hb17]; exact alloc_cells _ _ _
    have hb1011 : Below w10.heap.size w10 w11 := by rw [hw11]; exact (Below.refl _ _).alloc (Nat.le_refl _) _
    have hb911 := hnr.below.trans (hb1011.mono hnr.below.size)
    have H11 := Lib.hid (And.intro (H9.out.1.trans (hb911.mono H9.out.1.size)) (And.intro (H9.out.2.1.kept (fun k hk _ _ => hb911.block k hk)) (And.intro (H9.out.2.2.1.kept (fun k hk => hb911.block k (H9.out.2.2.1.lt k hk))) (And.intro ((hb911.block b13 (Array.getElem?_eq_some_iff.1 H9.out.2.2.2.1).1).trans H9.out.2.2.2.1) (And.intro H9.out.2.2.2.2.1 (H9.out.2.2.2.2.2.kept (fun k hk _ _ => hb911.block k hk)))))))
    have HQ := Lib.hid (And.intro hnq (And.intro haq (And.intro h1117 (hnr.row.kept (fun k hk => hb1011.block k (hnr.row.lt k hk))))))
    go_upto_region 10 with fail
    rw [← hw11, ← hb17]
    clear hw11 hb17 h1117 hb1011 hb911 hnq haq hnr H9
    have hbw11 : Below w.heap.size w w11 := HD.out.2.2.trans (H11.out.1.mono HD.out.2.2.size)
    have HPR := Lib.hid (And.intro hbw11 (HP.out.2.1.kept (fun k hk _ _ => hbw11.block k hk)))
    clear hbw11
    go_wp2_with fail
    refine (refCrash_u HPT.out.1 (HD.out.2.1.below H11.out.1) HP.out.1 HPR.out.2 (by omega) HP.out.2.2).mono ?_
    rintro e w12 ⟨vc0, oc, mc, cc, vc2, rfl, hmc, hrc, hb12⟩
    have h1213 := (hb12.block b13 (Array.getElem?_eq_some_iff.1 H11.out.2.2.2.1).1).trans H11.out.2.2.2.1
    have h1217 := (hb12.block b17 (Array.getElem?_eq_some_iff.1 HQ.out.2.2.1).1).trans HQ.out.2.2.1
    have hsm := psame_b HP.out.1 HP.out.1 (H11.out.2.1.kept (fun k hk _ _ => hb12.block k hk)) (HPR.out.2.kept (fun k hk _ _ => hb12.block k hk)) (by omega)
    rw [decide_eq_true rfl] at hsm
    have HSM := Lib.hid hsm
    have H12 := Lib.hid (And.intro (H11.out.1.trans (hb12.mono H11.out.1.size)) (And.intro (H11.out.2.2.1.kept (fun k hk => hb12.block k (H11.out.2.2.1.lt k hk))) (And.intro h1213 (And.intro h1217 (And.intro (H11.out.2.2.2.2.2.kept (fun k hk _ _ => hb12.block k hk)) (And.intro hrc (And.intro hmc (And.intro H11.out.2.2.2.2.1 (HQ.out.2.2.2.kept (fun k hk => hb12.block k (HQ.out.2.2.2.lt k hk)))))))))))
    clear h1213 h1217 hsm hmc hrc hb12 HPR
    go_wp2_with fail
    refine HSM.out.mono ?_
    rintro e w13 ⟨rfl, hb13'⟩
    have hc6 := HC6.out
    have hsl2 : ∀ W : World, (Instr.slice 32 (.slice o6 n1 c6) none (some (.int .i64 ((n1 : Int) + 1))) none).run Try.prog W = .ok (.slice o6 (n1 + 1) c6) W := fun W => by
      have := itake_run (oa := o6) (n := n1) (c := c6) (n1 + 1) (by omega) (add_zero_map o6) W
      simpa using this
    have hrow13 := H12.out.2.1.kept (fun k hk => hb13'.block k (H12.out.2.1.lt k hk))
    obtain ⟨g6, off6, rfl⟩ := hrow13.addr (by omega)
    have k42 : w13.cell? ⟨g6, off6 + n1, none⟩ = some (.int .i64 4242) := hrow13.read.cellAt (i := n1) (by rw [List.getElem?_append_right (by unfold intCells; rw [List.length_map, HP.out.1]; exact Nat.le_refl _)]; unfold intCells; rw [List.length_map, HP.out.1, Nat.sub_self]; rfl)
    have h1313 := (hb13'.block b13 (Array.getElem?_eq_some_iff.1 H12.out.2.2.1).1).trans H12.out.2.2.1
    have k13 : w13.cell? ⟨b13, 0, none⟩ = some (.slice o7 m7 c7) := cell_of h1313 rfl
    have hPl : m7 ≤ 1000000 := by
      rw [← H12.out.2.2.2.2.2.2.2.1]
      rcases HPT.out.1 with ⟨_, _, e⟩ | ⟨_, _, e⟩
      · rw [e]
        unfold ints
        rw [List.length_map]
        have h1 := (plainT_len (unsT d.files) ⟨[], [], ps⟩).2
        have h4 : plainT (unsT d.files) ps = (unsT d.files).foldl plainStep ⟨[], [], ps⟩ := rfl
        have h5 := unsT_len d.files
        have h6 := HD.out.1.sizes.1
        rw [← h4] at h1
        simp only [List.length_nil] at h1
        omega
      · rw [e]; simp
    have hsm2 := psame_b H12.out.2.2.2.2.2.2.2.1 H12.out.2.2.2.2.2.2.1 (H12.out.2.2.2.2.1.kept (fun k hk _ _ => hb13'.block k hk)) (H12.out.2.2.2.2.2.1.kept (fun k hk _ _ => hb13'.block k hk)) hPl
    rw [decide_eq_true rfl] at hsm2
    have HSM2 := Lib.hid hsm2
    have H13 := Lib.hid (And.intro (H12.out.1.trans (hb13'.mono H12.out.1.size)) (And.intro ((hb13'.block b17 (Array.getElem?_eq_some_iff.1 H12.out.2.2.2.1).1).trans H12.out.2.2.2.1) (H12.out.2.2.2.2.2.2.2.2.kept (fun k hk => hb13'.block k (H12.out.2.2.2.2.2.2.2.2.lt k hk)))))
    clear hrow13 h1313 hsm2 hPl hc6 hb13' HSM
    go_wp2_with fail
    refine HSM2.out.mono ?_
    rintro e w14 ⟨rfl, hb14⟩
    have H14 := Lib.hid (And.intro (H13.out.1.trans (hb14.mono H13.out.1.size)) (And.intro ((hb14.block b17 (Array.getElem?_eq_some_iff.1 H13.out.2.1).1).trans H13.out.2.1) (H13.out.2.2.kept (fun k hk => hb14.block k (H13.out.2.2.lt k hk)))))
    have k17 : w14.cell? ⟨b17, 0, none⟩ = some (.slice oq nq cq) := cell_of H14.out.2.1 rfl
    clear hb14 k42 k13 hsl2 HSM2 H13 H12
    have hkn : (er = 0 ∧ gn = (numV d ps).2 ∧ kn = (numV d ps).1) ∨ (er = 2 ∧ gn = 2 ∧ kn = 0) := by
      rcases HKN.out with ⟨h1, h2, h3⟩ | ⟨h1, h2, h3⟩
      · rcases HPT.out.1 with ⟨_, h4, _⟩ | ⟨h4, _, _⟩
        · exact .inl ⟨h4, h3, h2⟩
        · exact absurd h1 h4
      · rcases HPT.out.1 with ⟨h4, _, _⟩ | ⟨_, h4, _⟩
        · exact absurd h4 h1
        · exact .inr ⟨h4, h3, h2⟩
    have HE : Hid (Below w.heap.size w w14) := Lib.hid (HD.out.2.2.trans (H14.out.1.mono HD.out.2.2.size))
    have hcv := HCV.out
    have hwv := HWY.out
    have hqv := HQ.out.1
    have haq := HQ.out.2.1
    cases hc : countT (unsT d.files) with
    | none =>
      have hnv : numV d ps = (0, 3) := by unfold numV; rw [hc]
      have hw2 : wy = 4611686018427387905 := by rw [← hwv]; unfold waysV; rw [hc]; rfl
      have hcv0 : cv = 0 ∧ ce = 3 := by
        unfold countV at hcv
        rw [hc] at hcv
        obtain ⟨h1, h2⟩ := hcv
        have h1' : Value.int .i64 0 = Value.int .i64 cv := h1
        simp only [Value.int.injEq, true_and] at h1'
        exact ⟨h1'.symm, h2.symm⟩
      have hq : nq = 0 ∧ ((x < 0 ∧ aq = 2) ∨ (¬ x < 0 ∧ aq = 3)) := by
        by_cases hneg : x < 0
        · have : atV d x = ([], 2) := by unfold atV; rw [if_pos hneg]
          rw [this] at hqv haq
          exact ⟨hqv.symm, .inl ⟨hneg, haq.symm⟩⟩
        · have : atV d x = ([], 3) := by unfold atV; rw [if_neg hneg, hc]
          rw [this] at hqv haq
          exact ⟨hqv.symm, .inr ⟨hneg, haq.symm⟩⟩
      rw [hnv] at hkn
      obtain ⟨hq0, hq1⟩ := hq
      obtain ⟨hcv1, hcv2⟩ := hcv0
      clear hc hnv hcv hwv hqv haq HKN HPT HQ HCV HWY
      subst hq0 hcv1 hcv2 hw2
      rcases hkn with ⟨h1, h2, h3⟩ | ⟨h1, h2, h3⟩ <;> rcases hq1 with ⟨hneg, h4⟩ | ⟨hneg, h4⟩
      all_goals
        subst h1 h2 h3 h4
        go_wp2_with (go_at_call 71; refine (known8_b _).mono ?_; rintro e w' ⟨rfl, hb⟩; have HBK := Lib.hid (HE.out.trans (hb.mono HE.out.size)); clear hb)
        go_ret
        exact ⟨rfl, HBK.out⟩
    | some c0 =>
      obtain ⟨k0, hnv, hk0⟩ := num_lt hc ps
      have hw2 : wy = (c0 : Int) := by rw [← hwv]; unfold waysV; rw [hc]
      have hc62 := countT_most hc
      have hcv0 : cv = (c0 : Int) ∧ ce = 0 := by
        unfold countV at hcv
        rw [hc] at hcv
        obtain ⟨h1, h2⟩ := hcv
        have h1' : Value.int .i64 (c0 : Int) = Value.int .i64 cv := h1
        simp only [Value.int.injEq, true_and] at h1'
        exact ⟨h1'.symm, h2.symm⟩
      have hc63 : (c0 : Int) ≤ 4611686018427387904 := by unfold most62 at hc62; omega
      have HC := Lib.hid hc
      rw [hnv] at hkn
      obtain ⟨hcv1, hcv2⟩ := hcv0
      have hk1 : (k0 : Int) < (c0 : Int) := by omega
      by_cases hin : 0 ≤ x ∧ x < (c0 : Int)
      · obtain ⟨y, rfl⟩ : ∃ y : Nat, x = (y : Int) := ⟨x.toNat, by omega⟩
        have hyc : y < c0 := by omega
        have hat := at_in hc hyc
        rw [hat] at hqv haq
        have hqr := H14.out.2.2
        rw [hat] at hqr
        have hpe := picksOf_eq (unsT d.files) y
        obtain ⟨qs, hqs⟩ : ∃ qs, picksOf (unsT d.files) y = qs := ⟨_, rfl⟩
        rw [hqs] at hpe
        have hqr2 : rowAt w14 3 1 (.slice oq nq cq) nq (intCells qs) := by rw [hpe, ← natCells_int]; exact hqr
        have hql : qs.length = nq := by rw [hpe]; unfold ints; rw [List.length_map]; exact hqv
        have hul : (unsT d.files).length ≤ 4096 := by have := unsT_len d.files; have := HD.out.1.sizes.1; omega
        have hum := unsT_more (fun f hf => (HD.out.1.sizes.2 f hf).2)
        have hqn : nq ≤ 10000 := by rw [← hql, ← hqs]; exact picksOf_len hul y
        have hqm : ∀ z ∈ qs, z ≤ 9223372036854775807 := fun z hz => by rw [← hqs] at hz; have := picksOf_max hum y z hz; omega
        have hqg : AllGe qs := by rw [← hqs]; exact picksOf_ge _ y
        have hpw := plain_way (unsT d.files) y
        rw [hqs] at hpw
        have hpt : PicksTold d qs qs 0 := .inl ⟨hqg, rfl, by rw [hpw]; exact hpe⟩
        have hnw := num_way hc (j := y) (by have := countT_prod _ 1 c0 hc; rw [Nat.one_mul] at this; rw [← this]; exact hyc)
        rw [hqs] at hnw
        have HQS := Lib.hid (And.intro hql (And.intro hqr2 (And.intro hqm (And.intro hqg (And.intro hpt hnw)))))
        have hHR := Lib.hid (refCrash_u hpt (HD.out.2.1.below H14.out.1) hql hqr2.read (by omega) hqm)
        have haq0 : aq = 0 := haq.symm
        clear hc hnv hcv hwv hqv haq HKN HPT HQ HCV HWY hat hqr hpe hqs hqr2 hql hul hum hqm hqg hpw hpt hnw hc62 hk0
        subst haq0 hcv1 hcv2 hw2
        rcases hkn with ⟨h1, h2, h3⟩ | ⟨h1, h2, h3⟩
        all_goals
          subst h1 h2 h3
          go_wp2_with fail
          refine hHR.out.mono ?_
          rintro e w15 ⟨vd0, od, md, cd, vd2, rfl, hmd, hrd, hb15⟩
          have k17' : w15.cell? ⟨b17, 0, none⟩ = some (.slice oq nq cq) := cell_of ((hb15.block b17 (Array.getElem?_eq_some_iff.1 H14.out.2.1).1).trans H14.out.2.1) rfl
          have H15 := Lib.hid (And.intro (H14.out.1.trans (hb15.mono H14.out.1.size)) (And.intro (HQS.out.2.1.kept (fun k hk => hb15.block k (HQS.out.2.1.lt k hk))) (And.intro hrd hmd)))
          have hNB := sNumber_b (HD.out.1.below H15.out.1) HF.out HQS.out.1 H15.out.2.1.read (by omega) HQS.out.2.2.1 HQS.out.2.2.2.1
          rw [HQS.out.2.2.2.2.2] at hNB
          have HNB := Lib.hid hNB
          clear hb15 hrd hmd hNB k17
          go_wp2_with fail
          refine HNB.out.mono ?_
          rintro e w16 ⟨rfl, hb16⟩
          have k17 : w16.cell? ⟨b17, 0, none⟩ = some (.slice oq nq cq) := (hb16.cell (p := ⟨b17, 0, none⟩) (World.block_lt_of_cell? _ _ k17')).trans k17'
          have hsq := psame_b HQS.out.1 H15.out.2.2.2 (H15.out.2.1.read.kept (fun k hk _ _ => hb16.block k hk)) (H15.out.2.2.1.kept (fun k hk _ _ => hb16.block k hk)) (by omega)
          rw [decide_eq_true rfl] at hsq
          have HSQ := Lib.hid hsq
          have H16 := Lib.hid (H15.out.1.trans (hb16.mono H15.out.1.size))
          clear hb16 hsq k17' HNB
          go_wp2_with fail
          refine HSQ.out.mono ?_
          rintro e w17 ⟨rfl, hb17'⟩
          have HE17 : Hid (Below w.heap.size w w17) := Lib.hid (HD.out.2.2.trans ((H16.out.trans (hb17'.mono H16.out.size)).mono HD.out.2.2.size))
          clear hb17' HSQ k17
          go_wp2_with fail
          refine (known8_b _).mono ?_
          rintro e w18 ⟨rfl, hb18⟩
          have HE18 := Lib.hid (HE17.out.trans (hb18.mono HE17.out.size))
          clear hb18
          go_wp2_with fail
          go_ret
          exact ⟨rfl, HE18.out⟩
      · have hq : nq = 0 ∧ ((x < 0 ∧ aq = 2) ∨ (¬ x < 0 ∧ (c0 : Int) ≤ x ∧ aq = 4)) := by
          by_cases hneg : x < 0
          · have : atV d x = ([], 2) := by unfold atV; rw [if_pos hneg]
            rw [this] at hqv haq
            exact ⟨hqv.symm, .inl ⟨hneg, haq.symm⟩⟩
          · have h2 : (c0 : Int) ≤ x := by omega
            have : atV d x = ([], 4) := by
              unfold atV
              rw [if_neg hneg, hc]
              show (if c0 ≤ x.toNat then _ else _) = _
              rw [if_pos (by omega)]
            rw [this] at hqv haq
            exact ⟨hqv.symm, .inr ⟨hneg, h2, haq.symm⟩⟩
        obtain ⟨hq0, hq1⟩ := hq
        clear hc hnv hcv hwv hqv haq HKN HPT HQ HCV HWY hc62 hk0 hin
        subst hq0 hcv1 hcv2 hw2
        rcases hkn with ⟨h1, h2, h3⟩ | ⟨h1, h2, h3⟩ <;> rcases hq1 with ⟨hneg, h4⟩ | ⟨hneg, hge, h4⟩
        all_goals
          subst h1 h2 h3 h4
          go_wp2_with (go_at_call 71; refine (known8_b _).mono ?_; rintro e w' ⟨rfl, hb⟩; have HBK := Lib.hid (HE.out.trans (hb.mono HE.out.size)); clear hb)
          go_ret
          exact ⟨rfl, HBK.out⟩
end Go.Proofs.Ytmkjejngnahpeaa
