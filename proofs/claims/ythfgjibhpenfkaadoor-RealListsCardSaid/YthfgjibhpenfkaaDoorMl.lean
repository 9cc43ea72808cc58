/- RealLists: its walk. -/
import Derived.Test.YthfgjibhpenfkaaDoorMk
import Derived.Test.YthfgjibhpenfkaaDoorLv
namespace Go.Proofs.YthfgjibhpenfkaaDoor
open Go.RowKit Fl

set_option maxRecDepth 100000 in
set_option maxHeartbeats 4000000 in
theorem realLists_walk (oa : Option Addr) (n c : Nat) (f : Nat → Nat) (x : Nat) (k : Int) (w : World) (hf : FloatsAt w oa n f) (ho : oa = none → c = 0) (hc : n ≤ c) (hx : x < 18446744073709551616) (ht : Pow10 w) :
    Calls Tryd.prog 7 #[.slice oa n c, .float .f64 x, .int .i64 k] w fun e w' => e = .returned (.bool true) ∧ Below w.heap.size w w' := by
  have HX := Lib.hid hx
  have HT := Lib.hid ht
  have HF := Lib.hid hf
  have HO := Lib.hid (And.intro ho hc)
  clear hx ht hf ho hc
  by_cases hn : 200 < n
  · have hd : decide ((200 : Int) < (n : Int)) = true := by simp; omega
    go_enter Tryd.func7, Tryd.ntmps7
    go_wp2_with fail
    refine (works_any _ HT.out).mono ?_
    rintro e w2 ⟨rfl, hb2⟩
    go_wp2_with fail
    go_ret
    exact ⟨rfl, hb2⟩
  · have hd : decide ((200 : Int) < (n : Int)) = false := by simp; omega
    have hnn : n ≤ 200 := by omega
    have HN : Hid (n ≤ 200) := Lib.hid hnn
    have hwn : IntKind.i64.wrap ((n : Int) + 1) = (n : Int) + 1 := IntWalk.i64_in _ (by omega)
    clear hn
    go_enter Tryd.func7, Tryd.ntmps7
    go_wp2_with (at_builtin; refine wpList_append_row _ rfl (.tmp 25) (.tmp 26) 22 22 rfl w.heap.size 26 (.float .f64 0) 1 8 Tryd.underlying22 info_fl rfl _ 0 _ rfl (emptyRowS w _ _) _ n (flL f n) rfl (srcF (HF.out.below (below_alloc w _)) HO.out.1 HO.out.2) ?_ ?_ ?_ ?_)
    · unfold maxLen; omega
    · omega
    · simp
    intro v1 w1 hr1 hg1 _
    have hb1 : Below w.heap.size w w1 := (below_alloc w _).grown hg1 (by simp) (fun k hk => by simp [Value.ownBlock] at hk; omega)
    obtain ⟨o1, c1, rfl⟩ := row_anyR hr1
    have HR1 := Lib.hid (And.intro hr1 hb1)
    clear hr1 hb1 hg1
    go_wp2_with (at_builtin; refine wpList_append_row _ rfl (.tmp 27) (.tmp 28) 22 22 rfl w.heap.size 26 (.float .f64 0) 1 8 Tryd.underlying22 info_fl rfl _ n (flL f n) rfl (HR1.out.1.alloc _) _ 1 [.float .f64 4631107791820423168] rfl (Src.slice Tryd.underlying22 ⟨w1.heap.size, 0, none⟩ 1 1 _ rfl (news1 w1 _ _) (fun v hv => by rw [List.mem_singleton.1 hv]; rfl)) ?_ ?_ ?_ ?_)
    · unfold maxLen; omega
    · omega
    · have := HR1.out.2.size; simp; omega
    intro v2 w2 hr2 hg2 _
    have hb2 : Below w.heap.size w w2 := (HR1.out.2.alloc HR1.out.2.size _).grown hg2 (by have := HR1.out.2.size; simp; omega) (fun k hk => (HR1.out.1.lt k hk).1)
    obtain ⟨gm, cm, rfl⟩ := row_formR hr2 (by omega)
    have he2 : flL f n ++ [.float .f64 4631107791820423168] = flL (fun j => if j < n then f j else 4631107791820423168) (n + 1) := by
      rw [flL_succ, flL_congr (o := fun j => if j < n then f j else 4631107791820423168) (o' := f) (n := n) (fun j hj => by simp [hj])]
      simp
    rw [he2] at hr2
    have hcm : n + 1 ≤ cm := by
      obtain ⟨_, ⟨h0, _⟩ | ⟨g', c', cur, fr, hv, _, _, hc', _⟩⟩ := hr2
      · simp at h0
      · simp only [Value.slice.injEq] at hv
        omega
    have h42 : w2.cell? ⟨gm, n, none⟩ = some (.float .f64 4631107791820423168) := by
      have := row_cellR hr2 (show n < n + 1 by omega)
      simpa using this
    have hgm := (hr2.lt gm rfl).2
    have hfm : FloatsAt w2 (some ⟨gm, 0, none⟩) n f := fun j hj => by
      have := row_cellR hr2 (show j < n + 1 by omega)
      rw [if_pos hj] at this
      exact ⟨_, rfl, by rw [Go.WideShapes.add_plain, Nat.zero_add]; exact this, hgm, HF.out.lt hj⟩
    have HFM := Lib.hid hfm
    have HB2 := Lib.hid hb2
    have HGM := Lib.hid hgm
    have H42 := Lib.hid h42
    have hnc : (n : Int) ≤ (cm : Int) := by omega
    have hnc1 : (n : Int) + 1 ≤ (cm : Int) := by omega
    clear hr2 hb2 hg2 he2 hfm hgm h42 HR1
    go_wp2_with fail
    refine (sort_any _ n cm f _ HFM.out (by omega) (fun h => by simp at h)).mono ?_
    rintro e w3 ⟨so, cs, rfl, hs3, hb3⟩
    have HB3 : Hid (Below w.heap.size w w3 ∧ Below w2.heap.size w2 w3) := Lib.hid ⟨HB2.out.trans (hb3.mono HB2.out.size), hb3⟩
    have HS3 := Lib.hid hs3
    clear hs3 hb3
    go_wp2_with fail
    refine (refsorted_b oa n c f _ (HF.out.below HB3.out.1) (by omega)).mono ?_
    rintro e w4 ⟨ob, cb, o, rfl, ho4, hr4, hc4, hb4⟩
    have HB4 : Hid (Below w.heap.size w w4 ∧ Below w2.heap.size w2 w4 ∧ Below w3.heap.size w3 w4) := Lib.hid ⟨HB3.out.1.trans (hb4.mono HB3.out.1.size), HB3.out.2.trans (hb4.mono HB3.out.2.size), hb4⟩
    have HO4 := Lib.hid (And.intro ho4 (And.intro hr4 hc4))
    clear ho4 hr4 hc4 hb4
    go_wp2_with fail
    refine (least_any _ n cm f _ (HFM.out.below HB4.out.2.1) (by omega)).mono ?_
    rintro e w' ⟨lo, rfl, rfl, hlo⟩
    have HLO := Lib.hid hlo
    clear hlo
    go_wp2_with fail
    refine (greatest_any _ n cm f _ (HFM.out.below HB4.out.2.1) (by omega)).mono ?_
    rintro e w' ⟨hi, rfl, rfl, hhi⟩
    have HHI := Lib.hid hhi
    clear hhi
    go_wp2_with fail
    refine (nth_total k _ n cm f _ (HFM.out.below HB4.out.2.1) (by omega) (fun h => by simp at h)).mono ?_
    rintro e w5 ⟨yv, er, rfl, hy64, hy, hb5⟩
    have HB5 : Hid (Below w.heap.size w w5 ∧ Below w2.heap.size w2 w5 ∧ Below w3.heap.size w3 w5 ∧ Below w4.heap.size w4 w5) := Lib.hid ⟨HB4.out.1.trans (hb5.mono HB4.out.1.size), HB4.out.2.1.trans (hb5.mono HB4.out.2.1.size), HB4.out.2.2.trans (hb5.mono HB4.out.2.2.size), hb5⟩
    have HY := Lib.hid (And.intro hy64 hy)
    clear hy64 hy hb5
    have hsame : ∀ i, i < n → placeW (sF f n i) = placeW (o i) := same_places (sF_rises f n) HO4.out.2.1 (fun y => by rw [cnt_sorted f n y (fun i hi => HF.out.lt hi), HO4.out.2.2 y])
    have HSM := Lib.hid hsame
    clear hsame
    go_wp2_with fail
    refine (alike_b so ob n cs cb (sF f n) o _ (HS3.out.below HB5.out.2.2.1) (HO4.out.1.below HB5.out.2.2.2) (by omega) HSM.out).mono ?_
    rintro e w6 ⟨rfl, h6, hb6⟩
    have HB6 : Hid (Below w.heap.size w w6 ∧ Below w2.heap.size w2 w6 ∧ Below w4.heap.size w4 w6) := Lib.hid ⟨HB5.out.1.trans (hb6.mono HB5.out.1.size), HB5.out.2.1.trans (hb6.mono HB5.out.2.1.size), HB5.out.2.2.2.trans (hb6.mono HB5.out.2.2.2.size)⟩
    clear h6 hb6
    go_wp2_with fail
    refine (num_any _ _).mono ?_
    rintro e w' ⟨rfl, rfl⟩
    go_wp2_with fail
    refine (alike_b (some ⟨gm, 0, none⟩) oa n cm c f f _ (HFM.out.below HB6.out.2.1) (HF.out.below HB6.out.1) (by omega) (fun _ _ => rfl)).mono ?_
    rintro e w7 ⟨rfl, h7, hb7⟩
    have HB7 : Hid (Below w.heap.size w w7 ∧ Below w2.heap.size w2 w7 ∧ Below w4.heap.size w4 w7) := Lib.hid ⟨HB6.out.1.trans (hb7.mono HB6.out.1.size), HB6.out.2.1.trans (hb7.mono HB6.out.2.1.size), HB6.out.2.2.trans (hb7.mono HB6.out.2.2.size)⟩
    clear h7 hb7
    have h42 : w7.cell? ⟨gm, n, none⟩ = some (.float .f64 4631107791820423168) := (HB7.out.2.1.cell (p := ⟨gm, n, none⟩) HGM.out).trans H42.out
    have o42 : FloatKind.f64.format.order 4631107791820423168 4631107791820423168 = some .eq := by decide +kernel
    have hni : (n : Int) < (n : Int) + 1 := by omega
    go_upto_region 11 with fail
    go_upto_if 97 with fail
    go_cut [97] from 95 to 122 (fun s97 wx => w7 = wx)
    case first =>
      --(
      by_cases h0 : n = 0
      · have hdA : ((n : Int) == 0) = true := by rw [h0]; rfl
        have hdB : decide (n = 0) = true := decide_eq_true h0
        have l1 : (placeW lo == placeW 0) = true := by rw [HLO.out.2.1 h0]; simp
        have l2 : (placeW hi == placeW 0) = true := by rw [HHI.out.2.1 h0]; simp
        clear h0
        go_wp2_with (first | (go_at_call 21; refine (reflike_any lo 0 _ HLO.out.1 (by decide)).mono ?_; rintro e w' ⟨rfl, rfl⟩) | (go_at_call 21; refine (reflike_any hi 0 _ HHI.out.1 (by decide)).mono ?_; rintro e w' ⟨rfl, rfl⟩))
        all_goals go_meet
        all_goals rfl
      · have hdA : ((n : Int) == 0) = false := by simp; omega
        have hdB : decide (n = 0) = false := decide_eq_false h0
        obtain ⟨ad, rfl, -⟩ := HO4.out.1 0 (by omega)
        have FO := HO4.out.1.below HB7.out.2.2
        have e0 := FO.cell (show 0 < n by omega)
        rw [Addr_zero] at e0
        have e1 := FO.cell (show n - 1 < n by omega)
        have hends := ends_of HO4.out.2.1 HO4.out.2.2 (show 0 < n by omega)
        obtain ⟨p, hp⟩ : ∃ v, v = o 0 := ⟨_, rfl⟩
        obtain ⟨q, hq⟩ : ∃ v, v = o (n - 1) := ⟨_, rfl⟩
        rw [← hp] at e0 hends
        rw [← hq] at e1 hends
        have l1 : (placeW lo == placeW p) = true := by rw [HLO.out.2.2 (by omega), hends.1]; simp
        have l2 : (placeW hi == placeW q) = true := by rw [HHI.out.2.2 (by omega), hends.2]; simp
        have hp64 : p < 18446744073709551616 := by rw [hp]; exact HO4.out.1.lt (by omega)
        have hq64 : q < 18446744073709551616 := by rw [hq]; exact HO4.out.1.lt (by omega)
        have HPQ := Lib.hid (And.intro hp64 hq64)
        have hi1 : ((n : Int) - 1).toNat = n - 1 := by omega
        have hi2 : 1 ≤ n := by omega
        have hi3 : IntKind.i64.wrap ((n : Int) - 1) = (n : Int) - 1 := IntWalk.i64_in _ (by omega)
        clear FO hends hp hq hp64 hq64 h0
        go_wp2_with (first | (go_at_call 21; refine (reflike_any lo p _ HLO.out.1 HPQ.out.1).mono ?_; rintro e w' ⟨rfl, rfl⟩) | (go_at_call 21; refine (reflike_any hi q _ HHI.out.1 HPQ.out.2).mono ?_; rintro e w' ⟨rfl, rfl⟩))
        all_goals go_meet
        all_goals rfl
      --)
    case rest =>
    subst hcut
    obtain ⟨z, hz⟩ : ∃ z : Bool, z = decide (k < 0 ∨ (n : Int) ≤ k) := ⟨_, rfl⟩
    have HZ := Lib.hid hz
    clear hz
    go_upto_region 16 with fail
    go_cut [130] from 123 to 130 (fun s130 wx => s130 = .bool z ∧ w7 = wx)
    case first =>
      by_cases hk : k < 0
      · have hd1 : decide (k < 0) = true := decide_eq_true hk
        have hzt : Hid (z = true) := Lib.hid (by rw [HZ.out]; simp [hk])
        clear hk
        go_wp2_with fail
        go_meet
        exact ⟨by rw [hzt.out], rfl⟩
      · have hd1 : decide (k < 0) = false := decide_eq_false hk
        obtain ⟨y, hy⟩ : ∃ y : Bool, y = decide ((n : Int) ≤ k) := ⟨_, rfl⟩
        have hzt : Hid (z = y) := Lib.hid (by rw [HZ.out, hy]; simp [hk])
        have hy2 := hy.symm
        clear hk hy
        go_wp2_with fail
        go_meet
        exact ⟨by rw [hzt.out], rfl⟩
    case rest =>
    obtain ⟨rfl, rfl⟩ := hcut
    go_upto_if 130 with fail
    go_cut [130] from 131 to 150 (fun s130 wx => w7 = wx)
    case first =>
      --(
      cases z
      · have hnk : ¬ (k < 0 ∨ (n : Int) ≤ k) := of_decide_eq_false HZ.out.symm
        obtain ⟨m, rfl⟩ : ∃ m : Nat, k = m := ⟨k.toNat, by omega⟩
        have hm : m < n := by omega
        have hmi : (m : Int) < (n : Int) := by omega
        obtain ⟨hyv, her⟩ : yv = sF f n m ∧ er = 0 := by
          rcases HY.out.2 with ⟨h1, _⟩ | ⟨_, h2, h3⟩
          · exact absurd h1 hnk
          · exact ⟨h2, h3⟩
        obtain ⟨ad, rfl, -⟩ := HO4.out.1 m hm
        have e0 := (HO4.out.1.below HB7.out.2.2).cell hm
        obtain ⟨p, hp⟩ : ∃ v, v = o m := ⟨_, rfl⟩
        rw [← hp] at e0
        have l1 : (placeW yv == placeW p) = true := by rw [hyv, hp, HSM.out m hm]; simp
        have hp64 : p < 18446744073709551616 := by rw [hp]; exact HO4.out.1.lt hm
        have HP := Lib.hid hp64
        have hE1 : (er == 0) = true := by rw [her]; rfl
        have hE2 : (er != 0) = false := by rw [her]; rfl
        have hE3 : decide (er = 0) = true := decide_eq_true her
        clear hnk hm hyv her hp hp64
        go_wp2_with (first | (go_at_call 21; refine (reflike_any yv p _ HY.out.1 HP.out).mono ?_; rintro e w' ⟨rfl, rfl⟩) | (go_at_call 10; refine (num_any er _).mono ?_; rintro e w' ⟨rfl, rfl⟩))
        all_goals go_meet
        all_goals rfl
      · have hnk : k < 0 ∨ (n : Int) ≤ k := of_decide_eq_true HZ.out.symm
        obtain ⟨hyv, her⟩ : yv = 0 ∧ er = 4 := by
          rcases HY.out.2 with ⟨_, h2, h3⟩ | ⟨h1, _⟩
          · exact ⟨h2, h3⟩
          · omega
        have l1 : (placeW yv == placeW 0) = true := by rw [hyv]; simp
        have hE1 : (er == 4) = true := by rw [her]; rfl
        have hE2 : (er != 4) = false := by rw [her]; rfl
        have hE3 : decide (er = 4) = true := decide_eq_true her
        clear hnk hyv her
        go_wp2_with (first | (go_at_call 21; refine (reflike_any yv 0 _ HY.out.1 (by decide)).mono ?_; rintro e w' ⟨rfl, rfl⟩) | (go_at_call 10; refine (num_any er _).mono ?_; rintro e w' ⟨rfl, rfl⟩))
        all_goals go_meet
        all_goals rfl
      --)
    case rest =>
    subst hcut
    go_wp2_with fail
    refine (search_b ob n cb x o _ (HO4.out.1.below HB7.out.2.2) (by omega) HX.out).mono ?_
    rintro e w' ⟨q, hq, rfl, rfl⟩
    obtain ⟨fb, hfb⟩ : ∃ b, b = foundB o n x q := ⟨_, rfl⟩
    rw [← hfb]
    have HQ := Lib.hid (And.intro hq hfb)
    clear hq hfb
    go_wp2_with fail
    refine (refsearch_b ob n cb x o _ (HO4.out.1.below HB7.out.2.2) (by omega) HX.out).mono ?_
    rintro e w' ⟨q', hq', rfl, rfl⟩
    obtain rfl := search_same HO4.out.2.1 HQ.out.1 hq'
    rw [← HQ.out.2]
    clear hq'
    go_wp2_with fail
    refine (search_b (some ⟨gm, 0, none⟩) n cm x f _ (HFM.out.below HB7.out.2.1) (by omega) HX.out).mono ?_
    rintro e w' ⟨q2, hq2, rfl, rfl⟩
    have hq2n := hq2.le
    have hdq : decide (n < q2) = false := by simp; omega
    obtain ⟨fb2, hfb2⟩ : ∃ b, b = foundB f n x q2 := ⟨_, rfl⟩
    rw [← hfb2]
    have HFB2 := Lib.hid hfb2
    clear hq2 hfb2
    go_wp2_with fail
    refine (alike_b (some ⟨gm, 0, none⟩) oa n cm c f f _ (HFM.out.below HB7.out.2.1) (HF.out.below HB7.out.1) (by omega) (fun _ _ => rfl)).mono ?_
    rintro e w8 ⟨rfl, h8, hb8⟩
    have HB8 : Hid (Below w.heap.size w w8) := Lib.hid (HB7.out.1.trans (hb8.mono HB7.out.1.size))
    clear h8 hb8
    by_cases hlt : q2 < n
    · have hd1 : decide (q2 < n) = true := by simp; omega
      have hq0 : (q2 : Int) < (n : Int) := by omega
      obtain ⟨ad, rfl, -⟩ := HF.out q2 hlt
      have e0 := (HF.out.below HB8.out).cell hlt
      have h64 := HF.out.lt hlt
      have hfo : fb2 = (placeW (f q2) == placeW x) := by rw [HFB2.out]; unfold foundB; simp [hlt]
      subst hfo
      obtain ⟨fq, hfq⟩ : ∃ v, v = f q2 := ⟨_, rfl⟩
      rw [← hfq] at e0 h64 ⊢
      obtain ⟨z2, hz2⟩ : ∃ v, v = (placeW fq == placeW x) := ⟨_, rfl⟩
      rw [← hz2]
      have HZ2 := Lib.hid hz2
      have H64 := Lib.hid h64
      clear hlt h64 hfq hz2 HFB2
      go_wp2_with fail
      refine (reflike_any fq x _ H64.out HX.out).mono ?_
      rintro e w' ⟨rfl, rfl⟩
      rw [← HZ2.out]
      go_wp2_with fail
      refine (works_any _ (pow10_stays HT.out HB8.out)).mono ?_
      rintro e w9 ⟨rfl, hb9⟩
      have HB9 := Lib.hid (HB8.out.trans (hb9.mono HB8.out.size))
      clear hb9
      go_wp2_with fail
      go_ret
      exact ⟨rfl, HB9.out⟩
    · have hd1 : decide (q2 < n) = false := by simp; omega
      have hfo : fb2 = false := by rw [HFB2.out]; unfold foundB; simp [hlt]
      subst hfo
      clear hlt HFB2
      go_wp2_with fail
      refine (works_any _ (pow10_stays HT.out HB8.out)).mono ?_
      rintro e w9 ⟨rfl, hb9⟩
      have HB9 := Lib.hid (HB8.out.trans (hb9.mono HB8.out.size))
      clear hb9
      go_wp2_with fail
      go_ret
      exact ⟨rfl, HB9.out⟩
end Go.Proofs.YthfgjibhpenfkaaDoor
