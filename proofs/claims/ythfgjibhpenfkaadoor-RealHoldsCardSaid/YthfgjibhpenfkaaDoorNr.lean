/- RealHolds: its walk. -/
import Derived.Test.YthfgjibhpenfkaaDoorNq
import Derived.Test.YthfgjibhpenfkaaDoorNk
import Derived.Test.YthfgjibhpenfkaaDoorMe
namespace Go.Proofs.YthfgjibhpenfkaaDoor
open Go.RowKit Fl

/-- a float's own key is read again -/
theorem of_key {x v : Nat} {er : Int} (hx : x < 18446744073709551616) (h : OfIs (placeN x) v er) : er = 0 ∧ v < 18446744073709551616 ∧ placeW v = placeW x := by
  have hz := nz_val
  have hi := inf_val
  have hc := (placeN_cast x hx).1
  by_cases hn : x % nz > inf
  · have hp : placeW x = 18446744073709551615 := by unfold placeW; rw [if_pos hn]
    have hN : placeN x = 18446744073709551615 := by omega
    obtain ⟨rfl, rfl⟩ := h.1 hN
    exact ⟨rfl, by decide, by rw [hp]; decide⟩
  · have hp : placeW x = if x < nz then (x : Int) + 9223372036854775808 else 18446744073709551615 - (x : Int) := by unfold placeW; rw [if_neg hn]
    have hne : placeN x ≠ 18446744073709551615 := by
      intro h2
      rw [h2] at hc
      rw [hz] at hn
      split at hp <;> omega
    have hof : ofB (placeN x) = x := by
      unfold ofB
      split at hp
      · rw [if_neg (by omega), hz]; omega
      · rw [if_pos (by omega)]; omega
    obtain ⟨rfl, rfl⟩ := (h.2 hne).1 (by rw [hof])
    rw [hof]
    exact ⟨rfl, hx, rfl⟩
theorem ord_tri (x y : Nat) : (ordF x y = -1 ∧ ordF y x = 1 ∧ placeW x < placeW y) ∨ (ordF x y = 0 ∧ ordF y x = 0 ∧ placeW x = placeW y) ∨ (ordF x y = 1 ∧ ordF y x = -1 ∧ placeW y < placeW x) := by
  unfold ordF cmpI
  rcases Int.lt_trichotomy (placeW x) (placeW y) with h | h | h
  · exact .inl ⟨by rw [if_pos h], by rw [if_neg (by omega), if_pos h], h⟩
  · exact .inr (.inl ⟨by rw [if_neg (by omega), if_neg (by omega)], by rw [if_neg (by omega), if_neg (by omega)], h⟩)
  · exact .inr (.inr ⟨by rw [if_neg (by omega), if_pos h], by rw [if_pos h], h⟩)
theorem rorder_k {x y : Nat} {k : Int} (hk : ordF x y = k) (w : World) (hx : x < 18446744073709551616) (hy : y < 18446744073709551616) :
    Calls Tryd.prog 13 #[.float .f64 x, .float .f64 y] w fun e w' => e = .returned (.int .i64 k) ∧ w' = w := by
  rw [← hk]
  exact rorder_q x y w hx hy
/-- Go's `<`, as a test -/
theorem lss_not {x y : Nat} (hx : x < 18446744073709551616) (hy : y < 18446744073709551616) (h : placeW y ≤ placeW x) : (FloatKind.f64.format.order x y == some .lt) = false := by
  rw [Bool.eq_false_iff]
  intro h2
  have := lt_place x y hx hy (eq_of_beq h2)
  omega
theorem below_drewN' (w : World) (n : Nat) : Below w.heap.size w (w.drewN n) := ⟨rfl, rfl, rfl, Nat.le_refl _, fun _ _ => rfl⟩
set_option maxRecDepth 100000 in
set_option maxHeartbeats 16000000 in
theorem realHolds_walk (x y z : Nat) (w : World) (hx : x < 18446744073709551616) (hy : y < 18446744073709551616) (hz : z < 18446744073709551616) (ht : Pow10 w) :
    Calls Tryd.prog 4 #[.float .f64 x, .float .f64 y, .float .f64 z] w fun e w' => e = .returned (.bool true) ∧ Below w.heap.size w w' := by
  have HX := Lib.hid hx
  have HY := Lib.hid hy
  have HZ := Lib.hid hz
  have HT := Lib.hid ht
  clear hx hy hz ht
  go_enter Tryd.func4, Tryd.ntmps4
  go_wp2_with fail
  refine (key_any x _ HX.out).mono ?_
  rintro e w1 ⟨rfl, hb1⟩
  obtain ⟨a0, a1, a2, a3, a4, a5, a6, a7, hag, hbc⟩ : ∃ a0 a1 a2 a3 a4 a5 a6 a7 : Int, kAgg (placeN x) = .agg #[.int .u8 a0, .int .u8 a1, .int .u8 a2, .int .u8 a3, .int .u8 a4, .int .u8 a5, .int .u8 a6, .int .u8 a7] ∧ byteCells (keyL (placeN x)) = [.int .u8 a0, .int .u8 a1, .int .u8 a2, .int .u8 a3, .int .u8 a4, .int .u8 a5, .int .u8 a6, .int .u8 a7] :=
    ⟨_, _, _, _, _, _, _, _, rfl, kAgg_bytes _⟩
  rw [hag]
  have HBA := Lib.hid (And.intro hag hbc)
  have HB1 := Lib.hid hb1
  clear hag hbc hb1
  go_wp2_with fail
  refine (key_any y _ HY.out).mono ?_
  rintro e w2 ⟨rfl, hb2⟩
  obtain ⟨b0, b1, b2, b3, b4, b5, b6, b7, hag, hbc⟩ : ∃ b0 b1 b2 b3 b4 b5 b6 b7 : Int, kAgg (placeN y) = .agg #[.int .u8 b0, .int .u8 b1, .int .u8 b2, .int .u8 b3, .int .u8 b4, .int .u8 b5, .int .u8 b6, .int .u8 b7] ∧ byteCells (keyL (placeN y)) = [.int .u8 b0, .int .u8 b1, .int .u8 b2, .int .u8 b3, .int .u8 b4, .int .u8 b5, .int .u8 b6, .int .u8 b7] :=
    ⟨_, _, _, _, _, _, _, _, rfl, kAgg_bytes _⟩
  rw [hag]
  have HBB := Lib.hid (And.intro hag hbc)
  have HB2 : Hid (Below w.heap.size w w2) := Lib.hid (HB1.out.trans (hb2.mono HB1.out.size))
  clear hag hbc hb2 HB1
  go_upto_region 2 with fail
  obtain ⟨w3, hw3⟩ : ∃ w3 : World, w3 = (w2.alloc (.cells #[.int .u8 a0, .int .u8 a1, .int .u8 a2, .int .u8 a3, .int .u8 a4, .int .u8 a5, .int .u8 a6, .int .u8 a7] 31)).alloc (.cells #[.int .u8 b0, .int .u8 b1, .int .u8 b2, .int .u8 b3, .int .u8 b4, .int .u8 b5, .int .u8 b6, .int .u8 b7] 31) := ⟨_, rfl⟩
  have hb3 : Below w.heap.size w w3 := by rw [hw3]; exact (HB2.out.alloc HB2.out.size _).alloc (by have := HB2.out.size; simp; omega) _
  have hA : w3.heap[w2.heap.size]? = some (.cells #[.int .u8 a0, .int .u8 a1, .int .u8 a2, .int .u8 a3, .int .u8 a4, .int .u8 a5, .int .u8 a6, .int .u8 a7] 31 (0, 0)) := by rw [hw3, Below.heap_alloc _ _ _ (by simp)]; exact alloc_here _ _
  have hB : w3.heap[w2.heap.size + 1]? = some (.cells #[.int .u8 b0, .int .u8 b1, .int .u8 b2, .int .u8 b3, .int .u8 b4, .int .u8 b5, .int .u8 b6, .int .u8 b7] 31 (0, 0)) := by rw [hw3]; have := alloc_here (w2.alloc (.cells #[.int .u8 a0, .int .u8 a1, .int .u8 a2, .int .u8 a3, .int .u8 a4, .int .u8 a5, .int .u8 a6, .int .u8 a7] 31)) (.cells #[.int .u8 b0, .int .u8 b1, .int .u8 b2, .int .u8 b3, .int .u8 b4, .int .u8 b5, .int .u8 b6, .int .u8 b7] 31 (0, 0)); rw [show (w2.alloc (.cells #[.int .u8 a0, .int .u8 a1, .int .u8 a2, .int .u8 a3, .int .u8 a4, .int .u8 a5, .int .u8 a6, .int .u8 a7] 31 (0, 0))).heap.size = w2.heap.size + 1 by simp] at this; exact this
  have hz3 : w2.heap.size + 1 < w3.heap.size := by rw [hw3]; simp
  rw [← hw3]
  have HB3 := Lib.hid hb3
  have HZ3 := Lib.hid hz3
  have HAC := Lib.hid hA
  have HBC := Lib.hid hB
  clear hw3 hb3 hz3 hA hB
  obtain ⟨g, hg⟩ : ∃ g, g = w2.heap.size := ⟨_, rfl⟩
  rw [← hg] at HAC HBC HZ3 ⊢
  have HG := Lib.hid hg
  clear hg
  obtain ⟨k, hk⟩ : ∃ k, k = ordF x y := ⟨_, rfl⟩
  go_wp2_with fail
  refine (rorder_any x y _ HX.out HY.out).mono ?_
  rintro e w' ⟨rfl, rfl⟩
  rw [← hk]
  have HK := Lib.hid hk
  clear hk
  go_upto_region 3 with fail
  obtain ⟨K1, hK1⟩ : ∃ K1 : ByteArray, K1 = ⟨(keyL (placeN x)).toArray⟩ := ⟨_, rfl⟩
  obtain ⟨K2, hK2⟩ : ∃ K2 : ByteArray, K2 = ⟨(keyL (placeN y)).toArray⟩ := ⟨_, rfl⟩
  have hconvA : ∀ W : World, W.heap[g]? = w3.heap[g]? → (convert 34 9 (.slice (some ⟨g, 0, none⟩) 8 8)).run Tryd.prog W = .ok (.string K1) W := fun W hW => by
    rw [hK1]
    refine run_convert_bytes_back W 34 9 5 ⟨g, 0, none⟩ 8 (keyL (placeN x)) Tryd.underlying34 Tryd.underlying5 Tryd.underlying9 fun j hj => ?_
    rw [Go.WideShapes.add_plain, Nat.zero_add, cell_of_row W _ j _ _ _ (hW.trans HAC.out)]
    have : (byteCells (keyL (placeN x)))[j]? = some (.int .u8 ((keyL (placeN x))[j].toNat : Int)) := by simp [byteCells, hj]
    rw [HBA.out.2] at this
    simpa using this
  have hconvB : ∀ W : World, W.heap[g + 1]? = w3.heap[g + 1]? → (convert 34 9 (.slice (some ⟨g + 1, 0, none⟩) 8 8)).run Tryd.prog W = .ok (.string K2) W := fun W hW => by
    rw [hK2]
    refine run_convert_bytes_back W 34 9 5 ⟨g + 1, 0, none⟩ 8 (keyL (placeN y)) Tryd.underlying34 Tryd.underlying5 Tryd.underlying9 fun j hj => ?_
    rw [Go.WideShapes.add_plain, Nat.zero_add, cell_of_row W _ j _ _ _ (hW.trans HBC.out)]
    have : (byteCells (keyL (placeN y)))[j]? = some (.int .u8 ((keyL (placeN y))[j].toNat : Int)) := by simp [byteCells, hj]
    rw [HBB.out.2] at this
    simpa using this
  have hcvA := fun m : Nat => hconvA (w3.drewN m) rfl
  have hcvB := fun m : Nat => hconvB (w3.drewN m) rfl
  have hPx := (placeN_cast x HX.out)
  have hPy := (placeN_cast y HY.out)
  have hless : Op.bytesLess K1.toList K2.toList = decide (placeN x < placeN y) := by
    rw [hK1, hK2, ByteArray.toList_mk, ByteArray.toList_mk]
    exact key_less hPx.2 hPy.2
  have heq : ∀ W : World, (Op.equalIn 10000 31 (.agg #[.int .u8 a0, .int .u8 a1, .int .u8 a2, .int .u8 a3, .int .u8 a4, .int .u8 a5, .int .u8 a6, .int .u8 a7]) (.agg #[.int .u8 b0, .int .u8 b1, .int .u8 b2, .int .u8 b3, .int .u8 b4, .int .u8 b5, .int .u8 b6, .int .u8 b7])).run Tryd.prog W = .ok (decide (placeN x = placeN y)) W := fun W => by
    rw [← HBA.out.1, ← HBB.out.1]
    exact eqKey _ _ hPx.2 hPy.2 W
  obtain ⟨cA0, cA1, cA2, cA3, cA4, cA5, cA6, cA7, -⟩ := cells8 HAC.out
  obtain ⟨cB0, cB1, cB2, cB3, cB4, cB5, cB6, cB7, -⟩ := cells8 HBC.out
  clear hconvA hconvB hK1 hK2
  go_cut [69] from 21 to 69 (fun s69 wx => s69 = .bool false ∧ Hid (Below w3.heap.size w3 wx))
  case first =>
    have HPX := Lib.hid hPx
    have HPY := Lib.hid hPy
    clear hPx hPy
    rcases ord_tri x y with ⟨h1, h2, h3⟩ | ⟨h1, h2, h3⟩ | ⟨h1, h2, h3⟩
    · have p1 := HPX.out.1
      have p2 := HPY.out.1
      have d1 : decide (placeN x < placeN y) = true := decide_eq_true (by omega)
      rw [d1] at hless
      have d2 : decide (placeN x = placeN y) = false := decide_eq_false (by omega)
      simp only [d2] at heq
      clear p1 p2 d1 d2
      --(
      obtain rfl : k = -1 := HK.out.trans h1
      have HO := Lib.hid (And.intro h2 h3)
      clear h1 h2 h3
      obtain ⟨L, hL⟩ : ∃ L, (FloatKind.f64.format.order x y == some .lt) = L := ⟨_, rfl⟩
      obtain ⟨m, hm⟩ : ∃ m, m = ordF y z := ⟨_, rfl⟩
      have HM := Lib.hid hm.symm
      by_cases hm0 : m ≤ 0
      · have hd : decide (m ≤ 0) = true := decide_eq_true hm0
        obtain ⟨n, hn⟩ : ∃ n, n = ordF x z := ⟨_, rfl⟩
        have HN := Lib.hid hn.symm
        have hd2 : decide (0 < n) = false := by rw [decide_eq_false_iff_not, hn, ordF_gt]; have h5 : ¬ 0 < ordF y z := by omega
                                                rw [ordF_gt] at h5; have := HO.out.2; omega
        clear hm hm0 hn
        cases L <;> as_aux_lemma =>
          go_quiet (first | (go_at_call 13; with_reducible refine Calls.quiet_of_same (rorder_k HO.out.1 _ HY.out HX.out)) | (go_at_call 13; with_reducible refine Calls.quiet_of_same (rorder_k HM.out _ HY.out HZ.out)) | (go_at_call 13; with_reducible refine Calls.quiet_of_same (rorder_k HN.out _ HX.out HZ.out)))
          go_wp2_with fail
          go_meet
          exact ⟨rfl, Lib.hid (below_drewN' _ _)⟩
      · have hd : decide (m ≤ 0) = false := decide_eq_false hm0
        clear hm hm0
        cases L <;> as_aux_lemma =>
          go_quiet (first | (go_at_call 13; with_reducible refine Calls.quiet_of_same (rorder_k HO.out.1 _ HY.out HX.out)) | (go_at_call 13; with_reducible refine Calls.quiet_of_same (rorder_k HM.out _ HY.out HZ.out)))
          go_wp2_with fail
          go_meet
          exact ⟨rfl, Lib.hid (below_drewN' _ _)⟩
      --)
    · have p1 := HPX.out.1
      have p2 := HPY.out.1
      have d1 : decide (placeN x < placeN y) = false := decide_eq_false (by omega)
      rw [d1] at hless
      have d2 : decide (placeN x = placeN y) = true := decide_eq_true (by omega)
      simp only [d2] at heq
      clear p1 p2 d1 d2
      obtain rfl : k = 0 := HK.out.trans h1
      have hL := lss_not HX.out HY.out (by omega)
      have HO := Lib.hid (And.intro h2 h3)
      clear h1 h2 h3
      obtain ⟨m, hm⟩ : ∃ m, m = ordF y z := ⟨_, rfl⟩
      have HM := Lib.hid hm.symm
      by_cases hm0 : m ≤ 0
      · have hd : decide (m ≤ 0) = true := decide_eq_true hm0
        obtain ⟨n, hn⟩ : ∃ n, n = ordF x z := ⟨_, rfl⟩
        have HN := Lib.hid hn.symm
        have hd2 : decide (0 < n) = false := by rw [decide_eq_false_iff_not, hn, ordF_gt]; have h5 : ¬ 0 < ordF y z := by omega
                                                rw [ordF_gt] at h5; have := HO.out.2; omega
        clear hm hm0 hn
        as_aux_lemma =>
          go_quiet (first | (go_at_call 13; with_reducible refine Calls.quiet_of_same (rorder_k HO.out.1 _ HY.out HX.out)) | (go_at_call 13; with_reducible refine Calls.quiet_of_same (rorder_k HM.out _ HY.out HZ.out)) | (go_at_call 13; with_reducible refine Calls.quiet_of_same (rorder_k HN.out _ HX.out HZ.out)))
          go_wp2_with fail
          go_meet
          exact ⟨rfl, Lib.hid (below_drewN' _ _)⟩
      · have hd : decide (m ≤ 0) = false := decide_eq_false hm0
        clear hm hm0
        as_aux_lemma =>
          go_quiet (first | (go_at_call 13; with_reducible refine Calls.quiet_of_same (rorder_k HO.out.1 _ HY.out HX.out)) | (go_at_call 13; with_reducible refine Calls.quiet_of_same (rorder_k HM.out _ HY.out HZ.out)))
          go_wp2_with fail
          go_meet
          exact ⟨rfl, Lib.hid (below_drewN' _ _)⟩
    · have p1 := HPX.out.1
      have p2 := HPY.out.1
      have d1 : decide (placeN x < placeN y) = false := decide_eq_false (by omega)
      rw [d1] at hless
      have d2 : decide (placeN x = placeN y) = false := decide_eq_false (by omega)
      simp only [d2] at heq
      clear p1 p2 d1 d2
      obtain rfl : k = 1 := HK.out.trans h1
      have hL := lss_not HX.out HY.out (by omega)
      have HO := Lib.hid (And.intro h2 h3)
      clear h1 h2 h3
      as_aux_lemma =>
          go_quiet (first | (go_at_call 13; with_reducible refine Calls.quiet_of_same (rorder_k HO.out.1 _ HY.out HX.out)))
          go_wp2_with fail
          go_meet
          exact ⟨rfl, Lib.hid (below_drewN' _ _)⟩
  case rest =>
  obtain ⟨rfl, HW⟩ := hcut
  have HBW : Hid (Below w.heap.size w wc) := Lib.hid (HB3.out.trans (HW.out.mono HB3.out.size))
  have hTw : Pow10 wc := pow10_stays HT.out HBW.out
  have HTW := Lib.hid hTw
  have HPX := Lib.hid hPx
  clear hTw hPx hPy hless heq hcvA hcvB cA0 cA1 cA2 cA3 cA4 cA5 cA6 cA7 cB0 cB1 cB2 cB3 cB4 cB5 cB6 cB7
  obtain ⟨cA0, cA1, cA2, cA3, cA4, cA5, cA6, cA7, -⟩ := cells8 ((HW.out.block g (by have := HZ3.out; omega)).trans HAC.out)
  go_wp2_with fail
  rw [← HBA.out.1]
  refine (Of_any (placeN x) _ HPX.out.2).mono ?_
  rintro e w5 ⟨v, er, rfl, hof, hb5⟩
  obtain ⟨rfl, hv, hvl⟩ := of_key HX.out hof
  have HV := Lib.hid (And.intro hv hvl)
  have HB5 : Hid (Below w.heap.size w w5) := Lib.hid (HBW.out.trans (hb5.mono HBW.out.size))
  clear hof hv hvl hb5 cA0 cA1 cA2 cA3 cA4 cA5 cA6 cA7
  go_wp2_with fail
  refine (Text_any x _ HX.out (pow10_stays HT.out HB5.out)).mono ?_
  rintro e w6 ⟨s, hs, rfl, hb6⟩
  have HS := Lib.hid hs
  have HB6 : Hid (Below w.heap.size w w6) := Lib.hid (HB5.out.trans (hb6.mono HB5.out.size))
  clear hs hb6
  go_wp2_with fail
  refine (Read_text x s _ HX.out HS.out (pow10_stays HT.out HB6.out)).mono ?_
  rintro e w7 ⟨u, rfl, hu, hul, hb7⟩
  have HU := Lib.hid (And.intro hu hul)
  have HB7 : Hid (Below w.heap.size w w7) := Lib.hid (HB6.out.trans (hb7.mono HB6.out.size))
  clear hu hul hb7
  go_wp2_with fail
  refine (rlike_any v x _ HV.out.1 HX.out).mono ?_
  rintro e w' ⟨rfl, rfl⟩
  rw [show (placeW v == placeW x) = true by rw [HV.out.2]; simp]
  go_wp2_with fail
  refine (num_any _ _).mono ?_
  rintro e w' ⟨rfl, rfl⟩
  go_wp2_with fail
  refine (rlike_any u x _ HU.out.1 HX.out).mono ?_
  rintro e w' ⟨rfl, rfl⟩
  rw [show (placeW u == placeW x) = true by rw [HU.out.2]; simp]
  go_wp2_with fail
  refine (num_any _ _).mono ?_
  rintro e w' ⟨rfl, rfl⟩
  go_wp2_with fail
  refine (works_any _ (pow10_stays HT.out HB7.out)).mono ?_
  rintro e w8 ⟨rfl, hb8⟩
  have HB8 : Hid (Below w.heap.size w w8) := Lib.hid (HB7.out.trans (hb8.mono HB7.out.size))
  clear hb8
  go_wp2_with fail
  go_ret
  exact ⟨rfl, HB8.out⟩
end Go.Proofs.YthfgjibhpenfkaaDoor
