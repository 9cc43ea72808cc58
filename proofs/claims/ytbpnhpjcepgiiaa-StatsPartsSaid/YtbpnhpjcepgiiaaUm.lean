/- Stats: likeness of what is told; is a tally as the document's? -/
import Derived.Test.YtbpnhpjcepgiiaaUk
import Derived.Test.YtbpnhpjcepgiiaaUl
import Derived.Test.YtbpnhpjcepgiiaaUi
import Derived.Test.YtbpnhpjcepgiiaaUj
import Derived.Deep.RegionWith
import Derived.Deep.RegionHeld3
namespace Go.Proofs.Ytbpnhpjcepgiiaa
open Go.RowKit Fl

set_option maxRecDepth 100000 in
set_option maxHeartbeats 1000000 in
theorem rlike_b (n : Int) (s1 m1 p1 l1 g1 s2 m2 p2 l2 g2 : Nat) (w : World) (hs : LK s1 s2) (hm : LK m1 m2) (hp : LK p1 p2) (hl : LK l1 l2) (hg : LK g1 g2) :
    Calls Try.prog 73 #[.agg #[.int .i64 n, .float .f64 s1, .float .f64 m1, .float .f64 p1, .float .f64 l1, .float .f64 g1], .agg #[.int .i64 n, .float .f64 s2, .float .f64 m2, .float .f64 p2, .float .f64 l2, .float .f64 g2]] w
      fun e w' => e = .returned (.bool true) ∧ Below w.heap.size w w' := by
  have es : (placeW s1 == placeW s2) = true := by have := hs.like; unfold LikeF at this; simp [this]
  have em : (placeW m1 == placeW m2) = true := by have := hm.like; unfold LikeF at this; simp [this]
  have ep : (placeW p1 == placeW p2) = true := by have := hp.like; unfold LikeF at this; simp [this]
  have el : (placeW l1 == placeW l2) = true := by have := hl.like; unfold LikeF at this; simp [this]
  have eg : (placeW g1 == placeW g2) = true := by have := hg.like; unfold LikeF at this; simp [this]
  have HS := Lib.hid hs
  have HM := Lib.hid hm
  have HP := Lib.hid hp
  have HL := Lib.hid hl
  have HG := Lib.hid hg
  have HE := Lib.hid (And.intro es (And.intro em (And.intro ep (And.intro el eg))))
  clear hs hm hp hl hg es em ep el eg
  go_enter Try.func73, Try.ntmps73
  go_wp2_with fail
  refine (reflike_any s1 s2 _ HS.out.b1 HS.out.b2).mono ?_
  rintro e w' ⟨rfl, rfl⟩
  rw [HE.out.1]
  go_wp2_with fail
  refine (reflike_any m1 m2 _ HM.out.b1 HM.out.b2).mono ?_
  rintro e w' ⟨rfl, rfl⟩
  rw [HE.out.2.1]
  go_wp2_with fail
  refine (reflike_any p1 p2 _ HP.out.b1 HP.out.b2).mono ?_
  rintro e w' ⟨rfl, rfl⟩
  rw [HE.out.2.2.1]
  go_wp2_with fail
  refine (reflike_any l1 l2 _ HL.out.b1 HL.out.b2).mono ?_
  rintro e w' ⟨rfl, rfl⟩
  rw [HE.out.2.2.2.1]
  go_wp2_with fail
  refine (reflike_any g1 g2 _ HG.out.b1 HG.out.b2).mono ?_
  rintro e w' ⟨rfl, rfl⟩
  rw [HE.out.2.2.2.2]
  go_wp2_with fail
  go_ret
  exact ⟨rfl, ((Below.refl _ _).alloc (Nat.le_refl _) _).alloc (by simp) _⟩

theorem count_quiet (q : Nat) (t : Ta) (n : Int) (w : World) (h : TaAt w q t) (hn : n = t.n) :
    Calls Try.prog 42 #[.pointer (some ⟨q, 0, none⟩)] w fun e w' => e = .returned (.int .i64 n) ∧ w' = w := (count_any q t w h).mono fun _ _ ⟨h1, h2⟩ => ⟨by rw [hn]; exact h1, h2.symm⟩
theorem below_drewN {w : World} (k : Nat) : Below w.heap.size w (w.drewN k) := ⟨rfl, rfl, rfl, Nat.le_refl _, fun _ _ => rfl⟩

abbrev KeepT (wc : World) (X : Nat) (n : Int) (s m p l g : Nat) (W : World) : Prop :=
  W.cell? ⟨X, 0, none⟩ = some (.int .i64 n) ∧ W.cell? ⟨X, 1, none⟩ = some (.float .f64 s) ∧ W.cell? ⟨X, 2, none⟩ = some (.float .f64 m) ∧ W.cell? ⟨X, 3, none⟩ = some (.float .f64 p) ∧ W.cell? ⟨X, 4, none⟩ = some (.float .f64 l) ∧ W.cell? ⟨X, 5, none⟩ = some (.float .f64 g) ∧ Below wc.heap.size wc W
theorem keepT_drew {wc : World} {X : Nat} {n : Int} {s m p l g : Nat} {W : World} (h : KeepT wc X n s m p l g W) : KeepT wc X n s m p l g W.drew :=
  ⟨h.1, h.2.1, h.2.2.1, h.2.2.2.1, h.2.2.2.2.1, h.2.2.2.2.2.1, h.2.2.2.2.2.2.drew⟩
theorem keepT_call {wc : World} {X : Nat} {n : Int} {s m p l g : Nat} {W W' : World} (h : KeepT wc X n s m p l g W) (b : Below W.heap.size W W') : KeepT wc X n s m p l g W' := by
  have k : ∀ i v, W.cell? ⟨X, i, none⟩ = some v → W'.cell? ⟨X, i, none⟩ = some v := fun i v hv => by
    rw [b.cell (p := ⟨X, i, none⟩) (World.block_lt_of_cell? W _ hv)]; exact hv
  exact ⟨k _ _ h.1, k _ _ h.2.1, k _ _ h.2.2.1, k _ _ h.2.2.2.1, k _ _ h.2.2.2.2.1, k _ _ h.2.2.2.2.2.1, h.2.2.2.2.2.2.trans (b.mono h.2.2.2.2.2.2.size)⟩
theorem keepT_below {wc : World} {X : Nat} {n : Int} {s m p l g : Nat} {W : World} (h : KeepT wc X n s m p l g W) : Below wc.heap.size wc W := h.2.2.2.2.2.2

set_option maxRecDepth 100000 in
set_option maxHeartbeats 2000000 in
theorem as_c (q s o : Nat) (a b : Ta) (w : World) (hp : Pair a b) (ha : TaAt w q a) (hb : TbC w s o b) :
    Calls Try.prog 39 #[.pointer (some ⟨q, 0, none⟩), .pointer (some ⟨s, o, none⟩)] w fun e w' => e = .returned (.bool true) ∧ Below w.heap.size w w' := by
  have HP := Lib.hid hp
  have HA := Lib.hid ha
  have HB := Lib.hid hb
  obtain ⟨n, hn⟩ : ∃ n, n = a.n := ⟨_, rfl⟩
  have hbn : b.n = n := by rw [hn, hp.n]
  have HN := Lib.hid hn
  have HBN := Lib.hid hbn
  have b0 := hb.c0
  rw [hbn] at b0
  have heq : ∀ W : World, Sem.run Try.prog (Op.equalIn 9999 22 (.float .f64 0) (.float .f64 0)) W = .ok true W := fun W => by kernel_rfl
  clear hp ha hb hn hbn
  go_enter Try.func39, Try.ntmps39
  go_upto_region 1 with fail
  go_quiet (first | (go_at_call 42; refine Calls.quiet_of_same (count_quiet q a n _ (HA.out.drewN _) HN.out)))
  have ha1 := HA.out.drewN nq
  have hb1 : TbC (w.drewN nq) s o b := HB.out.of rfl
  obtain ⟨w1, hw1⟩ : ∃ w1, w1 = w.drewN nq := ⟨_, rfl⟩
  rw [← hw1] at ha1 hb1 ⊢
  have HBW : Hid (Below w.heap.size w w1) := Lib.hid (by rw [hw1]; exact below_drewN nq)
  have HA1 := Lib.hid ha1
  have HB1 := Lib.hid hb1
  clear b0 ha1 hb1 hw1
  have b0 := HB1.out.c0
  rw [HBN.out] at b0
  by_cases hz : n = 0
  · subst hz
    go_wp2_with fail
    refine (told_none q a _ HA1.out HN.out.symm).mono ?_
    rintro e w2 ⟨rfl, hb2⟩
    have HB2 := Lib.hid hb2
    have hb0 : (w2.alloc (.cells #[.int .i64 0, .float .f64 0, .float .f64 0, .float .f64 0, .float .f64 0, .float .f64 0] 92)).cell? ⟨s, o, none⟩ = some (.int .i64 0) := by
      rw [(((Below.refl w2.heap.size w2).alloc (Nat.le_refl _) _)).cell (p := ⟨s, o, none⟩) (Nat.lt_of_lt_of_le HB1.out.lt hb2.size), hb2.cell (p := ⟨s, o, none⟩) HB1.out.lt]
      exact b0
    have hsf := run_store_float
    clear hb2
    go_wp2_with fail
    refine (lnum_any 4 _).mono ?_
    rintro e w' ⟨rfl, rfl⟩
    go_wp2_with fail
    go_ret
    exact ⟨rfl, (HBW.out.trans (HB2.out.mono HBW.out.size)).alloc (Nat.le_trans HBW.out.size HB2.out.size) _⟩
  · have hzd : (n == 0) = false := by simp [hz]
    go_wp2_with fail
    refine (told_any q a _ HA1.out (by have := HP.out.n0; rw [← HN.out] at this ⊢; omega)).mono ?_
    rintro e w2 ⟨sp, hsp, rfl, hb2⟩
    have HSP := Lib.hid hsp
    have HB2 := Lib.hid hb2
    unfold Ta.told
    rw [← HN.out]
    have hb0 : (w2.alloc (.cells #[.int .i64 n, .float .f64 a.sum, .float .f64 a.mean, .float .f64 sp, .float .f64 a.least, .float .f64 a.greatest] 92)).cell? ⟨s, o, none⟩ = some (.int .i64 n) := by
      rw [(((Below.refl w2.heap.size w2).alloc (Nat.le_refl _) _)).cell (p := ⟨s, o, none⟩) (Nat.lt_of_lt_of_le HB1.out.lt hb2.size), hb2.cell (p := ⟨s, o, none⟩) HB1.out.lt]
      exact b0
    have hsf := run_store_float
    clear hb2 hsp
    go_upto_region 6 with fail
    have hx := cells6 (heap_alloc_new w2 (.cells #[.int .i64 n, .float .f64 a.sum, .float .f64 a.mean, .float .f64 sp, .float .f64 a.least, .float .f64 a.greatest] 92))
    obtain ⟨w3, hw3⟩ : ∃ w3, w3 = w2.alloc (.cells #[.int .i64 n, .float .f64 a.sum, .float .f64 a.mean, .float .f64 sp, .float .f64 a.least, .float .f64 a.greatest] 92) := ⟨_, rfl⟩
    have HB3 : Hid (Below w1.heap.size w1 w3) := Lib.hid (by rw [hw3]; exact HB2.out.alloc HB2.out.size _)
    rw [← hw3] at hx ⊢
    have hS : w3.cell? ⟨w2.heap.size, 0, none⟩ = some (.int .i64 n) ∧ w3.cell? ⟨w2.heap.size, 1, none⟩ = some (.float .f64 a.sum) ∧ w3.cell? ⟨w2.heap.size, 2, none⟩ = some (.float .f64 a.mean) ∧ w3.cell? ⟨w2.heap.size, 3, none⟩ = some (.float .f64 sp) ∧ w3.cell? ⟨w2.heap.size, 4, none⟩ = some (.float .f64 a.least) ∧ w3.cell? ⟨w2.heap.size, 5, none⟩ = some (.float .f64 a.greatest) ∧ Below w3.heap.size w3 w3 := ⟨hx.1, hx.2.1, hx.2.2.1, hx.2.2.2.1, hx.2.2.2.2.1, hx.2.2.2.2.2.1, Below.refl _ _⟩
    clear hx hb0 hw3 b0
    go_region_held3 (fun W => W.cell? ⟨w2.heap.size, 0, none⟩ = some (.int .i64 n) ∧ W.cell? ⟨w2.heap.size, 1, none⟩ = some (.float .f64 a.sum) ∧ W.cell? ⟨w2.heap.size, 2, none⟩ = some (.float .f64 a.mean) ∧ W.cell? ⟨w2.heap.size, 3, none⟩ = some (.float .f64 sp) ∧ W.cell? ⟨w2.heap.size, 4, none⟩ = some (.float .f64 a.least) ∧ W.cell? ⟨w2.heap.size, 5, none⟩ = some (.float .f64 a.greatest) ∧ Below w3.heap.size w3 W)
      (first | assumption | exact keepT_drew (by assumption) | exact keepT_call (by assumption) (by assumption))
      (first
        | (go_at_call 74; refine (rtold_any s o b _ (HB1.out.of ((HB3.out.trans (Below.mono (keepT_below (by assumption)) HB3.out.size)).block s HB1.out.lt)) (by rw [HBN.out]; have := HP.out.n0; rw [← HN.out] at this; omega)).mono ?_; rintro e w6 ⟨sp2, hsp2, rfl, hb6⟩; unfold Ta.told; rw [HBN.out]; have HSP2 := Lib.hid hsp2; clear hsp2)
        | (go_at_call 73; refine (rlike_b n _ _ _ _ _ _ _ _ _ _ _ HP.out.sum HP.out.mean (HP.out.m.div (.refl (i2r_64 _)) HSP.out (by have := HSP2.out; rw [← HP.out.n] at this; exact this)) HP.out.least HP.out.greatest).mono ?_; rintro e w7 ⟨rfl, hb7⟩)
        | (go_at_call 35; refine (lnum_any 0 _).mono ?_; rintro e w8 ⟨rfl, rfl⟩))
    all_goals (go_wp2_with fail; go_ret)
    all_goals exact ⟨rfl, HBW.out.trans (Below.mono (HB3.out.trans (Below.mono (keepT_below (by assumption)) HB3.out.size)) HBW.out.size)⟩
theorem as_b (q s : Nat) (a b : Ta) (w : World) (hp : Pair a b) (ha : TaAt w q a) (hb : TbAt w s b) :
    Calls Try.prog 39 #[.pointer (some ⟨q, 0, none⟩), .pointer (some ⟨s, 0, none⟩)] w fun e w' => e = .returned (.bool true) ∧ Below w.heap.size w w' := as_c q s 0 a b w hp ha hb.c
end Go.Proofs.Ytbpnhpjcepgiiaa
