/- QuotaPlays: the walk. -/
import Derived.Test.YtbpnhpjcepgiiaaPi
import Derived.Deep.LoopGhost
import Derived.Deep.CutRange
import Derived.Deep.RegionWith
import Derived.Deep.RegionHeld3
import Derived.OwnWalk
namespace Go.Proofs.Ytbpnhpjcepgiiaa
open Go.RowKit Fl

theorem unmade_new (w : World) : (w.alloc (.cells Try.zeroCells70 70)).cell? ⟨w.heap.size, 384, none⟩ = some (.bool false) := by
  rw [cell_of_row _ _ 384 _ _ _ (heap_alloc_new _ _)]
  kernel_rfl
theorem copy_none (q : Nat) (w : World) (hm : w.cell? ⟨q, 384, none⟩ = some (.bool false)) :
    Calls Try.prog 18 #[.pointer (some ⟨q, 0, none⟩)] w fun e w' => e = .returned (.pointer none) ∧ w = w' := by
  go_enter Try.func18, Try.ntmps18
  go_wp2_with fail
  go_ret
  exact ⟨rfl, rfl⟩
/-- what region 37 reads, kept by a draw, by a call -/
theorem told_drew {B : Nat} {w0 W : World} {p0 p1 p2 p3 p4 p5 p6 p7 p8 p9 p10 p11 p12 p13 : Addr} {v0 v1 v2 v3 v4 v5 v6 v7 v8 v9 v10 v11 v12 v13 : Value} (h : W.cell? p0 = some v0 ∧ W.cell? p1 = some v1 ∧ W.cell? p2 = some v2 ∧ W.cell? p3 = some v3 ∧ W.cell? p4 = some v4 ∧ W.cell? p5 = some v5 ∧ W.cell? p6 = some v6 ∧ W.cell? p7 = some v7 ∧ W.cell? p8 = some v8 ∧ W.cell? p9 = some v9 ∧ W.cell? p10 = some v10 ∧ W.cell? p11 = some v11 ∧ W.cell? p12 = some v12 ∧ W.cell? p13 = some v13 ∧ Below B w0 W) : W.drew.cell? p0 = some v0 ∧ W.drew.cell? p1 = some v1 ∧ W.drew.cell? p2 = some v2 ∧ W.drew.cell? p3 = some v3 ∧ W.drew.cell? p4 = some v4 ∧ W.drew.cell? p5 = some v5 ∧ W.drew.cell? p6 = some v6 ∧ W.drew.cell? p7 = some v7 ∧ W.drew.cell? p8 = some v8 ∧ W.drew.cell? p9 = some v9 ∧ W.drew.cell? p10 = some v10 ∧ W.drew.cell? p11 = some v11 ∧ W.drew.cell? p12 = some v12 ∧ W.drew.cell? p13 = some v13 ∧ Below B w0 W.drew := ⟨h.1, h.2.1, h.2.2.1, h.2.2.2.1, h.2.2.2.2.1, h.2.2.2.2.2.1, h.2.2.2.2.2.2.1, h.2.2.2.2.2.2.2.1, h.2.2.2.2.2.2.2.2.1, h.2.2.2.2.2.2.2.2.2.1, h.2.2.2.2.2.2.2.2.2.2.1, h.2.2.2.2.2.2.2.2.2.2.2.1, h.2.2.2.2.2.2.2.2.2.2.2.2.1, h.2.2.2.2.2.2.2.2.2.2.2.2.2.1, h.2.2.2.2.2.2.2.2.2.2.2.2.2.2.drew⟩
theorem told_keep {B : Nat} {w0 W w' : World} {p0 p1 p2 p3 p4 p5 p6 p7 p8 p9 p10 p11 p12 p13 : Addr} {v0 v1 v2 v3 v4 v5 v6 v7 v8 v9 v10 v11 v12 v13 : Value} (b : Below W.heap.size W w') (h : W.cell? p0 = some v0 ∧ W.cell? p1 = some v1 ∧ W.cell? p2 = some v2 ∧ W.cell? p3 = some v3 ∧ W.cell? p4 = some v4 ∧ W.cell? p5 = some v5 ∧ W.cell? p6 = some v6 ∧ W.cell? p7 = some v7 ∧ W.cell? p8 = some v8 ∧ W.cell? p9 = some v9 ∧ W.cell? p10 = some v10 ∧ W.cell? p11 = some v11 ∧ W.cell? p12 = some v12 ∧ W.cell? p13 = some v13 ∧ Below B w0 W) (hB : B ≤ w0.heap.size) : w'.cell? p0 = some v0 ∧ w'.cell? p1 = some v1 ∧ w'.cell? p2 = some v2 ∧ w'.cell? p3 = some v3 ∧ w'.cell? p4 = some v4 ∧ w'.cell? p5 = some v5 ∧ w'.cell? p6 = some v6 ∧ w'.cell? p7 = some v7 ∧ w'.cell? p8 = some v8 ∧ w'.cell? p9 = some v9 ∧ w'.cell? p10 = some v10 ∧ w'.cell? p11 = some v11 ∧ w'.cell? p12 = some v12 ∧ w'.cell? p13 = some v13 ∧ Below B w0 w' := by
  have k : ∀ (p : Addr) (v : Value), W.cell? p = some v → w'.cell? p = some v := fun p v hv => by rw [b.cell (World.block_lt_of_cell? W _ hv)]; exact hv
  exact ⟨k _ _ h.1, k _ _ h.2.1, k _ _ h.2.2.1, k _ _ h.2.2.2.1, k _ _ h.2.2.2.2.1, k _ _ h.2.2.2.2.2.1, k _ _ h.2.2.2.2.2.2.1, k _ _ h.2.2.2.2.2.2.2.1, k _ _ h.2.2.2.2.2.2.2.2.1, k _ _ h.2.2.2.2.2.2.2.2.2.1, k _ _ h.2.2.2.2.2.2.2.2.2.2.1, k _ _ h.2.2.2.2.2.2.2.2.2.2.2.1, k _ _ h.2.2.2.2.2.2.2.2.2.2.2.2.1, k _ _ h.2.2.2.2.2.2.2.2.2.2.2.2.2.1, h.2.2.2.2.2.2.2.2.2.2.2.2.2.2.trans (b.mono (Nat.le_trans hB h.2.2.2.2.2.2.2.2.2.2.2.2.2.2.size))⟩
theorem below_in {B : Nat} {w0 W : World} {p0 p1 p2 p3 p4 p5 p6 p7 p8 p9 p10 p11 p12 p13 : Addr} {v0 v1 v2 v3 v4 v5 v6 v7 v8 v9 v10 v11 v12 v13 : Value} (h : W.cell? p0 = some v0 ∧ W.cell? p1 = some v1 ∧ W.cell? p2 = some v2 ∧ W.cell? p3 = some v3 ∧ W.cell? p4 = some v4 ∧ W.cell? p5 = some v5 ∧ W.cell? p6 = some v6 ∧ W.cell? p7 = some v7 ∧ W.cell? p8 = some v8 ∧ W.cell? p9 = some v9 ∧ W.cell? p10 = some v10 ∧ W.cell? p11 = some v11 ∧ W.cell? p12 = some v12 ∧ W.cell? p13 = some v13 ∧ Below B w0 W) : Below B w0 W := h.2.2.2.2.2.2.2.2.2.2.2.2.2.2

set_option maxRecDepth 100000 in
set_option maxHeartbeats 20000000 in
theorem plays_yes (r u : Nat) (now : Int) (a : Option Addr) (n cp : Nat) (f : Nat → AskT) (w : World) (hr : r < 18446744073709551616) (hu : u < 18446744073709551616)
    (hs : AsksAt w a n f) (H0 : Hid (quotaB r u = true)) (HT : Hid (timeB now = true)) (hn : n ≤ 60) :
    Calls Try.prog 5 #[.agg #[.float .f64 r, .float .f64 u], .int .i64 now, .slice a n cp] w fun e w' => e = .returned (.bool true) ∧ Below w.heap.size w w' := by
  have HR := Lib.hid hr
  have HU := Lib.hid hu
  have HS := Lib.hid hs
  have hd1 : decide ((60 : Int) < (n : Int)) = false := by simp; omega
  have htt : 0 ≤ now ∧ now ≤ 9007199254740992 := by have := HT.out; simpa [timeB] using this
  have HTT := Lib.hid htt
  clear hr hu hs htt
  go_enter Try.func5, Try.ntmps5
  go_wp2_with fail
  refine (new_b r u now _ H0.out HR.out HU.out HTT.out.1 HTT.out.2).mono ?_
  rintro e w1 ⟨q, hq, rfl, hq1, hb1⟩
  have x0 : Hid (w1.cell? ⟨w.heap.size, 0, none⟩ = some (.float .f64 r) ∧ w1.cell? ⟨w.heap.size, 1, none⟩ = some (.float .f64 u)) := by
    refine Lib.hid ⟨?_, ?_⟩ <;> (rw [hb1.cell (by simp)]; simp [go_sem])
  have W1 : Hid (Below w.heap.size w w1) := Lib.hid (((Below.refl _ _).alloc (Nat.le_refl _) _).trans (hb1.mono (by simp)))
  have hsz1 : w.heap.size < w1.heap.size := by have := hb1.size; simp at this; omega
  have HQ1 := Lib.hid hq1
  have hq0 : w.heap.size + 1 ≤ q := by simp at hq; omega
  obtain ⟨w0, hw0⟩ : ∃ w0, w0 = w.alloc (.cells #[.float .f64 r, .float .f64 u] 24) := ⟨_, rfl⟩
  have BW : Hid (Below (w.heap.size + 1) w0 w1 ∧ w.heap.size + 1 ≤ w0.heap.size) := Lib.hid ⟨by rw [hw0]; exact hb1.mono (by simp), by rw [hw0]; simp⟩
  have HW0 := Lib.hid hw0
  clear hb1 hq1 hq hw0
  obtain ⟨c0, c1⟩ := x0.out
  go_upto_region 4 with fail
  go_cut [43] from 26 to 43 (fun s43 wx => s43 = .bool false ∧ Hid (Below w1.heap.size w1 wx))
  case first =>
    have hBB : Below w1.heap.size w1 w1 := Below.refl _ _
    go_region_with (first
        | (go_at_call 10; refine (may_any r u _ HR.out HU.out).mono ?_; rintro e w' ⟨rfl, hb⟩; rw [H0.out]; obtain ⟨d0, d1, d2⟩ := held_step hb ⟨by assumption, by assumption, by first | assumption | exact Below.drew (by assumption)⟩ (Nat.le_refl w1.heap.size); clear hb)
        | (go_at_call 26; refine (check_any r u _ HR.out HU.out).mono ?_; rintro e w' ⟨rfl, hb⟩; rw [H0.out, show errB true = 0 from rfl]; obtain ⟨d0, d1, d2⟩ := held_step hb ⟨by assumption, by assumption, by first | assumption | exact Below.drew (by assumption)⟩ (Nat.le_refl w1.heap.size); clear hb)
        | (go_at_call 13; refine (num_any 0 _).mono ?_; rintro e w' ⟨rfl, rfl⟩))
    all_goals (go_wp2_with fail; go_meet)
    all_goals exact ⟨rfl, Lib.hid (by assumption)⟩
  case rest =>
  obtain ⟨rfl, HB1⟩ := hcut
  have B1 : Hid (Below w1.heap.size w1 wc) := HB1
  have X1 : Hid (wc.cell? ⟨w.heap.size, 0, none⟩ = some (.float .f64 r) ∧ wc.cell? ⟨w.heap.size, 1, none⟩ = some (.float .f64 u)) := Lib.hid ⟨by rw [B1.out.cell (p := ⟨w.heap.size, 0, none⟩) hsz1]; exact c0, by rw [B1.out.cell (p := ⟨w.heap.size, 1, none⟩) hsz1]; exact c1⟩
  have HQ2 := Lib.hid (HQ1.out.below B1.out)
  clear c0 c1 HB1 x0
  obtain ⟨c0, c1⟩ := X1.out
  go_wp2_with fail
  refine (may_any r u _ HR.out HU.out).mono ?_
  rintro e w2 ⟨rfl, hb2⟩
  rw [H0.out]
  have B2 : Hid (Below w1.heap.size w1 w2) := Lib.hid (B1.out.trans (hb2.mono B1.out.size))
  have X2 : Hid (w2.cell? ⟨w.heap.size, 0, none⟩ = some (.float .f64 r) ∧ w2.cell? ⟨w.heap.size, 1, none⟩ = some (.float .f64 u)) := Lib.hid ⟨by rw [hb2.cell (World.block_lt_of_cell? _ _ c0)]; exact c0, by rw [hb2.cell (World.block_lt_of_cell? _ _ c1)]; exact c1⟩
  have HQ3 := Lib.hid (HQ2.out.below hb2)
  clear hb2 X1 HQ2 c0 c1
  go_wp2_with fail
  refine (reftime_any now _).mono ?_
  rintro e w' ⟨rfl, rfl⟩
  rw [HT.out]
  go_wp2_with fail
  refine (num_any 0 _).mono ?_
  rintro e w' ⟨rfl, rfl⟩
  obtain ⟨ib, hib, hibz, hibs, hibb⟩ := info_parts info_bk
  go_wp2_with (at_make; refine wpList_make_full _ rfl _ _ _ rfl w1.heap.size 56 ib zeroBk.val 6 Try.underlying54 hib hibz hibs .i64 .i64 64 64 64 rfl rfl rfl rfl (by rw [hibb]; decide) (by decide) (B2.out.size) ?_; intro w3 hown hg3)
  have hrr : Hid (HasR w3 w2.heap.size 56 (List.replicate 64 zeroBk)) := Lib.hid (hasR_of_owns (by rw [← made_bks]; exact hown) (by simp))
  have B3 : Hid (Below w1.heap.size w1 w3) := Lib.hid (B2.out.grown hg3 B2.out.size (fun k hk => by simp at hk))
  have X3 : Hid (w3.cell? ⟨w.heap.size, 0, none⟩ = some (.float .f64 r) ∧ w3.cell? ⟨w.heap.size, 1, none⟩ = some (.float .f64 u)) := Lib.hid ⟨by rw [B3.out.cell (p := ⟨w.heap.size, 0, none⟩) hsz1, ← B2.out.cell (p := ⟨w.heap.size, 0, none⟩) hsz1]; exact X2.out.1, by rw [B3.out.cell (p := ⟨w.heap.size, 1, none⟩) hsz1, ← B2.out.cell (p := ⟨w.heap.size, 1, none⟩) hsz1]; exact X2.out.2⟩
  have HQ4 : Hid (HasQ w3 q (List.replicate 64 (newB r u now))) := Lib.hid (HQ3.out.of (hg3.block q HQ3.out.lt (by simp)))
  have hqs2 : q < w2.heap.size := HQ3.out.lt
  have hss : w1.heap.size ≤ w2.heap.size := B2.out.size
  obtain ⟨s, hs⟩ : ∃ s, s = w2.heap.size := ⟨_, rfl⟩
  rw [← hs] at hrr hqs2 hss ⊢
  have HSV := Lib.hid hs
  have hsf := run_store_float
  clear hown hg3 X2 HQ3 hs hib hibz hibs hibb
  go_wp2_with fail
  go_loopg [10] 64 (fun g s10 wr => ∃ k : Nat, k ≤ 64 ∧ s10 = .int .i64 k ∧ g = 64 - k ∧ Hid (HasR wr s 56 (List.replicate k (newB r u now) ++ List.replicate (64 - k) zeroBk) ∧ w3.grownBy wr (some s)))
  case atStart => exact ⟨0, by omega, rfl, rfl, Lib.hid ⟨by simpa using hrr.out, World.grownBy.refl _ _⟩⟩
  case round =>
    obtain ⟨k, hk, rfl, hg, HI⟩ := hrel
    have B4 : Hid (Below w1.heap.size w1 wr) := Lib.hid (below_grown B3.out HI.out.2 hss B3.out.size)
    have X4 : Hid (wr.cell? ⟨w.heap.size, 0, none⟩ = some (.float .f64 r) ∧ wr.cell? ⟨w.heap.size, 1, none⟩ = some (.float .f64 u)) := Lib.hid ⟨by rw [B4.out.cell (p := ⟨w.heap.size, 0, none⟩) hsz1, ← B3.out.cell (p := ⟨w.heap.size, 0, none⟩) hsz1]; exact X3.out.1, by rw [B4.out.cell (p := ⟨w.heap.size, 1, none⟩) hsz1, ← B3.out.cell (p := ⟨w.heap.size, 1, none⟩) hsz1]; exact X3.out.2⟩
    by_cases hlt : k < 64
    · obtain ⟨c0, c1⟩ := X4.out
      go_wp2_with fail
      refine (rnew_b r u now _).mono ?_
      rintro e w5 ⟨rfl, hb5⟩
      rw [show (newB r u now).val = .agg #[.float .f64 r, .float .f64 u, .float .f64 u, .int .i64 now, .float .f64 0, .int .i64 0] from rfl]
      have R5 := Lib.hid (HI.out.1.below hb5)
      have G5 : Hid (w3.grownBy w5 (some s)) := Lib.hid (grown_trans HI.out.2 (grown_below hb5 _))
      have hkl : k < (List.replicate k (newB r u now) ++ List.replicate (64 - k) zeroBk).length := by simp; omega
      have hel : (List.replicate k (newB r u now) ++ List.replicate (64 - k) zeroBk)[k]'hkl = zeroBk := by
        rw [List.getElem_append_right (by simp)]
        simp
      have hbk := R5.out.bk k hkl
      rw [hel] at hbk
      have d0 := hbk.rate
      have d1 := hbk.burst
      have d2 := hbk.level
      have d3 := hbk.time
      have d4 := hbk.paid
      have d5 := hbk.times
      have hfz : ∀ j, w5.frozen? ⟨s, j, none⟩ = false := hbk.free
      clear hbk hb5 hel hkl
      go_wp2_with fail
      go_roundg (64 - (k + 1))
      case measure => omega
      case rel => exact ⟨k + 1, by omega, by go_num, rfl, Lib.hid ⟨rnew_step w5 s k r u _ now hlt R5.out, grown_trans G5.out (grown_trans (grown_trans (grown_trans (grown_trans (grown_trans (grown_setCell _ _ _ _) (grown_setCell _ _ _ _)) (grown_setCell _ _ _ _)) (grown_setCell _ _ _ _)) (grown_setCell _ _ _ _)) (grown_setCell _ _ _ _))⟩⟩
    · obtain rfl : k = 64 := by omega
      have P0 : Hid (PInv wr w0 (w.heap.size + 1) q s (List.replicate 64 (newB r u now)) (.slice none 0 0) (.slice none 0 0) [] 0) := by
        have hrx : HasR wr s 56 (List.replicate 64 (newB r u now)) := by simpa using HI.out.1
        refine Lib.hid ⟨HQ4.out.grown HI.out.2 (by omega), hrx, ?_, ⟨rfl, .inl ⟨rfl, rfl⟩⟩, ⟨rfl, .inl ⟨rfl, rfl⟩⟩, fun x hx => by simp at hx, BW.out.1.trans (B4.out.mono (by omega)), BW.out.2, hq0, by omega⟩
        intro i b hb
        obtain ⟨hi, rfl⟩ := List.getElem?_eq_some_iff.1 hb
        rw [List.getElem_replicate]
        exact ⟨newB_ok r u now H0.out HTT.out.1 HTT.out.2, Int.le_refl 0, Int.le_refl 0⟩
      clear HI hrr HQ4 X3 X4 B3 B4 hsf
      go_wp2_with fail
      have BWW : Hid (Below w.heap.size w w0) := Lib.hid (by rw [HW0.out]; exact (Below.refl _ _).alloc (Nat.le_refl _) _)
      go_loopg [7, 11, 12, 13] n (fun g s7 s11 s12 s13 wx => ∃ (k q' : Nat) (bs : List Bk) (L : List Sv), s7 = .pointer (some ⟨q', 0, none⟩) ∧ s13 = .int .i64 k ∧ g = n - k ∧ k ≤ n ∧ L.length ≤ k ∧ Hid (PInv wx w0 (w.heap.size + 1) q' s bs s11 s12 L k))
      case atStart => exact ⟨0, q, _, [], rfl, rfl, rfl, by omega, by simp, P0⟩
      case round =>
        obtain ⟨k, q', bs, L, rfl, rfl, hg, hk, hL, PI⟩ := hrel
        have BX : Hid (Below w.heap.size w wr) := Lib.hid (BWW.out.trans (PI.out.below.mono (by omega)))
        by_cases hlt : k < n
        · have hdn : decide ((k : Int) < (n : Int)) = true := by simp; omega
          obtain ⟨ad, had, hask⟩ := (HS.out.below BX.out) k hlt
          subst had
          have HA := Lib.hid hask
          obtain ⟨kd, hkd⟩ : ∃ kd, kd = (f k).kind := ⟨_, rfl⟩
          have e0 := hask.c0
          rw [← hkd] at e0
          have HKD := Lib.hid hkd
          clear hask hkd
          go_upto_if 93 with fail
          go_cut [7, 11, 12] from 82 to 136 (fun s7 s11 s12 wy => ∃ (q2 : Nat) (L2 : List Sv), s7 = .pointer (some ⟨q2, 0, none⟩) ∧ L2.length ≤ k + 1 ∧ Hid (PInv wy w0 (w.heap.size + 1) q2 s bs s11 s12 L2 k))
          case first =>
            by_cases h10 : kd = 10
            · subst h10
              go_wp2_with (at_builtin; refine wpList_append_row _ rfl (.tmp 94) (.tmp 96) 58 58 rfl (w.heap.size + 1) 29 (.pointer none) 1 8 Try.underlying58 info_qp rfl _ L.length _ rfl (PI.out.ro.alloc _) _ 1 [.pointer (some ⟨q', 0, none⟩)] rfl (Src.slice Try.underlying58 ⟨wr.heap.size, 0, none⟩ 1 1 _ rfl (cell_one_new _ _ _) (by simp [Value.oneCell'])) ?_ ?_ ?_ ?_)
              · unfold maxLen; omega
              · omega
              · have := PI.out.below.size; have := BW.out.2; simp; omega
              · intro v11' w4 hr4 hg4 _
                have HR4 := Lib.hid hr4
                have HG4 := Lib.hid hg4
                have hz4 : wr.heap.size + 1 ≤ w4.heap.size := by have := hg4.size; simp at this; omega
                -- the document's buckets still stand
                have hds : Hid (HasR w4 s 56 bs) := Lib.hid (PI.out.hr.of (by
                  rw [hg4.block s (by have := PI.out.hr.lt; simp; omega) (fun e => PI.out.ro.neT PI.out.hr.2 ne_types.2.1 e.symm)]
                  exact Below.heap_alloc _ _ _ PI.out.hr.lt))
                have hq4 : Hid (HasQ w4 q' bs) := Lib.hid (PI.out.hq.of (by
                  rw [hg4.block q' (by have := PI.out.hq.lt; simp; omega) (fun e => PI.out.ro.neT PI.out.hq.2 ne_types.1 e.symm)]
                  exact Below.heap_alloc _ _ _ PI.out.hq.lt))
                have rs4 := Lib.hid ((PI.out.rs.alloc (.cells #[.pointer (some ⟨q', 0, none⟩)] 29)).kept hg4 (rows_ne (PI.out.rs.alloc _) (PI.out.ro.alloc (.cells #[.pointer (some ⟨q', 0, none⟩)] 29)) (fun e => ne_types.2.2.2.2.2 e.symm)))
                clear hr4 hg4
                go_wp2_with (at_builtin; refine wpList_append_row _ rfl (.tmp 99) (.tmp 100) 54 54 rfl w4.heap.size 56 zeroBk.val 6 48 Try.underlying54 info_bk rfl _ 0 _ rfl (emptyRow w4 _ _) _ 64 (bs.flatMap Bk.vals) rfl ((hds.out.below ((Below.refl _ _).alloc (Nat.le_refl _) _)).src Try.underlying54) ?_ ?_ ?_ ?_)
                · decide
                · decide
                · simp
                · intro vv w5 hr5 hg5 _
                  have HR5 : Hid (hasRow w5 w4.heap.size 56 6 vv 64 (bs.flatMap Bk.vals)) := Lib.hid (by simpa using hr5)
                  have HG5 : Hid ((w4.alloc (.cells #[] 56)).grownBy w5 (some w4.heap.size)) := Lib.hid hg5
                  have rs5 := Lib.hid ((rs4.out.alloc (.cells #[] 56)).kept HG5.out (.inr fun e => by have := (rs4.out.lt _ e).2; omega))
                  have hq5 : Hid (HasQ w5 q' bs) := Lib.hid ((hq4.out.below ((Below.refl _ _).alloc (Nat.le_refl _) (.cells #[] 56))).grown HG5.out (by have := hq4.out.lt; omega))
                  have hz5 : w4.heap.size + 1 ≤ w5.heap.size := by have := hg5.size; simpa using this
                  clear hr5 hg5
                  obtain ⟨g5, cp5, rfl⟩ := row_form HR5.out (by decide)
                  go_wp2_with (at_builtin; refine wpList_append_row _ rfl (.tmp 98) (.tmp 102) 59 59 rfl (w.heap.size + 1) 54 (.slice none 0 0) 1 24 Try.underlying59 info_sb rfl _ L.length _ rfl (rs5.out.alloc _) _ 1 [.slice (some ⟨g5, 0, none⟩) 64 cp5] rfl (Src.slice Try.underlying59 ⟨w5.heap.size, 0, none⟩ 1 1 _ rfl (cell_one_new _ _ _) (by intro z hz; obtain rfl := List.mem_singleton.1 hz; exact one_of_row HR5.out)) ?_ ?_ ?_ ?_)
                  · unfold maxLen; omega
                  · omega
                  · have := PI.out.below.size; have := BW.out.2; simp; omega
                  · intro v12' w6 hr6 hg6 _
                    have HR6 := Lib.hid hr6
                    have HG6 := Lib.hid hg6
                    have hq6 : Hid (HasQ w6 q' bs) := Lib.hid (hq5.out.of (by
                      rw [hg6.block q' (by have := hq5.out.lt; simp; omega) (fun e => rs5.out.neT hq5.out.2 ne_types.2.2.1 e.symm)]
                      exact Below.heap_alloc _ _ _ hq5.out.lt))
                    clear hr6 hg6
                    go_wp2_with fail
                    refine (copy_b hq6.out).mono ?_
                    rintro e w7 ⟨rfl, hq7, hb7, _⟩
                    have PI7 := Lib.hid (PI.out.aside ((Below.refl _ _).alloc (Nat.le_refl _) _) HR4.out HG4.out ((Below.refl _ _).alloc (Nat.le_refl _) _) rfl HR5.out HG5.out ((Below.refl _ _).alloc (Nat.le_refl _) _) HR6.out HG6.out hq7 hb7 rfl)
                    clear hq7 hb7
                    go_wp2_with fail
                    go_meet
                    case rel => exact ⟨_, _, rfl, by simp; omega, PI7⟩
            · have hd10 : (kd == 10) = false := by simp [h10]
              go_wp2_with fail
              go_meet
              case rel => exact ⟨q', L, rfl, by omega, PI⟩
          case rest =>
          obtain ⟨q2, L2, rfl, hL2, PI2⟩ := hcut
          have BX2 : Hid (Below w.heap.size w wc) := Lib.hid (BWW.out.trans (PI2.out.below.mono (by omega)))
          obtain ⟨ad', had', hask⟩ := (HS.out.below BX2.out) k hlt
          obtain rfl := Option.some.inj had'
          rcases hfx : f k with ⟨kd2, cl, r2, u2, co, nw⟩
          rw [hfx] at hask
          have HB64 : Hid (r2 < 18446744073709551616 ∧ u2 < 18446744073709551616 ∧ co < 18446744073709551616) := Lib.hid ⟨hask.r64, hask.u64, hask.c64⟩
          have a0 : wc.cell? (ad.add (k * 6)) = some (.int .i64 kd2) := hask.c0
          have a1 : wc.cell? ⟨(ad.add (k * 6)).block, (ad.add (k * 6)).off + 1, none⟩ = some (.int .i64 cl) := hask.c1
          have a2 : wc.cell? ⟨(ad.add (k * 6)).block, (ad.add (k * 6)).off + 2, none⟩ = some (.float .f64 r2) := hask.c2
          have a3 : wc.cell? ⟨(ad.add (k * 6)).block, (ad.add (k * 6)).off + 3, none⟩ = some (.float .f64 u2) := hask.c3
          have a4 : wc.cell? ⟨(ad.add (k * 6)).block, (ad.add (k * 6)).off + 4, none⟩ = some (.float .f64 co) := hask.c4
          have a5 : wc.cell? ⟨(ad.add (k * 6)).block, (ad.add (k * 6)).off + 5, none⟩ = some (.int .i64 nw) := hask.c5
          clear hask hfx e0 HKD HA PI BX
          cases hcb : clientB cl with
          | false =>
            have hc2 : cl < 0 ∨ 64 ≤ cl := by
              simp only [clientB, Bool.and_eq_false_iff, decide_eq_false_iff_not] at hcb; omega
            have HC2 := Lib.hid hc2
            have HCB := Lib.hid hcb
            clear hc2 hcb
            go_wp2_with fail
            refine (client_any cl _).mono ?_
            rintro e w' ⟨rfl, rfl⟩
            rw [HCB.out]
            go_wp2_with fail
            refine (nobody_b (.pointer (some ⟨q2, 0, none⟩)) cl 2 _ (fun ok => of_bad_none q2 cl ok bs _ PI2.out.hq (HC2.out.elim .inl (fun h => .inr (.inl h)))) (by rfl)).mono ?_
            rintro e w6 ⟨rfl, hb6⟩
            have PI6 := Lib.hid (PI2.out.onBelow hb6).next
            clear hb6
            go_wp2_with fail
            go_roundg (n - (k + 1))
            case measure => omega
            case rel => exact ⟨k + 1, q2, bs, L2, rfl, by go_num, rfl, by omega, hL2, PI6⟩
          | true =>
            obtain ⟨c, rfl⟩ : ∃ c : Nat, cl = (c : Int) := by
              simp only [clientB, Bool.and_eq_true, decide_eq_true_eq] at hcb
              exact ⟨cl.toNat, by omega⟩
            have hc64 : c < 64 := by simp only [clientB, Bool.and_eq_true, decide_eq_true_eq] at hcb; omega
            have HCB := Lib.hid hcb
            clear hcb
            go_upto_region 29 with fail
            refine (client_any (c : Int) _).mono ?_
            rintro e w' ⟨rfl, rfl⟩
            rw [HCB.out]
            go_upto_region 29 with fail
            go_cut [136] from 82 to 136 (fun s136 wx => s136 = .bool false ∧ ∃ bs3, Hid (PInv wx w0 (w.heap.size + 1) q2 s bs3 u11 u12 L2 (k + 1)))
            case first =>
              obtain ⟨b, hb⟩ : ∃ b, bs[c]? = some b := ⟨bs[c]'(by have := PI2.out.hq.1; omega), List.getElem?_eq_getElem _⟩
              have hbo := PI2.out.ok c b hb
              have HBO := Lib.hid hbo
              have HB := Lib.hid hb
              clear hb hbo
              go_region_with (go_at_call 29; refine (ask_any kd2 (bs := bs) (rs := bs) (b := b) (Lib.hid ⟨PI2.out.hq.of (by rfl), PI2.out.hr.of (by rfl), HB.out, HB.out, HBO.out.1, PI2.out.qs_ne, HBO.out.2.1, by have := HBO.out.2.2; omega, HB64.out.1, HB64.out.2.1, HB64.out.2.2⟩)).mono ?_; rintro e w6 ⟨rfl, b', hq', hr', hok', h0', h1', hk'⟩; have HQ6 := Lib.hid hq'; have HR6 := Lib.hid hr'; have HK6 := Lib.hid hk'; have HO6 := Lib.hid (And.intro hok' (And.intro h0' h1')); clear hq' hr' hok' h0' h1' hk')
              all_goals (go_wp2_with fail; go_meet)
              all_goals exact ⟨rfl, _, Lib.hid (PI2.out.onAsk (HQ6.out.of (by rfl)) (HR6.out.of (by rfl)) HB.out HO6.out.1 HO6.out.2.1 HO6.out.2.2 (Kept.alike (Kept.trans (by exact Kept.alike (Kept.ofBelow (Below.refl _ _)) rfl rfl rfl rfl) HK6.out) rfl rfl rfl rfl))⟩
            case rest =>
            obtain ⟨rfl, bs3, PI3⟩ := hcut
            go_wp2_with fail
            go_roundg (n - (k + 1))
            case measure => omega
            case rel => exact ⟨k + 1, q2, bs3, L2, rfl, by go_num, rfl, by omega, hL2, PI3⟩
        · obtain rfl : k = n := by omega
          have hdn : decide ((k : Int) < (k : Int)) = false := by simp
          obtain ⟨oa, ca, rfl⟩ := row_any PI.out.ro
          obtain ⟨ob, cb, rfl⟩ := row_any PI.out.rs
          obtain ⟨wl, hwl⟩ : ∃ wl, wl = wr := ⟨_, rfl⟩
          subst hwl
          clear hlt
          go_wp2_with fail
          go_loopg [14] L.length (fun g s14 wx => ∃ i : Nat, s14 = .int .i64 i ∧ g = L.length - i ∧ i ≤ L.length ∧ Hid (Below wl.heap.size wl wx))
          case atStart => exact ⟨0, rfl, rfl, Nat.zero_le _, Lib.hid (Below.refl _ _)⟩
          case round =>
            obtain ⟨i, rfl, hgi, hi, HBW⟩ := hrel
            by_cases hil : i < L.length
            · have hdi : decide ((i : Int) < (L.length : Int)) = true := by simp; omega
              go_wp2_with fail
              go_loopg [15] 64 (fun g s15 wx => ∃ j : Nat, s15 = .int .i64 j ∧ g = 64 - j ∧ j ≤ 64 ∧ Hid (Below wl.heap.size wl wx))
              case atStart => exact ⟨0, rfl, rfl, Nat.zero_le _, HBW⟩
              case round =>
                clear HBW
                obtain ⟨j, rfl, hgj, hj, HBJ⟩ := hrel
                have PJ := Lib.hid (PI.out.onBelow HBJ.out)
                by_cases hjl : j < 64
                · obtain ⟨x, hx⟩ : ∃ x, L[i]? = some x := ⟨L[i]'hil, List.getElem?_eq_getElem _⟩
                  obtain ⟨hsx, -, -⟩ := PJ.out.sv x (List.mem_of_getElem? hx)
                  have SX := Lib.hid hsx
                  obtain ⟨g1, rfl, hc1, hl1⟩ := row_some PJ.out.ro (by omega)
                  obtain ⟨g2, rfl, hc2, hl2⟩ := row_some PJ.out.rs (by omega)
                  have c1 : wr.cell? ⟨g1, i, none⟩ = some (.pointer (some ⟨x.q, 0, none⟩)) := hl1 i _ (by rw [List.getElem?_map, hx]; rfl)
                  obtain ⟨g3, c3, hxv⟩ := row_form SX.out.hr (by decide)
                  have c2 : wr.cell? ⟨g2, i, none⟩ = some (.slice (some ⟨g3, 0, none⟩) 64 c3) := by rw [← hxv]; exact hl2 i _ (by rw [List.getElem?_map, hx]; rfl)
                  have hr3 := SX.out.hr
                  rw [hxv] at hr3
                  obtain ⟨g3', hg3', hc3, hl3⟩ := row_some hr3 (by decide)
                  obtain rfl : g3 = g3' := by simpa using hg3'
                  obtain ⟨b1, hb1⟩ : ∃ b, x.bs[j]? = some b := ⟨x.bs[j]'(by have := SX.out.hq.1; omega), List.getElem?_eq_getElem _⟩
                  obtain ⟨b2, hb2⟩ : ∃ b, bs[j]? = some b := ⟨bs[j]'(by have := PJ.out.hq.1; omega), List.getElem?_eq_getElem _⟩
                  obtain ⟨d0, d1, d2, d3, d4, d5⟩ := bk_cells hl3 hb1
                  obtain ⟨f0, f1, f2, f3, f4, f5⟩ := bk_cells PJ.out.hr.cells hb2
                  have HB1 := Lib.hid hb1
                  have HB2 := Lib.hid hb2
                  clear hsx hx hl1 hl2 hl3 hr3 hg3' hb1 hb2 hxv
                  go_upto_region 37 with fail
                  go_cut [170] from 143 to 170 (fun s170 wx => s170 = .bool false ∧ Hid (Below wl.heap.size wl wx))
                  case first =>
                    have hS : wr.cell? ⟨g1, i, none⟩ = some (.pointer (some ⟨x.q, 0, none⟩)) ∧ wr.cell? ⟨g2, i, none⟩ = some (.slice (some ⟨g3, 0, none⟩) 64 c3) ∧ wr.cell? ⟨g3, j * 6, none⟩ = some (.float .f64 b1.rate) ∧ wr.cell? ⟨g3, j * 6 + 1, none⟩ = some (.float .f64 b1.burst) ∧ wr.cell? ⟨g3, j * 6 + 2, none⟩ = some (.float .f64 b1.level) ∧ wr.cell? ⟨g3, j * 6 + 3, none⟩ = some (.int .i64 b1.time) ∧ wr.cell? ⟨g3, j * 6 + 4, none⟩ = some (.float .f64 b1.paid) ∧ wr.cell? ⟨g3, j * 6 + 5, none⟩ = some (.int .i64 b1.times) ∧ wr.cell? ⟨s, j * 6, none⟩ = some (.float .f64 b2.rate) ∧ wr.cell? ⟨s, j * 6 + 1, none⟩ = some (.float .f64 b2.burst) ∧ wr.cell? ⟨s, j * 6 + 2, none⟩ = some (.float .f64 b2.level) ∧ wr.cell? ⟨s, j * 6 + 3, none⟩ = some (.int .i64 b2.time) ∧ wr.cell? ⟨s, j * 6 + 4, none⟩ = some (.float .f64 b2.paid) ∧ wr.cell? ⟨s, j * 6 + 5, none⟩ = some (.int .i64 b2.times) ∧ Below wr.heap.size wr wr := ⟨c1, c2, d0, d1, d2, d3, d4, d5, f0, f1, f2, f3, f4, f5, Below.refl _ _⟩
                    clear c1 c2 d0 d1 d2 d3 d4 d5 f0 f1 f2 f3 f4 f5
                    go_region_held3 (fun W => W.cell? ⟨g1, i, none⟩ = some (.pointer (some ⟨x.q, 0, none⟩)) ∧ W.cell? ⟨g2, i, none⟩ = some (.slice (some ⟨g3, 0, none⟩) 64 c3) ∧ W.cell? ⟨g3, j * 6, none⟩ = some (.float .f64 b1.rate) ∧ W.cell? ⟨g3, j * 6 + 1, none⟩ = some (.float .f64 b1.burst) ∧ W.cell? ⟨g3, j * 6 + 2, none⟩ = some (.float .f64 b1.level) ∧ W.cell? ⟨g3, j * 6 + 3, none⟩ = some (.int .i64 b1.time) ∧ W.cell? ⟨g3, j * 6 + 4, none⟩ = some (.float .f64 b1.paid) ∧ W.cell? ⟨g3, j * 6 + 5, none⟩ = some (.int .i64 b1.times) ∧ W.cell? ⟨s, j * 6, none⟩ = some (.float .f64 b2.rate) ∧ W.cell? ⟨s, j * 6 + 1, none⟩ = some (.float .f64 b2.burst) ∧ W.cell? ⟨s, j * 6 + 2, none⟩ = some (.float .f64 b2.level) ∧ W.cell? ⟨s, j * 6 + 3, none⟩ = some (.int .i64 b2.time) ∧ W.cell? ⟨s, j * 6 + 4, none⟩ = some (.float .f64 b2.paid) ∧ W.cell? ⟨s, j * 6 + 5, none⟩ = some (.int .i64 b2.times) ∧ Below wr.heap.size wr W)
                      (first | assumption | exact told_drew (by assumption) | exact told_keep (by assumption) (by assumption) (Nat.le_refl _))
                      (first
                        | (go_at_call_of 30 (Value.pointer (some (⟨x.q, 0, none⟩ : Addr))); refine (told_same x.q j x.bs b1 _ (SX.out.hq.below (below_in (by assumption))) HB1.out (SX.out.ok j b1 HB1.out)).mono ?_; rintro e w6 ⟨rfl, hb6⟩)
                        | (go_at_call_of 30 (Value.pointer (some (⟨q', 0, none⟩ : Addr))); refine (told_same q' j bs b2 _ (PJ.out.hq.below (below_in (by assumption))) HB2.out (PJ.out.ok j b2 HB2.out).1).mono ?_; rintro e w6 ⟨rfl, hb6⟩))
                    all_goals (go_wp2_with fail; go_meet)
                    all_goals exact ⟨rfl, Lib.hid (HBJ.out.trans (Below.mono (below_in (by assumption)) HBJ.out.size))⟩
                  case rest =>
                    obtain ⟨rfl, HBK⟩ := hcut
                    go_wp2_with fail
                    go_roundg (64 - (j + 1))
                    case measure => omega
                    case rel => exact ⟨j + 1, by go_num, rfl, by omega, HBK⟩
                · obtain rfl : j = 64 := by omega
                  go_wp2_with fail
                  go_roundg (L.length - (i + 1))
                  case measure => omega
                  case rel => exact ⟨i + 1, by go_num, rfl, by omega, HBJ⟩
            · obtain rfl : i = L.length := by omega
              have hdi : decide ((L.length : Int) < (L.length : Int)) = false := by simp
              have PE := Lib.hid (PI.out.onBelow HBW.out)
              go_wp2_with fail
              refine (nobody_b (.pointer none) 0 1 _ (fun ok => of_nil 0 ok _) (by rfl)).mono ?_
              rintro e w6 ⟨rfl, hb6⟩
              have BE : Hid (Below (w.heap.size + 1) w0 w6) := Lib.hid (PE.out.below.trans (hb6.mono (Nat.le_trans PE.out.b0 PE.out.below.size)))
              clear hb6
              go_wp2_with fail
              refine (nobody_b (.pointer (some ⟨w6.heap.size, 0, none⟩)) 99 1 _ (fun ok => of_unmade w6.heap.size 99 ok _ (unmade_new w6)) (by rfl)).mono ?_
              rintro e w7 ⟨rfl, hb7⟩
              have BF : Hid (Below (w.heap.size + 1) w0 w7) := Lib.hid ((BE.out.alloc (Nat.le_trans BW.out.2 BE.out.size) _).trans (hb7.mono (by simp; have h1 := BW.out.2; have h2 := BE.out.size; omega)))
              clear hb7
              go_wp2_with fail
              refine (copy_none w7.heap.size _ (unmade_new w7)).mono ?_
              rintro e w' ⟨rfl, rfl⟩
              go_wp2_with fail
              refine (works_any _).mono ?_
              rintro e w9 ⟨rfl, hb9⟩
              have BG : Hid (Below (w.heap.size + 1) w0 w9) := Lib.hid ((BF.out.alloc (Nat.le_trans BW.out.2 BF.out.size) _).trans (hb9.mono (by simp; have h1 := BW.out.2; have h2 := BF.out.size; omega)))
              clear hb9
              go_wp2_with fail
              go_ret
              exact ⟨rfl, BWW.out.trans (BG.out.mono (Nat.le_succ _))⟩
end Go.Proofs.Ytbpnhpjcepgiiaa
