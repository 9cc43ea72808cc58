/- StatsTally: the walk. -/
import Derived.Test.YtbpnhpjcepgiiaaUq
import Derived.Deep.LoopGhost
import Derived.Deep.CutRange
import Derived.OwnWalk
namespace Go.Proofs.Ytbpnhpjcepgiiaa
open Go.RowKit Fl

theorem info_tp : (Try.prog.info? 78).map (fun i => (i.zero, i.size, i.bytes)) = some (some (.pointer none), 1, 8) := by kernel_rfl
theorem info_rt : (Try.prog.info? 82).map (fun i => (i.zero, i.size, i.bytes)) = some (some (.agg #[.int .i64 0, .float .f64 0, .float .f64 0, .float .f64 0, .float .f64 0, .float .f64 0]), 6, 48) := by kernel_rfl
theorem vals_one (t : Ta) : ∀ v ∈ t.vals, v.oneCell' = true := by
  intro v hv
  simp only [Ta.vals, List.mem_cons, List.not_mem_nil, or_false] at hv
  rcases hv with rfl | rfl | rfl | rfl | rfl | rfl <;> rfl
theorem src_vals (w : World) (t : Ta) (x : TypeId) : ∀ j v, t.vals[j]? = some v → (w.alloc (.cells #[.int .i64 t.n, .float .f64 t.sum, .float .f64 t.mean, .float .f64 t.m, .float .f64 t.least, .float .f64 t.greatest] x)).cell? ((⟨w.heap.size, 0, none⟩ : Addr).add j) = some v := fun j v hj => by
  rw [addg, cell_of_row _ _ _ _ _ _ (heap_alloc_new w _)]
  simpa [Ta.vals] using hj
theorem tally_long (oS : Option Addr) (N cS : Nat) (z : Bool) (w : World) (hN : 30 < N) :
    Calls Try.prog 7 #[.slice oS N cS, .bool z] w fun e w' => e = .returned (.bool true) ∧ Below w.heap.size w w' := by
  have hd : decide ((30 : Int) < (N : Int)) = true := by simp; omega
  clear hN
  go_enter Try.func7, Try.ntmps7
  go_wp2_with fail
  refine (lworks_any _).mono ?_
  rintro e w9 ⟨rfl, hb9⟩
  go_wp2_with fail
  go_ret
  exact ⟨rfl, hb9⟩
theorem pow30 (k : Nat) (h : k < 30) : (200 : Int) * 2 ^ k ≤ 107374182400 := by
  have h1 : (2 : Nat) ^ k ≤ 2 ^ 29 := Nat.pow_le_pow_right (by decide) (by omega)
  rw [show (2 : Nat) ^ 29 = 536870912 by decide] at h1
  rw [show (2 : Int) ^ k = (((2 : Nat) ^ k : Nat) : Int) by rw [Int.natCast_pow]; rfl]
  omega

set_option maxRecDepth 100000 in
set_option maxHeartbeats 20000000 in
theorem tally_walk (oS : Option Addr) (N cS : Nat) (z : Bool) (F : Nat → AskT) (w : World) (hs : AsksAt w oS N F) (hN : N ≤ 30) :
    Calls Try.prog 7 #[.slice oS N cS, .bool z] w fun e w' => e = .returned (.bool true) ∧ Below w.heap.size w w' := by
  have HS := Lib.hid hs
  have hd1 : decide ((30 : Int) < (N : Int)) = false := by simp; omega
  clear hs
  go_enter Try.func7, Try.ntmps7
  go_wp2_with fail
  refine (tnew_b _).mono ?_
  rintro e w1 ⟨rfl, ht1, hb1⟩
  have HT1 := Lib.hid ht1
  have HB1 := Lib.hid hb1
  clear ht1 hb1
  go_upto_if 21 with fail
  go_cut [5] from 22 to 23 (fun s5 wx => ∃ q : Nat, s5 = .pointer (some ⟨q, 0, none⟩) ∧ Hid (TaAt wx q ⟨0, 0, 0, 0, 0, 0⟩ ∧ TbAt wx w1.heap.size ⟨0, 0, 0, 0, 0, 0⟩ ∧ Below w.heap.size w wx ∧ w.heap.size ≤ q))
  case first =>
    have b2 : Below w1.heap.size w1 (w1.alloc (.cells #[.int .i64 0, .float .f64 0, .float .f64 0, .float .f64 0, .float .f64 0, .float .f64 0] 82)) := (Below.refl _ _).alloc (Nat.le_refl _) _
    have t2 : TbAt (w1.alloc (.cells #[.int .i64 0, .float .f64 0, .float .f64 0, .float .f64 0, .float .f64 0, .float .f64 0] 82)) w1.heap.size ⟨0, 0, 0, 0, 0, 0⟩ := ⟨heap_alloc_new _ _⟩
    have B2 := Lib.hid b2
    have T2 := Lib.hid t2
    clear b2 t2
    cases z with
    | false =>
      go_wp2_with fail
      go_meet
      exact ⟨_, rfl, Lib.hid ⟨HT1.out.of (B2.out.block _ HT1.out.lt), T2.out, HB1.out.trans (B2.out.mono HB1.out.size), Nat.le_refl _⟩⟩
    | true =>
      go_wp2_with fail
      go_meet
      exact ⟨_, rfl, Lib.hid ⟨⟨by rw [show w1.heap.size + 1 = (w1.alloc (.cells #[.int .i64 0, .float .f64 0, .float .f64 0, .float .f64 0, .float .f64 0, .float .f64 0] 82)).heap.size by simp]; exact heap_alloc_new _ _⟩, T2.out.of (Below.heap_alloc _ _ _ T2.out.lt), (HB1.out.trans (B2.out.mono HB1.out.size)).alloc (Nat.le_trans HB1.out.size B2.out.size) _, Nat.le_succ_of_le HB1.out.size⟩⟩
  case rest =>
  obtain ⟨q, rfl, HI⟩ := hcut
  have P0 : Hid (PInv wc w q w1.heap.size ⟨0, 0, 0, 0, 0, 0⟩ ⟨0, 0, 0, 0, 0, 0⟩ (.slice none 0 0) (.slice none 0 0) [] 0) :=
    Lib.hid ⟨Pair.zero, HI.out.1, HI.out.2.1, by decide, ⟨rfl, .inl ⟨rfl, rfl⟩⟩, ⟨rfl, .inl ⟨rfl, rfl⟩⟩, fun x hx => by simp at hx, HI.out.2.2.1, HI.out.2.2.2, HB1.out.size⟩
  obtain ⟨s, hs⟩ : ∃ s, s = w1.heap.size := ⟨_, rfl⟩
  rw [← hs] at P0 ⊢
  clear HI HT1 HB1 hs
  go_wp2_with fail
  go_loopg [5, 7, 8, 9] N (fun g s5 s7 s8 s9 wx => ∃ (k q' : Nat) (a b : Ta) (L : List Sv), s5 = .pointer (some ⟨q', 0, none⟩) ∧ s9 = .int .i64 k ∧ g = N - k ∧ k ≤ N ∧ L.length ≤ k ∧ Hid (PInv wx w q' s a b s7 s8 L k))
  case atStart => exact ⟨0, q, _, _, [], rfl, rfl, rfl, by omega, by simp, P0⟩
  case round =>
    obtain ⟨k, q', a, b, L, rfl, rfl, hg, hk, hL, PI⟩ := hrel
    by_cases hlt : k < N
    · have hdn : decide ((k : Int) < (N : Int)) = true := by simp; omega
      obtain ⟨ad, had, hask⟩ := (HS.out.below (PI.out.below.mono (Nat.le_refl _))) k hlt
      subst had
      rcases hFx : F k with ⟨kd, oa, n, c, f⟩
      rw [hFx] at hask
      have e0 : wr.cell? (ad.add (k * 2)) = some (.int .i64 kd) := hask.c0
      have e1 : wr.cell? ⟨(ad.add (k * 2)).block, (ad.add (k * 2)).off + 1, none⟩ = some (.slice oa n c) := hask.c1
      clear hask
      by_cases h200 : 200 < n
      · have hd2 : decide ((200 : Int) < (n : Int)) = true := by simp; omega
        go_wp2_with fail
        refine (lworks_any _).mono ?_
        rintro e w9 ⟨rfl, hb9⟩
        go_wp2_with fail
        go_ret
        exact ⟨rfl, PI.out.below.trans (hb9.mono PI.out.below.size)⟩
      · have hd2 : decide ((200 : Int) < (n : Int)) = false := by simp; omega
        go_upto_if 45 with fail
        go_cut [5, 7, 8] from 46 to 57 (fun s5 s7 s8 wy => ∃ (q2 : Nat) (L2 : List Sv), s5 = .pointer (some ⟨q2, 0, none⟩) ∧ L2.length ≤ k + 1 ∧ Hid (PInv wy w q2 s a b s7 s8 L2 k))
        case first =>
          by_cases h5 : kd = 5
          · subst h5
            go_wp2_with (at_builtin; refine wpList_append_row _ rfl (.tmp 46) (.tmp 48) 85 85 rfl w.heap.size 78 (.pointer none) 1 8 Try.underlying85 info_tp rfl _ L.length _ rfl (PI.out.ro.alloc _) _ 1 [.pointer (some ⟨q', 0, none⟩)] rfl (Src.slice Try.underlying85 ⟨wr.heap.size, 0, none⟩ 1 1 _ rfl (cell_one_new _ _ _) (by simp [Value.oneCell'])) ?_ ?_ ?_ ?_)
            · unfold maxLen; omega
            · omega
            · have := PI.out.below.size; simp; omega
            · intro v7' w2 hr2 hg2 _
              have HR2 := Lib.hid hr2
              have HG2 := Lib.hid hg2
              have A1 : Hid (Below wr.heap.size wr (wr.alloc (.cells #[.pointer (some ⟨q', 0, none⟩)] 78))) := Lib.hid ((Below.refl _ _).alloc (Nat.le_refl _) _)
              have P1 := Lib.hid (PI.out.onBelow A1.out)
              have htb2 : TbAt w2 s b := P1.out.tb.of (hg2.block s P1.out.tb.lt (fun e => PI.out.ro.neT PI.out.tb.at_ ne_types.2.1 e.symm))
              have hta2 : TaAt w2 q' a := P1.out.ta.of (hg2.block q' P1.out.ta.lt (fun e => PI.out.ro.neT PI.out.ta.at_ ne_types.1 e.symm))
              have hrs2 : hasRow w2 (s + 1) 82 6 u8 L.length (L.flatMap fun x => x.b.vals) := P1.out.rs.kept hg2 (by
                by_cases hn : u8.ownBlock = none
                · exact .inl hn
                · right; intro e
                  obtain ⟨_, ⟨hh, _⟩ | ⟨ga, ca, cua, fra, hva, _, hga, _⟩⟩ := P1.out.ro
                  · rw [hh] at e; exact hn e
                  · exact P1.out.rs.neT hga (fun e => ne_types.2.1 e.symm) (by rw [e, hva]; rfl))
              obtain ⟨t0, t1, t2, t3, t4, t5, -⟩ := htb2.cells
              have TB2 := Lib.hid htb2
              have TA2 := Lib.hid hta2
              have RS2 := Lib.hid hrs2
              have S2 : Hid (s < w2.heap.size) := Lib.hid htb2.lt
              clear hr2 hg2 htb2 hta2 hrs2
              go_wp2_with (at_builtin; refine wpList_append_row _ rfl (.tmp 50) (.tmp 54) 86 86 rfl (s + 1) 82 (.agg #[.int .i64 0, .float .f64 0, .float .f64 0, .float .f64 0, .float .f64 0, .float .f64 0]) 6 48 Try.underlying86 info_rt rfl _ L.length _ rfl (RS2.out.alloc _) _ 1 b.vals rfl (Src.slice Try.underlying86 ⟨w2.heap.size, 0, none⟩ 1 1 _ rfl (src_vals w2 b _) (vals_one b)) ?_ ?_ ?_ ?_)
              · unfold maxLen; omega
              · omega
              · have := S2.out; simp; omega
              · intro v8' w4 hr4 hg4 _
                have HR4 := Lib.hid hr4
                have HG4 := Lib.hid hg4
                have TA4 : Hid (TaAt w4 q' a) := Lib.hid ((TA2.out.of (Below.heap_alloc _ (.cells #[.int .i64 b.n, .float .f64 b.sum, .float .f64 b.mean, .float .f64 b.m, .float .f64 b.least, .float .f64 b.greatest] 82) _ TA2.out.lt)).of (hg4.block q' (by simp; have := TA2.out.lt; omega) (fun e => RS2.out.neT TA2.out.at_ ne_types.2.2 e.symm)))
                clear hr4 hg4 t0 t1 t2 t3 t4 t5
                go_wp2_with fail
                refine (copy_any q' a _ TA4.out).mono ?_
                rintro e w5 ⟨rfl, hq5, hb5⟩
                have P5 := Lib.hid (PI.out.aside A1.out HR2.out HG2.out ((Below.refl _ _).alloc (Nat.le_refl _) _) HR4.out HG4.out hq5 hb5 rfl)
                clear hq5 hb5
                go_wp2_with fail
                go_meet
                case rel => exact ⟨_, _, rfl, by simp; omega, P5⟩
          · have hd5 : (kd == 5) = false := by simp [h5]
            go_wp2_with fail
            go_meet
            case rel => exact ⟨q', L, rfl, by omega, PI⟩
        case rest =>
        obtain ⟨q2, L2, rfl, hL2, PI2⟩ := hcut
        obtain ⟨ad', had', hask⟩ := (HS.out.below (PI2.out.below.mono (Nat.le_refl _))) k hlt
        obtain rfl := Option.some.inj had'
        rw [hFx] at hask
        have HFL := Lib.hid hask.fl
        have a0 : wc.cell? (ad.add (k * 2)) = some (.int .i64 kd) := hask.c0
        have a1 : wc.cell? ⟨(ad.add (k * 2)).block, (ad.add (k * 2)).off + 1, none⟩ = some (.slice oa n c) := hask.c1
        have hfl0 : FloatsAt w oa n f := by
          obtain ⟨ad2, h2, h3⟩ := HS.out k hlt
          rw [hFx] at h3
          exact h3.fl
        have AH : Hid (AskH wc q2 s oa n f a b (200 * 2 ^ k)) := Lib.hid ⟨PI2.out.pair, PI2.out.ta, PI2.out.tb, hask.fl, fun h0 ad2 h2 => by
          obtain ⟨ad3, h3, _, h4, _⟩ := hfl0 0 h0
          rw [h2] at h3
          obtain rfl := Option.some.inj h3
          have := PI2.out.bq
          have := PI2.out.bs
          constructor <;> omega, by omega, PI2.out.m, pow30 k (by omega)⟩
        clear hask e0 e1 PI hfl0
        go_wp2_with fail
        refine (ask_any kd AH).mono ?_
        rintro e w6 ⟨rfl, a', b', hp', hta', htb', hk', hm'⟩
        have PI3 := Lib.hid (PI2.out.onAsk hp' hta' htb' hk' hm')
        clear hp' hta' htb' hk' hm'
        go_wp2_with fail
        refine (as_b q2 s a' b' _ PI3.out.pair PI3.out.ta PI3.out.tb).mono ?_
        rintro e w7 ⟨rfl, hb7⟩
        have PI4 := Lib.hid (PI3.out.onBelow hb7)
        clear hb7
        go_wp2_with fail
        go_roundg (N - (k + 1))
        case measure => omega
        case rel => exact ⟨k + 1, q2, a', b', L2, rfl, by go_num, rfl, by omega, hL2, PI4⟩
    · obtain rfl : k = N := by omega
      have hdn : decide ((k : Int) < (k : Int)) = false := by simp
      obtain ⟨oa, ca, rfl⟩ := row_any PI.out.ro
      obtain ⟨ob, cb, rfl⟩ := row_any PI.out.rs
      obtain ⟨wl, hwl⟩ : ∃ wl, wl = wr := ⟨_, rfl⟩
      subst hwl
      clear hlt
      go_wp2_with fail
      go_loopg [10] L.length (fun g s10 wx => ∃ i : Nat, s10 = .int .i64 i ∧ g = L.length - i ∧ i ≤ L.length ∧ Hid (Below wl.heap.size wl wx))
      case atStart => exact ⟨0, rfl, rfl, Nat.zero_le _, Lib.hid (Below.refl _ _)⟩
      case round =>
        obtain ⟨i, rfl, hgi, hi, HBW⟩ := hrel
        have PJ := Lib.hid (PI.out.onBelow HBW.out)
        by_cases hil : i < L.length
        · have hdi : decide ((i : Int) < (L.length : Int)) = true := by simp; omega
          obtain ⟨g1, g2, x, rfl, rfl, hx, c1, htc⟩ := PJ.out.at_ hil rfl rfl
          obtain ⟨hxa, hxp, -⟩ := PJ.out.sv x hx
          have HXA := Lib.hid hxa
          have HXP := Lib.hid hxp
          have HTC := Lib.hid htc
          clear hxa hxp htc hx
          go_upto_region 24 with fail
          go_cut [90] from 82 to 90 (fun s90 wx => s90 = .bool false ∧ Hid (Below wl.heap.size wl wx))
          case first =>
            go_region_with (go_at_call 39; refine (as_c x.q g2 (i * 6) x.a x.b _ HXP.out (HXA.out.of (by rfl)) (HTC.out.of (by rfl))).mono ?_; rintro e w6 ⟨rfl, hb6⟩; have HB6 := Lib.hid hb6; clear hb6)
            all_goals (go_wp2_with fail; go_meet)
            all_goals exact ⟨rfl, Lib.hid (HBW.out.trans (Below.mono (by exact ⟨HB6.out.os, HB6.out.tape, HB6.out.output, HB6.out.size, HB6.out.block⟩) HBW.out.size))⟩
          case rest =>
          obtain ⟨rfl, HBK⟩ := hcut
          go_wp2_with fail
          go_roundg (L.length - (i + 1))
          case measure => omega
          case rel => exact ⟨i + 1, by go_num, rfl, by omega, HBK⟩
        · obtain rfl : i = L.length := by omega
          have hdi : decide ((L.length : Int) < (L.length : Int)) = false := by simp
          have hsf := run_store_float
          have heq : ∀ W : World, Sem.run Try.prog (Op.equalIn 9999 22 (.float .f64 0) (.float .f64 0)) W = .ok true W := fun W => by kernel_rfl
          go_wp2_with fail
          refine (told_nil _).mono ?_
          rintro e w6 ⟨rfl, hb6⟩
          have B6 : Hid (Below w.heap.size w w6) := Lib.hid (PJ.out.below.trans (hb6.mono PJ.out.below.size))
          clear hb6
          go_wp2_with fail
          refine (add_nil _).mono ?_
          rintro e w' ⟨rfl, rfl⟩
          go_wp2_with fail
          refine (lnum_any 1 _).mono ?_
          rintro e w' ⟨rfl, rfl⟩
          go_wp2_with fail
          refine (count_nil _).mono ?_
          rintro e w' ⟨rfl, rfl⟩
          go_wp2_with fail
          refine (lnum_any 1 _).mono ?_
          rintro e w' ⟨rfl, rfl⟩
          go_wp2_with fail
          refine (tnew_b _).mono ?_
          rintro e w7 ⟨rfl, -, hb7⟩
          have B7 : Hid (Below w.heap.size w w7) := Lib.hid ((B6.out.alloc B6.out.size _).trans (hb7.mono (by simp; have := B6.out.size; omega)))
          clear hb7
          go_wp2_with fail
          refine (merge_nil1 _ _).mono ?_
          rintro e w' ⟨rfl, rfl⟩
          go_wp2_with fail
          refine (lnum_any 1 _).mono ?_
          rintro e w' ⟨rfl, rfl⟩
          go_wp2_with fail
          refine (copy_nil _).mono ?_
          rintro e w' ⟨rfl, rfl⟩
          go_wp2_with fail
          refine (reset_nil _).mono ?_
          rintro e w' ⟨rfl, rfl⟩
          go_wp2_with fail
          refine (lnum_any 1 _).mono ?_
          rintro e w' ⟨rfl, rfl⟩
          go_wp2_with fail
          refine (lworks_any _).mono ?_
          rintro e w9 ⟨rfl, hb9⟩
          go_wp2_with fail
          go_ret
          exact ⟨rfl, B7.out.trans (hb9.mono B7.out.size)⟩
end Go.Proofs.Ytbpnhpjcepgiiaa
