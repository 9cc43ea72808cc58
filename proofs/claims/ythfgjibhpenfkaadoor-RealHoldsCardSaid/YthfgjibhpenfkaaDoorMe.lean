/- RealSorted: its walk. -/
import Derived.Test.YthfgjibhpenfkaaDoorMd
import Derived.Test.YthfgjibhpenfkaaDoorMb
import Derived.StillTailTactics
import Derived.Deep.RegionHeldLaw
import Derived.Lib.SlBytesConst
namespace Go.Proofs.YthfgjibhpenfkaaDoor
open Go.RowKit Fl

theorem ab_cells {W : World} {g : Nat} {T : TypeId} {fr : Nat × Nat} (h : W.heap[g]? = some (.cells #[.int .u8 97, .int .u8 98] T fr)) : ∀ (j : Nat) (v : Value), (byteCells [97, 98])[j]? = some v → W.cell? ((⟨g, 0, none⟩ : Addr).add j) = some v := fun j v hv => by
  rw [Go.WideShapes.add_plain, Nat.zero_add, cell_of_row W _ j _ _ _ h]
  match j, hv with
  | 0, hv => exact hv
  | 1, hv => exact hv
theorem after_new {w w' : World} {o : Obj} (h : Below (w.alloc o).drew.heap.size (w.alloc o).drew w') : Below w.heap.size w w' := by
  have h2 : Below (w.alloc o).heap.size (w.alloc o) w' := below_undrew h
  exact (below_alloc w o).trans (h2.mono (below_alloc w o).size)
theorem below_undrew' {w w' : World} (h : Below w.heap.size w w') : Below w.heap.size w w' := h
theorem num_q (n : Int) (w : World) : Calls Tryd.prog 10 #[.int .i64 n] w fun e w' => e = .returned (.int .i64 n) ∧ w' = w := (num_any n w).mono fun _ _ ⟨h1, h2⟩ => ⟨h1, h2.symm⟩
theorem rlike_q (x y : Nat) (w : World) (hx : x < 18446744073709551616) (hy : y < 18446744073709551616) :
    Calls Tryd.prog 17 #[.float .f64 x, .float .f64 y] w fun e w' => e = .returned (.bool (placeW x == placeW y)) ∧ w' = w := (rlike_any x y w hx hy).mono fun _ _ ⟨h1, h2⟩ => ⟨h1, h2.symm⟩
theorem rorder_q (x y : Nat) (w : World) (hx : x < 18446744073709551616) (hy : y < 18446744073709551616) :
    Calls Tryd.prog 13 #[.float .f64 x, .float .f64 y] w fun e w' => e = .returned (.int .i64 (ordF x y)) ∧ w' = w := (rorder_any x y w hx hy).mono fun _ _ ⟨h1, h2⟩ => ⟨h1, h2.symm⟩
set_option maxRecDepth 100000 in
set_option maxHeartbeats 4000000 in
theorem realSorted_walk (oa : Option Addr) (n c : Nat) (f : Nat → Nat) (x : Nat) (w : World) (hf : FloatsAt w oa n f) (ho : oa = none → c = 0) (hx : x < 18446744073709551616) (ht : Pow10 w) :
    Calls Tryd.prog 6 #[.slice oa n c, .float .f64 x] w fun e w' => e = .returned (.bool true) ∧ Below w.heap.size w w' := by
  have HX := Lib.hid hx
  have HT := Lib.hid ht
  have HF := Lib.hid hf
  have HO := Lib.hid ho
  clear hx ht hf ho
  by_cases hn : 300 < n
  · have hd : decide ((300 : Int) < (n : Int)) = true := by simp; omega
    go_enter Tryd.func6, Tryd.ntmps6
    go_wp2_with fail
    refine (works_any _ HT.out).mono ?_
    rintro e w2 ⟨rfl, hb2⟩
    go_wp2_with fail
    go_ret
    exact ⟨rfl, hb2⟩
  · have hd : decide ((300 : Int) < (n : Int)) = false := by simp; omega
    have hnn : n ≤ 300 := by omega
    have HN : Hid (n ≤ 300) := Lib.hid hnn
    clear hn
    go_enter Tryd.func6, Tryd.ntmps6
    go_wp2_with fail
    refine (sort_any oa n c f _ HF.out (by have := HN.out; omega) HO.out).mono ?_
    rintro e w1 ⟨so, cap, rfl, hs1, hb1⟩
    have HS1 := Lib.hid hs1
    have HB1 := Lib.hid hb1
    clear hs1 hb1
    go_wp2_with fail
    refine (num_any _ _).mono ?_
    rintro e w' ⟨rfl, rfl⟩
    go_wp2_with fail
    go_loopg [7] n (fun g s7 wr => ∃ i : Nat, s7 = .int .i64 i ∧ g = n - i ∧ i ≤ n ∧ Hid (Below w1.heap.size w1 wr))
    case atStart => exact ⟨0, rfl, by omega, Nat.zero_le _, Lib.hid (Below.refl _ _)⟩
    case round =>
      obtain ⟨i, rfl, hg, hin, HB⟩ := hrel
      by_cases hlt : i < n
      · have hd1 : decide ((i : Int) < (n : Int)) = true := by simp; omega
        --(
        have hi0 : (i : Int) < (n : Int) := by omega
        obtain ⟨ad, hso, -⟩ := HS1.out i hlt
        obtain ⟨al, hoa, -⟩ := HF.out i hlt
        subst hso
        subst hoa
        have HSR : Hid (FloatsAt wr (some ad) n (sF f n)) := Lib.hid (HS1.out.below HB.out)
        have HFR : Hid (FloatsAt wr (some al) n f) := Lib.hid ((HF.out.below HB1.out).below HB.out)
        have hcs : wr.cell? (ad.add i) = some (.float .f64 (sF f n i)) := by obtain ⟨_, h1, h2, _⟩ := HSR.out i hlt; obtain rfl := Option.some.inj h1; exact h2
        have hcl : wr.cell? (al.add i) = some (.float .f64 (f i)) := by obtain ⟨_, h1, h2, _⟩ := HFR.out i hlt; obtain rfl := Option.some.inj h1; exact h2
        have HLT := Lib.hid hlt
        have hfi : f i < 18446744073709551616 := by obtain ⟨_, _, _, _, h4⟩ := HFR.out i hlt; exact h4
        have HFI := Lib.hid hfi
        obtain ⟨sv, hsv⟩ : ∃ sv, sv = sF f n i := ⟨_, rfl⟩
        obtain ⟨fv, hfv⟩ : ∃ fv, fv = f i := ⟨_, rfl⟩
        rw [← hsv] at hcs
        rw [← hfv] at hcl
        have HSV := Lib.hid hsv
        have HFV := Lib.hid hfv
        clear hsv hfv hfi
        go_upto_region 9 with fail
        go_cut [57] from 43 to 57 (fun s57 wx => s57 = .bool false ∧ Hid (Below w1.heap.size w1 wx))
        case first =>
          by_cases hi : i = 0
          · have hd2 : decide (0 < i) = false := by simp; omega
            as_aux_lemma =>
            go_quiet (fail)
            go_wp2_with fail
            go_meet
            exact ⟨rfl, Lib.hid ⟨HB.out.os, HB.out.tape, HB.out.output, HB.out.size, HB.out.block⟩⟩
          · have hd2 : decide (0 < i) = true := by simp; omega
            have hi1 : ((i : Int) - 1).toNat = i - 1 := by omega
            have hi2 : 1 ≤ i := by omega
            have hcs2 : wr.cell? (ad.add (i - 1)) = some (.float .f64 (sF f n (i - 1))) := by obtain ⟨_, h1, h2, _⟩ := HSR.out (i - 1) (by omega); obtain rfl := Option.some.inj h1; exact h2
            obtain ⟨tv, htv⟩ : ∃ tv, tv = sF f n (i - 1) := ⟨_, rfl⟩
            rw [← htv] at hcs2
            have hord : decide (0 < ordF tv sv) = false := by
              rw [decide_eq_false_iff_not, ordF_gt, htv, HSV.out]
              have := sF_rises f n (i - 1) i (by omega) HLT.out
              omega
            have ht64 : tv < 18446744073709551616 := by rw [htv]; exact sF_lt _ _ _
            have hs64 : sv < 18446744073709551616 := by rw [HSV.out]; exact sF_lt _ _ _
            have HH := Lib.hid (And.intro ht64 hs64)
            clear htv ht64 hs64 hlt hin
            as_aux_lemma =>
            go_quiet (first | (go_at_call 13; refine Calls.quiet_of_same (rorder_q tv sv _ HH.out.1 HH.out.2)))
            go_wp2_with fail
            go_meet
            exact ⟨rfl, Lib.hid ⟨HB.out.os, HB.out.tape, HB.out.output, HB.out.size, HB.out.block⟩⟩
        case rest =>
        obtain ⟨rfl, HB2⟩ := hcut
        clear hcs hcl HSR HFR HB
        go_wp2_with fail
        go_loopg [8, 9, 10] n (fun g s8 s9 s10 wx2 => ∃ k a b : Nat, s8 = .int .i64 a ∧ s9 = .int .i64 b ∧ s10 = .int .i64 k ∧ g = n - k ∧ k ≤ n ∧ Hid (Below w1.heap.size w1 wx2 ∧ a = cnt f fv k ∧ b = cnt (sF f n) fv k))
        case atStart => exact ⟨0, 0, 0, rfl, rfl, rfl, by omega, Nat.zero_le _, Lib.hid ⟨HB2.out, rfl, rfl⟩⟩
        case round =>
          obtain ⟨k, a, b, rfl, rfl, rfl, hgk, hkn, HI⟩ := hrel
          have ha : a ≤ 300 := by rw [HI.out.2.1]; have := cnt_le f fv k; omega
          have hb : b ≤ 300 := by rw [HI.out.2.2]; have := cnt_le (sF f n) fv k; omega
          by_cases hlk : k < n
          · have hd3 : decide ((k : Int) < (n : Int)) = true := by simp; omega
            have hk0 : (k : Int) < (n : Int) := by omega
            have hk64 : f k < 18446744073709551616 := by obtain ⟨_, _, _, _, h4⟩ := HF.out k hlk; exact h4
            have B2 : FloatsAt _ (some al) n f := (HF.out.below HB1.out).below HI.out.1
            have B3 : FloatsAt _ (some ad) n (sF f n) := HS1.out.below HI.out.1
            have e1 : wr.cell? (al.add k) = some (.float .f64 (f k)) := by obtain ⟨_, h1, h2, _⟩ := B2 k hlk; obtain rfl := Option.some.inj h1; exact h2
            have e2 : wr.cell? (al.add i) = some (.float .f64 fv) := by obtain ⟨_, h1, h2, _⟩ := B2 i HLT.out; obtain rfl := Option.some.inj h1; rw [HFV.out]; exact h2
            have e3 : wr.cell? (ad.add k) = some (.float .f64 (sF f n k)) := by obtain ⟨_, h1, h2, _⟩ := B3 k hlk; obtain rfl := Option.some.inj h1; exact h2
            have hs64 := sF_lt f n k
            obtain ⟨fk, hfk⟩ : ∃ fk, fk = f k := ⟨_, rfl⟩
            obtain ⟨sk, hsk⟩ : ∃ sk, sk = sF f n k := ⟨_, rfl⟩
            have hv64 : fv < 18446744073709551616 := by rw [HFV.out]; exact HFI.out
            rw [← hfk] at e1 hk64
            rw [← hsk] at e3 hs64
            have H64 := Lib.hid (And.intro hk64 (And.intro hs64 hv64))
            have HFK := Lib.hid hfk
            have HSK := Lib.hid hsk
            clear B2 B3 hfk hsk hk64 hs64 hv64 hin hlt hkn hlk
            go_upto_region 15 with fail
            obtain ⟨z1, hz1⟩ : ∃ z : Bool, z = (placeW fk == placeW fv) := ⟨_, rfl⟩
            obtain ⟨z2, hz2⟩ : ∃ z : Bool, z = (placeW sk == placeW fv) := ⟨_, rfl⟩
            have HZ1 := Lib.hid hz1
            have HZ2 := Lib.hid hz2
            clear hz1 hz2
            go_cut [72] from 64 to 72 (fun s72 wx => s72 = .bool z1 ∧ Hid (Below w1.heap.size w1 wx))
            case first =>
              go_quiet (first | (go_at_call 17; refine Calls.quiet_of_same (rlike_q fk fv _ H64.out.1 H64.out.2.2)))
              go_wp2_with fail
              go_meet
              exact ⟨by rw [HZ1.out], Lib.hid ⟨HI.out.1.os, HI.out.1.tape, HI.out.1.output, HI.out.1.size, HI.out.1.block⟩⟩
            case rest =>
            obtain ⟨rfl, HB3⟩ := hcut
            clear e1 e2 e3
            have B2 : FloatsAt wc (some al) n f := (HF.out.below HB1.out).below HB3.out
            have B3 : FloatsAt wc (some ad) n (sF f n) := HS1.out.below HB3.out
            have e2 : wc.cell? (al.add i) = some (.float .f64 fv) := by obtain ⟨_, h1, h2, _⟩ := B2 i HLT.out; obtain rfl := Option.some.inj h1; rw [HFV.out]; exact h2
            have e3 : wc.cell? (ad.add k) = some (.float .f64 sk) := by obtain ⟨_, h1, h2, _⟩ := B3 k (by omega); obtain rfl := Option.some.inj h1; rw [HSK.out]; exact h2
            have hci : cnt f fv (k + 1) = a + (if z1 then 1 else 0) := by
              rw [HZ1.out, HFK.out, HI.out.2.1]; rfl
            have hcj : cnt (sF f n) fv (k + 1) = b + (if z2 then 1 else 0) := by
              rw [HZ2.out, HSK.out, HI.out.2.2]; rfl
            have HCI := Lib.hid hci
            have HCJ := Lib.hid hcj
            clear B2 B3 hci hcj
            cases z1
            all_goals
              go_upto_region 17 with fail
              go_cut [83] from 75 to 83 (fun s83 wx => s83 = .bool z2 ∧ Hid (Below w1.heap.size w1 wx))
              case first =>
                go_quiet (first | (go_at_call 17; refine Calls.quiet_of_same (rlike_q sk fv _ H64.out.2.1 H64.out.2.2)))
                go_wp2_with fail
                go_meet
                exact ⟨by rw [HZ2.out], Lib.hid ⟨HB3.out.os, HB3.out.tape, HB3.out.output, HB3.out.size, HB3.out.block⟩⟩
              case rest =>
              obtain ⟨rfl, HB4⟩ := hcut
              clear e2 e3
              cases z2
              all_goals
                go_wp2_with fail
                go_roundg (n - (k + 1))
                case measure => omega
                case rel => exact ⟨k + 1, _, _, by go_num, by go_num, by go_num, rfl, by omega, Lib.hid ⟨HB4.out, HCI.out.symm, HCJ.out.symm⟩⟩
          · obtain rfl : k = n := by omega
            have hab : a = b := by rw [HI.out.2.1, HI.out.2.2, HFV.out, cnt_sorted f k _ (fun j hj => by obtain ⟨_, _, _, _, h4⟩ := HF.out j hj; exact h4)]
            subst hab
            have B2 : FloatsAt wr (some al) k f := (HF.out.below HB1.out).below HI.out.1
            have B3 : FloatsAt wr (some ad) k (sF f k) := HS1.out.below HI.out.1
            have BR := Lib.hid HI.out.1
            have e2 : wr.cell? (al.add i) = some (.float .f64 fv) := by obtain ⟨_, h1, h2, _⟩ := B2 i HLT.out; obtain rfl := Option.some.inj h1; rw [HFV.out]; exact h2
            have hv64 : fv < 18446744073709551616 := by rw [HFV.out]; exact HFI.out
            have HV64 := Lib.hid hv64
            have HB2X := Lib.hid B2
            have HB3X := Lib.hid B3
            have hdk : decide ((k : Int) < (k : Int)) = false := by simp
            clear B2 B3 hv64 HI ha hlt
            go_wp2_with fail
            refine (search_b (some ad) k cap fv (sF f k) _ HB3X.out (by omega) HV64.out).mono ?_
            rintro e w' ⟨q, hsq, rfl, rfl⟩
            rw [HFV.out] at hsq
            obtain ⟨hq1, hq2, hq3⟩ := search_in (fun j hj => by obtain ⟨_, _, _, _, h4⟩ := HF.out j hj; exact h4) HLT.out hsq
            rw [← HFV.out] at hq2 hq3
            have hfo : foundB (sF f k) k fv q = true := by
              unfold foundB
              rw [hq2]
              simp [hq1]
            rw [hfo]
            have e4 : wr.cell? (ad.add q) = some (.float .f64 (sF f k q)) := by obtain ⟨_, h1, h2, _⟩ := HB3X.out q hq1; obtain rfl := Option.some.inj h1; exact h2
            obtain ⟨sq, hsqe⟩ : ∃ v, v = sF f k q := ⟨_, rfl⟩
            rw [← hsqe] at e4 hq2
            have hl1 : (placeW sq == placeW fv) = true := by rw [hq2]; simp
            have hsq64 : sq < 18446744073709551616 := by rw [hsqe]; exact sF_lt _ _ _
            have HSQ := Lib.hid hsq64
            have HQ3 := Lib.hid hq3
            have hq0 : (q : Int) < (k : Int) := by omega
            have hq5 : decide ((q : Int) < 0) = false := by simp
            have hq6 : decide (k ≤ q) = false := by simp; omega
            clear hsq hq2 hfo hsqe hsq64 hq3
            go_upto_region 20 with fail
            go_cut [139] from 95 to 139 (fun s139 wx => s139 = .bool false ∧ Hid (Below w1.heap.size w1 wx))
            case first =>
              by_cases hq : q = 0
              · have hd4 : decide (0 < q) = false := by simp; omega
                clear hq
                as_aux_lemma =>
                go_quiet (first | (go_at_call 17; refine Calls.quiet_of_same (rlike_q sq fv _ HSQ.out HV64.out)))
                go_wp2_with fail
                go_meet
                exact ⟨rfl, Lib.hid ⟨BR.out.os, BR.out.tape, BR.out.output, BR.out.size, BR.out.block⟩⟩
              · have hd4 : decide (0 < q) = true := by simp; omega
                have hi1 : ((q : Int) - 1).toNat = q - 1 := by omega
                have hi2 : 1 ≤ q := by omega
                have hw1 : IntKind.i64.wrap ((q : Int) - 1) = (q : Int) - 1 := by rw [IntKind.wrap_i64]; omega
                have e5 : wr.cell? (ad.add (q - 1)) = some (.float .f64 (sF f k (q - 1))) := by obtain ⟨_, h1, h2, _⟩ := HB3X.out (q - 1) (by omega); obtain rfl := Option.some.inj h1; exact h2
                obtain ⟨tq, htq⟩ : ∃ v, v = sF f k (q - 1) := ⟨_, rfl⟩
                rw [← htq] at e5
                have hl2 : (placeW tq == placeW fv) = false := by rw [htq]; have := HQ3.out (by omega); simpa using this
                have htq64 : tq < 18446744073709551616 := by rw [htq]; exact sF_lt _ _ _
                have HTQ := Lib.hid htq64
                clear htq htq64 hq
                as_aux_lemma =>
                go_quiet (first | (go_at_call 17; refine Calls.quiet_of_same (rlike_q sq fv _ HSQ.out HV64.out)) | (go_at_call 17; refine Calls.quiet_of_same (rlike_q tq fv _ HTQ.out HV64.out)))
                go_wp2_with fail
                go_meet
                exact ⟨rfl, Lib.hid ⟨BR.out.os, BR.out.tape, BR.out.output, BR.out.size, BR.out.block⟩⟩
            case rest =>
            obtain ⟨rfl, HB5⟩ := hcut
            clear e2 e4 hl1 hq5 hq6 hq0 hq1
            have HF5 : Hid (FloatsAt wc (some al) k f) := Lib.hid ((HF.out.below HB1.out).below HB5.out)
            go_wp2_with fail
            refine (nth_any i (some al) k c f _ HF5.out (by have := HN.out; omega) HLT.out).mono ?_
            rintro e w9 ⟨rfl, hb9⟩
            have HB9 : Hid (Below w1.heap.size w1 w9) := Lib.hid (HB5.out.trans (hb9.mono HB5.out.size))
            rw [← HSV.out]
            have e6 : w9.cell? (ad.add i) = some (.float .f64 sv) := by obtain ⟨_, h1, h2, _⟩ := (HS1.out.below HB9.out) i HLT.out; obtain rfl := Option.some.inj h1; rw [HSV.out]; exact h2
            have hs64 : sv < 18446744073709551616 := by rw [HSV.out]; exact sF_lt _ _ _
            have HS64 := Lib.hid hs64
            have hls : (placeW sv == placeW sv) = true := by simp
            clear hb9 hs64
            go_wp2_with fail
            refine (num_any _ _).mono ?_
            rintro e w' ⟨rfl, rfl⟩
            go_wp2_with fail
            refine (rlike_any sv sv _ HS64.out HS64.out).mono ?_
            rintro e w' ⟨rfl, rfl⟩
            rw [hls]
            go_wp2_with fail
            go_roundg (k - (i + 1))
            case measure => omega
            case rel => exact ⟨i + 1, by go_num, rfl, by omega, HB9⟩
        --)
      · obtain rfl : i = n := by omega
        have HS2 : Hid (FloatsAt wr so i (sF f i)) := Lib.hid (HS1.out.below HB.out)
        have hdk : decide ((i : Int) < (i : Int)) = false := by simp
        clear hlt
        go_upto_region 25 with fail
        go_cut [15, 16] from 158 to 163 (fun s15 s16 wx => ∃ (q : Nat) (fb : Bool), s15 = .int .i64 q ∧ s16 = .bool fb ∧ wr = wx ∧ Hid (SearchIs (sF f i) i x q ∧ fb = foundB (sF f i) i x q))
        case first =>
          go_wp2_with fail
          refine (search_b so i cap x (sF f i) _ HS2.out (by have := HN.out; omega) HX.out).mono ?_
          rintro e w' ⟨q, hsq, rfl, rfl⟩
          have HSQ := Lib.hid hsq
          clear hsq
          go_wp2_with fail
          go_meet
          exact ⟨q, _, rfl, rfl, rfl, Lib.hid ⟨HSQ.out, rfl⟩⟩
        case rest =>
        obtain ⟨q, fb, rfl, rfl, rfl, HQB⟩ := hcut
        have HSQ := Lib.hid HQB.out.1
        have hqi : q ≤ i := HSQ.out.le
        go_upto_region 26 with fail
        have hdq : decide (i < q) = false := by simp; omega
        have hq300 : q ≤ 300 := by have := HN.out; omega
        go_cut [16, 216] from 164 to 216 (fun s16 s216 wx => s216 = .bool false ∧ wr = wx)
        case first =>
          --(
          by_cases hq : q < i
          · obtain ⟨ad, rfl, -⟩ := HS2.out q hq
            have e4 : wr.cell? (ad.add q) = some (.float .f64 (sF f i q)) := by obtain ⟨_, h1, h2, _⟩ := HS2.out q hq; obtain rfl := Option.some.inj h1; exact h2
            have hfo : fb = (placeW (sF f i q) == placeW x) := by rw [HQB.out.2]; unfold foundB; simp [hq]
            subst hfo
            obtain ⟨sq, hsqe⟩ : ∃ v, v = sF f i q := ⟨_, rfl⟩
            have hab := HSQ.out.above (sF_rises f i) hq
            rw [← hsqe] at e4 hab ⊢
            have hor : decide (ordF sq x < 0) = false := by rw [decide_eq_false_iff_not, ordF_lt]; omega
            have hs64 : sq < 18446744073709551616 := by rw [hsqe]; exact sF_lt _ _ _
            have HS64 := Lib.hid hs64
            have hd1 : decide (q < i) = true := by simp; omega
            have hq0 : (q : Int) < (i : Int) := by omega
            have hzz : ∃ z : Bool, z = (placeW sq == placeW x) := ⟨_, rfl⟩
            by_cases h0 : 0 < q
            · have hd2 : decide (0 < q) = true := by simp; omega
              have e5 : wr.cell? (ad.add (q - 1)) = some (.float .f64 (sF f i (q - 1))) := by obtain ⟨_, h1, h2, _⟩ := HS2.out (q - 1) (by omega); obtain rfl := Option.some.inj h1; exact h2
              obtain ⟨tq, htq⟩ : ∃ v, v = sF f i (q - 1) := ⟨_, rfl⟩
              have hbe := HSQ.out.below (sF_rises f i) (q - 1) (by omega)
              rw [← htq] at e5 hbe
              have hor2 : decide (0 ≤ ordF tq x) = false := by rw [decide_eq_false_iff_not, Int.not_le, ordF_lt]; omega
              have ht64 : tq < 18446744073709551616 := by rw [htq]; exact sF_lt _ _ _
              have HT64 := Lib.hid ht64
              have hi1 : ((q : Int) - 1).toNat = q - 1 := by omega
              have hi2 : 1 ≤ q := by omega
              clear ht64 htq hbe hs64 hsqe hab hq hzz
              go_wp2_with (first | (go_at_call 17; refine (rlike_any sq x _ HS64.out HX.out).mono ?_; rintro e w' ⟨rfl, rfl⟩) | (go_at_call 13; refine (rorder_any tq x _ HT64.out HX.out).mono ?_; rintro e w' ⟨rfl, rfl⟩) | (go_at_call 13; refine (rorder_any sq x _ HS64.out HX.out).mono ?_; rintro e w' ⟨rfl, rfl⟩))
              all_goals go_meet
              all_goals exact ⟨rfl, rfl⟩
            · have hd2 : decide (0 < q) = false := by simp; omega
              clear hs64 hsqe hab hq hzz h0
              go_wp2_with (first | (go_at_call 17; refine (rlike_any sq x _ HS64.out HX.out).mono ?_; rintro e w' ⟨rfl, rfl⟩) | (go_at_call 13; refine (rorder_any sq x _ HS64.out HX.out).mono ?_; rintro e w' ⟨rfl, rfl⟩))
              all_goals go_meet
              all_goals exact ⟨rfl, rfl⟩
          · have hd1 : decide (q < i) = false := by simp; omega
            have hfo : fb = false := by rw [HQB.out.2]; unfold foundB; simp [hq]
            subst hfo
            by_cases h0 : 0 < q
            · obtain ⟨ad, rfl, -⟩ := HS2.out (q - 1) (by omega)
              have hd2 : decide (0 < q) = true := by simp; omega
              have e5 : wr.cell? (ad.add (q - 1)) = some (.float .f64 (sF f i (q - 1))) := by obtain ⟨_, h1, h2, _⟩ := HS2.out (q - 1) (by omega); obtain rfl := Option.some.inj h1; exact h2
              obtain ⟨tq, htq⟩ : ∃ v, v = sF f i (q - 1) := ⟨_, rfl⟩
              have hbe := HSQ.out.below (sF_rises f i) (q - 1) (by omega)
              rw [← htq] at e5 hbe
              have hor2 : decide (0 ≤ ordF tq x) = false := by rw [decide_eq_false_iff_not, Int.not_le, ordF_lt]; omega
              have ht64 : tq < 18446744073709551616 := by rw [htq]; exact sF_lt _ _ _
              have HT64 := Lib.hid ht64
              have hi1 : ((q : Int) - 1).toNat = q - 1 := by omega
              have hi2 : 1 ≤ q := by omega
              have hi3 : (q : Int) - 1 < (i : Int) := by omega
              clear ht64 htq hbe hq
              go_wp2_with (first | (go_at_call 13; refine (rorder_any tq x _ HT64.out HX.out).mono ?_; rintro e w' ⟨rfl, rfl⟩))
              all_goals go_meet
              all_goals exact ⟨rfl, rfl⟩
            · have hd2 : decide (0 < q) = false := by simp; omega
              clear hq h0
              go_wp2_with fail
              all_goals go_meet
              all_goals exact ⟨rfl, rfl⟩
          --)
        case rest =>
        obtain ⟨rfl, rfl⟩ := hcut
        have HBW : Hid (Below w.heap.size w wr) := Lib.hid (HB1.out.trans (HB.out.mono HB1.out.size))
        clear hdq hq300 hqi hdk
        go_wp2_with fail
        refine (key_any x _ HX.out).mono ?_
        rintro e w4 ⟨rfl, hb4⟩
        obtain ⟨a0, a1, a2, a3, a4, a5, a6, a7, hag, hbc⟩ : ∃ a0 a1 a2 a3 a4 a5 a6 a7 : Int, kAgg (placeN x) = .agg #[.int .u8 a0, .int .u8 a1, .int .u8 a2, .int .u8 a3, .int .u8 a4, .int .u8 a5, .int .u8 a6, .int .u8 a7] ∧ byteCells (keyL (placeN x)) = [.int .u8 a0, .int .u8 a1, .int .u8 a2, .int .u8 a3, .int .u8 a4, .int .u8 a5, .int .u8 a6, .int .u8 a7] :=
          ⟨_, _, _, _, _, _, _, _, rfl, kAgg_bytes _⟩
        rw [hag]
        have HBC := Lib.hid hbc
        have HB4 := Lib.hid hb4
        clear hag hbc hb4
        go_upto_region 29 with fail
        obtain ⟨w5, hw5⟩ : ∃ w5 : World, w5 = w4.alloc (.cells #[.int .u8 a0, .int .u8 a1, .int .u8 a2, .int .u8 a3, .int .u8 a4, .int .u8 a5, .int .u8 a6, .int .u8 a7] 31) := ⟨_, rfl⟩
        have hb5 : Below wr.heap.size wr w5 := by rw [hw5]; exact HB4.out.alloc HB4.out.size _
        have hk5 : w5.heap[w4.heap.size]? = some (.cells #[.int .u8 a0, .int .u8 a1, .int .u8 a2, .int .u8 a3, .int .u8 a4, .int .u8 a5, .int .u8 a6, .int .u8 a7] 31 (0, 0)) := by rw [hw5]; exact alloc_here _ _
        have hz5 : w4.heap.size < w5.heap.size := by rw [hw5]; simp
        rw [← hw5]
        clear hw5
        obtain ⟨K1, hK1⟩ : ∃ K1 : ByteArray, K1 = ⟨(keyL (placeN x)).toArray⟩ := ⟨_, rfl⟩
        obtain ⟨K2, hK2⟩ : ∃ K2 : ByteArray, K2 = ⟨([97, 98] ++ keyL (placeN x)).toArray⟩ := ⟨_, rfl⟩
        have hconv : ∀ W : World, W.heap[w4.heap.size]? = w5.heap[w4.heap.size]? → (convert 34 9 (.slice (some ⟨w4.heap.size, 0, none⟩) 8 8)).run Tryd.prog W = .ok (.string K1) W := fun W hW => by
          rw [hK1]
          refine run_convert_bytes_back W 34 9 5 ⟨w4.heap.size, 0, none⟩ 8 (keyL (placeN x)) Tryd.underlying34 Tryd.underlying5 Tryd.underlying9 fun j hj => ?_
          rw [Go.WideShapes.add_plain, Nat.zero_add, cell_of_row W _ j _ _ _ (hW.trans hk5)]
          have : (byteCells (keyL (placeN x)))[j]? = some (.int .u8 ((keyL (placeN x))[j].toNat : Int)) := by simp [byteCells, hj]
          rw [HBC.out] at this
          simpa using this
        have HCONV := Lib.hid hconv
        have hadd : (⟨#[97, 98]⟩ : ByteArray) ++ K1 = K2 := by rw [hK1, hK2]; rfl
        have hs1 : K1.size = 8 := by rw [hK1]; rfl
        clear hconv hK1
        have HT5 : Hid (Pow10 w5) := Lib.hid (pow10_stays (pow10_stays HT.out HBW.out) hb5)
        have HB5 := Lib.hid hb5
        have HZ5 := Lib.hid hz5
        have HK2 := Lib.hid hK2
        clear hb5 hz5 hk5 hK2
        have hcc : ∀ W : World, (convert 34 34 (.slice (some ⟨W.heap.size, 0, none⟩) 2 2)).run Tryd.prog (W.alloc (.cells #[.int .u8 97, .int .u8 98] 5)).drew = .ok (.slice (some ⟨W.heap.size, 0, none⟩) 2 2) (W.alloc (.cells #[.int .u8 97, .int .u8 98] 5 (2, 3))).drew := fun W =>
          Lib.run_convert_bytes_const (P := Tryd.prog) W.drew 34 5 #[.int .u8 97, .int .u8 98] 2 2 Tryd.underlying34 Tryd.underlying5
        have heq : (K2.toList == K2.toList) = true := by simp
        go_region_held_law (fun w' => (convert 34 9 (.slice (some ⟨w4.heap.size, 0, none⟩) 8 8)).run Tryd.prog w' = .ok (.string K1) w') (first | exact HCONV.out _ rfl | exact HCONV.out _ (Below.heap_alloc _ _ _ HZ5.out) | exact HCONV.out _ (HB6.out.block _ HZ5.out) | exact HCONV.out _ (HB7.out.block _ HZ5.out)) ((first | (go_at_call 24; refine (appendkey_b ⟨w5.heap.size, 0, none⟩ 2 2 x [97, 98] _ rfl (ab_cells (by exact heap_alloc_new w5 _)) (by decide) HX.out).mono ?_; rintro e w6 ⟨v6, rfl, hr6, hb6⟩; have HB6 : Hid (Below w5.heap.size w5 w6) := Lib.hid (after_new hb6); have HT6 : Hid (Pow10 w6) := Lib.hid (pow10_stays HT5.out HB6.out); have hc6 : (convert 34 9 v6).run Tryd.prog w6 = .ok (.string K2) w6 := (by rw [HK2.out]; exact run_string_row w6 _ 34 9 5 v6 _ Tryd.underlying34 Tryd.underlying5 Tryd.underlying9 hr6); clear hr6 hb6) | (go_at_call 11; refine (works_any _ (by exact HT6.out)).mono ?_; rintro e w7 ⟨rfl, hb7⟩; have HB7 : Hid (Below w5.heap.size w5 w7) := Lib.hid (HB6.out.trans ((below_undrew' hb7).mono HB6.out.size)); clear hb7)))
        all_goals
          go_wp2_with fail
          refine bodyPost_ret (v := .bool true) (by simp [results, Tryd.results6, go_sem]) rfl ⟨rfl, ?_⟩
          exact HBW.out.trans ((HB5.out.trans (HB7.out.mono HB5.out.size)).mono HBW.out.size)
end Go.Proofs.YthfgjibhpenfkaaDoor
