/- The texts Yc in one. -/
import Derived.Test.YtmkjejngnahpeaaV18
import Derived.Deep.CutRange
import Derived.IntWalk
import Derived.BigQuiet
import Derived.Deep.QuietTactic
/- law10: SegmentReads, the walk. -/
namespace Go.Proofs.Ytmkjejngnahpeaa
open Go Go.RowKit Go.Shelf
attribute [local go_sem] Oper.semAt_some

theorem wpIn_then {F : Fence} {n : Nat} {P : Program} {c : Code} {Q : Exit → Act → World → Prop} {a : Act} {w : World} (h : ∀ K : Act → World → Prop, (∀ a w, Q .normal a w → K a w) → c.wpIn F n P (Exit.then K Q) a w) : c.wpIn F n P Q a w :=
  wpIn_mono (h (fun a w => Q .normal a w) (fun _ _ q => q)) (fun e _ _ hq => by cases e <;> exact hq)
theorem tmod1 (r n : Nat) : Int.tmod (r : Int) ((n : Int) + 1) = ((r % (n + 1) : Nat) : Int) := by
  rw [Int.tmod_eq_emod_of_nonneg (by omega)]
  norm_cast
theorem val_int {k : IntKind} {a b : Int} (h : a = b) : Value.int k a = Value.int k b := by rw [h]
def logName : ByteArray := ⟨#[108, 111, 103]⟩
set_option maxRecDepth 100000 in
set_option maxHeartbeats 8000000 in
theorem segReads_walk {w : World} {base st : Int} {oL oP : Option Addr} {nL cL nP cP : Nat} {ll : List (List Rc)} {ps : List Int} (hL : ListsAt w (.slice oL nL cL) ll) (hnL : ll.length = nL) (hP : readAt w 1 (.slice oP nP cP) nP (intCells ps)) (hnP : ps.length = nP)
    (hbase : -9223372036854775808 ≤ base ∧ base ≤ 9223372036854775807) (hpb : ∀ p ∈ ps, -9223372036854775808 ≤ p ∧ p ≤ 9223372036854775807) (hnm : nL ≤ 9223372036854775807) (hpm : nP ≤ 9223372036854775807) :
    Calls Try.prog 4 #[.agg #[.int .i64 base, .slice oL nL cL, .int .i64 st, .slice oP nP cP]] w fun e w' => e = .returned (.bool true) ∧ Below w.heap.size w w' := by
  obtain ⟨w1, hw1⟩ : ∃ W : World, W = w.alloc (.cells #[.int .i64 base, .slice oL nL cL, .int .i64 st, .slice oP nP cP] 34) := ⟨_, rfl⟩
  obtain ⟨b1, hb1⟩ : ∃ b, b = w.heap.size := ⟨_, rfl⟩
  have g1 : w1.heap[b1]? = some (.cells #[.int .i64 base, .slice oL nL cL, .int .i64 st, .slice oP nP cP] 34 (0, 0)) := by rw [hw1, hb1]; exact alloc_cells _ _ _
  have hbl : Below w.heap.size w w1 := by rw [hw1]; exact (Below.refl _ _).alloc (Nat.le_refl _) _
  have c1 : w1.cell? ⟨b1, 1, none⟩ = some (.slice oL nL cL) := cell_of g1 rfl
  have c2 : w1.cell? ⟨b1, 2, none⟩ = some (.int .i64 st) := cell_of g1 rfl
  have HA := Lib.hid (And.intro (hL.below hbl) (And.intro hnL (And.intro (hP.kept (fun k hk _ _ => hbl.block k hk)) (And.intro hnP (And.intro hbase (And.intro hpb (And.intro hpm hnm)))))))
  have H1 := Lib.hid (And.intro g1 (And.intro hbl hb1))
  clear hL hnL hP hnP hbase hpb hpm hnm g1 hbl
  refine (callsIn_wide (n := 8)).1 ?_
  have f1 : Fence.wide.fn 20 := trivial
  have f2 : Fence.wide.fn 22 := trivial
  have f3 : Fence.wide.fn 23 := trivial
  have f4 : Fence.wide.fn 24 := trivial
  have f5 : Fence.wide.fn 26 := trivial
  have f6 : Fence.wide.fn 25 := trivial
  have f7 : Fence.wide.fn 27 := trivial
  have f8 : Fence.wide.fn 28 := trivial
  have f9 : Fence.wide.fn 30 := trivial
  have f10 : Fence.wide.fn 29 := trivial
  have f11 : Fence.wide.fn 31 := trivial
  refine callsIn_of_wp_marks Try.func4 rfl trivial ?_ rfl
  simp only [Try.ntmps4, List.size_toArray, List.length_cons, List.length_nil, Nat.reduceAdd, Nat.reduceSub, Array.replicate_succ, Array.replicate_zero, List.push_toArray, List.append_toArray, List.nil_append, List.cons_append]
  gi_upto_region 1 with fail
  rw [← hw1, ← hb1]
  clear hw1 hb1
  gi_cut [3, 4] from 21 (fun s3 s4 wx => s3 = .slice oL nL cL ∧ s4 = .int .i64 st ∧ wx = w1.drew)
  case first =>
    refine wpIn_wide.2 (wp_onlyR ?_)
    go_region
    all_goals
      go_wp2_with fail
      go_meet
      exact ⟨rfl, rfl, rfl⟩
  case rest =>
  obtain ⟨rfl, rfl, rfl⟩ := hcut
  clear c1 c2
  obtain ⟨w2, hw2⟩ : ∃ W : World, W = w1.drew := ⟨_, rfl⟩
  have hb12 : Below w1.heap.size w1 w2 := by rw [hw2]; exact bdrew w1
  have g2 := (hb12.block b1 (Array.getElem?_eq_some_iff.1 H1.out.1).1).trans H1.out.1
  rw [← hw2]
  have H2 := Lib.hid (And.intro g2 (And.intro (H1.out.2.1.trans (hb12.mono H1.out.2.1.size)) (And.intro (HA.out.1.below hb12) (And.intro (HA.out.2.2.1.kept (fun k hk _ _ => hb12.block k hk)) (Array.getElem?_eq_some_iff.1 g2).1))))
  clear hw2 hb12 g2
  have hn20 : nL ≤ 9223372036854775807 := HA.out.2.2.2.2.2.2.2
  by_cases h20 : 20 < nL
  · gi_wp2_with fail
    refine (callsIn_wide.2 (known_any _)).mono ?_
    rintro e V ⟨rfl, hbk⟩
    have HE := Lib.hid (H2.out.2.1.trans (hbk.mono H2.out.2.1.size))
    clear hbk
    gi_wp2_with fail
    exact ⟨.bool true, by simp [results, Try.results4, go_sem], rfl, HE.out⟩
  gi_wp2_with fail
  gi_loopw [5] (fun s5 wr => ∃ t : Nat, s5 = .int .i64 (t : Int) ∧ t ≤ nL ∧ Hid (wr = w2 ∧ ∀ j (h : j < ll.length), j < t → ll[j].length ≤ 40)) (fun s5 _ => nL - (intOf s5).toNat)
  case atStart => exact ⟨0, rfl, Nat.zero_le _, Lib.hid ⟨rfl, fun j _ h => absurd h (Nat.not_lt_zero j)⟩⟩
  case round =>
    obtain ⟨t, rfl, ht, HI⟩ := hrel
    obtain rfl := HI.out.1.symm
    by_cases hlt : t < nL
    · have htl : t < ll.length := by rw [HA.out.2.1]; exact hlt
      obtain ⟨g, off, ob, d, rfl, hcl, ⟨xs, hxs, hri⟩, hl47⟩ := H2.out.2.2.1.at HA.out.2.1 htl
      have hxl : xs.length = ll[t].length := by rw [← hxs, List.length_map]
      have hlg := large_b (most := 40) hxs hxl hri (by omega) (by unfold maxLen; omega)
      obtain ⟨l, hl⟩ : ∃ l, l = ll[t] := ⟨_, rfl⟩
      rw [← hl] at hcl hlg
      obtain ⟨n, hn⟩ : ∃ n, n = l.length := ⟨_, rfl⟩
      rw [← hn] at hcl hlg
      have HLG := Lib.hid hlg
      have HLN := Lib.hid (And.intro hl hn)
      clear hxs hri hl47 hxl hlg hl hn
      gi_wp2_with fail
      refine (callsIn_wide.2 HLG.out).mono ?_
      rintro e V ⟨rfl, hV⟩
      obtain rfl := hV.symm
      clear hV
      obtain ⟨lg, hlg⟩ : ∃ b, largeT 40 l = b := ⟨_, rfl⟩
      rw [hlg]
      cases lg
      · have HLT := Lib.hid hlg
        clear hlg
        gi_wp2_with fail
        refine ⟨⟨t + 1, by simp, by omega, Lib.hid ⟨by simp, fun j hj hjt => ?_⟩⟩, by simp [intOf]; omega⟩
        by_cases hjt2 : j < t
        · exact HI.out.2 j hj hjt2
        · obtain rfl : j = t := by omega
          have h1 := HLT.out
          unfold largeT at h1
          simp only [Bool.or_eq_false_iff, decide_eq_false_iff_not] at h1
          rw [← HLN.out.1]
          omega
      · clear hlg
        gi_wp2_with fail
        refine (callsIn_wide.2 (known_any _)).mono ?_
        rintro e V ⟨rfl, hbk⟩
        have HE := Lib.hid (H2.out.2.1.trans (hbk.mono H2.out.2.1.size))
        clear hbk
        gi_wp2_with fail
        exact ⟨.bool true, by simp [results, Try.results4, go_sem], rfl, HE.out⟩
    · obtain rfl : nL = t := by omega
      have HS : Hid (∀ l ∈ ll, l.length ≤ 40) := Lib.hid (fun l hl => by
        obtain ⟨j, hj, rfl⟩ := List.getElem_of_mem hl
        exact HI.out.2 j hj (by have := HA.out.2.1; omega))
      clear HI ht hlt
      gi_wp2_with fail
      refine (callsIn_wide.2 (new_b _)).mono ?_
      rintro e w3 ⟨q, rfl, hd3, hb3⟩
      have hb13 := (hb3.block b1 H2.out.2.2.2.2).trans H2.out.1
      have c0 : w3.cell? ⟨b1, 0, none⟩ = some (.int .i64 base) := cell_of hb13 rfl
      have HC := Lib.hid (createS_b hd3 logName (by decide) (by decide) base st)
      have H3 := Lib.hid (And.intro hd3 hb3)
      clear hd3 hb3 hb13
      gi_wp2_with fail
      refine (callsIn_wide.2 HC.out).mono ?_
      rintro e w4 hcr
      clear HC
      rcases hcr with ⟨-, rfl, hb4⟩ | ⟨bn, step, rfl, rfl, hbn, hs1, hs2, ⟨hne, rfl, -, ho4⟩ | ⟨h0, s, x, S', rfl, hS', hsl, hxl, hseg, ho4⟩⟩
      · have hb24 := H3.out.2.trans (hb4.mono H3.out.2.size)
        have HB4 := Lib.hid (H2.out.2.1.trans (hb24.mono H2.out.2.1.size))
        clear hb4 hb24 c0
        gi_wp2_with fail
        refine (callsIn_wide.2 (known_any _)).mono ?_
        rintro e V ⟨rfl, hbk⟩
        have HE := Lib.hid (HB4.out.trans (hbk.mono HB4.out.size))
        clear hbk
        gi_wp2_with fail
        exact ⟨.bool true, by simp [results, Try.results4, go_sem], rfl, HE.out⟩
      · have hb24 := H3.out.2.trans (ho4.below (fun i hi h => by have := h.1; omega) H3.out.2.size)
        have HB4 := Lib.hid (H2.out.2.1.trans (hb24.mono H2.out.2.1.size))
        obtain ⟨er, her⟩ : ∃ r, r = (Dk.new.create (segName logName bn).data.toList).1 := ⟨_, rfl⟩
        rw [← her] at hne ⊢
        have hne2 : (er != 0) = true := by rw [bne_iff_ne]; exact hne
        clear ho4 hb24 c0 her hne
        gi_wp2_with fail
        refine (callsIn_wide.2 (known_any _)).mono ?_
        rintro e V ⟨rfl, hbk⟩
        have HE := Lib.hid (HB4.out.trans (hbk.mono HB4.out.size))
        clear hbk
        gi_wp2_with fail
        exact ⟨.bool true, by simp [results, Try.results4, go_sem], rfl, HE.out⟩
      · obtain ⟨nm, hnm⟩ : ∃ nm, nm = segName logName bn := ⟨_, rfl⟩
        rw [← hnm] at hseg h0
        have hb24 := H3.out.2.trans (ho4.below (fun i hi h => by have := h.1; omega) H3.out.2.size)
        have hj : SegJ w2 w4 s x q nm bn step 0 [] := ⟨⟨S', _, _, _, hseg, create_fates rfl, fun k hk => by
          rcases hS' k hk with h | h
          · exact h.1
          · have := h.1; have := H3.out.2.size; omega, fun k hk => by simp [Value.ownBlock] at hk⟩, by have := H3.out.2.size; omega, by have := H3.out.2.size; omega, hb24, Nat.le_refl _⟩
        have HJ4 := Lib.hid hj
        have HNN := Lib.hid (And.intro hnm (And.intro hbn (And.intro hs1 hs2)))
        clear hj hb24 hseg h0 ho4 hS' hsl hxl hnm hs1 hs2 hbn c0
        gi_wp2_with fail
        gi_loopw [10] (fun s10 wr => ∃ (t : Nat) (bs : List Bat), s10 = .int .i64 (t : Int) ∧ t ≤ nL ∧ Hid (SegJ w2 wr s x q nm bn step t bs)) (fun s10 _ => nL - (intOf s10).toNat)
        case atStart => exact ⟨0, [], rfl, Nat.zero_le _, HJ4⟩
        case round =>
          obtain ⟨t, bs, rfl, ht, HJ⟩ := hrel
          by_cases hlt : t < nL
          · have htl : t < ll.length := by rw [HA.out.2.1]; exact hlt
            obtain ⟨g, off, ob, d, rfl, hcl, ⟨xs, hxs, hri⟩, hl47⟩ := (H2.out.2.2.1.below HJ.out.below).at HA.out.2.1 htl
            obtain ⟨l, hl⟩ : ∃ l, l = ll[t] := ⟨_, rfl⟩
            have hl40 : l.length ≤ 40 := by rw [hl]; exact HS.out _ (List.getElem_mem htl)
            rw [← hl] at hcl hxs hri
            obtain ⟨n, hn⟩ : ∃ n, n = l.length := ⟨_, rfl⟩
            rw [← hn] at hcl hri hl40
            obtain ⟨S, sv, sp, dd, hsg, hdf, hSS, hvS⟩ := HJ.out.seg
            have hdr := bdrew wr
            have hsg' := hsg.later hdr
            obtain ⟨E, hE⟩ : ∃ E : Int, E = ((bn + cntT bs : Nat) : Int) := ⟨_, rfl⟩
            have hEb : 0 ≤ E ∧ E ≤ 9007199271518208 := by
              have h1 := hsg.off
              have h2 := hsg.long
              have h3 := cnt_long bs
              omega
            have HEN := Lib.hid (endS_b hsg')
            have HAP := Lib.hid (appendSeg_b hsg' (base := E) (oa := ob) (n := n) (c := d) (l := l) ⟨xs, hxs, hri.below hdr⟩ hn.symm (by omega) (by omega))
            rw [← hE] at HEN
            have HSJ := Lib.hid (fun e w' (h : AppS wr.drew S s x q nm bn step sv bs dd E l e w') => h.segJ (w2 := w2) (m := t) hsg' hdf hSS hvS HJ.out.hs HJ.out.hx (HJ.out.below.trans (hdr.mono HJ.out.below.size)) HJ.out.few)
            clear hxs hri hl47 hl hn hsg hsg' hdf hSS hvS hdr hE htl
            gi_upto_region 16 with fail
            refine wpIn_then fun K9 hK9 => ?_
            have HK9 := Lib.hid hK9
            clear hK9
            refine wpIn_wide.2 (wp_onlyR ?_)
            go_region_law (first | (go_simp; go_at_call 26; refine HEN.out.mono ?_; rintro e wa ⟨rfl, hwa⟩; obtain rfl := hwa.symm; clear hwa) | (go_simp; go_at_call 25; refine HAP.out.mono ?_; rintro e wb hap; obtain ⟨⟨rr, rfl⟩, bs', hj2⟩ := HSJ.out _ _ hap; have HJ2 := Lib.hid hj2; clear hap hj2))
            all_goals
              go_wp2_with fail
              refine HK9.out _ _ ?_
              gi_wp2_with fail
              exact ⟨⟨t + 1, bs', by simp, by omega, HJ2⟩, by simp [intOf]; omega⟩
          · obtain rfl : nL = t := by omega
            obtain ⟨w6, hw6⟩ : ∃ W : World, W = wr.alloc (.cells #[.slice none 0 0] 36) := ⟨_, rfl⟩
            obtain ⟨b11, hb11⟩ : ∃ b, b = wr.heap.size := ⟨_, rfl⟩
            have hb56 : Below wr.heap.size wr w6 := by rw [hw6]; exact (Below.refl _ _).alloc (Nat.le_refl _) _
            have h11 : w6.heap[b11]? = some (.cells #[.slice none 0 0] 36 (0, 0)) := by rw [hw6, hb11]; exact alloc_cells _ _ _
            have hj6 := HJ.out.later hb56
            obtain ⟨S, sv, sp, dd, hsg, -⟩ := hj6.seg
            have HBT := Lib.hid (batchesS_b hsg)
            have H6 := Lib.hid (And.intro hj6 (And.intro hsg (And.intro h11 (And.intro hb56 hb11))))
            clear hlt ht
            gi_upto_region 18 with fail
            rw [← hw6, ← hb11]
            clear hw6 hb11 hb56 h11 hj6 hsg
            gi_wp2_with fail
            refine (callsIn_wide.2 HBT.out).mono ?_
            rintro e w7 ⟨b12, rfl, hall, hb7⟩
            have H7 := Lib.hid (And.intro hall hb7)
            clear hall hb7 HBT
            have hnf : ∀ (W : World), (binOp .eql 48 (.func (.func 150) #[] #[.pointer (some ⟨b12, 0, none⟩)]) .nilFunc).run Try.prog W = .ok (.bool false) W := fun W => by kernel_rfl
            gi_wp2_with fail
            clear hnf
            obtain ⟨o1, c1, hall1, hall2⟩ := H7.out.1
            obtain ⟨n7, hn7⟩ : ∃ n7, n7 = w7.heap.size := ⟨_, rfl⟩
            have hsg := H6.out.2.1
            have h117 := (H7.out.2.block b11 (Array.getElem?_eq_some_iff.1 H6.out.2.2.1).1).trans H6.out.2.2.1
            have hb11l : b11 < n7 := by rw [hn7]; exact (Array.getElem?_eq_some_iff.1 h117).1
            have hlong := hsg.long
            have hcl := cnt_long bs
            have hst := all_toldX 7 (by omega) b12 w7 bs [] ⟨hsg.chain.good, .inl rfl⟩ (oa := o1) (c := c1) (by rw [List.append_nil]; exact ⟨hall1, hall2⟩) (by rw [List.append_nil]; omega)
              (fun k => k = b11 ∨ n7 ≤ k) (fun e => by
                rcases e with e | e
                · rw [e, h117] at hall1
                  simp only [Option.some.injEq, Obj.cells.injEq] at hall1
                  exact absurd hall1.2.1 (by decide)
                · have := (Array.getElem?_eq_some_iff.1 hall1).1; omega) (fun k hk e => by
                rw [List.append_nil] at hk
                rcases e with e | e
                · rw [e] at hk
                  exact hall2.notB h117 (by decide) hk
                · have := hall2.lt k hk; omega)
            have hb57 : Below wr.heap.size wr w7 := H6.out.2.2.2.1.trans (H7.out.2.mono H6.out.2.2.2.1.size)
            have HS7 := Lib.hid (And.intro h117 (And.intro hb11l (And.intro hb57 (And.intro hn7 (And.intro hlong hcl)))))
            clear hall1 hall2 h117 hb11l hb57 hlong hcl hn7 hsg
            rename_i K2 hK2
            generalize hAA : Act.mk _ _ = A
            have hAfter : ∀ (T : Nat → Prop) (V : World), GotI wr V b11 n7 T (recsT bs) → V.heap[n7]? = some (.deferred (some [])) → K2 { A with defers := { target := .collected n7, args := #[] } :: A.defers } V := by
              intro T V hg hdf
              subst hAA
              dsimp only
              obtain ⟨-, ow, nw, cw, ws, hw1, hw2, hbx, hrow⟩ := hg.out
              have hcap : nw ≤ cw := by
                obtain ⟨_, _, he, hle⟩ := hrow.row.shape
                simp only [Value.slice.injEq] at he
                omega
              have hnw : nw = cntT bs := by rw [← hw2, ← List.length_map (f := fun x : RcV => x.r), hw1, recsT_len]
              obtain ⟨V1, hV1⟩ : ∃ W : World, W = V.drew := ⟨_, rfl⟩
              have hbV : Below V.heap.size V V1 := by rw [hV1]; exact bdrew V
              have hjV := (HJ.out.later hg.below).later hbV
              obtain ⟨S2, sv2, sp2, dd2, hsg, -⟩ := hjV.seg
              have hb2V := hjV.below
              have gb := (hb2V.block b1 H2.out.2.2.2.2).trans H2.out.1
              have hbx1 := (hbV.block b11 (Array.getElem?_eq_some_iff.1 hbx).1).trans hbx
              obtain ⟨E, hE⟩ : ∃ E : Int, E = ((bn + cntT bs : Nat) : Int) := ⟨_, rfl⟩
              have hnl : nw ≤ 16777216 := by rw [hnw]; have := HS7.out.2.2.2.2; omega
              have hEb : 0 ≤ E ∧ E ≤ 9007199271518208 := by have := HNN.out.2.1; omega
              have hbn := HNN.out.2.1
              have hsb : (E - (bn : Int) != (nw : Int)) = false := by
                rw [bne_eq_false_iff_eq]
                omega
              have hsw : IntKind.i64.wrap (E - (bn : Int)) = E - (bn : Int) := IntWalk.i64_in _ (by omega)
              have HEN := Lib.hid (endS_b hsg)
              rw [← hE] at HEN
              have HBS := Lib.hid (baseSeg_b hsg)
              have k11 : V.cell? ⟨b11, 0, none⟩ = some (.slice ow nw cw) := cell_of hbx rfl
              have k11' : V1.cell? ⟨b11, 0, none⟩ = some (.slice ow nw cw) := cell_of hbx1 rfl
              have HV := Lib.hid (And.intro hsg (And.intro hb2V (And.intro gb (And.intro hbx1 (And.intro (hrow.later hbV) (And.intro hw1 (And.intro hw2 (And.intro hnw ((hbV.block n7 (Array.getElem?_eq_some_iff.1 hdf).1).trans hdf)))))))))
              clear hg hdf hw1 hw2 hbx hrow hnw hbV hjV hsg hb2V gb hbx1 hE
              gi_upto_region 24 with fail
              refine wpIn_wide.2 (wp_onlyR ?_)
              go_cut [93] from 86 to 93 (fun s93 wx => s93 = .bool false ∧ wx = V1)
              case first =>
                rw [hV1] at k11' HEN HBS
                go_region_law (first | (go_simp; go_at_call 26; refine HEN.out.mono ?_; rintro e wa ⟨rfl, hwa⟩; obtain rfl := hwa.symm; clear hwa) | (go_simp; go_at_call 28; refine HBS.out.mono ?_; rintro e wa ⟨rfl, hwa⟩; obtain rfl := hwa.symm; clear hwa))
                all_goals
                  go_wp2_with fail
                  go_meet
                  exact ⟨rfl, hV1.symm⟩
              case rest =>
                obtain ⟨rfl, rfl⟩ := hcut
                clear k11 hsb hsw HEN hV1
                gi_wp2_with fail
                gi_loopw [15] (fun s15 wr => ∃ t : Nat, s15 = .int .i64 (t : Int) ∧ t ≤ nP ∧ Hid (Below wc.heap.size wc wr)) (fun s15 _ => nP - (intOf s15).toNat)
                case atStart => exact ⟨0, rfl, Nat.zero_le _, Lib.hid (Below.refl _ _)⟩
                case round =>
                  obtain ⟨t, rfl, htp, HB⟩ := hrel
                  have hnP := HA.out.2.2.2.2.2.2.1
                  have hgb := (HB.out.block b1 (Array.getElem?_eq_some_iff.1 HV.out.2.2.1).1).trans HV.out.2.2.1
                  have kp : wr.cell? ⟨b1, 3, none⟩ = some (.slice oP nP cP) := cell_of hgb rfl
                  have hgx := (HB.out.block b11 (Array.getElem?_eq_some_iff.1 HV.out.2.2.2.1).1).trans HV.out.2.2.2.1
                  have kw : wr.cell? ⟨b11, 0, none⟩ = some (.slice ow nw cw) := cell_of hgx rfl
                  have hwl : Below w.heap.size w wr := H2.out.2.1.trans ((HV.out.2.1.trans (HB.out.mono HV.out.2.1.size)).mono H2.out.2.1.size)
                  have HWL := Lib.hid hwl
                  clear hgb hgx hwl
                  by_cases hlt : t < nP
                  · by_cases h60 : t < 60
                    · have hrd : readAt wr 1 (.slice oP nP cP) nP (intCells ps) := H2.out.2.2.2.1.kept (fun k hk _ _ => (HV.out.2.1.trans (HB.out.mono HV.out.2.1.size)).block k hk)
                      obtain ⟨gp, fp, rfl⟩ := hrd.addr (by omega)
                      have hcell : ∀ j, j < nP → ∃ x : Int, wr.cell? ⟨gp, fp + j, none⟩ = some (.int .i64 x) ∧ -9223372036854775808 ≤ x ∧ x ≤ 9223372036854775807 := fun j hj => by
                        have hjp : j < ps.length := by rw [HA.out.2.2.2.1]; exact hj
                        refine ⟨ps[j], rdCell hrd (by unfold intCells; rw [List.getElem?_map, List.getElem?_eq_getElem hjp]; rfl), HA.out.2.2.2.2.2.1 _ (List.getElem_mem hjp)⟩
                      obtain ⟨j1, hj1, hj1l⟩ : ∃ j : Nat, Int.tmod ((t : Int) + 1) (nP : Int) = (j : Int) ∧ j < nP := ⟨(t + 1) % nP, by rw [Int.tmod_eq_emod_of_nonneg (by omega)]; norm_cast, Nat.mod_lt _ (by omega)⟩
                      obtain ⟨j2, hj2, hj2l⟩ : ∃ j : Nat, Int.tmod ((t : Int) + 2) (nP : Int) = (j : Int) ∧ j < nP := ⟨(t + 2) % nP, by rw [Int.tmod_eq_emod_of_nonneg (by omega)]; norm_cast, Nat.mod_lt _ (by omega)⟩
                      obtain ⟨x0, p0, q0⟩ := hcell t hlt
                      obtain ⟨x1, p1, q1⟩ := hcell j1 hj1l
                      obtain ⟨x2, p2, q2⟩ := hcell j2 hj2l
                      have hab := fun (W : World) => And.intro (abs_b (w := W) q0.1 q0.2) (And.intro (abs_b (w := W) q1.1 q1.2) (abs_b (w := W) q2.1 q2.2))
                      have e0 := absT_le q0.1 q0.2
                      have e1 := absT_le q1.1 q1.2
                      have e2 := absT_le q2.1 q2.2
                      obtain ⟨a0, ha0⟩ : ∃ a, a = absT x0 := ⟨_, rfl⟩
                      obtain ⟨a1, ha1⟩ : ∃ a, a = absT x1 := ⟨_, rfl⟩
                      obtain ⟨a2, ha2⟩ : ∃ a, a = absT x2 := ⟨_, rfl⟩
                      rw [← ha0] at e0
                      rw [← ha1] at e1
                      rw [← ha2] at e2
                      simp only [← ha0, ← ha1, ← ha2] at hab
                      have HAB := Lib.hid hab
                      have HEE := Lib.hid (And.intro e0 (And.intro e1 e2))
                      clear hab ha0 ha1 ha2 e0 e1 e2
                      have s1 : IntKind.i64.wrap ((t : Int) + 1) = (t : Int) + 1 := IntWalk.i64_in _ (by omega)
                      have s2 : IntKind.i64.wrap ((t : Int) + 2) = (t : Int) + 2 := IntWalk.i64_in _ (by omega)
                      have s3 : IntKind.i64.wrap ((nw : Int) + 1) = (nw : Int) + 1 := IntWalk.i64_in _ (by omega)
                      have z1 : ¬ ((nw : Int) + 1 = 0) := by omega
                      have z2 : ¬ (nP = 0) := by omega
                      have dlt : decide (t < nP) = true := decide_eq_true hlt
                      have d60 : decide ((t : Int) < 60) = true := decide_eq_true (by omega)
                      have HLT := Lib.hid (And.intro hlt h60)
                      clear hrd hcell q0 q1 q2 hlt h60
                      gi_upto_region 29 with fail
                      clear dlt d60
                      have hlt := HLT.out.1
                      refine wpIn_wide.2 (wp_onlyR ?_)
                      go_cut [16] from 105 to 114 (fun s16 wx => ∃ f : Nat, s16 = .int .i64 (f : Int) ∧ f ≤ nw ∧ Hid (Below wr.heap.size wr wx))
                      case first =>
                        go_quiet ((go_at_call 29; exact Calls.quiet_of_same (HAB.out _).1))
                        all_goals
                          go_wp2_with fail
                          go_meet
                          exact ⟨a0 % (nw + 1), val_int (tmod1 a0 nw), Nat.le_of_lt_succ (Nat.mod_lt _ (by omega)), Lib.hid ⟨rfl, rfl, rfl, Nat.le_refl _, fun _ _ => rfl⟩⟩
                      case rest =>
                      obtain ⟨f, rfl, hf, HBc⟩ := hcut
                      obtain ⟨W1, hW1⟩ : ∃ W : World, W = wc := ⟨_, rfl⟩
                      have hbW1 : Below wr.heap.size wr W1 := by rw [hW1]; exact HBc.out
                      have up1 : ∀ (b o : Nat) (v : Value), wr.cell? ⟨b, o, none⟩ = some v → W1.cell? ⟨b, o, none⟩ = some v := fun b o v h => (hbW1.cell (p := ⟨b, o, none⟩) (World.block_lt_of_cell? wr _ h)).trans h
                      have kp1 := up1 _ _ _ kp
                      have kw1 := up1 _ _ _ kw
                      have p11 := up1 _ _ _ p1
                      have p21 := up1 _ _ _ p2
                      have HW1 := Lib.hid hbW1
                      rw [← hW1]
                      clear hW1 hbW1 up1 kp kw p0 p1 p2 HBc
                      gi_upto_region 30 with fail
                      refine wpIn_wide.2 (wp_onlyR ?_)
                      go_cut [17] from 115 to 126 (fun s17 wx => ∃ m : Nat, s17 = .int .i64 (m : Int) ∧ m ≤ 8 ∧ Hid (Below W1.heap.size W1 wx))
                      case first =>
                        go_quiet ((go_at_call 29; exact Calls.quiet_of_same (HAB.out _).2.1))
                        all_goals
                          go_wp2_with fail
                          go_meet
                          exact ⟨a1 % 9, val_int (tmod1 a1 8), by have := Nat.mod_lt a1 (show 0 < 9 by omega); omega, Lib.hid ⟨rfl, rfl, rfl, Nat.le_refl _, fun _ _ => rfl⟩⟩
                      case rest =>
                      obtain ⟨mo, rfl, hmo, HBc⟩ := hcut
                      obtain ⟨W2, hW2⟩ : ∃ W : World, W = wc := ⟨_, rfl⟩
                      have hbW2 : Below W1.heap.size W1 W2 := by rw [hW2]; exact HBc.out
                      have up1 : ∀ (b o : Nat) (v : Value), W1.cell? ⟨b, o, none⟩ = some v → W2.cell? ⟨b, o, none⟩ = some v := fun b o v h => (hbW2.cell (p := ⟨b, o, none⟩) (World.block_lt_of_cell? W1 _ h)).trans h
                      have kp2 := up1 _ _ _ kp1
                      have kw2 := up1 _ _ _ kw1
                      have p22 := up1 _ _ _ p21
                      have HW2 := Lib.hid (HW1.out.trans (hbW2.mono HW1.out.size))
                      have s4 : IntKind.i64.wrap ((nw : Int) - (f : Int)) = ((nw - f : Nat) : Int) := by rw [IntWalk.i64_in _ (by omega)]; omega
                      have s5 : IntKind.i64.wrap (((nw - f : Nat) : Int) + 1) = ((nw - f : Nat) : Int) + 1 := IntWalk.i64_in _ (by omega)
                      have z3 : ¬ (((nw - f : Nat) : Int) + 1 = 0) := by omega
                      obtain ⟨nf, hnf⟩ : ∃ k, k = nw - f := ⟨_, rfl⟩
                      rw [← hnf] at s4 s5 z3
                      have HNF := Lib.hid hnf
                      rw [← hW2]
                      clear hW2 hbW2 up1 kp1 kw1 p11 p21 hnf s1 s3 z1 HBc
                      gi_upto_region 31 with fail
                      refine wpIn_wide.2 (wp_onlyR ?_)
                      go_cut [18] from 127 to 145 (fun s18 wx => ∃ u : Nat, s18 = .int .i64 (u : Int) ∧ f ≤ u ∧ u ≤ nw ∧ Hid (Below W2.heap.size W2 wx))
                      case first =>
                        go_quiet ((go_at_call 29; exact Calls.quiet_of_same (HAB.out _).2.2))
                        all_goals
                          go_wp2_with fail
                          go_meet
                          have hm2 := Nat.mod_lt a2 (show 0 < nf + 1 by omega)
                          have hnf2 := HNF.out
                          refine ⟨f + a2 % (nf + 1), val_int ?_, by omega, by omega, Lib.hid ⟨rfl, rfl, rfl, Nat.le_refl _, fun _ _ => rfl⟩⟩
                          have e : ((f : Int) + (a2 : Int) % ((nf : Int) + 1)) = ((f + a2 % (nf + 1) : Nat) : Int) := by norm_cast
                          rw [e]
                          exact IntWalk.wrap64_in _ (by omega)
                      case rest =>
                      obtain ⟨u, rfl, hfu, hun, HBc⟩ := hcut
                      obtain ⟨W3, hW3⟩ : ∃ W : World, W = wc := ⟨_, rfl⟩
                      have hbW3 : Below wr.heap.size wr W3 := by rw [hW3]; exact HW2.out.trans (HBc.out.mono HW2.out.size)
                      have hsg3 := HV.out.1.later (HB.out.trans (hbW3.mono HB.out.size))
                      have hrdc := readS_b hsg3 (i := f) (u := u) (most := mo) hfu (by rw [← HV.out.2.2.2.2.2.2.2.1]; exact hun) (by omega)
                      simp only [Int.natCast_add] at hrdc
                      have HRD := Lib.hid hrdc
                      have HBS3 := Lib.hid (baseSeg_b hsg3)
                      have HW3 := Lib.hid hbW3
                      have HFU := Lib.hid (And.intro hfu hun)
                      rw [← hW3]
                      clear hW3 hbW3 hsg3 hrdc kp2 kw2 p22 s2 s4 s5 z2 z3 hj1 hj2 HBc
                      gi_wp2_with fail
                      refine (callsIn_wide.2 HBS3.out).mono ?_
                      rintro e W ⟨rfl, hW⟩
                      obtain rfl := hW.symm
                      clear hW
                      gi_wp2_with fail
                      refine (callsIn_wide.2 HBS3.out).mono ?_
                      rintro e W ⟨rfl, hW⟩
                      obtain rfl := hW.symm
                      clear hW
                      gi_wp2_with fail
                      refine (callsIn_wide.2 HRD.out).mono ?_
                      rintro e W4 ⟨v, xs, rfl, hxs, hxr, hb34⟩
                      obtain ⟨ov, cv, rfl, -⟩ := hxr.row.shape
                      obtain ⟨nv, hnv⟩ : ∃ n, n = xs.length := ⟨_, rfl⟩
                      have hb4 : Below wr.heap.size wr W4 := HW3.out.trans (hb34.mono HW3.out.size)
                      have hb04 := HB.out.trans (hb4.mono HB.out.size)
                      have kw4 : W4.cell? ⟨b11, 0, none⟩ = some (.slice ow nw cw) := cell_of ((hb04.block b11 (Array.getElem?_eq_some_iff.1 HV.out.2.2.2.1).1).trans HV.out.2.2.2.1) rfl
                      obtain ⟨k, hk⟩ : ∃ k, k = min u (f + mo) := ⟨_, rfl⟩
                      have hkl : f ≤ k ∧ k ≤ nw := by omega
                      have hmin : min (u : Int) ((f : Int) + (mo : Int)) = (k : Int) := by omega
                      have hws := (HV.out.2.2.2.2.1.is.below hb04)
                      have hsub := hws.sub HV.out.2.2.2.2.2.2.1 hkl.1 hkl.2
                      have hrs : ∀ W : World, (Instr.slice 36 (.slice ow nw cw) (some (.int .i64 (f : Int))) (some (.int .i64 (k : Int))) none).run Try.prog W = .ok (.slice (if cw = f then ow else ow.map (·.add (f * 3))) (k - f) (cw - f)) W := fun W => run_recs ow nw cw f k hkl.1 hkl.2 hcap W
                      obtain ⟨os, hos⟩ : ∃ x, (if cw = f then ow else ow.map (·.add (f * 3))) = x := ⟨_, rfl⟩
                      obtain ⟨ms, hms⟩ : ∃ x, k - f = x := ⟨_, rfl⟩
                      obtain ⟨ds, hds⟩ : ∃ x, cw - f = x := ⟨_, rfl⟩
                      rw [hos, hms, hds] at hsub
                      simp only [hos, hms, hds] at hrs
                      rw [← hnv] at hxr ⊢
                      have hsa := sameAll_b (l := readT (recsT bs) f u mo) (k := readT (recsT bs) f u mo) hxs (by
                        rw [List.map_take, List.map_drop, HV.out.2.2.2.2.2.1]
                        unfold readT
                        congr 1
                        omega) hnv.symm (by rw [List.length_take, List.length_drop, HV.out.2.2.2.2.2.2.1]; omega) hxr.is hsub (by
                        rw [hnv, ← List.length_map (f := fun x : RcV => x.r), hxs, readT_len (by rw [recsT_len, ← HV.out.2.2.2.2.2.2.2.1]; exact hun)]
                        omega)
                      rw [decide_eq_true rfl] at hsa
                      have HSA := Lib.hid hsa
                      have HB4 := Lib.hid (And.intro hb4 hb04)
                      clear hxs hxr hb34 hnv hb4 hb04 hws hsub hos hms hds hsa hk hkl HRD HBS3
                      gi_wp2_with fail
                      refine (callsIn_wide.2 HSA.out).mono ?_
                      rintro e W5 ⟨rfl, hb45⟩
                      have HB5 := Lib.hid (HB4.out.2.trans (hb45.mono HB4.out.2.size))
                      clear hb45 HSA
                      have hlt2 := HLT.out.1
                      gi_wp2_with fail
                      exact ⟨⟨t + 1, by simp, by omega, HB5⟩, by simp [intOf]; omega⟩
                    · gi_wp2_with fail
                      refine (callsIn_wide.2 (known_any _)).mono ?_
                      rintro e V5 ⟨rfl, hbk⟩
                      have hm5 := (hbk.block n7 (by
                        have h1 := (Array.getElem?_eq_some_iff.1 HV.out.2.2.2.2.2.2.2.2).1
                        have h2 := HB.out.size
                        omega)).trans ((HB.out.block n7 (Array.getElem?_eq_some_iff.1 HV.out.2.2.2.2.2.2.2.2).1).trans HV.out.2.2.2.2.2.2.2.2)
                      have HE := Lib.hid (And.intro hm5 (HWL.out.trans (hbk.mono HWL.out.size)))
                      clear hbk hm5
                      gi_wp2_with fail
                      refine ⟨by simp, .inl ⟨_, _, rfl, run_takeDeferred HE.out.1, ?_⟩⟩
                      have hg := grownBy_putObj' V5 n7 (.deferred none)
                      refine ⟨.bool true, by simp [results, Try.results4, go_sem], rfl, HE.out.2.grown hg HE.out.2.size (fun k e => ?_)⟩
                      simp only [Option.some.injEq] at e
                      have h1 := HS7.out.2.2.2.1
                      have h2 := HS7.out.2.2.1.size
                      have h3 := HJ.out.below.size
                      have h4 := H2.out.2.1.size
                      omega
                  · gi_wp2_with fail
                    refine (callsIn_wide.2 (known_any _)).mono ?_
                    rintro e V5 ⟨rfl, hbk⟩
                    have hm5 := (hbk.block n7 (by
                      have h1 := (Array.getElem?_eq_some_iff.1 HV.out.2.2.2.2.2.2.2.2).1
                      have h2 := HB.out.size
                      omega)).trans ((HB.out.block n7 (Array.getElem?_eq_some_iff.1 HV.out.2.2.2.2.2.2.2.2).1).trans HV.out.2.2.2.2.2.2.2.2)
                    have HE := Lib.hid (And.intro hm5 (HWL.out.trans (hbk.mono HWL.out.size)))
                    clear hbk hm5
                    gi_wp2_with fail
                    refine ⟨by simp, .inl ⟨_, _, rfl, run_takeDeferred HE.out.1, ?_⟩⟩
                    have hg := grownBy_putObj' V5 n7 (.deferred none)
                    refine ⟨.bool true, by simp [results, Try.results4, go_sem], rfl, HE.out.2.grown hg HE.out.2.size (fun k e => ?_)⟩
                    simp only [Option.some.injEq] at e
                    have h1 := HS7.out.2.2.2.1
                    have h2 := HS7.out.2.2.1.size
                    have h3 := HJ.out.below.size
                    have h4 := H2.out.2.1.size
                    omega
            refine wpIn_rangeFunc_toldX (n := 8) (α := BatV) rfl (by omega) (gf := 150) (lb := #[.pointer (some ⟨b12, 0, none⟩)]) (by subst hAA; rfl) trivial (enters_of Try.func150 (by kernel_rfl) rfl) (fun k hk => .inr (by have := HS7.out.2.2.2.1; omega)) hst (Below.refl _ _) (fun _ => rfl)
              (fun T pre V => GotI wr V b11 n7 T (recsT (bs.take pre.length))) (fun _ _ _ _ => False) ?I ?Ix ?h0 ?round ?done ?stop
            case I =>
              rintro T pre A0 B0 hi ho
              rw [← HS7.out.2.2.2.1] at ho
              exact hi.kept ho (fun _ h => h)
            case Ix =>
              rintro c T pre A0 B0 hf ho
              exact hf
            case h0 =>
              intro T W1 hb hsz hT
              rw [← HS7.out.2.2.2.1] at hT
              exact ⟨⟨fun hh => by have := HS7.out.2.1; have := hh.1; omega, none, 0, 0, [], rfl, rfl, (hb.block b11 (by have := HS7.out.2; omega)).trans HS7.out.1, RowP.nil _ _⟩, HS7.out.2.2.1.trans (hb.mono HS7.out.2.2.1.size), fun a ha => (hT a ha).1, by rw [H6.out.2.2.2.2]; exact Nat.le_refl _, HS7.out.2.1⟩
            case done =>
              rintro T xs V hS hi hD
              have hS' : xs.length = bs.length := hS
              have hi' : GotI wr V b11 n7 T (recsT (bs.take xs.length)) := hi
              rw [hS', List.take_length] at hi'
              rw [← HS7.out.2.2.2.1] at hD ⊢
              exact hAfter T V hi' hD
            case stop =>
              rintro T c0 pre V hS hf hD
              exact hf.elim
            case round =>
              rintro T pre ⟨at0, bse, oe, ce, xs⟩ Wp V hT hrec hdef hip hop hszp ⟨hgv, hnT⟩ hlt K0 hK0
              rw [← HS7.out.2.2.2.1] at hT hrec hdef hK0 hszp
              obtain ⟨hml, -, hbase, hxs, hrn⟩ := hgv
              dsimp only at hbase hxs hrn
              have hgood := H6.out.2.1.chain.good _ (List.getElem_mem hml)
              have hsn : recsT (bs.take (pre.length + 1)) = recsT (bs.take pre.length) ++ bs[pre.length].2 := by
                rw [List.take_succ_eq_append_getElem hml, recsT_append]
                simp [recsT]
              have hll : (recsT (bs.take pre.length)).length ≤ 16777216 := by
                rw [recsT_len]
                have h1 := cntT_le (bs := bs) pre.length bs.length (Nat.le_of_lt hml)
                rw [List.take_length] at h1
                have := HS7.out.2.2.2.2
                omega
              obtain ⟨bb, hbb⟩ : ∃ b, b = bs[pre.length] := ⟨_, rfl⟩
              rw [← hbb] at hbase hxs hgood hsn
              obtain ⟨N, hN⟩ : ∃ N, N = xs.length := ⟨_, rfl⟩
              have hN256 : N ≤ 256 := by
                have h1 := hgood.len
                rw [hN, ← List.length_map (f := fun x : RcV => x.r), hxs]
                exact h1
              rw [← hN] at hrn
              obtain ⟨V', hV'⟩ : ∃ V', V' = V.alloc (.cells #[.int .i64 bse, .slice oe N ce] 46) := ⟨_, rfl⟩
              obtain ⟨B, hB⟩ : ∃ b, b = V.heap.size := ⟨_, rfl⟩
              have hbV : Below V.heap.size V V' := by rw [hV']; exact (Below.refl _ _).alloc (Nat.le_refl _) _
              have hBx : V'.heap[B]? = some (.cells #[.int .i64 bse, .slice oe N ce] 46 (0, 0)) := by rw [hV', hB]; exact alloc_cells _ _ _
              have hVl : n7 + 1 < V.heap.size := by
                obtain ⟨r, hr⟩ := hrec
                exact (Array.getElem?_eq_some_iff.1 hr).1
              have HK := Lib.hid hK0
              have HI := Lib.hid hip
              have HOP := Lib.hid (And.intro hop (And.intro hszp (And.intro (fun k hk => (hT k hk).2) (And.intro hVl hnT))))
              have HX := Lib.hid (And.intro hxs (And.intro hrn.rowP (And.intro hN (And.intro hsn hll))))
              have HVB := Lib.hid (And.intro hbV (And.intro hBx hB))
              clear hbb
              clear hN hT hrec hdef hip hop hszp hK0 hxs hrn hsn hll hgood hlt hst hml hbase hbV hBx hVl hnT hAfter
              unfold encB
              subst hAA
              gi_wp2_with fail
              rw [← HX.out.2.2.1, ← hV', ← hB]
              clear hV' hB
              refine HK.out _ _ (KeptX.of HVB.out.1) ?_
              intro W2 ho hr2
              have hopV : Only T Wp V' := HOP.out.1.trans (Only.of_below HVB.out.1 (Nat.le_refl _) (fun _ => False)) (fun _ _ hf => hf.elim)
              have hop2 : Only (fun k => T k ∨ k = n7 + 1) Wp W2 := (hopV.mono (fun _ _ h => .inl h)).trans (ho.mono (fun k _ h => .inr h)) (fun _ _ h => h)
              obtain ⟨oz, nz, cz, ys, hin⟩ := HI.out.inI hop2 (fun i h => h.elim .inl (fun h => .inr (.inr h))) HOP.out.2.1
              have hV2 : V'.heap.size ≤ W2.heap.size := ho.size
              have hVs : V.heap.size ≤ V'.heap.size := HVB.out.1.size
              have hBV := HVB.out.2.2
              have hVl := HOP.out.2.2.2.1
              have hsp := HOP.out.2.1
              have hWV : Wp.heap.size ≤ V.heap.size := HOP.out.1.size
              have hkb : W2.heap[B]? = some (.cells #[.int .i64 bse, .slice oe N ce] 46 (0, 0)) := (ho.block B (Array.getElem?_eq_some_iff.1 HVB.out.2.1).1 (fun e => by omega)).trans HVB.out.2.1
              have hrw2 : RowP (fun a => Wp.heap.size ≤ a) W2 (.slice oe N ce) xs := (HX.out.2.1.later HVB.out.1).kept (fun k hk hp => ho.block k hk (fun e => by omega))
              have hnzl : nz ≤ 16777216 := by rw [hin.size]; exact HX.out.2.2.2.2
              have hTl : ∀ a, T a → a < W2.heap.size := fun a ha => by have := HOP.out.2.2.1 a ha; omega
              have kb1 : W2.cell? ⟨B, 1, none⟩ = some (.slice oe N ce) := cell_of hkb rfl
              have k11 : W2.cell? ⟨b11, 0, none⟩ = some (.slice oz nz cz) := cell_of hin.box rfl
              have hzs : ∀ x ∈ xs, rowAt W2 5 1 x.kv x.r.key.length (byteCells x.r.key) ∧ rowAt W2 5 1 x.vv x.r.val.length (byteCells x.r.val) ∧ (∀ k, x.kv.ownBlock = some k → n7 + 2 ≤ k ∧ ¬ T k) ∧ (∀ k, x.vv.ownBlock = some k → n7 + 2 ≤ k ∧ ¬ T k) := fun x hx => by
                obtain ⟨e1, e2, e3, e4⟩ := hrw2.each x hx
                have hpp : ∀ k, Wp.heap.size ≤ k → n7 + 2 ≤ k ∧ ¬ T k := fun k hk => ⟨by omega, HOP.out.2.2.2.2 k⟩
                exact ⟨e1, e2, fun k hk => hpp k (e3 k hk), fun k hk => hpp k (e4 k hk)⟩
              have HST := Lib.hid (fun (w3 : World) (oa3 : Option Addr) (c3 : Nat) => InI.step (V1 := W2) (w3 := w3) (oa3 := oa3) (c3 := c3) (zs := xs) (m := N) hin HX.out.2.2.1.symm hzs (Below.refl _ _) (Nat.le_refl _) hTl (by omega) (by omega))
              have HROW := Lib.hid (And.intro hin.row (And.intro hin.len hrw2.is))
              clear hopV hop2 hin hV2 hVs hBV hVl hsp hkb hrw2 ho hr2 hWV hzs hTl
              generalize hQ : toldPost _ _ _ _ _ = Q
              have HQ := Lib.hid hQ
              clear hQ
              gi_wp2_with (gi_at_builtin; refine wpListIn_append_recs rfl (.tmp 82) (.tmp 84) rfl (xs := ys) (ys := xs) (P := fun a => n7 + 2 ≤ a ∧ ¬ T a) HROW.out.1 HROW.out.2.1 (by omega) HROW.out.2.2 HX.out.2.2.1.symm (by omega) (by rfl) (by rfl) ?_; intro oa3 c3 w3 HR3 HG3 HO3; have hst := HST.out w3 oa3 c3 HR3.out HG3.out HO3.out; have y11 : w3.cell? ⟨b11, 0, none⟩ = some (.slice oz nz cz) := cell_of hst.1 rfl; have z11 : w3.frozen? ⟨b11, 0, none⟩ = false := free_of hst.1 _; have HS3 := Lib.hid hst.2; clear hst)
              rw [← HQ.out]
              refine ⟨HS3.out.kept, ?_⟩
              show GotI _ _ _ _ _ (recsT (bs.take (pre ++ [(⟨at0, bse, oe, ce, xs⟩ : BatV)]).length))
              rw [List.length_append, List.length_cons, List.length_nil, Nat.zero_add, HX.out.2.2.2.1, ← HX.out.1]
              exact HS3.out.got
end Go.Proofs.Ytmkjejngnahpeaa
