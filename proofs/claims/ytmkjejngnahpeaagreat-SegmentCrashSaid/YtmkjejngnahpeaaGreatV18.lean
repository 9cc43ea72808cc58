/- The texts Ya in one. -/
import Derived.Test.YtmkjejngnahpeaaGreatV17
import Derived.Test.YtmkjejngnahpeaaGreatV8
/- record: All, where the rounds of the range over it may write to blocks ahead of it. -/
namespace Go.Proofs.YtmkjejngnahpeaaGreat
open Go Go.RowKit
attribute [local go_sem] Oper.semAt_some

/-- the iterator's variable and its bytes -/
def AllAt (w : World) (b1 : Nat) (oa : Option Addr) (c : Nat) (D : List UInt8) : Prop := w.heap[b1]? = some (.cells #[.slice oa D.length c] 58 (0, 0)) ∧ rowAt w 5 1 (.slice oa D.length c) D.length (byteCells D)
/-- they stand as they did -/
def AllKeep (b1 : Nat) (oa : Option Addr) (n c : Nat) (W W' : World) : Prop := W'.heap[b1]? = W.heap[b1]? ∧ ∀ k, (Value.slice oa n c).ownBlock = some k → W'.heap[k]? = W.heap[k]?
theorem AllAt.keep {w w' : World} {b1 c : Nat} {oa : Option Addr} {D : List UInt8} (h : AllAt w b1 oa c D) (hk : AllKeep b1 oa D.length c w w') : AllAt w' b1 oa c D :=
  ⟨hk.1.trans h.1, h.2.kept hk.2⟩
theorem AllAt.later {w w' : World} {b1 c : Nat} {oa : Option Addr} {D : List UInt8} (h : AllAt w b1 oa c D) (hb : Below w.heap.size w w') : AllAt w' b1 oa c D :=
  ⟨(hb.block b1 (Array.getElem?_eq_some_iff.1 h.1).1).trans h.1, h.2.kept (fun k hk => hb.block k (h.2.lt k hk))⟩
set_option maxRecDepth 100000 in
set_option maxHeartbeats 4000000 in
theorem allInX (n : Nat) (hn : 1 ≤ n) (l b1 : Nat) (w : World) (L : List Bat) (tl : List UInt8) (hok : BatsOk L tl) {oa : Option Addr} {c : Nat} (hall : AllAt w b1 oa c (batsT L ++ tl)) (hsz : (batsT L ++ tl).length ≤ 1000000000) (J Jx : Nat → World → Prop) (W : World) (hW : Below w.heap.size w W)
    (hJ : ∀ j A B, J j A → Below A.heap.size A B → J j B)
    (hY : ∀ j x Wp W1, J j Wp → Below Wp.heap.size Wp W1 → W.heap.size ≤ Wp.heap.size → BatIs L Wp.heap.size j x W1 → YieldAt Fence.wide (n - 1) Tryz.prog l (encB x) W1 fun e W' =>
      (e = .returned (.bool true) ∧ J (j + 1) W' ∧ AllKeep b1 oa (batsT L ++ tl).length c W1 W' ∧ W1.heap.size ≤ W'.heap.size) ∨ (e = .returned (.bool false) ∧ Jx (j + 1) W')) (h0 : J 0 W) :
    CallsIn Fence.wide n Tryz.prog 64 #[.func (.yield l) #[] #[], .pointer (some ⟨b1, 0, none⟩)] W fun e W' => (∃ v, e = .returned v) ∧ (J L.length W' ∨ ∃ j, j ≤ L.length ∧ Jx j W') := by
  obtain ⟨hbx, hrow⟩ := hall
  obtain ⟨D, hD⟩ : ∃ D, batsT L ++ tl = D := ⟨_, rfl⟩
  obtain ⟨N, hN⟩ : ∃ N, D.length = N := ⟨_, rfl⟩
  obtain ⟨M, hM⟩ : ∃ M, L.length = M := ⟨_, rfl⟩
  rw [hD] at hbx hrow hsz hY
  rw [hN] at hbx hrow hsz hY
  have cv : W.cell? ⟨b1, 0, none⟩ = some (.slice oa N c) := cell_of ((hW.block b1 (Array.getElem?_eq_some_iff.1 hbx).1).trans hbx) rfl
  have HA0 : Hid (AllAt W b1 oa c D) := Lib.hid ⟨by rw [hN]; exact (hW.block b1 (Array.getElem?_eq_some_iff.1 hbx).1).trans hbx, by rw [hN]; exact hrow.kept (fun k hk => hW.block k (hrow.lt k hk))⟩
  have HN := Lib.hid (And.intro hD (And.intro hN (And.intro hM hok)))
  have HY := Lib.hid hY
  have HJ := Lib.hid hJ
  have HW := Lib.hid hW
  have hp : ∀ j, posT L j ≤ N := fun j => by
    have h1 := posT_le (L := L) (j := j)
    rw [← hN, ← hD, List.length_append]
    omega
  have HP := Lib.hid hp
  clear hbx hrow hD hN hM hok hY hJ hW hp
  refine callsIn_of_wp Tryz.func64 rfl trivial ?_ rfl
  have f1 : Fence.wide.fn 65 := trivial
  simp only [Tryz.ntmps64, List.size_toArray, List.length_cons, List.length_nil, Nat.reduceAdd, Nat.reduceSub, Array.replicate_succ, Array.replicate_zero, List.push_toArray, List.append_toArray, List.nil_append, List.cons_append]
  gi_wp2_with fail
  gi_loopw [3] (fun s wr => ∃ (j p : Nat), s = .int .i64 (p : Int) ∧ j ≤ M ∧ p ≤ N ∧ Hid (p = posT L j ∧ J j wr ∧ AllAt wr b1 oa c D ∧ W.heap.size ≤ wr.heap.size)) (fun s _ => N - (intOf s).toNat)
  case atStart => exact ⟨0, 0, rfl, Nat.zero_le _, Nat.zero_le _, Lib.hid ⟨rfl, h0, HA0.out, Nat.le_refl _⟩⟩
  case round =>
    obtain ⟨j, p, rfl, hj, hpN, HI⟩ := hrel
    have har := HI.out.2.2.1
    unfold AllAt at har
    rw [HN.out.2.1] at har
    have hrd : readAt wr 1 (.slice oa N c) N (byteCells D) := har.2.read
    have kb : wr.cell? ⟨b1, 0, none⟩ = some (.slice oa N c) := cell_of har.1 rfl
    clear har
    by_cases hlt : j < M
    · have hjL : j < L.length := by rw [HN.out.2.2.1]; exact hlt
      have hat := bats_at hjL tl
      rw [HN.out.1, ← HI.out.1] at hat
      have hgood := HN.out.2.2.2.good L[j] (List.getElem_mem hjL)
      have HRD := Lib.hid (readOk_b HN.out.2.1 hrd hpN hsz hat hgood)
      have hsucc := posT_succ hjL
      have hpn := HP.out (j + 1)
      obtain ⟨bb, hbb⟩ : ∃ b, L[j] = b := ⟨_, rfl⟩
      rw [hbb] at hgood hsucc
      rw [hbb] at HRD
      rw [hsucc, ← HI.out.1] at hpn
      obtain ⟨sz, hsz2⟩ : ∃ s, rcsSize bb.2 = s := ⟨_, rfl⟩
      have hsz32 := hgood.pos.2
      have hsz64 := hgood.size
      rw [hsz2] at hpn hsz32 hsz64
      have HB := Lib.hid (And.intro hsz2 (And.intro hsucc hbb))
      clear hrd hat hgood hsucc hbb hsz2
      gi_wp2_with fail
      refine (callsIn_wide.2 HRD.out).mono ?_
      rintro e w2 ⟨v, xs, rfl, hxs, hnr⟩
      obtain ⟨ov, cv', hve, -⟩ := hnr.row.shape
      subst hve
      unfold batchV
      rw [HB.out.1]
      obtain ⟨w3, hw3⟩ : ∃ V : World, V = w2.alloc (.cells #[.int .i64 bb.1, .slice ov xs.length cv'] 40) := ⟨_, rfl⟩
      obtain ⟨b4, hb4⟩ : ∃ b, b = w2.heap.size := ⟨_, rfl⟩
      have h34 : w3.heap[b4]? = some (.cells #[.int .i64 bb.1, .slice ov xs.length cv'] 40 (0, 0)) := by rw [hw3, hb4]; exact alloc_cells _ _ _
      have hb23 : Below w2.heap.size w2 w3 := by rw [hw3]; exact (Below.refl _ _).alloc (Nat.le_refl _) _
      have k0 : w3.cell? ⟨b4, 0, none⟩ = some (.int .i64 bb.1) := cell_of h34 rfl
      have k1 : w3.cell? ⟨b4, 1, none⟩ = some (.slice ov xs.length cv') := cell_of h34 rfl
      have hbr3 : Below wr.heap.size wr w3 := hnr.below.trans (hb23.mono hnr.below.size)
      have hbat : BatIs L wr.heap.size j ⟨p, bb.1, ov, cv', xs⟩ w3 := ⟨hjL, HI.out.1, by rw [HB.out.2.2], by rw [HB.out.2.2]; exact hxs, (hnr.from' (Nat.le_refl _)).later hb23⟩
      obtain ⟨fn, tmps, assign, body, hy, hRy⟩ := HY.out j _ wr w3 HI.out.2.1 hbr3 HI.out.2.2.2 hbat
      have HRY := Lib.hid hRy
      have H3 := Lib.hid hbr3
      unfold encB at hy
      dsimp only at hy
      clear hxs hnr h34 hb23 hbr3 hbat hRy kb HRD
      gi_upto_region 2 with fail
      rw [← hw3, ← hb4]
      clear hw3 hb4
      gi_wp2_with fail
      refine HRY.out.mono ?_
      rintro e W3 (⟨rfl, hJ3, hk3, hs3⟩ | ⟨rfl, hJx3⟩)
      · have HJ3 := Lib.hid (And.intro hJ3 (And.intro hk3 hs3))
        clear hJ3 hk3 hs3
        gi_wp2_with fail
        have hk3 := HJ3.out.2.1
        rw [← HN.out.2.1] at hk3
        refine ⟨⟨j + 1, p + sz, by simp, by omega, by omega, Lib.hid ⟨by rw [HB.out.2.1, ← HI.out.1, HB.out.1], HJ3.out.1, (HI.out.2.2.1.later H3.out).keep hk3, ?_⟩⟩, by simp [intOf]; omega⟩
        have h1 := HJ3.out.2.2
        have h2 := H3.out.size
        have h3 := HI.out.2.2.2
        omega
      · have HX3 := Lib.hid hJx3
        clear hJx3
        gi_wp2_with fail
        refine bodyPost_ret (results_none rfl _ _ _) rfl ?_
        exact ⟨⟨_, rfl⟩, .inr ⟨j + 1, by omega, HX3.out⟩⟩
    · obtain rfl : j = M := by omega
      have hend := bats_end L tl
      rw [HN.out.1, HN.out.2.2.1, ← HI.out.1] at hend
      have HJE : Hid (J L.length wr) := Lib.hid (by rw [HN.out.2.2.1]; exact HI.out.2.1)
      have HHJ := HJ
      rcases HN.out.2.2.2.rest with htl | htl
      · have HRD := Lib.hid (readEnd_b HN.out.2.1 hrd hpN hsz (by rw [hend]; exact htl))
        clear hrd hend htl
        gi_wp2_with fail
        refine (callsIn_wide.2 HRD.out).mono ?_
        rintro e w2 ⟨rfl, hb2⟩
        have HB := Lib.hid ((hb2.trans ((Below.refl _ _).alloc (Nat.le_refl _) (.cells #[.int .i64 0, .slice none 0 0] 40) |>.mono hb2.size)))
        clear hb2 kb HRD
        unfold batchNo
        gi_wp2_with fail
        refine ⟨fun f hf => (by cases hf), ?_⟩
        gi_wp2_with fail
        refine bodyPost_ret (results_none rfl _ _ _) rfl ?_
        exact ⟨⟨_, rfl⟩, .inl (HHJ.out _ _ _ HJE.out HB.out)⟩
      · have HRD := Lib.hid (readTorn_b HN.out.2.1 hrd hpN hsz (by rw [hend]; exact htl))
        clear hrd hend htl
        gi_wp2_with fail
        refine (callsIn_wide.2 HRD.out).mono ?_
        rintro e w2 ⟨rfl, hb2⟩
        have HB := Lib.hid ((hb2.trans ((Below.refl _ _).alloc (Nat.le_refl _) (.cells #[.int .i64 0, .slice none 0 0] 40) |>.mono hb2.size)))
        clear hb2 kb HRD
        unfold batchNo
        gi_wp2_with fail
        refine ⟨fun f hf => (by cases hf), ?_⟩
        gi_wp2_with fail
        refine bodyPost_ret (results_none rfl _ _ _) rfl ?_
        exact ⟨⟨_, rfl⟩, .inl (HHJ.out _ _ _ HJE.out HB.out)⟩
/-- **going over the batches: the next one is the next batch** -/
theorem all_toldX (n : Nat) (hn : 1 ≤ n) (b1 : Nat) (w : World) (L : List Bat) (tl : List UInt8) (hok : BatsOk L tl) {oa : Option Addr} {c : Nat} (hall : AllAt w b1 oa c (batsT L ++ tl)) (hsz : (batsT L ++ tl).length ≤ 1000000000)
    (X : Nat → Prop) (hX1 : ¬ X b1) (hX2 : ∀ k, (Value.slice oa (batsT L ++ tl).length c).ownBlock = some k → ¬ X k) :
    SeqToldX Fence.wide n Tryz.prog 64 #[.pointer (some ⟨b1, 0, none⟩)] encB (fun n₀ T pre x W => BatIs L n₀ pre.length x W ∧ ∀ k, ¬ T k) (fun xs => xs.length = L.length) (fun pre => pre.length ≤ L.length) L.length X w := fun l J Jx W hW hs hJ hJx hY => by
  have hl1 := (Array.getElem?_eq_some_iff.1 hall.1).1
  have hl2 := hall.2.lt
  refine (allInX n hn l b1 w L tl hok hall hsz (fun j V => ∃ pre, pre.length = j ∧ J (fun _ => False) pre V) (fun j V => ∃ pre, pre.length = j ∧ Jx (fun _ => False) pre V) W hW ?_ ?_ ⟨[], rfl, hs (fun _ => False) W (Below.refl _ _) (fun _ hf => hf.elim)⟩).mono ?_
  · rintro j A B ⟨pre, h1, h2⟩ hb
    exact ⟨pre, h1, hJ _ _ A B h2 (Only.of_below hb (Nat.le_refl _) _)⟩
  · rintro j x Wp W1 ⟨pre, rfl, hj⟩ hb hz hbat
    have hlt : pre.length < L.length := hbat.1
    have hsz1 : w.heap.size ≤ W1.heap.size := by have := hW.size; have := hb.size; omega
    refine (hY (fun _ => False) pre x Wp W1 (fun _ hf => hf.elim) hj (Only.of_below hb (Nat.le_refl _) _) hz ⟨hbat, fun _ hf => hf⟩ hlt).mono (fun e W' hr => ?_)
    rcases hr with ⟨h1, h2, h3⟩ | ⟨h1, h2, h3⟩
    · exact .inl ⟨h1, ⟨_, by simp, h2⟩, ⟨h3.block b1 (by omega) (fun h => hX1 h.1), fun k hk => h3.block k (by have := hl2 k hk; omega) (fun h => hX2 k hk h.1)⟩, h3.size⟩
    · exact .inr ⟨h1, _, by simp, h2⟩
  · rintro e W' ⟨he, ⟨pre, h1, h2⟩ | ⟨j, hj, pre, rfl, h2⟩⟩
    · exact ⟨he, .inl ⟨_, pre, h1, h2⟩⟩
    · exact ⟨he, .inr ⟨_, pre, hj, h2⟩⟩
end Go.Proofs.YtmkjejngnahpeaaGreat
