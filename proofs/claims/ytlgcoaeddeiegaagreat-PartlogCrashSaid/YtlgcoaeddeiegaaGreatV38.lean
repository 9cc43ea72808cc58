/- The texts Xr in one. -/
import Derived.Test.YtlgcoaeddeiegaaGreatV37
/- law11: PartlogCrash: its round. -/
namespace Go.Proofs.YtlgcoaeddeiegaaGreat
open Go Go.Maps Go.RowKit
attribute [local go_sem] Oper.semAt_some

theorem wp_blockC {P : Program} {id : Nat} {c : Code} {K : Act → World → Prop} {Q' : Exit → Act → World → Prop} {a : Act} {w : World} (h : c.wp P (Exit.then K (fun _ _ _ => False)) a w) : (Code.block id c).wp P (Exit.then K Q') a w :=
  wp_block (Code.wp_mono (fun e _ _ hq => by
    cases e with
    | normal => exact hq
    | exit id => exact hq.elim
    | goto l => exact hq.elim
    | ret => exact hq.elim
    | panic ch => exact hq.elim
    | outgrown => exact hq.elim) h)
section
variable {w2 w3 wr : World} {of os op oa oz o1 : Option Addr} {b3 nf cf ns cs np cp na ca q lp r st nz cz mb i b15 t k m e1 : Nat} {v15 v93 : Value} {u : Nat → Value} {X : Nat → Prop} {g : Lg} {d : Dk} {ys : List RcV} {A0 : List Bat} {D : DataW Unit} {x : StpV} {K : Act → World → Prop} {Q : Exit → Act → World → Prop}
set_option maxRecDepth 100000 in
set_option maxHeartbeats 2000000 in
theorem cr_switch (h : CrH w2 w3 lp q r st X g d ys A0 k D (.slice oz nz cz) nz mb t b15 m x o1 e1) (hQ : CrQ w2 os op oa b3 ns cs np cp na ca q lp r st mb i b15 t K) {kd : Int} (_hkd : kd = x.kind) :
    Code.wp Tryz.prog crS (Exit.then K Q) ⟨frC os op oa oz b3 ns cs np cp na ca q lp nz cz mb i (.pointer (some ⟨b15, 0, none⟩)) (.int .i64 kd) u, []⟩ w3 := by
  have H := Lib.hid h
  have HQ := Lib.hid hQ
  clear h hQ _hkd
  rw [cr_s]
  refine wp_seq_k fun K1 hK1 => ?_
  have HK1 := Lib.hid hK1
  clear hK1
  unfold frC
  conv => arg 2; whnf
  by_cases h1 : kd = 1
  · have hd : (kd == 1) = true := by rw [beq_iff_eq]; exact h1
    have HKD := Lib.hid h1
    clear h1
    go_wp2_with fail
    refine HK1.out _ _ (wp_cond_true (by rfl) ?_)
    exact frC_go (v93 := .int .i64 kd) (by kernel_rfl) (fun u => cr_arm1 H.out HQ.out)
  have hd : (kd == 1) = false := by rw [beq_eq_false_iff_ne]; exact h1
  have HK1D := Lib.hid h1
  clear h1
  go_wp2_with fail
  refine HK1.out _ _ (wp_cond_false (by rfl) ?_)
  refine frC_go (os := os) (op := op) (oa := oa) (oz := oz) (b3 := b3) (ns := ns) (cs := cs) (np := np) (cp := cp) (na := na) (ca := ca) (q := q) (lp := lp) (nz := nz) (cz := cz) (mb := mb) (i := i) (v15 := .pointer (some ⟨b15, 0, none⟩)) (v93 := .int .i64 kd) (by kernel_rfl) (fun u1 => ?_)
  rw [cr_e1]
  refine wp_seq_k fun K2 hK2 => ?_
  have HK2 := Lib.hid hK2
  clear hK2
  unfold frC
  conv => arg 2; whnf
  by_cases h2 : kd = 2
  · have hd2 : (kd == 2) = true := by rw [beq_iff_eq]; exact h2
    have HKD := Lib.hid h2
    clear h2
    go_wp2_with fail
    refine HK2.out _ _ (wp_cond_true (by rfl) ?_)
    exact frC_go (v93 := .int .i64 kd) (by kernel_rfl) (fun u => cr_arm2 H.out HQ.out)
  have hd2 : (kd == 2) = false := by rw [beq_eq_false_iff_ne]; exact h2
  have HK2D := Lib.hid h2
  clear h2
  go_wp2_with fail
  refine HK2.out _ _ (wp_cond_false (by rfl) ?_)
  refine frC_go (os := os) (op := op) (oa := oa) (oz := oz) (b3 := b3) (ns := ns) (cs := cs) (np := np) (cp := cp) (na := na) (ca := ca) (q := q) (lp := lp) (nz := nz) (cz := cz) (mb := mb) (i := i) (v15 := .pointer (some ⟨b15, 0, none⟩)) (v93 := .int .i64 kd) (by kernel_rfl) (fun u2 => ?_)
  rw [cr_e2]
  refine wp_seq_k fun K3 hK3 => ?_
  have HK3 := Lib.hid hK3
  clear hK3
  unfold frC
  conv => arg 2; whnf
  by_cases h4 : kd = 4
  · have hd4 : (kd == 4) = true := by rw [beq_iff_eq]; exact h4
    have HKD := Lib.hid h4
    clear h4
    go_wp2_with fail
    refine HK3.out _ _ (wp_cond_true (by rfl) ?_)
    exact frC_go (v93 := .int .i64 kd) (by kernel_rfl) (fun u => cr_arm4 H.out HQ.out)
  have hd4 : (kd == 4) = false := by rw [beq_eq_false_iff_ne]; exact h4
  have HK4D := Lib.hid h4
  clear h4
  go_wp2_with fail
  refine HK3.out _ _ (wp_cond_false (by rfl) (wp_skip ?_))
  exact HQ.out.go oz nz cz (.int .i64 kd) ⟨_, _, _, _, _, _, _, _, _, H.out.s.up, fun e => by cases e⟩ (by kernel_rfl)
set_option maxRecDepth 100000 in
set_option maxHeartbeats 4000000 in
theorem cr_round {fs : List (Int × Int)} {L : List StpV} {p1 p2 : List Int} (hi : CrJ true w2 wr lp q r st (.slice oz nz cz) nz mb i) (hin : i ≤ ns) (hA : CrArgs w2 of os op oa nf cf ns cs np cp na ca fs L p1 p2) (hsm : CrSmall fs L nf np na) (hr : 1 ≤ r ∧ r ≤ 16711680)
    (hK : i < ns → ∀ (oz : Option Addr) (nz cz : Nat) (v15 v93 : Value) (u : Nat → Value) (wy : World), CrJ true w2 wy lp q r st (.slice oz nz cz) nz mb (i + 1) → K ⟨frC os op oa oz b3 ns cs np cp na ca q lp nz cz mb (i + 1) v15 v93 u, []⟩ wy)
    (hX : ∀ (oz : Option Addr) (nz cz j : Nat) (v15 v93 : Value) (u : Nat → Value) (wy : World), j ≤ ns → CrJ false w2 wy lp q r st (.slice oz nz cz) nz mb j → ∀ i', Q (.exit 0) ⟨frC os op oa oz b3 ns cs np cp na ca q lp nz cz mb i' v15 v93 u, []⟩ wy) :
    Code.wp Tryz.prog crBody (Exit.then K Q) ⟨frC os op oa oz b3 ns cs np cp na ca q lp nz cz mb i v15 v93 u, []⟩ wr := by
  have HI := Lib.hid hi
  have HK := Lib.hid hK
  have HX := Lib.hid hX
  have HA := Lib.hid (And.intro hA (And.intro hsm hr))
  have hns60 : ns ≤ 60 := by have := hsm.small.1; rw [hA.nsE] at this; exact this
  clear hi hK hX hA hsm hr
  rw [cr_body]
  refine wp_seq_k fun K1 hK1 => ?_
  have HK1 := Lib.hid hK1
  clear hK1
  unfold frC
  conv => arg 2; whnf
  by_cases hlt : i < ns
  · have hd : decide ((i : Int) < (ns : Int)) = true := decide_eq_true (by omega)
    go_wp2_with fail
    refine HK1.out _ _ ?_
    refine wp_seq_k fun K2 hK2 => ?_
    have HK2 := Lib.hid hK2
    clear hK2
    refine wp_block ?_
    rw [cr_p]
    refine wp_seq_k fun K3 hK3 => ?_
    have HK3 := Lib.hid hK3
    clear hK3
    obtain ⟨X, g, d, ys, A0, B0, XX, k, D, hs, hal⟩ := HI.out
    have hal := hal rfl
    obtain ⟨rfl, rfl⟩ := hs.cri.alive hal
    have hst := HA.out.1.steps.below hs.home.below
    have hiL : i < L.length := by rw [HA.out.1.nsE]; exact hlt
    obtain ⟨ga, off, hoa, hcell⟩ := hst.at HA.out.1.nsE hiL
    subst hoa
    obtain ⟨x, hx⟩ : ∃ x, x = L[i] := ⟨_, rfl⟩
    rw [← hx] at hcell
    have hxm : x ∈ L := by rw [hx]; exact List.getElem_mem _
    have hok0 := HA.out.1.steps.each x hxm
    obtain ⟨o1, e1, h1⟩ := hok0.rsl
    obtain ⟨o2, e2, h2⟩ := hok0.fsl
    obtain ⟨o3, e3, h3⟩ := hok0.psl
    obtain ⟨o4, e4, h4⟩ := hok0.bsl
    obtain ⟨hl30, hkv⟩ := large_not (HA.out.2.1.small.2 x hxm).1
    obtain ⟨m, hm⟩ : ∃ m, x.recs.length = m := ⟨_, rfl⟩
    rw [hm] at h1 hl30
    have hrec0 := hok0.recs
    rw [h1] at hrec0
    obtain ⟨kd, hkd⟩ : ∃ kd, kd = x.kind := ⟨_, rfl⟩
    have c0 : wr.cell? ⟨ga, off + i * 9, none⟩ = some (.int .i64 kd) := hcell 0 (by omega) _ (by rw [hkd]; rfl)
    have c1 : wr.cell? ⟨ga, off + i * 9 + 1, none⟩ = some (.int .i64 x.most) := hcell 1 (by omega) _ rfl
    have c2 : wr.cell? ⟨ga, off + i * 9 + 2, none⟩ = some (.int .i64 x.frm) := hcell 2 (by omega) _ rfl
    have c3 : wr.cell? ⟨ga, off + i * 9 + 3, none⟩ = some (.int .i64 x.unt) := hcell 3 (by omega) _ rfl
    have c4 : wr.cell? ⟨ga, off + i * 9 + 4, none⟩ = some (.slice o1 m e1) := hcell 4 (by omega) _ (by rw [← h1]; rfl)
    have c5 : wr.cell? ⟨ga, off + i * 9 + 5, none⟩ = some (.slice o2 x.nf e2) := hcell 5 (by omega) _ (by rw [← h2]; rfl)
    have c6 : wr.cell? ⟨ga, off + i * 9 + 6, none⟩ = some (.slice o3 x.np e3) := hcell 6 (by omega) _ (by rw [← h3]; rfl)
    have c7 : wr.cell? ⟨ga, off + i * 9 + 7, none⟩ = some (.string x.nm) := hcell 7 (by omega) _ rfl
    have c8 : wr.cell? ⟨ga, off + i * 9 + 8, none⟩ = some (.slice o4 x.nb e4) := hcell 8 (by omega) _ (by rw [← h4]; rfl)
    obtain ⟨w3, hw3⟩ : ∃ W : World, W = wr.alloc (.cells #[.int .i64 kd, .int .i64 x.most, .int .i64 x.frm, .int .i64 x.unt, .slice o1 m e1, .slice o2 x.nf e2, .slice o3 x.np e3, .string x.nm, .slice o4 x.nb e4] 41) := ⟨_, rfl⟩
    obtain ⟨b15, hb15⟩ : ∃ b, b = wr.heap.size := ⟨_, rfl⟩
    have g15 : w3.heap[b15]? = some (.cells #[.int .i64 kd, .int .i64 x.most, .int .i64 x.frm, .int .i64 x.unt, .slice o1 m e1, .slice o2 x.nf e2, .slice o3 x.np e3, .string x.nm, .slice o4 x.nb e4] 41 (0, 0)) := by rw [hw3, hb15]; exact alloc_cells _ _ _
    have hb3' : Below wr.heap.size wr w3 := by rw [hw3]; exact (Below.refl _ _).alloc (Nat.le_refl _) _
    have k0 : w3.cell? ⟨b15, 0, none⟩ = some (.int .i64 kd) := cell_of g15 rfl
    have hH := CrH.mk (m := m) (x := x) (o1 := o1) (e1 := e1) (hs.more hb3') hal (by rw [g15, hkd, h2, h3, h4]) (.inr ⟨by omega, (Array.getElem?_eq_some_iff.1 g15).1⟩) (fun W hb => hrec0.below hb) hm hl30 hkv (by omega) HA.out.2.2
    have HH := Lib.hid (And.intro hH hkd)
    clear hs hal hst hiL hcell hx hxm hok0 h1 h2 h3 h4 hl30 hkv hm hrec0 hkd g15 hb3' hH
    conv => arg 2; whnf
    go_wp2_with fail
    rw [← hw3, ← hb15]
    clear hw3 hb15 c0 c1 c2 c3 c4 c5 c6 c7 c8
    refine HK3.out _ _ ?_
    refine wp_seq_k fun K4 hK4 => ?_
    have HK4 := Lib.hid hK4
    clear hK4
    refine wp_seq_k fun K5 hK5 => ?_
    have HK5 := Lib.hid hK5
    clear hK5
    conv => arg 2; whnf
    go_wp2_with fail
    refine HK5.out _ _ ?_
    refine wp_blockC ?_
    refine frC_go (os := some ⟨ga, off, none⟩) (op := op) (oa := oa) (oz := oz) (b3 := b3) (ns := ns) (cs := cs) (np := np) (cp := cp) (na := na) (ca := ca) (q := q) (lp := lp) (nz := nz) (cz := cz) (mb := mb) (i := i) (v15 := .pointer (some ⟨b15, 0, none⟩)) (v93 := .int .i64 kd) (by kernel_rfl) (fun u1 => ?_)
    refine cr_switch HH.out.1 ?_ HH.out.2
    intro oz nz cz v93 u2 wx hj
    refine HK4.out _ _ ?_
    obtain ⟨X, g, d, ys, A0, B0, XX, k, D, hs, -⟩ := hj
    have hst := homeState_b hs.home
    obtain ⟨vb, hvb⟩ : ∃ x : Int, x = (g.begin : Int) := ⟨_, rfl⟩
    obtain ⟨vf, hvf⟩ : ∃ x : Int, x = (g.fin : Int) := ⟨_, rfl⟩
    obtain ⟨vs, hvs⟩ : ∃ x : Int, x = (g.stands : Int) := ⟨_, rfl⟩
    obtain ⟨vn, hvn⟩ : ∃ x : Int, x = (g.segs.length : Int) := ⟨_, rfl⟩
    unfold stateV at hst
    rw [← hvb, ← hvf, ← hvs, ← hvn] at hst
    have hfl : ∀ (a1 a2 a3 a4 : Int) (a5 : Bool) (W : World), (Instr.field 60 (.agg #[.int .i64 a1, .int .i64 a2, .int .i64 a3, .int .i64 a4, .bool a5]) 4).run Tryz.prog W = .ok (.bool a5) W := fun _ _ _ _ _ _ => by kernel_rfl
    have HS := Lib.hid hs
    have hin1 : (i : Int) + 1 ≤ 60 := by omega
    clear hvb hvf hvs hvn hs k0
    cases hdd : g.dead with
    | true =>
      rw [hdd] at hst
      have HST := Lib.hid hst
      clear hst hdd
      unfold frC
      conv => arg 2; whnf
      go_wp2_with fail
      refine HST.out.mono ?_
      rintro e w5 ⟨rfl, hb5⟩
      have HJ := Lib.hid (HS.out.later hb5)
      clear hb5 HST
      go_wp2_with fail
      exact frC_k (K := Q (.exit 0)) (os := some ⟨ga, off, none⟩) (op := op) (oa := oa) (oz := oz) (b3 := b3) (ns := ns) (cs := cs) (np := np) (cp := cp) (na := na) (ca := ca) (q := q) (lp := lp) (nz := nz) (cz := cz) (mb := mb) (i := i) (v15 := .pointer (some ⟨b15, 0, none⟩)) (v93 := v93) (by kernel_rfl) (fun u3 => HX.out oz nz cz (i + 1) _ _ u3 w5 (by omega) ⟨_, _, _, _, _, _, _, _, _, HJ.out, fun e => by cases e⟩ i)
    | false =>
      rw [hdd] at hst
      have HST := Lib.hid hst
      have HDD := Lib.hid hdd
      clear hst hdd
      unfold frC
      conv => arg 2; whnf
      go_wp2_with fail
      refine HST.out.mono ?_
      rintro e w5 ⟨rfl, hb5⟩
      have HJ := Lib.hid (HS.out.later hb5)
      clear hb5 HST
      go_wp2_with fail
      refine HK2.out _ _ ?_
      conv => arg 2; whnf
      go_wp2_with fail
      exact frC_k (os := some ⟨ga, off, none⟩) (op := op) (oa := oa) (oz := oz) (b3 := b3) (ns := ns) (cs := cs) (np := np) (cp := cp) (na := na) (ca := ca) (q := q) (lp := lp) (nz := nz) (cz := cz) (mb := mb) (i := i + 1) (v15 := .pointer (some ⟨b15, 0, none⟩)) (v93 := v93) (by kernel_rfl) (fun u3 => HK.out hlt oz nz cz _ _ u3 w5 ⟨_, _, _, _, _, _, _, _, _, HJ.out, fun _ => HDD.out⟩)
  · have hd : decide ((i : Int) < (ns : Int)) = false := decide_eq_false (by omega)
    go_wp2_with fail
    exact frC_k (K := Q (.exit 0)) (os := os) (op := op) (oa := oa) (oz := oz) (b3 := b3) (ns := ns) (cs := cs) (np := np) (cp := cp) (na := na) (ca := ca) (q := q) (lp := lp) (nz := nz) (cz := cz) (mb := mb) (i := i) (v15 := v15) (v93 := v93) (by kernel_rfl) (fun u3 => HX.out oz nz cz i _ _ u3 wr hin (by
      obtain ⟨X, g, d, ys, A0, B0, XX, k, D, hs, -⟩ := HI.out
      exact ⟨X, g, d, ys, A0, B0, XX, k, D, hs, fun e => by cases e⟩) i)
end
end Go.Proofs.YtlgcoaeddeiegaaGreat
