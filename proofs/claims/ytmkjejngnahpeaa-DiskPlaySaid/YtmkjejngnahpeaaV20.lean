/- The texts Zw in one. -/
import Derived.Test.YtmkjejngnahpeaaV18
import Derived.Test.YtmkjejngnahpeaaV19
import Derived.Deep.LoopGhost
/- law07: DiskPlay: its round whole. -/
namespace Go.Proofs.Ytmkjejngnahpeaa
open Go Go.Maps Go.RowKit

theorem wp_blockN {P : Program} {id : Nat} {c : Code} {K : Act → World → Prop} {Q' : Exit → Act → World → Prop} {a : Act} {w : World} (h : c.wp P (Exit.then K (fun _ _ _ => False)) a w) : (Code.block id c).wp P (Exit.then K Q') a w :=
  wp_block ((wpIn_wide (n := 1)).1 (wpIn_mono (wpIn_wide.2 h) (fun e _ _ hq => by
    cases e with
    | normal => exact hq
    | exit id => exact hq.elim
    | goto l => exact hq.elim
    | ret => exact hq.elim
    | panic ch => exact hq.elim
    | outgrown => exact hq.elim)))
theorem play_body : playBody = .seq (cA playBody) (.seq (.block 3 playStep) (cB (cB playBody))) := by kernel_rfl
theorem play_step : playStep = .seq (cA playStep) (.seq (cA (cB playStep)) (.seq (.seq (cA (cA (cB (cB playStep)))) (.block 4 playE0)) playTail)) := by kernel_rfl
/-- the switch -/
theorem play_switch {W w2 : World} {ob oB oF oP : Option Addr} {n cb q p qo po j b14 lb lf lp cB cF cP : Nat} {kd : Int} {x : StepT} {d o : Dk} {S1 S2 S3 S4 : Nat → Prop} {K : Act → World → Prop} {u : Nat → Value} (h : StepH W w2 oB oF oP q p qo po j b14 lb lf lp cB cF cP kd x d o S1 S2 S3 S4) (hQ : ArmQ W ob n cb j b14 K) :
    Code.wp Try.prog playE0 (Exit.then K (fun _ _ _ => False)) ⟨frR ob n cb q p qo po j (.pointer (some ⟨b14, 0, none⟩)) (.int .i64 0) (.int .i64 0) (.int .i64 kd) u, []⟩ w2 :=
  play_test1 (fun _ _ => play_arm1 h hQ) fun _ _ => play_test2 (fun _ _ => play_arm2 h hQ) fun _ _ => play_test3 (fun _ _ => play_arm3 h hQ) fun _ _ => play_test4 (fun _ _ => play_arm4 h hQ) fun _ _ => play_test5 (fun _ _ => play_arm5 h hQ) fun _ _ => play_test6 (fun _ _ => play_arm6 h hQ) fun _ _ => play_test7 (fun _ _ => play_arm7 h hQ) fun _ _ => play_test8 (fun _ _ => play_arm8 h hQ) fun _ _ => play_test9 (fun _ _ => play_arm9 h hQ) fun _ _ => play_test10 (fun _ _ => play_arm10 h hQ) fun _ _ => play_test11 (fun _ _ => play_arm11 h hQ) fun _ _ => play_test14 (fun _ _ => play_arm14 h hQ) fun _ _ => play_none h.play hQ
/-- the frame, with a relation of one's own behind it -/
theorem frR_k {ob : Option Addr} {n cb q p qo po j : Nat} {v14 v15 v16 v104 : Value} {K : Act → World → Prop} {w : World} {l : Array Value} (h : l = frR ob n cb q p qo po j v14 v15 v16 v104 (fun k => l.toList.getD k undef)) (H : ∀ u, K ⟨frR ob n cb q p qo po j v14 v15 v16 v104 u, []⟩ w) : K ⟨l, []⟩ w := by
  rw [h]
  exact H _
set_option maxRecDepth 100000 in
set_option maxHeartbeats 8000000 in
/-- what follows the switch -/
theorem play_tail {W wx : World} {ob : Option Addr} {n cb q p qo po j b14 : Nat} {er : Int} {v104 : Value} {d o : Dk} {S1 S2 S3 S4 : Nat → Prop} {K : Act → World → Prop} {u : Nat → Value} (hp : PlayR W wx S1 S2 S3 S4 q p qo po d o (j + 1)) (hK : ∀ (wy : World) (u : Nat → Value), PlayR W wy S1 S2 S3 S4 q p qo po d o (j + 1) → K ⟨frR ob n cb q p qo po j (.pointer (some ⟨b14, 0, none⟩)) (.int .i64 er) (.int .i64 er) v104 u, []⟩ wy) :
    Code.wp Try.prog playTail (Exit.then K (fun _ _ _ => False)) ⟨frR ob n cb q p qo po j (.pointer (some ⟨b14, 0, none⟩)) (.int .i64 er) (.int .i64 er) v104 u, []⟩ wx := by
  have HP := Lib.hid hp
  have HK := Lib.hid hK
  clear hp hK
  have hee : (er != er) = false := by simp
  unfold frR
  conv => arg 2; whnf
  go_wp2_with (go_at_call 67; refine (tells_b HP.out.four.one HP.out.four.two).mono ?_; rintro e w9 ⟨rfl, hb9⟩; have HP9 := Lib.hid (HP.out.later hb9); clear hb9)
  exact frR_k (by kernel_rfl) (fun u => HK.out _ u HP9.out)
set_option maxRecDepth 100000 in
set_option maxHeartbeats 8000000 in
theorem play_round {W wr : World} {ob : Option Addr} {n cb q p qo po j : Nat} {l : List StepT} {d o : Dk} {S1 S2 S3 S4 : Nat → Prop} {v14 v15 v16 v104 : Value} {u : Nat → Value} {K : Act → World → Prop} {Q' : Exit → Act → World → Prop} (hn : l.length = n) (hs : ScriptAt W (.slice ob n cb) l) (hpl : ∀ x ∈ l, -9223372036854775808 ≤ x.pl ∧ x.pl ≤ 9223372036854775807) (hlx : ∀ x ∈ l, x.bytes.length ≤ 3000 ∧ x.fates.length ≤ 100 ∧ x.picks.length ≤ 300) (hl300 : n ≤ 300) (hi : PlayR W wr S1 S2 S3 S4 q p qo po d o j) (hlt : j < n)
    (hK : ∀ (q p qo po : Nat) (d o : Dk) (S1 S2 S3 S4 : Nat → Prop) (v14 v15 v16 v104 : Value) (u : Nat → Value) (wy : World), PlayR W wy S1 S2 S3 S4 q p qo po d o (j + 1) → K ⟨frR ob n cb q p qo po (j + 1) v14 v15 v16 v104 u, []⟩ wy) :
    Code.wp Try.prog playBody (Exit.then K Q') ⟨frR ob n cb q p qo po j v14 v15 v16 v104 u, []⟩ wr := by
  have hjl : j < l.length := by rw [hn]; exact hlt
  obtain ⟨x, hx⟩ : ∃ x, l[j] = x := ⟨_, rfl⟩
  have hxl : x ∈ l := by rw [← hx]; exact List.getElem_mem _
  have hsr := hs.below hi.below
  have hok := hsr.each x hxl
  have hrow : readAt wr 7 (.slice ob n cb) n (stepsCells l) := by have := hsr.row; rwa [hn] at this
  obtain ⟨g, off, rfl⟩ := hrow.addr (by omega)
  have hcell : ∀ i, i < 7 → ∀ u, x.cells[i]? = some u → wr.cell? ⟨g, off + (j * 7 + i), none⟩ = some u := fun i hi u hu => hrow.cellAt (by rw [stepsCells_get hjl hi, hx, hu])
  obtain ⟨oB, cB, hbv⟩ := hok.bytes.shape
  obtain ⟨oF, cF, hfv⟩ := hok.fates.shape
  obtain ⟨oP, cP, hpv⟩ := hok.picks.shape
  obtain ⟨kd, hkd⟩ : ∃ k, x.kind = k := ⟨_, rfl⟩
  obtain ⟨lb, hlb⟩ : ∃ k, x.bytes.length = k := ⟨_, rfl⟩
  obtain ⟨lf, hlf⟩ : ∃ k, x.fates.length = k := ⟨_, rfl⟩
  obtain ⟨lp, hlp⟩ : ∃ k, x.picks.length = k := ⟨_, rfl⟩
  rw [hlb] at hbv
  rw [hlf] at hfv
  rw [hlp] at hpv
  have k0 : wr.cell? ⟨g, off + j * 7, none⟩ = some (.int .i64 kd) := hcell 0 (by omega) _ (by rw [← hkd]; rfl)
  have k1 : wr.cell? ⟨g, off + j * 7 + 1, none⟩ = some (.int .i64 x.pl) := hcell 1 (by omega) _ rfl
  have k2 : wr.cell? ⟨g, off + j * 7 + 2, none⟩ = some (.int .i64 x.n) := hcell 2 (by omega) _ rfl
  have k3 : wr.cell? ⟨g, off + j * 7 + 3, none⟩ = some (.string x.name) := hcell 3 (by omega) _ rfl
  have k4 : wr.cell? ⟨g, off + j * 7 + 4, none⟩ = some (.slice oB lb cB) := hcell 4 (by omega) _ (by rw [← hbv]; rfl)
  have k5 : wr.cell? ⟨g, off + j * 7 + 5, none⟩ = some (.slice oF lf cF) := hcell 5 (by omega) _ (by rw [← hfv]; rfl)
  have k6 : wr.cell? ⟨g, off + j * 7 + 6, none⟩ = some (.slice oP lp cP) := hcell 6 (by omega) _ (by rw [← hpv]; rfl)
  obtain ⟨w2, hw2⟩ : ∃ w2 : World, w2 = wr.alloc (.cells #[.int .i64 kd, .int .i64 x.pl, .int .i64 x.n, .string x.name, .slice oB lb cB, .slice oF lf cF, .slice oP lp cP] 84) := ⟨_, rfl⟩
  obtain ⟨b14, hb14⟩ : ∃ b, b = wr.heap.size := ⟨_, rfl⟩
  have hc2 : w2.heap[b14]? = some (.cells #[.int .i64 kd, .int .i64 x.pl, .int .i64 x.n, .string x.name, .slice oB lb cB, .slice oF lf cF, .slice oP lp cP] 84 (0, 0)) := by rw [hw2, hb14]; exact alloc_cells _ _ _
  have hb2 : Below wr.heap.size wr w2 := by rw [hw2]; exact (Below.refl _ _).alloc (Nat.le_refl _) _
  have hok2 := hok.below hb2
  have h : StepH W w2 oB oF oP q p qo po j b14 lb lf lp cB cF cP kd x d o S1 S2 S3 S4 := {
    cells := hc2
    n1 := fun e => by have := hi.four.one.low2 _ e; omega
    n2 := fun e => by have := hi.four.two.low _ e; omega
    name := hok.name
    nb := hok.n
    plb := hpl x hxl
    pk := hok.pks
    bytes := by have := hok2.bytes; rwa [hbv] at this
    fates := by have := hok2.fates; rwa [hfv] at this
    picks := by have := hok2.picks; rwa [hpv] at this
    hlb := hlb
    hlf := hlf
    hlp := hlp
    lo1 := fun k hk h0 => (hs.each x hxl).bytes.lt (by omega) k (by rw [hbv]; exact hk)
    lo2 := fun k hk h0 => (hs.each x hxl).fates.lt (by omega) k (by rw [hfv]; exact hk)
    lo3 := fun k hk h0 => (hs.each x hxl).picks.lt (by omega) k (by rw [hpv]; exact hk)
    small := by rw [← hlb, ← hlf, ← hlp]; exact hlx x hxl
    jm := by omega
    play := hi.later hb2 }
  have H := Lib.hid h
  have HK := Lib.hid hK
  have HW := Lib.hid (And.intro hw2 hb14)
  have hjn : (j : Int) < (n : Int) := by omega
  clear hx hxl hsr hok hrow hcell hbv hfv hpv hkd hlb hlf hlp hb2 hok2 h hK hjl hs hpl hlx hi hw2 hb14
  rw [play_body]
  refine wp_seq_k fun K1 hK1 => ?_
  have HK1 := Lib.hid hK1
  clear hK1
  unfold frR
  conv => arg 2; whnf
  have c0 : w2.cell? ⟨b14, 0, none⟩ = some (.int .i64 kd) := cell_of hc2 rfl
  clear hc2
  go_wp2_with fail
  refine HK1.out _ _ ?_
  refine wp_seq_k fun K2 hK2 => ?_
  have HK2 := Lib.hid hK2
  clear hK2
  refine wp_blockN ?_
  rw [play_step]
  refine wp_seq_k fun K3 hK3 => ?_
  have HK3 := Lib.hid hK3
  clear hK3
  conv => arg 2; whnf
  go_wp2_with fail
  rw [← HW.out.1, ← HW.out.2]
  refine HK3.out _ _ ?_
  refine wp_seq_k fun K4 hK4 => ?_
  have HK4 := Lib.hid hK4
  clear hK4
  conv => arg 2; whnf
  clear k0 k1 k2 k3 k4 k5 k6
  go_wp2_with fail
  refine HK4.out _ _ ?_
  refine wp_seq_k fun K5 hK5 => ?_
  have HK5 := Lib.hid hK5
  clear hK5
  refine wp_seq_k fun K6 hK6 => ?_
  have HK6 := Lib.hid hK6
  clear hK6
  conv => arg 2; whnf
  go_wp2_with fail
  refine HK6.out _ _ ?_
  refine wp_blockN ?_
  refine frR_go (ob := some ⟨g, off, none⟩) (n := n) (cb := cb) (q := q) (p := p) (qo := qo) (po := po) (j := j) (v14 := .pointer (some ⟨b14, 0, none⟩)) (v15 := .int .i64 0) (v16 := .int .i64 0) (v104 := .int .i64 kd) (by kernel_rfl) ?_
  intro u1
  refine play_switch H.out ?_
  intro q p qo po d o S1 S2 S3 S4 er v104 u2 wx hp
  refine HK5.out _ _ ?_
  refine play_tail hp ?_
  intro wy u3 hp3
  refine HK2.out _ _ ?_
  have HP3 := Lib.hid hp3
  have HWN := HW
  clear hp3 hp c0 HW
  unfold frR
  conv => arg 2; whnf
  go_wp2_with fail
  exact frR_k (j := j + 1) (v104 := v104) (v14 := .pointer (some ⟨b14, 0, none⟩)) (v15 := .int .i64 er) (v16 := .int .i64 er) (by kernel_rfl) (fun u => HK.out q p qo po d o S1 S2 S3 S4 _ _ _ _ u _ HP3.out)
end Go.Proofs.Ytmkjejngnahpeaa
