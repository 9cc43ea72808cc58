/- The texts Zv, Zva, Zvb, Zvc, Zvd, Zve, Zvf, Zvg, Zvh, Zvj in one. -/
import Derived.Test.YtmkjejngnahpeaaV17
/- law07: DiskPlay: what an arm of its switch is handed, and what it hands on. -/
namespace Go.Proofs.Ytmkjejngnahpeaa
open Go Go.Maps Go.RowKit

/-- a step that is at hand: its cells, its parts, the disks -/
structure StepH (W w2 : World) (oB oF oP : Option Addr) (q p qo po j b14 lb lf lp cB cF cP : Nat) (kd : Int) (x : StepT) (d o : Dk) (S1 S2 S3 S4 : Nat → Prop) : Prop where
  cells : w2.heap[b14]? = some (.cells #[.int .i64 kd, .int .i64 x.pl, .int .i64 x.n, .string x.name, .slice oB lb cB, .slice oF lf cF, .slice oP lp cP] 84 (0, 0))
  n1 : ¬ S1 b14
  n2 : ¬ S2 b14
  name : x.name.size ≤ maxLen
  nb : -9223372036854775808 ≤ x.n ∧ x.n ≤ 9223372036854775807
  plb : -9223372036854775808 ≤ x.pl ∧ x.pl ≤ 9223372036854775807
  pk : ∀ p ∈ x.picks, p ≤ 9223372036854775807
  bytes : readAt w2 1 (.slice oB lb cB) x.bytes.length (byteCells x.bytes)
  fates : readAt w2 2 (.slice oF lf cF) x.fates.length (fateCells x.fates)
  picks : readAt w2 1 (.slice oP lp cP) x.picks.length (intCells x.picks)
  hlb : x.bytes.length = lb
  hlf : x.fates.length = lf
  hlp : x.picks.length = lp
  lo1 : ∀ k, (Value.slice oB lb cB).ownBlock = some k → 0 < lb → k < W.heap.size
  lo2 : ∀ k, (Value.slice oF lf cF).ownBlock = some k → 0 < lf → k < W.heap.size
  lo3 : ∀ k, (Value.slice oP lp cP).ownBlock = some k → 0 < lp → k < W.heap.size
  small : lb ≤ 3000 ∧ lf ≤ 100 ∧ lp ≤ 300
  jm : j ≤ 300
  play : PlayR W w2 S1 S2 S3 S4 q p qo po d o j
theorem StepH.lt {W w2 : World} {oB oF oP : Option Addr} {q p qo po j b14 lb lf lp cB cF cP : Nat} {kd : Int} {x : StepT} {d o : Dk} {S1 S2 S3 S4 : Nat → Prop} (h : StepH W w2 oB oF oP q p qo po j b14 lb lf lp cB cF cP kd x d o S1 S2 S3 S4) : b14 < w2.heap.size := (Array.getElem?_eq_some_iff.1 h.cells).1
/-- what an arm hands on -/
def ArmQ (W : World) (ob : Option Addr) (n cb j b14 : Nat) (K : Act → World → Prop) : Prop :=
  ∀ (q p qo po : Nat) (d o : Dk) (S1 S2 S3 S4 : Nat → Prop) (er : Int) (v104 : Value) (u : Nat → Value) (wx : World), PlayR W wx S1 S2 S3 S4 q p qo po d o (j + 1) → K ⟨frR ob n cb q p qo po j (.pointer (some ⟨b14, 0, none⟩)) (.int .i64 er) (.int .i64 er) v104 u, []⟩ wx
theorem ArmQ.go {W : World} {ob : Option Addr} {n cb j b14 : Nat} {K : Act → World → Prop} (h : ArmQ W ob n cb j b14 K) (q p qo po : Nat) (d o : Dk) (S1 S2 S3 S4 : Nat → Prop) (er : Int) (v104 : Value) {wx : World} (hp : PlayR W wx S1 S2 S3 S4 q p qo po d o (j + 1)) {l : Array Value} (hl : l = frR ob n cb q p qo po j (.pointer (some ⟨b14, 0, none⟩)) (.int .i64 er) (.int .i64 er) v104 (fun k => l.toList.getD k undef)) : K ⟨l, []⟩ wx := by
  rw [hl]
  exact h q p qo po d o S1 S2 S3 S4 er v104 _ wx hp
theorem PlayR.next {W wr : World} {S1 S2 S3 S4 : Nat → Prop} {q p qo po : Nat} {d o : Dk} {j : Nat} (h : PlayR W wr S1 S2 S3 S4 q p qo po d o j) : PlayR W wr S1 S2 S3 S4 q p qo po d o (j + 1) := ⟨h.four, h.below, by have := h.few; omega⟩
/-- no arm of the switch -/
theorem play_none {W w2 : World} {ob : Option Addr} {n cb q p qo po j b14 : Nat} {kd : Int} {d o : Dk} {S1 S2 S3 S4 : Nat → Prop} {K : Act → World → Prop} {u : Nat → Value} (h : PlayR W w2 S1 S2 S3 S4 q p qo po d o j) (hQ : ArmQ W ob n cb j b14 K) : Code.wp Try.prog playE14 (Exit.then K (fun _ _ _ => False)) ⟨frR ob n cb q p qo po j (.pointer (some ⟨b14, 0, none⟩)) (.int .i64 0) (.int .i64 0) (.int .i64 kd) u, []⟩ w2 := by
  rw [play_end]
  exact wp_skip (hQ q p qo po d o S1 S2 S3 S4 0 _ u w2 h.next)
end Go.Proofs.Ytmkjejngnahpeaa
/- law07: DiskPlay: calls that take a name. -/
namespace Go.Proofs.Ytmkjejngnahpeaa
open Go Go.Maps Go.RowKit

set_option maxRecDepth 100000 in
set_option maxHeartbeats 8000000 in
theorem play_arm1 {W w2 : World} {ob oB oF oP : Option Addr} {n cb q p qo po j b14 lb lf lp cB cF cP : Nat} {kd : Int} {x : StepT} {d o : Dk} {S1 S2 S3 S4 : Nat → Prop} {K : Act → World → Prop} {u : Nat → Value} (h : StepH W w2 oB oF oP q p qo po j b14 lb lf lp cB cF cP kd x d o S1 S2 S3 S4) (hQ : ArmQ W ob n cb j b14 K) : Code.wp Try.prog playA1 (Exit.then K (fun _ _ _ => False)) ⟨frR ob n cb q p qo po j (.pointer (some ⟨b14, 0, none⟩)) (.int .i64 0) (.int .i64 0) (.int .i64 kd) u, []⟩ w2 := by
  have H := Lib.hid h
  have HQ := Lib.hid hQ
  clear h hQ
  have c3 : w2.cell? ⟨b14, 3, none⟩ = some (.string x.name) := cell_of H.out.cells rfl
  unfold frR
  conv => arg 2; whnf
  obtain ⟨⟨er, dn⟩, hr⟩ : ∃ r, d.create x.name.data.toList = r := ⟨_, rfl⟩
  have hfl := fates_create d x.name.data.toList
  rw [hr] at hfl
  have HR := Lib.hid (And.intro hr (show dn.fates.length ≤ 100 + 100 * (j + 1) from by have h1 := H.out.play.few; have h2 : dn.fates.length ≤ d.fates.length := hfl; omega))
  clear hr hfl
  go_region_with (first
    | (go_at_call 45; refine (create_b (H.out.play.four.below (by first | exact Below.refl _ _ | exact bdrew0 _)).one x.name H.out.name).mono ?_; rintro e w5 ho; obtain ⟨he, T1, h5, ho5⟩ := H.out.play.four.did1 (by first | exact Below.refl _ _ | exact bdrew0 _) H.out.play.below.size HR.out.1 ho; subst he; have hs5 := (ho5.block b14 H.out.lt H.out.n1).trans H.out.cells; have H5 := Lib.hid (And.intro h5 ho5); have y3 : w5.cell? ⟨b14, 3, none⟩ = some (.string x.name) := cell_of hs5 rfl; clear ho h5 ho5 hs5)
    | (go_at_call 55; refine (refCreate_b (H5.out.1.below (by first | exact Below.refl _ _ | exact bdrew0 _)).two x.name H.out.name).mono ?_; rintro e w6 ho; obtain ⟨he, T2, h6, ho6⟩ := H5.out.1.did2 (by first | exact Below.refl _ _ | exact bdrew0 _) (Nat.le_trans H.out.play.below.size H5.out.2.size) HR.out.1 ho; subst he; have H6 := Lib.hid (And.intro h6 ho6); clear ho h6 ho6))
  all_goals
    have HFI := Lib.hid (PlayR.fin H.out.play.below H6.out.1 H5.out.2 H6.out.2 H.out.play.four.low1 H.out.play.four.low2 HR.out.2)
    go_wp2_with fail
    exact HQ.out.go q p qo po dn o T1 T2 S3 S4 er (.int .i64 kd) HFI.out (by kernel_rfl)
end Go.Proofs.Ytmkjejngnahpeaa
/- law07: DiskPlay: calls that take a name. -/
namespace Go.Proofs.Ytmkjejngnahpeaa
open Go Go.Maps Go.RowKit

set_option maxRecDepth 100000 in
set_option maxHeartbeats 8000000 in
theorem play_arm3 {W w2 : World} {ob oB oF oP : Option Addr} {n cb q p qo po j b14 lb lf lp cB cF cP : Nat} {kd : Int} {x : StepT} {d o : Dk} {S1 S2 S3 S4 : Nat → Prop} {K : Act → World → Prop} {u : Nat → Value} (h : StepH W w2 oB oF oP q p qo po j b14 lb lf lp cB cF cP kd x d o S1 S2 S3 S4) (hQ : ArmQ W ob n cb j b14 K) : Code.wp Try.prog playA3 (Exit.then K (fun _ _ _ => False)) ⟨frR ob n cb q p qo po j (.pointer (some ⟨b14, 0, none⟩)) (.int .i64 0) (.int .i64 0) (.int .i64 kd) u, []⟩ w2 := by
  have H := Lib.hid h
  have HQ := Lib.hid hQ
  clear h hQ
  have c3 : w2.cell? ⟨b14, 3, none⟩ = some (.string x.name) := cell_of H.out.cells rfl
  unfold frR
  conv => arg 2; whnf
  obtain ⟨⟨er, dn⟩, hr⟩ : ∃ r, d.sync x.name.data.toList = r := ⟨_, rfl⟩
  have hfl := fates_sync d x.name.data.toList
  rw [hr] at hfl
  have HR := Lib.hid (And.intro hr (show dn.fates.length ≤ 100 + 100 * (j + 1) from by have h1 := H.out.play.few; have h2 : dn.fates.length ≤ d.fates.length := hfl; omega))
  clear hr hfl
  go_region_with (first
    | (go_at_call 47; refine (sync_b (H.out.play.four.below (by first | exact Below.refl _ _ | exact bdrew0 _)).one x.name H.out.name).mono ?_; rintro e w5 ho; obtain ⟨he, T1, h5, ho5⟩ := H.out.play.four.did1 (by first | exact Below.refl _ _ | exact bdrew0 _) H.out.play.below.size HR.out.1 ho; subst he; have hs5 := (ho5.block b14 H.out.lt H.out.n1).trans H.out.cells; have H5 := Lib.hid (And.intro h5 ho5); have y3 : w5.cell? ⟨b14, 3, none⟩ = some (.string x.name) := cell_of hs5 rfl; clear ho h5 ho5 hs5)
    | (go_at_call 57; refine (refSync_b (H5.out.1.below (by first | exact Below.refl _ _ | exact bdrew0 _)).two x.name H.out.name).mono ?_; rintro e w6 ho; obtain ⟨he, T2, h6, ho6⟩ := H5.out.1.did2 (by first | exact Below.refl _ _ | exact bdrew0 _) (Nat.le_trans H.out.play.below.size H5.out.2.size) HR.out.1 ho; subst he; have H6 := Lib.hid (And.intro h6 ho6); clear ho h6 ho6))
  all_goals
    have HFI := Lib.hid (PlayR.fin H.out.play.below H6.out.1 H5.out.2 H6.out.2 H.out.play.four.low1 H.out.play.four.low2 HR.out.2)
    go_wp2_with fail
    exact HQ.out.go q p qo po dn o T1 T2 S3 S4 er (.int .i64 kd) HFI.out (by kernel_rfl)
set_option maxRecDepth 100000 in
set_option maxHeartbeats 8000000 in
theorem play_arm4 {W w2 : World} {ob oB oF oP : Option Addr} {n cb q p qo po j b14 lb lf lp cB cF cP : Nat} {kd : Int} {x : StepT} {d o : Dk} {S1 S2 S3 S4 : Nat → Prop} {K : Act → World → Prop} {u : Nat → Value} (h : StepH W w2 oB oF oP q p qo po j b14 lb lf lp cB cF cP kd x d o S1 S2 S3 S4) (hQ : ArmQ W ob n cb j b14 K) : Code.wp Try.prog playA4 (Exit.then K (fun _ _ _ => False)) ⟨frR ob n cb q p qo po j (.pointer (some ⟨b14, 0, none⟩)) (.int .i64 0) (.int .i64 0) (.int .i64 kd) u, []⟩ w2 := by
  have H := Lib.hid h
  have HQ := Lib.hid hQ
  clear h hQ
  unfold frR
  conv => arg 2; whnf
  obtain ⟨⟨er, dn⟩, hr⟩ : ∃ r, d.syncdir = r := ⟨_, rfl⟩
  have hfl := fates_syncdir d
  rw [hr] at hfl
  have HR := Lib.hid (And.intro hr (show dn.fates.length ≤ 100 + 100 * (j + 1) from by have h1 := H.out.play.few; have h2 : dn.fates.length ≤ d.fates.length := hfl; omega))
  clear hr hfl
  go_wp2_with (first
    | (go_at_call 48; refine (syncdir_b (H.out.play.four.below (by first | exact Below.refl _ _ | exact bdrew0 _)).one).mono ?_; rintro e w5 ho; obtain ⟨he, T1, h5, ho5⟩ := H.out.play.four.did1 (by first | exact Below.refl _ _ | exact bdrew0 _) H.out.play.below.size HR.out.1 ho; subst he; have hs5 := (ho5.block b14 H.out.lt H.out.n1).trans H.out.cells; have H5 := Lib.hid (And.intro h5 ho5); clear ho h5 ho5 hs5)
    | (go_at_call 58; refine (refSyncDir_b (H5.out.1.below (by first | exact Below.refl _ _ | exact bdrew0 _)).two).mono ?_; rintro e w6 ho; obtain ⟨he, T2, h6, ho6⟩ := H5.out.1.did2 (by first | exact Below.refl _ _ | exact bdrew0 _) (Nat.le_trans H.out.play.below.size H5.out.2.size) HR.out.1 ho; subst he; have H6 := Lib.hid (And.intro h6 ho6); clear ho h6 ho6))
  exact HQ.out.go q p qo po dn o T1 T2 S3 S4 er (.int .i64 kd) (PlayR.fin H.out.play.below H6.out.1 H5.out.2 H6.out.2 H.out.play.four.low1 H.out.play.four.low2 HR.out.2) (by kernel_rfl)
end Go.Proofs.Ytmkjejngnahpeaa
/- law07: DiskPlay: calls that take a name. -/
namespace Go.Proofs.Ytmkjejngnahpeaa
open Go Go.Maps Go.RowKit

theorem hold32 {V : World} {b : Nat} {u1 u2 : Value} (h : V.cell? ⟨b, 3, none⟩ = some u1 ∧ V.cell? ⟨b, 2, none⟩ = some u2) : V.drew.cell? ⟨b, 3, none⟩ = some u1 ∧ V.drew.cell? ⟨b, 2, none⟩ = some u2 := h
set_option maxRecDepth 100000 in
set_option maxHeartbeats 8000000 in
theorem play_arm5 {W w2 : World} {ob oB oF oP : Option Addr} {n cb q p qo po j b14 lb lf lp cB cF cP : Nat} {kd : Int} {x : StepT} {d o : Dk} {S1 S2 S3 S4 : Nat → Prop} {K : Act → World → Prop} {u : Nat → Value} (h : StepH W w2 oB oF oP q p qo po j b14 lb lf lp cB cF cP kd x d o S1 S2 S3 S4) (hQ : ArmQ W ob n cb j b14 K) : Code.wp Try.prog playA5 (Exit.then K (fun _ _ _ => False)) ⟨frR ob n cb q p qo po j (.pointer (some ⟨b14, 0, none⟩)) (.int .i64 0) (.int .i64 0) (.int .i64 kd) u, []⟩ w2 := by
  have H := Lib.hid h
  have HQ := Lib.hid hQ
  clear h hQ
  have c3 : w2.cell? ⟨b14, 3, none⟩ = some (.string x.name) := cell_of H.out.cells rfl
  have c2 : w2.cell? ⟨b14, 2, none⟩ = some (.int .i64 x.n) := cell_of H.out.cells rfl
  unfold frR
  conv => arg 2; whnf
  obtain ⟨⟨er, dn⟩, hr⟩ : ∃ r, d.cut x.name.data.toList x.n = r := ⟨_, rfl⟩
  have hfl := fates_cut d x.name.data.toList x.n
  rw [hr] at hfl
  have HR := Lib.hid (And.intro hr (show dn.fates.length ≤ 100 + 100 * (j + 1) from by have h1 := H.out.play.few; have h2 : dn.fates.length ≤ d.fates.length := hfl; omega))
  have hS : w2.cell? ⟨b14, 3, none⟩ = some (.string x.name) ∧ w2.cell? ⟨b14, 2, none⟩ = some (.int .i64 x.n) := ⟨c3, c2⟩
  clear hr hfl c3 c2
  go_region_held3 (fun V => V.cell? ⟨b14, 3, none⟩ = some (.string x.name) ∧ V.cell? ⟨b14, 2, none⟩ = some (.int .i64 x.n))
    (first | assumption | exact hold32 (by assumption))
    (first
      | (go_at_call 49; refine (cut_b (H.out.play.four.below (by first | exact Below.refl _ _ | exact bdrew0 _)).one x.name H.out.name x.n).mono ?_; rintro e w5 ho; obtain ⟨he, T1, h5, ho5⟩ := H.out.play.four.did1 (by first | exact Below.refl _ _ | exact bdrew0 _) H.out.play.below.size HR.out.1 ho; subst he; have hs5 := (ho5.block b14 H.out.lt H.out.n1).trans H.out.cells; have H5 := Lib.hid (And.intro h5 (And.intro ho5 hs5)); have hS5 : w5.cell? ⟨b14, 3, none⟩ = some (.string x.name) ∧ w5.cell? ⟨b14, 2, none⟩ = some (.int .i64 x.n) := ⟨cell_of hs5 rfl, cell_of hs5 rfl⟩; clear ho h5 ho5 hs5)
      | (go_at_call 59; refine (refCut_b (H5.out.1.below (by first | exact Below.refl _ _ | exact bdrew0 _)).two x.name H.out.name x.n).mono ?_; rintro e w6 ho; obtain ⟨he, T2, h6, ho6⟩ := H5.out.1.did2 (by first | exact Below.refl _ _ | exact bdrew0 _) (Nat.le_trans H.out.play.below.size H5.out.2.1.size) HR.out.1 ho; subst he; have hs6 := (ho6.block b14 (Array.getElem?_eq_some_iff.1 H5.out.2.2).1 H.out.n2).trans H5.out.2.2; have H6 := Lib.hid (And.intro h6 ho6); have hS6 : w6.cell? ⟨b14, 3, none⟩ = some (.string x.name) ∧ w6.cell? ⟨b14, 2, none⟩ = some (.int .i64 x.n) := ⟨cell_of hs6 rfl, cell_of hs6 rfl⟩; clear ho h6 ho6 hs6))
  all_goals
    have HFI := Lib.hid (PlayR.fin H.out.play.below H6.out.1 H5.out.2.1 H6.out.2 H.out.play.four.low1 H.out.play.four.low2 HR.out.2)
    clear hS hS5 hS6
    go_wp2_with fail
    exact HQ.out.go q p qo po dn o T1 T2 S3 S4 er (.int .i64 kd) HFI.out (by kernel_rfl)
end Go.Proofs.Ytmkjejngnahpeaa
/- law07: DiskPlay: calls that take a name. -/
namespace Go.Proofs.Ytmkjejngnahpeaa
open Go Go.Maps Go.RowKit

set_option maxRecDepth 100000 in
set_option maxHeartbeats 8000000 in
theorem play_arm6 {W w2 : World} {ob oB oF oP : Option Addr} {n cb q p qo po j b14 lb lf lp cB cF cP : Nat} {kd : Int} {x : StepT} {d o : Dk} {S1 S2 S3 S4 : Nat → Prop} {K : Act → World → Prop} {u : Nat → Value} (h : StepH W w2 oB oF oP q p qo po j b14 lb lf lp cB cF cP kd x d o S1 S2 S3 S4) (hQ : ArmQ W ob n cb j b14 K) : Code.wp Try.prog playA6 (Exit.then K (fun _ _ _ => False)) ⟨frR ob n cb q p qo po j (.pointer (some ⟨b14, 0, none⟩)) (.int .i64 0) (.int .i64 0) (.int .i64 kd) u, []⟩ w2 := by
  have H := Lib.hid h
  have HQ := Lib.hid hQ
  clear h hQ
  have c3 : w2.cell? ⟨b14, 3, none⟩ = some (.string x.name) := cell_of H.out.cells rfl
  unfold frR
  conv => arg 2; whnf
  obtain ⟨⟨er, dn⟩, hr⟩ : ∃ r, d.remove x.name.data.toList = r := ⟨_, rfl⟩
  have hfl := fates_remove d x.name.data.toList
  rw [hr] at hfl
  have HR := Lib.hid (And.intro hr (show dn.fates.length ≤ 100 + 100 * (j + 1) from by have h1 := H.out.play.few; have h2 : dn.fates.length ≤ d.fates.length := hfl; omega))
  clear hr hfl
  go_region_with (first
    | (go_at_call 50; refine (remove_b (H.out.play.four.below (by first | exact Below.refl _ _ | exact bdrew0 _)).one x.name H.out.name).mono ?_; rintro e w5 ho; obtain ⟨he, T1, h5, ho5⟩ := H.out.play.four.did1 (by first | exact Below.refl _ _ | exact bdrew0 _) H.out.play.below.size HR.out.1 ho; subst he; have hs5 := (ho5.block b14 H.out.lt H.out.n1).trans H.out.cells; have H5 := Lib.hid (And.intro h5 ho5); have y3 : w5.cell? ⟨b14, 3, none⟩ = some (.string x.name) := cell_of hs5 rfl; clear ho h5 ho5 hs5)
    | (go_at_call 60; refine (refRemove_b (H5.out.1.below (by first | exact Below.refl _ _ | exact bdrew0 _)).two x.name H.out.name).mono ?_; rintro e w6 ho; obtain ⟨he, T2, h6, ho6⟩ := H5.out.1.did2 (by first | exact Below.refl _ _ | exact bdrew0 _) (Nat.le_trans H.out.play.below.size H5.out.2.size) HR.out.1 ho; subst he; have H6 := Lib.hid (And.intro h6 ho6); clear ho h6 ho6))
  all_goals
    have HFI := Lib.hid (PlayR.fin H.out.play.below H6.out.1 H5.out.2 H6.out.2 H.out.play.four.low1 H.out.play.four.low2 HR.out.2)
    go_wp2_with fail
    exact HQ.out.go q p qo po dn o T1 T2 S3 S4 er (.int .i64 kd) HFI.out (by kernel_rfl)
end Go.Proofs.Ytmkjejngnahpeaa
/- law07: DiskPlay: Copy, Same. -/
namespace Go.Proofs.Ytmkjejngnahpeaa
open Go Go.Maps Go.RowKit

set_option maxRecDepth 100000 in
set_option maxHeartbeats 8000000 in
theorem play_arm10 {W w2 : World} {ob oB oF oP : Option Addr} {n cb q p qo po j b14 lb lf lp cB cF cP : Nat} {kd : Int} {x : StepT} {d o : Dk} {S1 S2 S3 S4 : Nat → Prop} {K : Act → World → Prop} {u : Nat → Value} (h : StepH W w2 oB oF oP q p qo po j b14 lb lf lp cB cF cP kd x d o S1 S2 S3 S4) (hQ : ArmQ W ob n cb j b14 K) : Code.wp Try.prog playA10 (Exit.then K (fun _ _ _ => False)) ⟨frR ob n cb q p qo po j (.pointer (some ⟨b14, 0, none⟩)) (.int .i64 0) (.int .i64 0) (.int .i64 kd) u, []⟩ w2 := by
  have H := Lib.hid h
  have HQ := Lib.hid hQ
  clear h hQ
  unfold frR
  conv => arg 2; whnf
  go_wp2_with (first
    | (go_at_call 43; refine (copy_b H.out.play.four.one (by have := H.out.play.few; have := H.out.jm; omega)).mono ?_; rintro e w5 ⟨qx, rfl, hx, hb5⟩; have H5 := Lib.hid (And.intro hx hb5); clear hx hb5)
    | (go_at_call 54; refine (refCopy_b (H.out.play.four.two.below H5.out.2) (by have := H.out.play.few; have := H.out.jm; omega)).mono ?_; rintro e w6 ⟨px, rfl, hy, hb6⟩; have H6 := Lib.hid (And.intro hy hb6); clear hy hb6))
  exact HQ.out.go qx px q p d d _ _ S1 S2 0 (.int .i64 kd) ⟨H.out.play.four.turn H.out.play.below.size H5.out.2 H6.out.2 H5.out.1 H6.out.1 (fun k hk => hk.1) (fun k hk => hk.1), (H.out.play.below.trans (H5.out.2.mono H.out.play.below.size)).trans (H6.out.2.mono (Nat.le_trans H.out.play.below.size H5.out.2.size)), by have := H.out.play.few; omega⟩ (by kernel_rfl)
set_option maxRecDepth 100000 in
set_option maxHeartbeats 8000000 in
theorem play_arm14 {W w2 : World} {ob oB oF oP : Option Addr} {n cb q p qo po j b14 lb lf lp cB cF cP : Nat} {kd : Int} {x : StepT} {d o : Dk} {S1 S2 S3 S4 : Nat → Prop} {K : Act → World → Prop} {u : Nat → Value} (h : StepH W w2 oB oF oP q p qo po j b14 lb lf lp cB cF cP kd x d o S1 S2 S3 S4) (hQ : ArmQ W ob n cb j b14 K) : Code.wp Try.prog playA14 (Exit.then K (fun _ _ _ => False)) ⟨frR ob n cb q p qo po j (.pointer (some ⟨b14, 0, none⟩)) (.int .i64 0) (.int .i64 0) (.int .i64 kd) u, []⟩ w2 := by
  have H := Lib.hid h
  have HQ := Lib.hid hQ
  clear h hQ
  unfold frR
  conv => arg 2; whnf
  obtain ⟨be, hbe⟩ : ∃ b, decide (d.files = o.files) = b := ⟨_, rfl⟩
  have HS1 : Hid (∀ V : World, Below w2.heap.size w2 V → Calls Try.prog 51 #[.pointer (some ⟨q, 0, none⟩), .pointer (some ⟨qo, 0, none⟩)] V fun e w' => e = .returned (.bool be) ∧ Below w2.heap.size w2 w') := Lib.hid (fun V hb => (same_b (H.out.play.four.one.below hb) (H.out.play.four.three.below hb)).mono (fun e w' ⟨h1, h2⟩ => ⟨by rw [h1, hbe], hb.trans (h2.mono hb.size)⟩))
  have HS2 : Hid (∀ V : World, Below w2.heap.size w2 V → Calls Try.prog 51 #[.pointer (some ⟨qo, 0, none⟩), .pointer (some ⟨q, 0, none⟩)] V fun e w' => e = .returned (.bool be) ∧ Below w2.heap.size w2 w') := Lib.hid (fun V hb => (same_b (H.out.play.four.three.below hb) (H.out.play.four.one.below hb)).mono (fun e w' ⟨h1, h2⟩ => ⟨by rw [h1, ← hbe]; exact congrArg (fun b => Ending.returned (.bool b)) (decide_eq_decide.2 eq_comm), hb.trans (h2.mono hb.size)⟩))
  have HS3 : Hid (∀ V : World, Below w2.heap.size w2 V → Calls Try.prog 68 #[.pointer (some ⟨p, 0, none⟩), .pointer (some ⟨po, 0, none⟩)] V fun e w' => e = .returned (.bool be) ∧ Below w2.heap.size w2 w') := Lib.hid (fun V hb => (refSame_b (H.out.play.four.two.below hb) (H.out.play.four.four.below hb)).mono (fun e w' ⟨h1, h2⟩ => ⟨by rw [h1, hbe], hb.trans (h2.mono hb.size)⟩))
  have hee : (be != be) = false := by simp
  clear hbe
  go_wp2_with (first
    | (go_at_call 68; refine (HS3.out _ (by first | exact HBZ.out | exact Below.refl _ _)).mono ?_; rintro e wz ⟨rfl, hbz⟩; have HBZ := Lib.hid hbz; clear hbz)
    | (go_at_call 51; with_reducible refine (HS1.out _ ?_).mono ?_; (first | exact HBZ.out | exact Below.refl _ _); rintro e wz ⟨rfl, hbz⟩; have HBZ := Lib.hid hbz; clear hbz)
    | (go_at_call 51; with_reducible refine (HS2.out _ ?_).mono ?_; (first | exact HBZ.out | exact Below.refl _ _); rintro e wz ⟨rfl, hbz⟩; have HBZ := Lib.hid hbz; clear hbz))
  exact HQ.out.go q p qo po d o S1 S2 S3 S4 0 (.int .i64 kd) (H.out.play.next.later HBZ.out) (by kernel_rfl)
end Go.Proofs.Ytmkjejngnahpeaa
/- law07: DiskPlay: File. -/
namespace Go.Proofs.Ytmkjejngnahpeaa
open Go Go.Maps Go.RowKit

set_option maxRecDepth 100000 in
set_option maxHeartbeats 8000000 in
theorem play_arm8 {W w2 : World} {ob oB oF oP : Option Addr} {n cb q p qo po j b14 lb lf lp cB cF cP : Nat} {kd : Int} {x : StepT} {d o : Dk} {S1 S2 S3 S4 : Nat → Prop} {K : Act → World → Prop} {u : Nat → Value} (h : StepH W w2 oB oF oP q p qo po j b14 lb lf lp cB cF cP kd x d o S1 S2 S3 S4) (hQ : ArmQ W ob n cb j b14 K) : Code.wp Try.prog playA8 (Exit.then K (fun _ _ _ => False)) ⟨frR ob n cb q p qo po j (.pointer (some ⟨b14, 0, none⟩)) (.int .i64 0) (.int .i64 0) (.int .i64 kd) u, []⟩ w2 := by
  have H := Lib.hid h
  have HQ := Lib.hid hQ
  clear h hQ
  have c3 : w2.cell? ⟨b14, 3, none⟩ = some (.string x.name) := cell_of H.out.cells rfl
  unfold frR
  conv => arg 2; whnf
  obtain ⟨a0, a1, a2, a3, a4, ee, hfv, hz0, hz1, hz2⟩ := fileV_open H.out.play.four.one x.name H.out.name
  have hne : ∀ V : World, (binOp .neq 78 (.agg #[.string a0, .int .i64 a1, .int .i64 a2, .bool a3, .bool a4]) (.agg #[.string a0, .int .i64 a1, .int .i64 a2, .bool a3, .bool a4])).run Try.prog V = .ok (.bool false) V := fun V => by
    have := file_eq a0 a1 a2 a3 a4 hz0 hz1 hz2 V
    simp [binOp, go_sem, this]
  have HF1 : Hid (Calls Try.prog 62 #[.pointer (some ⟨q, 0, none⟩), .string x.name] w2 fun e w' => e = .returned (.tuple #[.agg #[.string a0, .int .i64 a1, .int .i64 a2, .bool a3, .bool a4], .int .i64 ee]) ∧ Below w2.heap.size w2 w') := Lib.hid (by
    have := file_b H.out.play.four.one x.name H.out.name
    rwa [hfv] at this)
  have HF2 : Hid (∀ V : World, Below w2.heap.size w2 V → Calls Try.prog 63 #[.pointer (some ⟨p, 0, none⟩), .string x.name] V fun e w' => e = .returned (.tuple #[.agg #[.string a0, .int .i64 a1, .int .i64 a2, .bool a3, .bool a4], .int .i64 ee]) ∧ Below V.heap.size V w') := Lib.hid (fun V hb => by
    have := refFile_b (H.out.play.four.two.below hb) x.name H.out.name
    rwa [hfv] at this)
  clear hfv hz0 hz1 hz2
  go_wp2_with fail
  refine HF1.out.mono ?_
  rintro e w5 ⟨rfl, hb5⟩
  have HB5 := Lib.hid hb5
  clear hb5
  go_upto_region 53 with fail
  obtain ⟨w6, hw6⟩ : ∃ V : World, V = w5.alloc (.cells #[.string a0, .int .i64 a1, .int .i64 a2, .bool a3, .bool a4] 78) := ⟨_, rfl⟩
  obtain ⟨b24, hb24⟩ : ∃ b, b = w5.heap.size := ⟨_, rfl⟩
  have h6 : w6.heap[b24]? = some (.cells #[.string a0, .int .i64 a1, .int .i64 a2, .bool a3, .bool a4] 78 (0, 0)) := by rw [hw6, hb24]; exact alloc_cells _ _ _
  have hb56 : Below w5.heap.size w5 w6 := by rw [hw6]; exact (Below.refl _ _).alloc (Nat.le_refl _) _
  have hb26 : Below w2.heap.size w2 w6 := HB5.out.trans (hb56.mono HB5.out.size)
  rw [← hw6, ← hb24]
  have y3 : w6.cell? ⟨b14, 3, none⟩ = some (.string x.name) := cell_of ((hb26.block b14 H.out.lt).trans H.out.cells) rfl
  have H6 := Lib.hid (And.intro h6 hb26)
  have HF3 := Lib.hid (HF2.out w6 hb26)
  clear hw6 hb24 h6 hb56 hb26
  go_wp2_with fail
  refine HF3.out.mono ?_
  rintro e w7 ⟨rfl, hb7⟩
  have HB7 := Lib.hid hb7
  clear hb7 y3
  go_upto_region 54 with fail
  obtain ⟨w8, hw8⟩ : ∃ V : World, V = w7.alloc (.cells #[.string a0, .int .i64 a1, .int .i64 a2, .bool a3, .bool a4] 78) := ⟨_, rfl⟩
  obtain ⟨b26, hb26⟩ : ∃ b, b = w7.heap.size := ⟨_, rfl⟩
  have h8 : w8.heap[b26]? = some (.cells #[.string a0, .int .i64 a1, .int .i64 a2, .bool a3, .bool a4] 78 (0, 0)) := by rw [hw8, hb26]; exact alloc_cells _ _ _
  have hb78 : Below w7.heap.size w7 w8 := by rw [hw8]; exact (Below.refl _ _).alloc (Nat.le_refl _) _
  have hb68 : Below w6.heap.size w6 w8 := HB7.out.trans (hb78.mono HB7.out.size)
  have h68 := (hb68.block b24 (Array.getElem?_eq_some_iff.1 H6.out.1).1).trans H6.out.1
  have H8 := Lib.hid (H6.out.2.trans (hb68.mono H6.out.2.size))
  rw [← hw8, ← hb26]
  have e0 : w8.cell? ⟨b24, 0, none⟩ = some (.string a0) := cell_of h68 rfl
  have e1 : w8.cell? ⟨b24, 1, none⟩ = some (.int .i64 a1) := cell_of h68 rfl
  have e2 : w8.cell? ⟨b24, 2, none⟩ = some (.int .i64 a2) := cell_of h68 rfl
  have e3 : w8.cell? ⟨b24, 3, none⟩ = some (.bool a3) := cell_of h68 rfl
  have e4 : w8.cell? ⟨b24, 4, none⟩ = some (.bool a4) := cell_of h68 rfl
  have g0 : w8.cell? ⟨b26, 0, none⟩ = some (.string a0) := cell_of h8 rfl
  have g1 : w8.cell? ⟨b26, 1, none⟩ = some (.int .i64 a1) := cell_of h8 rfl
  have g2 : w8.cell? ⟨b26, 2, none⟩ = some (.int .i64 a2) := cell_of h8 rfl
  have g3 : w8.cell? ⟨b26, 3, none⟩ = some (.bool a3) := cell_of h8 rfl
  have g4 : w8.cell? ⟨b26, 4, none⟩ = some (.bool a4) := cell_of h8 rfl
  clear hw8 hb26 h8 hb78 hb68 h68
  go_wp2_with fail
  exact HQ.out.go q p qo po d o S1 S2 S3 S4 ee (.int .i64 kd) (H.out.play.next.later H8.out) (by kernel_rfl)
end Go.Proofs.Ytmkjejngnahpeaa
/- law07: DiskPlay: Feed. -/
namespace Go.Proofs.Ytmkjejngnahpeaa
open Go Go.Maps Go.RowKit

set_option maxRecDepth 100000 in
set_option maxHeartbeats 8000000 in
theorem play_arm9 {W w2 : World} {ob oB oF oP : Option Addr} {n cb q p qo po j b14 lb lf lp cB cF cP : Nat} {kd : Int} {x : StepT} {d o : Dk} {S1 S2 S3 S4 : Nat → Prop} {K : Act → World → Prop} {u : Nat → Value} (h : StepH W w2 oB oF oP q p qo po j b14 lb lf lp cB cF cP kd x d o S1 S2 S3 S4) (hQ : ArmQ W ob n cb j b14 K) : Code.wp Try.prog playA9 (Exit.then K (fun _ _ _ => False)) ⟨frR ob n cb q p qo po j (.pointer (some ⟨b14, 0, none⟩)) (.int .i64 0) (.int .i64 0) (.int .i64 kd) u, []⟩ w2 := by
  have H := Lib.hid h
  have HQ := Lib.hid hQ
  clear h hQ
  have c5 : w2.cell? ⟨b14, 5, none⟩ = some (.slice oF lf cF) := cell_of H.out.cells rfl
  unfold frR
  conv => arg 2; whnf
  obtain ⟨⟨er, dn⟩, hr⟩ : ∃ r, d.feed x.fates = r := ⟨_, rfl⟩
  have hfl := fates_feed d x.fates
  rw [hr] at hfl
  have HR := Lib.hid (And.intro hr (show dn.fates.length ≤ 100 + 100 * (j + 1) from by have h1 := H.out.play.few; have h2 : dn.fates.length ≤ d.fates.length + x.fates.length := hfl; have h3 := H.out.small; have h4 := H.out.hlf; omega))
  have HSM := Lib.hid (show lf ≤ 1000000 ∧ d.fates.length ≤ 1000000 from by have h1 := H.out.play.few; have h2 := H.out.jm; have h3 := H.out.small; omega)
  clear hr hfl
  go_region_law (first
    | (refine step_fate_nil (w := w2) (by rfl) (.tmp 275) (by rfl) H.out.fates H.out.hlf (by first | exact Below.refl _ _ | exact bdrew0 _) HSM.out.1 (by rfl) ?_; intro oa1 ca1 wf HR1; have y5 : wf.cell? ⟨b14, 5, none⟩ = some (.slice oF lf cF) := cell_of ((HR1.out.2.2.1.block b14 H.out.lt).trans H.out.cells) rfl)
    | (go_simp; go_at_call 64; refine (feed_b (H.out.play.four.below (by first | exact HR1.out.2.2.1 | exact Below.drewR HR1.out.2.2.1)).one H.out.hlf (by have h1 := HR1.out.1.read; rw [H.out.hlf] at h1; first | exact h1 | exact h1.kept (fun _ _ _ _ => rfl)) HSM.out.1 (Nat.le_trans HSM.out.2 (by omega))).mono ?_; rintro e w5 ho; obtain ⟨he, T1, h5, ho5⟩ := H.out.play.four.did1 (by first | exact HR1.out.2.2.1 | exact Below.drewR HR1.out.2.2.1) H.out.play.below.size HR.out.1 ho; subst he; have hs5 := (ho5.block b14 H.out.lt H.out.n1).trans H.out.cells; have H5 := Lib.hid (And.intro h5 ho5); have z5 : w5.cell? ⟨b14, 5, none⟩ = some (.slice oF lf cF) := cell_of hs5 rfl; clear ho h5 ho5 hs5)
    | (go_simp; go_at_call 65; refine (refFeed_b (H5.out.1.below (by first | exact Below.refl _ _ | exact bdrew0 _)).two H.out.hlf (by have h1 : readAt w5 2 (.slice oF lf cF) lf (fateCells x.fates) := (by have h2 := H.out.fates.kept (fun k hk ho h0 => H5.out.2.block k hk (fun e => by have h3 := H.out.lo2 k ho (by rw [← H.out.hlf]; exact h0); have h4 := H.out.play.four.low1 k e; omega)); rw [H.out.hlf] at h2; exact h2); first | exact h1 | exact h1.kept (fun _ _ _ _ => rfl)) HSM.out.1 HSM.out.2).mono ?_; rintro e w6 ho; obtain ⟨he, T2, h6, ho6⟩ := H5.out.1.did2 (by first | exact Below.refl _ _ | exact bdrew0 _) (Nat.le_trans H.out.play.below.size H5.out.2.size) HR.out.1 ho; subst he; have H6 := Lib.hid (And.intro h6 ho6); clear ho h6 ho6))
  all_goals
    have HFI := Lib.hid (PlayR.fin H.out.play.below H6.out.1 H5.out.2 H6.out.2 H.out.play.four.low1 H.out.play.four.low2 HR.out.2)
    go_wp2_with fail
    exact HQ.out.go q p qo po dn o T1 T2 S3 S4 er (.int .i64 kd) HFI.out (by kernel_rfl)
end Go.Proofs.Ytmkjejngnahpeaa
/- law07: DiskPlay: Read. -/
namespace Go.Proofs.Ytmkjejngnahpeaa
open Go Go.Maps Go.RowKit

noncomputable def playL7 : Code := cB (cB (cB playA7))
theorem play_a7 : playA7 = .seq (cA playA7) (.seq (cA (cB playA7)) (.seq (cA (cB (cB playA7))) playL7)) := by kernel_rfl
theorem frR_go3 {ob : Option Addr} {n cb q p qo po j : Nat} {v14 v15 v16 v104 : Value} {c : Code} {Q : Exit → Act → World → Prop} {w : World} {l : Array Value} (i1 i2 i3 : Nat) (x1 x2 x3 : Value) (h : l = frR ob n cb q p qo po j v14 v15 v16 v104 (fun k => l.toList.getD k undef)) (h1 : l.toList.getD i1 undef = x1) (h2 : l.toList.getD i2 undef = x2) (h3 : l.toList.getD i3 undef = x3) (H : ∀ u : Nat → Value, u i1 = x1 → u i2 = x2 → u i3 = x3 → Code.wp Try.prog c Q ⟨frR ob n cb q p qo po j v14 v15 v16 v104 u, []⟩ w) : Code.wp Try.prog c Q ⟨l, []⟩ w := by
  rw [h]
  exact H _ h1 h2 h3
theorem rowAt.long {w : World} {e : TypeId} {size n c : Nat} {oa : Option Addr} {xs : List Value} (h : rowAt w e size (.slice oa n c) n xs) : n ≤ 9223372036854775807 := by
  rcases h.2 with ⟨_, h0⟩ | ⟨g, off, cap, cur, fr, hv, _, hn, hm, _⟩
  · omega
  · unfold maxLen at hm
    omega
set_option maxRecDepth 100000 in
set_option maxHeartbeats 8000000 in
theorem play_loop7 {W w6 : World} {ob o1 : Option Addr} {n cb q p qo po j b14 lx c1 : Nat} {kd er : Int} {d o : Dk} {S1 S2 S3 S4 : Nat → Prop} {K : Act → World → Prop} {by1 : List UInt8} {u : Nat → Value} (hp : PlayR W w6 S1 S2 S3 S4 q p qo po d o (j + 1)) (hQ : ArmQ W ob n cb j b14 K) (h19 : u 19 = .slice o1 lx c1) (h20 : u 20 = .int .i64 er) (h22 : u 22 = .int .i64 er) (hr : rowAt w6 5 1 (.slice o1 lx c1) lx (byteCells by1)) (hlx : by1.length = lx)
    (hno : ∀ z, (Value.slice o1 lx c1).ownBlock = some z → (¬ S1 z ∧ ¬ S2 z ∧ ¬ S3 z ∧ ¬ S4 z) ∧ W.heap.size ≤ z) : Code.wp Try.prog playL7 (Exit.then K (fun _ _ _ => False)) ⟨frR ob n cb q p qo po j (.pointer (some ⟨b14, 0, none⟩)) (.int .i64 0) (.int .i64 0) (.int .i64 kd) u, []⟩ w6 := by
  have hl := hr.long
  have H6 := Lib.hid (And.intro hr (And.intro hlx (And.intro hno hp)))
  have HQ := Lib.hid hQ
  clear hr hlx hno hp hQ
  unfold frR
  rw [h19, h20, h22]
  clear h19 h20 h22
  conv => arg 2; whnf
  go_wp2_with fail
  go_loopw [23] (fun i wr => ∃ k : Nat, k ≤ lx ∧ i = .int .i64 k ∧ Hid (Bump w6 wr o1 lx c1 k by1)) (fun i _ => lx - (intOf i).toNat)
  case atStart => exact ⟨0, Nat.zero_le _, rfl, Lib.hid (Bump.start H6.out.1 (fun _ _ => rfl))⟩
  case round =>
    obtain ⟨k, hk, rfl, HU⟩ := hrel
    by_cases hlt : k < lx
    · obtain ⟨xs, hxr, -⟩ := HU.out.row
      obtain ⟨g, off, rfl⟩ := hxr.addr (by omega)
      obtain ⟨kx, zx⟩ := HU.out.cell (by rw [H6.out.2.1]; exact hlt) hlt
      obtain ⟨vb, hvb⟩ : ∃ vb : Int, (by1[k]'(by rw [H6.out.2.1]; exact hlt)).toNat = vb := ⟨_, rfl⟩
      rw [hvb] at kx
      clear hxr hvb
      go_wp2_with fail
      exact ⟨⟨k + 1, by omega, by simp, Lib.hid (HU.out.next hlt _)⟩, by simp [intOf]; omega⟩
    · obtain rfl : k = lx := by omega
      go_wp2_with fail
      exact HQ.out.go q p qo po d o S1 S2 S3 S4 er (.int .i64 kd) ⟨H6.out.2.2.2.four.only HU.out.only (fun z hz => (H6.out.2.2.1 z hz).1), H6.out.2.2.2.below.trans (HU.out.only.below (fun i hi e => by have := (H6.out.2.2.1 i e).2; omega) H6.out.2.2.2.below.size), H6.out.2.2.2.few⟩ (by kernel_rfl)
set_option maxRecDepth 100000 in
set_option maxHeartbeats 8000000 in
theorem play_arm7 {W w2 : World} {ob oB oF oP : Option Addr} {n cb q p qo po j b14 lb lf lp cB cF cP : Nat} {kd : Int} {x : StepT} {d o : Dk} {S1 S2 S3 S4 : Nat → Prop} {K : Act → World → Prop} {u : Nat → Value} (h : StepH W w2 oB oF oP q p qo po j b14 lb lf lp cB cF cP kd x d o S1 S2 S3 S4) (hQ : ArmQ W ob n cb j b14 K) : Code.wp Try.prog playA7 (Exit.then K (fun _ _ _ => False)) ⟨frR ob n cb q p qo po j (.pointer (some ⟨b14, 0, none⟩)) (.int .i64 0) (.int .i64 0) (.int .i64 kd) u, []⟩ w2 := by
  have H := Lib.hid h
  have HQ := Lib.hid hQ
  clear h hQ
  have c1 : w2.cell? ⟨b14, 1, none⟩ = some (.int .i64 x.pl) := cell_of H.out.cells rfl
  have c2 : w2.cell? ⟨b14, 2, none⟩ = some (.int .i64 x.n) := cell_of H.out.cells rfl
  have c3 : w2.cell? ⟨b14, 3, none⟩ = some (.string x.name) := cell_of H.out.cells rfl
  unfold frR
  obtain ⟨rr, hrr⟩ : ∃ r, d.read x.name.data.toList x.pl x.n = r := ⟨_, rfl⟩
  obtain ⟨er, her⟩ : ∃ er, rr.2 = er := ⟨_, rfl⟩
  obtain ⟨by1, hby⟩ : ∃ b, rr.1 = b := ⟨_, rfl⟩
  have HR1 : Hid (Calls Try.prog 42 #[.pointer (some ⟨q, 0, none⟩), .string x.name, .int .i64 x.pl, .int .i64 x.n] w2 fun e w' => ∃ v, e = .returned (.tuple #[v, .int .i64 er]) ∧ NewBytes w2 w' v by1) := Lib.hid (by
    have := read_b H.out.play.four.one x.name H.out.name x.pl x.n H.out.plb.2 H.out.nb.2
    unfold ReadIs at this
    rwa [hrr, her, hby] at this)
  have HR2 : Hid (∀ V : World, Below w2.heap.size w2 V → Calls Try.prog 61 #[.pointer (some ⟨p, 0, none⟩), .string x.name, .int .i64 x.pl, .int .i64 x.n] V fun e w' => ∃ v, e = .returned (.tuple #[v, .int .i64 er]) ∧ NewBytes V w' v by1) := Lib.hid (fun V hb => by
    have := refRead_b (H.out.play.four.two.below hb) x.name H.out.name x.pl x.n H.out.plb.2 H.out.nb.2
    unfold ReadIs at this
    rwa [hrr, her, hby] at this)
  clear hrr her hby
  rw [play_a7]
  refine wp_seq_k fun K1 hK1 => ?_
  have HK1 := Lib.hid hK1
  clear hK1
  conv => arg 2; whnf
  go_wp2_with fail
  refine HR1.out.mono ?_
  rintro e w5 ⟨v1, rfl, hv1⟩
  have hs5 := (hv1.2.2.block b14 H.out.lt).trans H.out.cells
  have y1 : w5.cell? ⟨b14, 1, none⟩ = some (.int .i64 x.pl) := cell_of hs5 rfl
  have y2 : w5.cell? ⟨b14, 2, none⟩ = some (.int .i64 x.n) := cell_of hs5 rfl
  have y3 : w5.cell? ⟨b14, 3, none⟩ = some (.string x.name) := cell_of hs5 rfl
  have HV1 := Lib.hid hv1
  have HR3 := Lib.hid (HR2.out w5 hv1.2.2)
  clear hs5 hv1 c1 c2 c3
  go_wp2_with fail
  refine HK1.out _ _ ?_
  refine wp_seq_k fun K2 hK2 => ?_
  have HK2 := Lib.hid hK2
  clear hK2
  conv => arg 2; whnf
  go_wp2_with fail
  refine HR3.out.mono ?_
  rintro e w6 ⟨v2, rfl, hv2⟩
  have hr1 : rowAt w6 5 1 v1 by1.length (byteCells by1) := HV1.out.1.kept (fun k hk => hv2.2.2.block k (HV1.out.1.lt k hk))
  obtain ⟨o1, c1, rfl, -⟩ := hr1.shape
  have hcv1 : (convert 79 9 (.slice o1 by1.length c1)).run Try.prog w6 = .ok (.string ⟨by1.toArray⟩) w6 := run_string_at w6 79 9 5 _ by1 Try.underlying79 Try.underlying5 Try.underlying9 hr1
  have hcv2 : (convert 79 9 v2).run Try.prog w6 = .ok (.string ⟨by1.toArray⟩) w6 := run_string_at w6 79 9 5 v2 by1 Try.underlying79 Try.underlying5 Try.underlying9 hv2.1
  obtain ⟨ab, hab⟩ : ∃ a : ByteArray, a = ⟨by1.toArray⟩ := ⟨_, rfl⟩
  rw [← hab] at hcv1 hcv2
  obtain ⟨lx, hlx⟩ : ∃ k, by1.length = k := ⟨_, rfl⟩
  rw [hlx] at hr1 hcv1 ⊢
  have H6 : Hid (rowAt w6 5 1 (.slice o1 lx c1) lx (byteCells by1) ∧ Below w2.heap.size w2 w6 ∧ (∀ k, (Value.slice o1 lx c1).ownBlock = some k → w2.heap.size ≤ k) ∧ by1.length = lx) := Lib.hid ⟨hr1, HV1.out.2.2.trans (hv2.2.2.mono HV1.out.2.2.size), by rw [← hlx]; exact HV1.out.2.1, hlx⟩
  clear hr1 hab hlx hv2 y1 y2 y3 HR1 HR2 HR3 HV1
  go_wp2_with fail
  refine HK2.out _ _ ?_
  refine wp_seq_k fun K3 hK3 => ?_
  have HK3 := Lib.hid hK3
  clear hK3
  conv => arg 2; whnf
  go_wp2_with fail
  refine HK3.out _ _ ?_
  exact frR_go3 19 20 22 (.slice o1 lx c1) (.int .i64 er) (.int .i64 er) (by kernel_rfl) (by kernel_rfl) (by kernel_rfl) (by kernel_rfl) (fun u h19 h20 h22 => play_loop7 (kd := kd) (H.out.play.next.later H6.out.2.1) HQ.out h19 h20 h22 H6.out.1 H6.out.2.2.2 (fun z hz => by
    have h1 := H6.out.2.2.1 z hz
    exact ⟨⟨fun e => by have := H.out.play.four.one.low2 z e; omega, fun e => by have := H.out.play.four.two.low z e; omega, fun e => by have := H.out.play.four.three.low2 z e; omega, fun e => by have := H.out.play.four.four.low z e; omega⟩, Nat.le_trans H.out.play.below.size h1⟩))
end Go.Proofs.Ytmkjejngnahpeaa
/- law07: DiskPlay: Crash. -/
namespace Go.Proofs.Ytmkjejngnahpeaa
open Go Go.Maps Go.RowKit

theorem intCells_one (l : List Int) : ∀ v ∈ intCells l, v.oneCell' = true := fun v hv => by
  unfold intCells at hv
  obtain ⟨x, _, rfl⟩ := List.mem_map.1 hv
  rfl
set_option maxRecDepth 100000 in
set_option maxHeartbeats 8000000 in
theorem play_arm11 {W w2 : World} {ob oB oF oP : Option Addr} {n cb q p qo po j b14 lb lf lp cB cF cP : Nat} {kd : Int} {x : StepT} {d o : Dk} {S1 S2 S3 S4 : Nat → Prop} {K : Act → World → Prop} {u : Nat → Value} (h : StepH W w2 oB oF oP q p qo po j b14 lb lf lp cB cF cP kd x d o S1 S2 S3 S4) (hQ : ArmQ W ob n cb j b14 K) : Code.wp Try.prog playA11 (Exit.then K (fun _ _ _ => False)) ⟨frR ob n cb q p qo po j (.pointer (some ⟨b14, 0, none⟩)) (.int .i64 0) (.int .i64 0) (.int .i64 kd) u, []⟩ w2 := by
  have H := Lib.hid h
  have HQ := Lib.hid hQ
  clear h hQ
  have c0 : w2.cell? ⟨b14, 0, none⟩ = some (.int .i64 kd) := cell_of H.out.cells rfl
  have c6 : w2.cell? ⟨b14, 6, none⟩ = some (.slice oP lp cP) := cell_of H.out.cells rfl
  unfold frR
  conv => arg 2; whnf
  obtain ⟨bk, hbk⟩ : ∃ b, (kd == 11) = b := ⟨_, rfl⟩
  have HSM := Lib.hid (show lp ≤ 300 from H.out.small.2.2)
  have HC := Lib.hid (And.intro c0 c6)
  clear c0
  go_wp2_with (at_builtin; refine wpList_append_at _ rfl (.const (.slice none 0 0)) (.tmp 296) 32 32 rfl 3 (.int .i64 0) 1 8 Try.underlying32 info_int rfl _ 0 [] rfl ⟨rfl, .inl ⟨rfl, rfl⟩⟩ _ lp _ rfl (Src.of_read Try.underlying32 (by have h1 := H.out.picks; rw [H.out.hlp] at h1; exact h1) (intCells_one x.picks)) (by have := HSM.out; unfold maxLen; omega) (by have := HSM.out; omega) ?_; intro v' wf hr hg hown _; rw [Nat.zero_add] at hr; obtain ⟨oa1, ca1, rfl, _⟩ := hr.shape; have hg0 : w2.grownBy wf none := hg; have HR1 := Lib.hid (And.intro hr hg0); clear hr hg hg0 hown)
  have hb2f : Below w2.heap.size w2 wf := (Below.refl _ _).grown HR1.out.2 (Nat.le_refl _) (fun k e => by cases e)
  have hcr := crash_b (H.out.play.four.one.below hb2f) oa1 ca1 x.picks (by have h1 := HR1.out.1.read; rw [List.nil_append] at h1; rw [H.out.hlp]; exact h1) (by rw [H.out.hlp]; have := HSM.out; omega) H.out.pk
  rw [H.out.hlp] at hcr
  have HCR := Lib.hid (And.intro hcr hb2f)
  clear hcr hb2f HR1 c6
  refine HCR.out.1.mono ?_
  rintro e w5 hc
  rcases hc with ⟨hg, rfl, hb5⟩ | ⟨hg, qx, rfl, hx, hb5⟩
  · have hb25 := HCR.out.2.trans (hb5.mono HCR.out.2.size)
    have HRC := Lib.hid (rfCrash_b (w0 := w5) (S' := fun _ => False) (q' := 0) (H.out.play.four.two.below hb25) H.out.hlp (by have h1 := H.out.picks.kept (fun k hk _ _ => hb25.block k hk); rw [H.out.hlp] at h1; exact h1) (by have := HSM.out; omega) H.out.pk (fun h => absurd h hg))
    have hs5 := (hb25.block b14 H.out.lt).trans H.out.cells
    have y6 : w5.cell? ⟨b14, 6, none⟩ = some (.slice oP lp cP) := cell_of hs5 rfl
    have HG := Lib.hid (And.intro hg hb25)
    clear hb5 hb25 hs5 hg hbk
    go_wp2_with fail
    refine HRC.out.mono ?_
    rintro e w6 (⟨-, v2, v3, rfl, hb6⟩ | ⟨hg', -⟩)
    · have HP6 := Lib.hid (H.out.play.next.later (HG.out.2.trans (hb6.mono HG.out.2.size)))
      clear hb6 y6
      go_wp2_with fail
      exact HQ.out.go q p qo po d o S1 S2 S3 S4 0 (.int .i64 kd) HP6.out (by kernel_rfl)
    · exact absurd hg' HG.out.1
  · have hb25 := HCR.out.2.trans (hb5.mono HCR.out.2.size)
    have HRC := Lib.hid (rfCrash_b (H.out.play.four.two.below hb25) H.out.hlp (by have h1 := H.out.picks.kept (fun k hk _ _ => hb25.block k hk); rw [H.out.hlp] at h1; exact h1) (by have := HSM.out; omega) H.out.pk (fun _ => hx))
    have hs5 := (hb25.block b14 H.out.lt).trans H.out.cells
    have y6 : w5.cell? ⟨b14, 6, none⟩ = some (.slice oP lp cP) := cell_of hs5 rfl
    have HG : Hid (AllGe x.picks ∧ Below w2.heap.size w2 w5 ∧ DiskAt w5 (fun k => w2.heap.size ≤ k ∧ k < w5.heap.size) qx (d.crash x.picks)) := Lib.hid ⟨hg, hb25, by
      obtain ⟨mb, fv, L, hx'⟩ := hx
      exact ⟨mb, fv, L, hx'.wider (fun k hk => ⟨Nat.le_trans HCR.out.2.size hk.1, hk.2⟩) (fun k hk => hk.2)⟩⟩
    clear hx hb5 hb25 hs5 hg
    go_wp2_with fail
    refine HRC.out.mono ?_
    rintro e w6 (⟨hg', -⟩ | ⟨-, px, v2, v3, rfl, hy, hb6⟩)
    · exact absurd HG.out.1 hg'
    · have hb26 := HG.out.2.1.trans (hb6.mono HG.out.2.1.size)
      have HY := Lib.hid (And.intro hy (And.intro hb6 hb26))
      have HT := Lib.hid (tells_b (HG.out.2.2.below hb6) hy)
      clear hy hb6 hb26 y6
      go_wp2_with fail
      refine HT.out.mono ?_
      rintro e w7 ⟨rfl, hb7⟩
      have hb27 := HY.out.2.2.trans (hb7.mono HY.out.2.2.size)
      have y0 : w7.cell? ⟨b14, 0, none⟩ = some (.int .i64 kd) := cell_of ((hb27.block b14 H.out.lt).trans H.out.cells) rfl
      have H7 := Lib.hid hb7
      have H27 := Lib.hid hb27
      clear hb7 hb27
      cases bk
      · go_wp2_with fail
        exact HQ.out.go q p qo po d o S1 S2 S3 S4 0 (.int .i64 kd) (H.out.play.next.later H27.out) (by kernel_rfl)
      · go_wp2_with fail
        exact HQ.out.go qx px q p (d.crash x.picks) d _ _ S1 S2 0 (.int .i64 kd) (PlayR.later ⟨H.out.play.four.turn H.out.play.below.size HG.out.2.1 HY.out.2.1 HG.out.2.2 HY.out.1 (fun k hk => hk.1) (fun k hk => hk.1), H.out.play.below.trans (HY.out.2.2.mono H.out.play.below.size), Nat.zero_le _⟩ H7.out) (by kernel_rfl)
end Go.Proofs.Ytmkjejngnahpeaa
