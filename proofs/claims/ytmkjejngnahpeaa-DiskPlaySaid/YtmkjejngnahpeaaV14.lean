/- The texts Fr, Zo, Zq, Zr, Lb, Lc, Zp, Zn, Zl, Lg, Gj, Kitf in one. -/
import Derived.Test.YtmkjejngnahpeaaV9
import Derived.Test.YtmkjejngnahpeaaV7
import Derived.Test.YtmkjejngnahpeaaV3
import Derived.Test.YtmkjejngnahpeaaV13
import Derived.Test.YtmkjejngnahpeaaV11
import Derived.DeepKeys
import Derived.Test.YtmkjejngnahpeaaV2
import Derived.IntWalk
import Derived.Sort.BigQuietIn
import Derived.ControlIn
import Derived.Scope
import Derived.WalkMore
/- Disk: the document's Right. -/
namespace Go.Proofs.Ytmkjejngnahpeaa
open Go Go.Maps Go.RowKit

set_option maxRecDepth 100000 in
set_option maxHeartbeats 1000000 in
theorem refRight_b {w : World} {v : Value} {l : List (Int × Int)} (h : readAt w 2 v l.length (fateCells l)) (hm : l.length ≤ 1000000000) : Calls Try.prog 37 #[v] w fun e w' => e = .returned (.bool (!l.any badFate)) ∧ w' = w := by
  obtain ⟨oa, c, rfl⟩ := h.shape
  obtain ⟨n, hn⟩ : ∃ n, l.length = n := ⟨_, rfl⟩
  rw [hn] at h hm ⊢
  have HR := Lib.hid h
  have HN := Lib.hid hn
  clear h hn
  go_enter Try.func37, Try.ntmps37
  go_wp2_with fail
  go_loop [3] (fun i => ∃ j : Nat, j ≤ n ∧ i = .int .i64 j ∧ Hid ((l.take j).any badFate = false)) (fun i => n - (intOf i).toNat)
  case atStart => exact ⟨0, Nat.zero_le _, rfl, Lib.hid (by simp)⟩
  case round =>
    obtain ⟨j, hj, rfl, HA⟩ := hrel
    by_cases hlt : j < n
    · have hjl : j < l.length := by rw [HN.out]; exact hlt
      obtain ⟨g, off, rfl⟩ := HR.out.addr (by omega)
      obtain ⟨k, m, hx⟩ : ∃ k m, l[j] = (k, m) := ⟨_, _, rfl⟩
      have k0 : w.cell? ⟨g, off + j * 2, none⟩ = some (.int .i64 k) := by
        have := HR.out.cellAt (i := j * 2 + 0) (u := .int .i64 k) (by have := (fate_cells l j hjl).1; rw [hx, Nat.mul_comm] at this; exact this)
        simpa using this
      have HNX : Hid ((l.take (j + 1)).any badFate = badFate (k, m)) := Lib.hid (by rw [any_take_succ hjl, HA.out, hx]; rfl)
      have HXL : Hid (badFate (k, m) = true → l.any badFate = true) := Lib.hid (fun hv => List.any_eq_true.2 ⟨(k, m), by rw [← hx]; exact List.getElem_mem _, hv⟩)
      clear hx
      by_cases h0 : k < 0
      · have HB : Hid (l.any badFate = true) := Lib.hid (HXL.out (by simp [badFate, h0]))
        go_wp2_with fail
        go_ret
        exact ⟨by rw [HB.out]; rfl, rfl⟩
      · by_cases h2 : 2 < k
        · have HB : Hid (l.any badFate = true) := Lib.hid (HXL.out (by simp [badFate, h2]))
          go_wp2_with fail
          go_ret
          exact ⟨by rw [HB.out]; rfl, rfl⟩
        · have HG : Hid ((l.take (j + 1)).any badFate = false) := Lib.hid (by rw [HNX.out]; simp [badFate, h0, h2])
          go_wp2_with fail
          exact ⟨⟨j + 1, by omega, by simp, HG⟩, by simp [intOf]; omega⟩
    · obtain rfl : j = n := by omega
      have HF : Hid (l.any badFate = false) := Lib.hid (by
        have h1 := HA.out
        rwa [List.take_of_length_le (by rw [HN.out]; exact Nat.le_refl _)] at h1)
      go_wp2_with fail
      go_ret
      exact ⟨by rw [HF.out]; rfl, rfl⟩
end Go.Proofs.Ytmkjejngnahpeaa
/- The document's disk: Feed. -/
namespace Go.Proofs.Ytmkjejngnahpeaa
open Go Go.Maps Go.RowKit
open Go.Proofs (encStr)

theorem feed_own {w : World} {v : Value} (h : v.ownBlock = (Value.slice none 0 0).ownBlock ∨ v.ownBlock = some w.heap.size) {k : Nat} (hk : v.ownBlock = some k) : k = w.heap.size := by
  rcases h with e | e
  · rw [hk] at e
    simp [Value.ownBlock] at e
  · rw [hk] at e
    simpa using e
theorem feed_head {w w3 w4 : World} {p : Nat} {v : Value} {o : Obj} (hp : p < w.heap.size) (h3 : w.grownBy w3 none) (hv : v.ownBlock = (Value.slice none 0 0).ownBlock ∨ v.ownBlock = some w.heap.size) (h4 : w3.grownBy w4 v.ownBlock) (h : w.heap[p]? = some o) : w4.heap[p]? = some o :=
  (h4.block p (Nat.lt_of_lt_of_le hp h3.size) (fun e => by have := feed_own hv e.symm; omega)).trans ((h3.block p hp (by simp)).trans h)
set_option maxRecDepth 100000 in
set_option maxHeartbeats 1000000 in
theorem refFeed_b {w : World} {S : Nat → Prop} {p : Nat} {d : Dk} (h : RfAt w S p d) {oa : Option Addr} {n c : Nat} {l : List (Int × Int)} (hn : l.length = n) (hl : readAt w 2 (.slice oa n c) n (fateCells l)) (hm : n ≤ 1000000) (hdm : d.fates.length ≤ 1000000) :
    Calls Try.prog 65 #[.pointer (some ⟨p, 0, none⟩), .slice oa n c] w fun e w' => ROpIs w S p (d.feed l) e w' := by
  obtain ⟨rv, fv, h⟩ := h
  go_enter Try.func65, Try.ntmps65
  go_wp2_with fail
  refine (refRight_b (v := .slice oa n c) (l := l) (by rw [hn]; exact hl) (by omega)).mono ?_
  rintro e w' ⟨rfl, hw'⟩
  obtain rfl := hw'.symm
  clear hw'
  obtain ⟨b, hbb⟩ : ∃ b, l.any badFate = b := ⟨_, rfl⟩
  rw [hbb]
  cases b with
  | true =>
    have HO : Hid (ROpIs w S p (d.feed l) (.returned (.int .i64 2)) w) := Lib.hid (by
      rw [show d.feed l = (2, d) by simp [Dk.feed, hbb]]
      exact rop_same h (Only.refl _ _) rfl)
    clear h hl hbb
    go_wp2_with fail
    go_ret
    exact HO.out
  | false =>
    obtain ⟨oaf, cf, rfl, _⟩ := h.fates.shape
    obtain ⟨m, hmm⟩ : ∃ m, d.fates.length = m := ⟨_, rfl⟩
    have hh := h.head
    have hfr := h.fates
    rw [hmm] at hdm hh hfr
    have hplt := (Array.getElem?_eq_some_iff.1 hh).1
    have c1 : w.cell? ⟨p, 1, none⟩ = some (.slice oaf m cf) := cell_of hh rfl
    have HL := Lib.hid (And.intro h (And.intro hl (And.intro hfr (And.intro hh (And.intro hbb (And.intro hmm hn))))))
    clear h hl hfr hh hbb hmm hn
    go_wp2_with (at_builtin; first
      | (refine wpList_append_at _ rfl (.const (.slice none 0 0)) (.tmp 14) 65 65 rfl 99 (.agg #[.int .i64 0, .int .i64 0]) 2 16 Try.underlying65 info_fate rfl _ 0 [] rfl ⟨rfl, .inl ⟨rfl, rfl⟩⟩ _ m _ rfl (Src.of_read Try.underlying65 HL.out.2.2.1.read (fateCells_one d.fates)) (by unfold maxLen; omega) (by omega) ?_; intro v' w3 hr hg hown _; rw [Nat.zero_add] at hr; obtain ⟨oa', c', rfl, _⟩ := hr.shape; have hg0 : w.grownBy w3 none := hg; have HRW := Lib.hid (And.intro hr (And.intro hg0 hown)); clear hr hg hg0 hown)
      | (refine wpList_append_at _ rfl (.tmp 15) (.tmp 16) 65 65 rfl 99 (.agg #[.int .i64 0, .int .i64 0]) 2 16 Try.underlying65 info_fate rfl _ m _ rfl HRW.out.1 _ n _ rfl (Src.of_read Try.underlying65 (HL.out.2.1.kept (fun k hk _ _ => HRW.out.2.1.block k hk (by simp))) (fateCells_one l)) (by unfold maxLen; omega) (by omega) ?_; intro v' w4 hr hg hown _; obtain ⟨oa2, c2, rfl, _⟩ := hr.shape; have HRX := Lib.hid (And.intro hr (And.intro hg hown)); clear hr hg hown; have hp4 := feed_head hplt HRW.out.2.1 HRW.out.2.2 HRX.out.2.1 HL.out.2.2.2.1; have y1 : w4.cell? ⟨p, 1, none⟩ = some (.slice oaf m cf) := cell_of hp4 rfl; have z1 : w4.frozen? ⟨p, 1, none⟩ = false := free_of hp4 _; have HP4 := Lib.hid hp4; clear hp4))
    go_ret
    obtain ⟨h, -, -, -, hbb, hmm, hn⟩ := HL.out
    have hb3 : Below w.heap.size w w3 := (Below.refl _ _).grown HRW.out.2.1 (Nat.le_refl _) (fun k e => by cases e)
    have hb4 : Below w.heap.size w w4 := hb3.grown HRX.out.2.1 hb3.size (fun k e => by have := feed_own HRW.out.2.2 e; omega)
    have hfn : ∀ k, (Value.slice oa2 (m + n) c2).ownBlock = some k → w.heap.size ≤ k := fun k hk => by
      rcases HRX.out.2.2 with e | e
      · rw [e] at hk
        have := feed_own HRW.out.2.2 hk
        omega
      · rw [hk] at e
        simp only [Option.some.injEq] at e
        have := hb3.size
        omega
    obtain ⟨w5, hw5⟩ : ∃ W : World, W = w4.setCell ⟨p, 1, none⟩ (.slice oa2 (m + n) c2) := ⟨_, rfl⟩
    rw [← hw5]
    have hset : Only (fun k => k = p) w4 w5 := by rw [hw5]; exact only_setCell (fun k => k = p) w4 p 1 _ rfl
    have ho : Only (fun k => k = p) w w5 := (Only.of_below hb4 (Nat.le_refl _) _).trans hset (fun _ _ h => h)
    have hr4 := HRX.out.1
    rw [show d.feed l = (0, { d with fates := d.fates ++ l }) by simp [Dk.feed, hbb]]
    refine ⟨rfl, ⟨rv, .slice oa2 (m + n) c2, ?_⟩, only_p ho h.footp⟩
    have hlt : ∀ k, (Value.slice oa2 (m + n) c2).ownBlock = some k → k < w5.heap.size := fun k hk => Nat.lt_of_lt_of_le (hr4.lt k hk) hset.size
    exact {
      head := by rw [hw5]; exact heap_setCell_here _ HP4.out
      files := h.files.kept (fun k hk => ho.block k (h.low k (h.footr k hk)) (h.rp k hk))
      fates := by
        show rowAt w5 _ 2 _ (d.fates ++ l).length (fateCells (d.fates ++ l))
        rw [List.length_append, hmm, hn, ← fateCells_append]
        exact hr4.kept (fun k hk => hset.block k (hr4.lt k hk) (fun e => by have := hfn k hk; omega))
      footp := .inl h.footp
      footr := fun k hk => .inl (h.footr k hk)
      footf := fun k hk => .inr ⟨hfn k hk, hlt k hk⟩
      low := fun k hk => by
        rcases hk with hk | hk
        · exact Nat.lt_of_lt_of_le (h.low k hk) ho.size
        · exact hk.2
      sorted := h.sorted
      names := h.names
      sizes := h.sizes
      few := h.few }
end Go.Proofs.Ytmkjejngnahpeaa
/- The document's disk behind a crash; two disks and their documents' side by side. -/
namespace Go.Proofs.Ytmkjejngnahpeaa
open Go Go.Maps Go.RowKit

theorem DiskAt.order7 {w : World} {S : Nat → Prop} {q : Nat} {d : Dk} (h : DiskAt w S q d) : (d.files.map (·.name)).Pairwise (· < ·) ∧ ∀ f ∈ d.files, nameOk f.name = true := by
  obtain ⟨mb, fv, L, h⟩ := h
  exact ⟨h.sorted, h.names⟩
/-- what the document's crash answers -/
def RfCrash (w : World) (d : Dk) (ps : List Int) (e : Ending) (w' : World) : Prop :=
  (¬ AllGe ps ∧ ∃ v2 v3, e = .returned (.tuple #[.pointer none, v2, v3, .int .i64 2]) ∧ Below w.heap.size w w') ∨
  (AllGe ps ∧ ∃ b v2 v3, e = .returned (.tuple #[.pointer (some ⟨b, 0, none⟩), v2, v3, .int .i64 0]) ∧ RfAt w' (Can w.heap.size w') b (d.crash ps) ∧ Below w.heap.size w w')
theorem rfCrash_b {w w0 : World} {S S' : Nat → Prop} {p q' : Nat} {d : Dk} (h : RfAt w S p d) {oa : Option Addr} {n c : Nat} {ps : List Int} (hn : ps.length = n) (hp : readAt w 1 (.slice oa n c) n (intCells ps)) (hm : n ≤ 1000000) (hmx : ∀ x ∈ ps, x ≤ 9223372036854775807) (hq : AllGe ps → DiskAt w0 S' q' (d.crash ps)) :
    Calls Try.prog 66 #[.pointer (some ⟨p, 0, none⟩), .slice oa n c] w fun e w' => RfCrash w d ps e w' := by
  refine (refCrash_b h hn hp hm hmx).mono ?_
  rintro e w' (⟨hg, rfl, hb⟩ | ⟨hg, b, op, mp, cp, oo, mo, co, fv, rfl, h1, h2, hI⟩)
  · exact .inl ⟨hg, _, _, rfl, hb⟩
  · have hd := hq hg
    have hfl : (rcT d.files ps).fl = (d.crash ps).files := rcT_files d ps
    have hrow := hI.files.row
    rw [hfl] at hrow
    have hsz := hd.sizes
    have hor := hd.order7
    refine .inr ⟨hg, b, _, _, rfl, ⟨fv, .slice none 0 0, ?_⟩, hI.files.below⟩
    exact {
      head := hI.box
      files := hrow
      fates := ⟨rfl, .inl ⟨rfl, rfl⟩⟩
      footp := ⟨hI.low, (Array.getElem?_eq_some_iff.1 hI.box).1⟩
      footr := fun k hk => ⟨hI.files.own k hk, hrow.lt k hk⟩
      footf := fun k hk => by simp [Value.ownBlock] at hk
      low := fun k hk => hk.2
      sorted := hor.1
      names := hor.2
      sizes := hsz.2
      few := hsz.1 }
/-- two disks and their documents' lie side by side, all of them newer than B -/
structure Four (B : Nat) (w : World) (S1 S2 S3 S4 : Nat → Prop) (q p qo po : Nat) (d1 d2 o1 o2 : Dk) : Prop where
  one : DiskAt w S1 q d1
  two : RfAt w S2 p d2
  three : DiskAt w S3 qo o1
  four : RfAt w S4 po o2
  low1 : ∀ k, S1 k → B ≤ k
  low2 : ∀ k, S2 k → B ≤ k
  low3 : ∀ k, S3 k → B ≤ k
  low4 : ∀ k, S4 k → B ≤ k
  a12 : ∀ k, S1 k → ¬ S2 k
  a13 : ∀ k, S1 k → ¬ S3 k
  a14 : ∀ k, S1 k → ¬ S4 k
  a23 : ∀ k, S2 k → ¬ S3 k
  a24 : ∀ k, S2 k → ¬ S4 k
  a34 : ∀ k, S3 k → ¬ S4 k
section
variable {B : Nat} {w w' : World} {S1 S2 S3 S4 : Nat → Prop} {q p qo po : Nat} {d1 d2 o1 o2 d' : Dk}
theorem Four.below (h : Four B w S1 S2 S3 S4 q p qo po d1 d2 o1 o2) (hb : Below w.heap.size w w') : Four B w' S1 S2 S3 S4 q p qo po d1 d2 o1 o2 :=
  { h with one := h.one.below hb, two := h.two.below hb, three := h.three.below hb, four := h.four.below hb }
/-- the disk is turned -/
theorem Four.op1 (h : Four B w S1 S2 S3 S4 q p qo po d1 d2 o1 o2) (hB : B ≤ w.heap.size) (hd : DiskAt w' (Wid S1 w w') q d') (ho : Only S1 w w') : Four B w' (Wid S1 w w') S2 S3 S4 q p qo po d' d2 o1 o2 :=
  { h with
    one := hd
    two := h.two.only ho (fun k hk e => h.a12 k e hk)
    three := h.three.only2 ho (fun k hk e => h.a13 k e hk)
    four := h.four.only ho (fun k hk e => h.a14 k e hk)
    low1 := fun k hk => by
      rcases hk with hk | hk
      · exact h.low1 k hk
      · exact Nat.le_trans hB hk.1
    a12 := fun k hk e => by
      rcases hk with hk | hk
      · exact h.a12 k hk e
      · have := h.two.low k e; have := hk.1; omega
    a13 := fun k hk e => by
      rcases hk with hk | hk
      · exact h.a13 k hk e
      · have := h.three.low2 k e; have := hk.1; omega
    a14 := fun k hk e => by
      rcases hk with hk | hk
      · exact h.a14 k hk e
      · have := h.four.low k e; have := hk.1; omega }
/-- the document's is turned -/
theorem Four.op2 (h : Four B w S1 S2 S3 S4 q p qo po d1 d2 o1 o2) (hB : B ≤ w.heap.size) (hd : RfAt w' (Wid S2 w w') p d') (ho : Only S2 w w') : Four B w' S1 (Wid S2 w w') S3 S4 q p qo po d1 d' o1 o2 :=
  { h with
    one := h.one.only2 ho (fun k hk e => h.a12 k hk e)
    two := hd
    three := h.three.only2 ho (fun k hk e => h.a23 k e hk)
    four := h.four.only ho (fun k hk e => h.a24 k e hk)
    low2 := fun k hk => by
      rcases hk with hk | hk
      · exact h.low2 k hk
      · exact Nat.le_trans hB hk.1
    a12 := fun k e hk => by
      rcases hk with hk | hk
      · exact h.a12 k e hk
      · have := h.one.low2 k e; have := hk.1; omega
    a23 := fun k hk e => by
      rcases hk with hk | hk
      · exact h.a23 k hk e
      · have := h.three.low2 k e; have := hk.1; omega
    a24 := fun k hk e => by
      rcases hk with hk | hk
      · exact h.a24 k hk e
      · have := h.four.low k e; have := hk.1; omega }
/-- two new ones take the place of the first, which take the place of the elder -/
theorem Four.turn {T1 T2 : Nat → Prop} {w0 w1 : World} {qx px : Nat} (h : Four B w0 S1 S2 S3 S4 q p qo po d1 d2 o1 o2) (hB : B ≤ w0.heap.size) (hb0 : Below w0.heap.size w0 w1) (hb1 : Below w1.heap.size w1 w') (hx : DiskAt w1 T1 qx d') (hy : RfAt w' T2 px d') (h1 : ∀ k, T1 k → w0.heap.size ≤ k) (h2 : ∀ k, T2 k → w1.heap.size ≤ k) : Four B w' T1 T2 S1 S2 qx px q p d' d' d1 d2 :=
  { one := hx.below hb1
    two := hy
    three := (h.one.below hb0).below hb1
    four := (h.two.below hb0).below hb1
    low1 := fun k hk => Nat.le_trans hB (h1 k hk)
    low2 := fun k hk => Nat.le_trans hB (Nat.le_trans hb0.size (h2 k hk))
    low3 := h.low1
    low4 := h.low2
    a12 := fun k hk e => by have := hx.low2 k hk; have := h2 k e; omega
    a13 := fun k hk e => by have := h1 k hk; have := h.one.low2 k e; omega
    a14 := fun k hk e => by have := h1 k hk; have := h.two.low k e; omega
    a23 := fun k hk e => by have := h2 k hk; have := h.one.low2 k e; have := hb0.size; omega
    a24 := fun k hk e => by have := h2 k hk; have := h.two.low k e; have := hb0.size; omega
    a34 := h.a12 }
end
/-- fates only go -/
theorem fates_next (d : Dk) : d.next.fates.length ≤ d.fates.length := by
  show d.fates.tail.length ≤ _
  rw [List.length_tail]
  omega
theorem fates_create (d : Dk) (s : List UInt8) : (d.create s).2.fates.length ≤ d.fates.length := by
  have := fates_next d
  unfold Dk.create
  repeat' split
  all_goals first | exact Nat.le_refl _ | exact this
theorem fates_append (d : Dk) (s b : List UInt8) : (d.append s b).2.fates.length ≤ d.fates.length := by
  have := fates_next d
  unfold Dk.append
  repeat' split
  all_goals first | exact Nat.le_refl _ | exact this
theorem fates_sync (d : Dk) (s : List UInt8) : (d.sync s).2.fates.length ≤ d.fates.length := by
  have := fates_next d
  unfold Dk.sync
  repeat' split
  all_goals first | exact Nat.le_refl _ | exact this
theorem fates_syncdir (d : Dk) : d.syncdir.2.fates.length ≤ d.fates.length := by
  have := fates_next d
  unfold Dk.syncdir
  repeat' split
  all_goals first | exact Nat.le_refl _ | exact this
theorem fates_cut (d : Dk) (s : List UInt8) (n : Int) : (d.cut s n).2.fates.length ≤ d.fates.length := by
  have := fates_next d
  unfold Dk.cut
  repeat' split
  all_goals first | exact Nat.le_refl _ | exact this
theorem fates_remove (d : Dk) (s : List UInt8) : (d.remove s).2.fates.length ≤ d.fates.length := by
  have := fates_next d
  unfold Dk.remove
  repeat' split
  all_goals first | exact Nat.le_refl _ | exact this
theorem fates_feed (d : Dk) (l : List (Int × Int)) : (d.feed l).2.fates.length ≤ d.fates.length + l.length := by
  unfold Dk.feed
  split
  · show d.fates.length ≤ _
    omega
  · show (d.fates ++ l).length ≤ _
    rw [List.length_append]
    exact Nat.le_refl _
end Go.Proofs.Ytmkjejngnahpeaa
/- The document's disk: Copy. -/
namespace Go.Proofs.Ytmkjejngnahpeaa
open Go Go.Maps Go.RowKit

/-- a row of files is appended to nothing, within a region that draws its order -/
theorem step_rf_nil {w V : World} {ops : Array Oper} {o : Oper} {a : Act} {K : Act → World → Prop} {Q : Exit → Act → World → Prop} {E : Prop}
    (hg : o.guard = none) (x : Operand) (ho : o.op = .call { callee := .builtin .append, args := #[.const (.slice none 0 0), x], argTypes := #[196, 196] })
    {v : Value} {l : List F0} (h : rowAt w 200 5 v l.length (rfCells l)) {n : Nat} (hn : l.length = n) (hb : Below w.heap.size w V) (hm : n ≤ 1000000) (hx : a.eval x = v)
    (hK : ∀ oa c w3, Hid (rowAt w3 200 5 (.slice oa n c) l.length (rfCells l) ∧ Below V.heap.size V w3 ∧ Below w.heap.size w w3 ∧ ∀ k, (Value.slice oa n c).ownBlock = some k → w.heap.size ≤ k ∧ k < w3.heap.size) → K (a.put o.dst (.slice oa n c)) w3) :
    if Region.wanted o (yielded ops a.tmps) = true then Oper.wp Try.prog o a V K Q else E := by
  have hw : Region.wanted o (yielded ops a.tmps) = true := by simp [Region.wanted, hg]
  rw [if_pos hw]
  subst hn
  obtain ⟨i, hi, hz, hsz, hby⟩ := info_parts info_rfile
  obtain ⟨v', w', hrun, r1, r2, r3, r4⟩ := run_append_at (P := Try.prog) V 196 196 o.type 200 i _ 5 48 Try.underlying196 hi hz hsz hby rfl (.slice none 0 0) 0 [] ⟨rfl, .inl ⟨rfl, rfl⟩⟩ v _ (rfCells l) (Src.of_read Try.underlying196 (h.kept (fun k hk => hb.block k (h.lt k hk))).read (rfCells_one l)) (by unfold maxLen; omega) (by omega)
  obtain ⟨oa3, c3, rfl, _⟩ := r1.shape
  rw [Nat.zero_add] at hrun
  have he : a.eval (.const (.slice none 0 0)) = .slice none 0 0 := rfl
  have hb3 : Below V.heap.size V w' := (Below.refl _ _).grown r2 (Nat.le_refl _) (fun k e => by cases e)
  unfold Oper.wp
  simp [execOp, ho, resolve, invoke, builtin, he, hx, hrun, Result.andThen]
  refine hK oa3 c3 w' (Lib.hid ⟨by simpa using r1, hb3, hb.trans (hb3.mono hb.size), fun k hk => ?_⟩)
  have hl := r1.lt k (by rw [Nat.zero_add]; exact hk)
  rcases r3 with e | e
  · rw [Nat.zero_add, hk] at e
    simp [Value.ownBlock] at e
  · rw [Nat.zero_add, hk] at e
    simp only [Option.some.injEq] at e
    have := hb.size
    omega
theorem step_fate_nil {w V : World} {ops : Array Oper} {o : Oper} {a : Act} {K : Act → World → Prop} {Q : Exit → Act → World → Prop} {E : Prop}
    (hg : o.guard = none) (x : Operand) (ho : o.op = .call { callee := .builtin .append, args := #[.const (.slice none 0 0), x], argTypes := #[65, 65] })
    {v : Value} {l : List (Int × Int)} (h : readAt w 2 v l.length (fateCells l)) {n : Nat} (hn : l.length = n) (hb : Below w.heap.size w V) (hm : n ≤ 1000000) (hx : a.eval x = v)
    (hK : ∀ oa c w3, Hid (rowAt w3 99 2 (.slice oa n c) l.length (fateCells l) ∧ Below V.heap.size V w3 ∧ Below w.heap.size w w3 ∧ ∀ k, (Value.slice oa n c).ownBlock = some k → w.heap.size ≤ k ∧ k < w3.heap.size) → K (a.put o.dst (.slice oa n c)) w3) :
    if Region.wanted o (yielded ops a.tmps) = true then Oper.wp Try.prog o a V K Q else E := by
  have hw : Region.wanted o (yielded ops a.tmps) = true := by simp [Region.wanted, hg]
  rw [if_pos hw]
  subst hn
  obtain ⟨i, hi, hz, hsz, hby⟩ := info_parts info_fate
  obtain ⟨v', w', hrun, r1, r2, r3, r4⟩ := run_append_at (P := Try.prog) V 65 65 o.type 99 i _ 2 16 Try.underlying65 hi hz hsz hby rfl (.slice none 0 0) 0 [] ⟨rfl, .inl ⟨rfl, rfl⟩⟩ v _ (fateCells l) (Src.of_read Try.underlying65 (h.kept (fun k hk _ _ => hb.block k hk)) (fateCells_one l)) (by unfold maxLen; omega) (by omega)
  obtain ⟨oa3, c3, rfl, _⟩ := r1.shape
  rw [Nat.zero_add] at hrun
  have he : a.eval (.const (.slice none 0 0)) = .slice none 0 0 := rfl
  have hb3 : Below V.heap.size V w' := (Below.refl _ _).grown r2 (Nat.le_refl _) (fun k e => by cases e)
  unfold Oper.wp
  simp [execOp, ho, resolve, invoke, builtin, he, hx, hrun, Result.andThen]
  refine hK oa3 c3 w' (Lib.hid ⟨by simpa using r1, hb3, hb.trans (hb3.mono hb.size), fun k hk => ?_⟩)
  have hl := r1.lt k (by rw [Nat.zero_add]; exact hk)
  rcases r3 with e | e
  · rw [Nat.zero_add, hk] at e
    simp [Value.ownBlock] at e
  · rw [Nat.zero_add, hk] at e
    simp only [Option.some.injEq] at e
    have := hb.size
    omega
theorem bdrew0 (w : World) : Below w.heap.size w w.drew := ⟨rfl, rfl, rfl, Nat.le_refl _, fun _ _ => rfl⟩
theorem Below.drewR {n : Nat} {a b : World} (h : Below n a b) : Below n a b.drew := ⟨h.os, h.tape, h.output, h.size, h.block⟩
/-- both rows are new: the copy lies there -/
theorem rf_copied {w W X : World} {S : Nat → Prop} {p : Nat} {rv fv : Value} {d : Dk} (h : RfIs w S p rv fv d) {r1 f1 : Value} {n1 n2 : World} (hr : rowAt n1 200 5 r1 d.files.length (rfCells d.files)) (hf : rowAt n2 99 2 f1 d.fates.length (fateCells d.fates))
    (hb1 : Below n1.heap.size n1 W) (hb2 : Below n2.heap.size n2 W) (ho1 : ∀ k, r1.ownBlock = some k → w.heap.size ≤ k ∧ k < n1.heap.size) (ho2 : ∀ k, f1.ownBlock = some k → w.heap.size ≤ k ∧ k < n2.heap.size) (hb : Below w.heap.size w W)
    (hX : X = W.alloc (.cells #[r1, f1, .int .i64 d.steps] 198)) : RfAt X (Can w.heap.size X) W.heap.size d ∧ Below w.heap.size w X := by
  have hbx : Below W.heap.size W X := by rw [hX]; exact (Below.refl _ _).alloc (Nat.le_refl _) _
  have hwx : W.heap.size < X.heap.size := by rw [hX]; simp
  refine ⟨⟨r1, f1, ?_⟩, hb.trans (hbx.mono hb.size)⟩
  exact {
    head := by rw [hX]; exact alloc_cells _ _ _
    files := hr.kept (fun k hk => (hbx.block k (Nat.lt_of_lt_of_le (ho1 k hk).2 hb1.size)).trans (hb1.block k (ho1 k hk).2))
    fates := hf.kept (fun k hk => (hbx.block k (Nat.lt_of_lt_of_le (ho2 k hk).2 hb2.size)).trans (hb2.block k (ho2 k hk).2))
    footp := ⟨hb.size, hwx⟩
    footr := fun k hk => ⟨(ho1 k hk).1, Nat.lt_of_lt_of_le (ho1 k hk).2 (Nat.le_trans hb1.size hbx.size)⟩
    footf := fun k hk => ⟨(ho2 k hk).1, Nat.lt_of_lt_of_le (ho2 k hk).2 (Nat.le_trans hb2.size hbx.size)⟩
    low := fun k hk => hk.2
    sorted := h.sorted
    names := h.names
    sizes := h.sizes
    few := h.few }
set_option maxRecDepth 100000 in
set_option maxHeartbeats 1000000 in
theorem refCopy_b {w : World} {S : Nat → Prop} {p : Nat} {d : Dk} (h : RfAt w S p d) (hfm : d.fates.length ≤ 1000000) :
    Calls Try.prog 54 #[.pointer (some ⟨p, 0, none⟩)] w fun e w' => ∃ b, e = .returned (.pointer (some ⟨b, 0, none⟩)) ∧ RfAt w' (Can w.heap.size w') b d ∧ Below w.heap.size w w' := by
  obtain ⟨rv, fv, h⟩ := h
  obtain ⟨og, cg, rfl, -⟩ := h.files.shape
  obtain ⟨ot, ct, rfl, -⟩ := h.fates.shape
  obtain ⟨N, hN⟩ : ∃ N, d.files.length = N := ⟨_, rfl⟩
  obtain ⟨M, hM⟩ : ∃ M, d.fates.length = M := ⟨_, rfl⟩
  obtain ⟨st, hst⟩ : ∃ s, d.steps = s := ⟨_, rfl⟩
  have hhd := h.head
  have hN4 := h.few
  have H := Lib.hid (And.intro h (And.intro hN (And.intro hM hst)))
  rw [hN, hM, hst] at hhd
  rw [hN] at hN4
  rw [hM] at hfm
  have hlt := (Array.getElem?_eq_some_iff.1 hhd).1
  have HH := Lib.hid (And.intro hhd hlt)
  have HC : Hid (∀ V : World, Below w.heap.size w V → V.cell? ⟨p, 0, none⟩ = some (.slice og N cg) ∧ V.cell? ⟨p, 1, none⟩ = some (.slice ot M ct) ∧ V.cell? ⟨p, 2, none⟩ = some (.int .i64 st)) := Lib.hid (fun V hb => by
    have h1 := (hb.block p HH.out.2).trans HH.out.1
    exact ⟨cell_of h1 rfl, cell_of h1 rfl, cell_of h1 rfl⟩)
  have c0 : w.cell? ⟨p, 0, none⟩ = some (.slice og N cg) := cell_of hhd rfl
  have c1 : w.cell? ⟨p, 1, none⟩ = some (.slice ot M ct) := cell_of hhd rfl
  have c2 : w.cell? ⟨p, 2, none⟩ = some (.int .i64 st) := cell_of hhd rfl
  have d0 : w.drew.cell? ⟨p, 0, none⟩ = some (.slice og N cg) := c0
  have d1 : w.drew.cell? ⟨p, 1, none⟩ = some (.slice ot M ct) := c1
  have d2 : w.drew.cell? ⟨p, 2, none⟩ = some (.int .i64 st) := c2
  clear h hhd hN hM hst hlt
  go_enter Try.func54, Try.ntmps54
  go_upto_region 1 with fail
  go_region_law (first
    | (refine step_rf_nil (w := w) (by rfl) (.tmp 6) (by rfl) H.out.1.files H.out.2.1 (by first | exact Below.refl _ _ | exact bdrew0 w | exact HF.out.2.2.1 | exact Below.drewR HF.out.2.2.1) (by omega) (by rw [← H.out.2.1]; rfl) ?_; intro oa1 ca1 wf HR; obtain ⟨e0, e1, e2⟩ := HC.out wf HR.out.2.2.1; have e0d : wf.drew.cell? ⟨p, 0, none⟩ = some (.slice og N cg) := e0; have e1d : wf.drew.cell? ⟨p, 1, none⟩ = some (.slice ot M ct) := e1; have e2d : wf.drew.cell? ⟨p, 2, none⟩ = some (.int .i64 st) := e2)
    | (refine step_fate_nil (w := w) (by rfl) (.tmp 11) (by rfl) H.out.1.fates.read H.out.2.2.1 (by first | exact Below.refl _ _ | exact bdrew0 w | exact HR.out.2.2.1 | exact Below.drewR HR.out.2.2.1) (by omega) (by rw [← H.out.2.2.1]; rfl) ?_; intro oa2 ca2 wg HF; obtain ⟨f0, f1, f2⟩ := HC.out wg HF.out.2.2.1; have f0d : wg.drew.cell? ⟨p, 0, none⟩ = some (.slice og N cg) := f0; have f1d : wg.drew.cell? ⟨p, 1, none⟩ = some (.slice ot M ct) := f1; have f2d : wg.drew.cell? ⟨p, 2, none⟩ = some (.int .i64 st) := f2))
  all_goals
    clear d0 d1 d2 c0 c1 c2
    go_wp2_with fail
    go_ret
    refine ⟨_, rfl, rf_copied H.out.1 HR.out.1 HF.out.1 ?_ ?_ HR.out.2.2.2 HF.out.2.2.2 ?_ (by rw [H.out.2.2.2])⟩
    · first | exact Below.refl _ _ | exact bdrew0 _ | exact HF.out.2.1 | exact (bdrew0 _).trans HF.out.2.1 | exact Below.drewR HF.out.2.1 | exact Below.drewR ((bdrew0 _).trans HF.out.2.1)
    · first | exact Below.refl _ _ | exact bdrew0 _ | exact HR.out.2.1 | exact (bdrew0 _).trans HR.out.2.1 | exact Below.drewR HR.out.2.1 | exact Below.drewR ((bdrew0 _).trans HR.out.2.1)
    · first | exact HF.out.2.2.1 | exact HR.out.2.2.1 | exact Below.drewR HF.out.2.2.1 | exact Below.drewR HR.out.2.2.1
end Go.Proofs.Ytmkjejngnahpeaa
/- Disk: going over what All tells, in order. -/
namespace Go.Proofs.Ytmkjejngnahpeaa
open Go Go.Maps Go.RowKit Go.Shelf
open Go.Proofs (encStr)
attribute [local go_sem] Oper.semAt_some

set_option maxRecDepth 100000 in
set_option maxHeartbeats 1000000 in
theorem toldIn2 (F : Fence) (n : Nat) (h7 : F.fn 161) (hro : F.round = none) (hn : 1 ≤ n) (l vb : Nat) (w : World) (fs : List F0) (hsq : SeqAt w vb fs) (hfs : fs.length ≤ 1000000) (J Jx : Nat → World → Prop) (W : World) (hW : Below w.heap.size w W)
    (hJ : ∀ j A B, J j A → Below A.heap.size A B → J j B)
    (hY : ∀ j (hj : j < fs.length) W1, J j W1 → YieldAt F (n - 1) Try.prog l #[fileV fs[j]] W1 fun e W' =>
      (e = .returned (.bool true) ∧ J (j + 1) W' ∧ Below w.heap.size W1 W') ∨ (e = .returned (.bool false) ∧ Jx (j + 1) W')) (h0 : J 0 W) :
    CallsIn F n Try.prog 161 #[.func (.yield l) #[] #[], .pointer (some ⟨vb, 0, none⟩)] W fun e W' => (∃ v, e = .returned v) ∧ (J fs.length W' ∨ ∃ j, Jx j W') := by
  obtain ⟨v, hv, hrow⟩ := hsq
  obtain ⟨oa, c, rfl, hnc⟩ := hrow.shape
  obtain ⟨N, hN⟩ : ∃ N, fs.length = N := ⟨_, rfl⟩
  rw [hN] at hv hrow hnc hfs
  have cv : W.cell? ⟨vb, 0, none⟩ = some (.slice oa N c) := cell_of ((hW.block vb (Array.getElem?_eq_some_iff.1 hv).1).trans hv) rfl
  have HR := Lib.hid hrow
  have HN := Lib.hid hN
  have HY := Lib.hid hY
  have HJ := Lib.hid hJ
  have HW := Lib.hid hW
  clear hv hrow hN hY hJ hW
  refine callsIn_of_wp Try.func161 rfl h7 ?_ hro
  simp only [Try.ntmps161, List.size_toArray, List.length_cons, List.length_nil, Nat.reduceAdd, Nat.reduceSub, Array.replicate_succ, Array.replicate_zero, List.push_toArray, List.append_toArray, List.nil_append, List.cons_append]
  gi_wp2
  gi_loopw [7] (fun i wr => ∃ j : Nat, j ≤ N ∧ i = .int .i64 j ∧ J j wr ∧ Below w.heap.size w wr ∧ W.heap.size ≤ wr.heap.size) (fun i wr => N - (intOf i).toNat)
  case atStart => exact ⟨0, Nat.zero_le _, rfl, h0, HW.out, Nat.le_refl _⟩
  case round =>
    obtain ⟨j, hj, rfl, hJs, hbw, hWr⟩ := hrel
    by_cases hlt : j < N
    · have hjf : j < fs.length := by rw [HN.out]; exact hlt
      have hrw := HR.out.kept (fun k hk => hbw.block k (HR.out.lt k hk))
      obtain ⟨g, off, rfl⟩ := hrw.addr (by omega)
      obtain ⟨x, hx⟩ : ∃ x, fs[j] = x := ⟨_, rfl⟩
      have hcell : ∀ i, i < 5 → ∀ u, (fileCells x)[i]? = some u → wr.cell? ⟨g, off + (j * 5 + i), none⟩ = some u := fun i hi u hu => by
        have := hrw.cells (g := g) (off := off) rfl (j * 5 + i) u (by rw [filesCells_get hjf hi, hx, hu])
        simpa [Go.WideShapes.add_plain] using this
      have k0 : wr.cell? ⟨g, off + j * 5, none⟩ = some (encStr x.name) := hcell 0 (by omega) _ rfl
      have k1 : wr.cell? ⟨g, off + j * 5 + 1, none⟩ = some (.int .i64 x.bytes.length) := hcell 1 (by omega) _ rfl
      have k2 : wr.cell? ⟨g, off + j * 5 + 2, none⟩ = some (.int .i64 x.lasts) := hcell 2 (by omega) _ rfl
      have k3 : wr.cell? ⟨g, off + j * 5 + 3, none⟩ = some (.bool x.there) := hcell 3 (by omega) _ rfl
      have k4 : wr.cell? ⟨g, off + j * 5 + 4, none⟩ = some (.bool x.named) := hcell 4 (by omega) _ rfl
      obtain ⟨a0, ha0⟩ : ∃ a : ByteArray, encStr x.name = .string a := ⟨_, rfl⟩
      obtain ⟨a1, ha1⟩ : ∃ a : Int, (x.bytes.length : Int) = a := ⟨_, rfl⟩
      obtain ⟨a2, ha2⟩ : ∃ a : Int, (x.lasts : Int) = a := ⟨_, rfl⟩
      obtain ⟨a3, ha3⟩ : ∃ a, x.there = a := ⟨_, rfl⟩
      obtain ⟨a4, ha4⟩ : ∃ a, x.named = a := ⟨_, rfl⟩
      have HV : Hid (fileV x = .agg #[.string a0, .int .i64 a1, .int .i64 a2, .bool a3, .bool a4]) := Lib.hid (by unfold fileV; rw [ha0, ha1, ha2, ha3, ha4])
      rw [ha0] at k0; rw [ha1] at k1; rw [ha2] at k2; rw [ha3] at k3; rw [ha4] at k4
      have HX := Lib.hid hx
      have HJS := Lib.hid hJs
      have HBW := Lib.hid hbw
      obtain ⟨w2, hw2⟩ : ∃ w2 : World, w2 = wr.alloc (.cells #[.string a0, .int .i64 a1, .int .i64 a2, .bool a3, .bool a4] 78) := ⟨_, rfl⟩
      have hg2 : wr.grownBy w2 none := by rw [hw2]; exact World.grownBy_alloc _ _ _
      have hJ2 : J j w2 := HJ.out j wr w2 hJs (below_grown hg2)
      obtain ⟨fn, tmps, assign, body, hy, hR⟩ := HY.out j hjf w2 hJ2
      rw [hx, HV.out] at hy
      have HRD := Lib.hid hR
      have HB2 : Hid (Below w.heap.size w w2 ∧ W.heap.size ≤ w2.heap.size) := Lib.hid ⟨hbw.trans ((below_grown hg2).mono hbw.size), Nat.le_trans hWr hg2.size⟩
      clear hcell hrw hx hJs hbw ha0 ha1 ha2 ha3 ha4 hJ2 hg2 hR HJS
      subst hw2
      gi_wp2
      refine HRD.out.mono ?_
      rintro e W3 (⟨rfl, hJ3, hk3⟩ | ⟨rfl, hJx3⟩)
      · have HJ3 : Hid (J (j + 1) W3) := Lib.hid hJ3
        have HB3 : Hid (Below w.heap.size w W3 ∧ W.heap.size ≤ W3.heap.size) := Lib.hid ⟨HB2.out.1.trans hk3, Nat.le_trans HB2.out.2 hk3.size⟩
        clear hJ3 hk3
        gi_wp2
        exact ⟨⟨j + 1, by omega, by simp, HJ3.out, HB3.out.1, HB3.out.2⟩, by simp [intOf]; omega⟩
      · have HX3 : Hid (Jx (j + 1) W3) := Lib.hid hJx3
        clear hJx3
        gi_wp2
        refine bodyPost_ret (results_none rfl _ _ _) rfl ?_
        exact ⟨⟨_, rfl⟩, .inr ⟨j + 1, HX3.out⟩⟩
    · obtain rfl : j = N := by omega
      have HE : Hid (J fs.length wr) := Lib.hid (by rw [HN.out]; exact hJs)
      clear hJs
      gi_wp2
      go_end0
      exact ⟨⟨_, rfl⟩, .inl HE.out⟩
def encF (x : F0) : Array Value := #[fileV x]
/-- **going over what All tells: the next one is the next file** -/
theorem values_told (n : Nat) (hn : 1 ≤ n) (vb : Nat) (w : World) (fs : List F0) (hsq : SeqAt w vb fs) (hfs : fs.length ≤ 1000000) :
    SeqTold Fence.wide n Try.prog 161 #[.pointer (some ⟨vb, 0, none⟩)] encF (fun _ _ pre x _ => fs[pre.length]? = some x) (fun xs => xs = fs) (fun pre => pre.length ≤ fs.length) fs.length w := fun l J Jx W hW hs hJ hJx hY => by
  refine (toldIn2 Fence.wide n trivial rfl hn l vb w fs hsq hfs (fun j V => J (fun _ => False) (fs.take j) V ∧ W.heap.size ≤ V.heap.size) (fun j V => Jx (fun _ => False) (fs.take j) V ∧ j ≤ fs.length) W hW (fun j A B h hb => ⟨hJ _ _ A B h.1 (Only.of_below hb (Nat.le_refl _) _), Nat.le_trans h.2 hb.size⟩) (fun j hj W1 h1 => ?_) ⟨by
    have := hs (fun _ => False) W (Below.refl _ _) (fun _ hf => hf.elim)
    simpa using this, Nat.le_refl _⟩).mono ?_
  · have hl : (fs.take j).length = j := by rw [List.length_take]; omega
    have hgv : fs[(fs.take j).length]? = some fs[j] := by rw [hl]; exact List.getElem?_eq_getElem hj
    refine (hY (fun _ => False) (fs.take j) fs[j] W1 W1 (fun _ hf => hf.elim) h1.1 (Only.refl _ _) h1.2 hgv (by rw [hl]; exact hj)).mono (fun e W' hr => ?_)
    rw [← List.take_succ_eq_append_getElem hj] at hr
    rcases hr with ⟨h2, h3, h4⟩ | ⟨h2, h3, h4⟩
    · exact .inl ⟨h2, ⟨h3, Nat.le_trans h1.2 h4.size⟩, h4.below (fun i hi h => by have := h.1; omega) (by have := hW.size; have := h1.2; omega)⟩
    · exact .inr ⟨h2, h3, by omega⟩
  · rintro e W' ⟨he, ⟨h, -⟩ | ⟨j, h, hj⟩⟩
    · exact ⟨he, .inl ⟨_, _, rfl, by rwa [List.take_length] at h⟩⟩
    · exact ⟨he, .inr ⟨_, _, (by show (fs.take j).length ≤ fs.length; rw [List.length_take]; omega), h⟩⟩
end Go.Proofs.Ytmkjejngnahpeaa
/- The document's Tell; equal files compare equal. -/
namespace Go.Proofs.Ytmkjejngnahpeaa
open Go Go.Maps Go.RowKit

set_option maxRecDepth 100000 in
theorem refTell_b (a0 a1 : ByteArray) (la : Int) (b c : Bool) (W : World) : Calls Try.prog 131 #[.agg #[.string a0, .string a1, .int .i64 la, .bool b, .bool c]] W fun e w' => e = .returned (.agg #[.string a0, .int .i64 (a1.size : Int), .int .i64 la, .bool b, .bool c]) ∧ Below W.heap.size W w' := by
  obtain ⟨w1, hw1⟩ : ∃ V : World, V = (W.alloc (.cells #[.string a0, .string a1, .int .i64 la, .bool b, .bool c] 200)).alloc (.cells #[.string ⟨#[]⟩, .int .i64 0, .int .i64 0, .bool false, .bool false] 78) := ⟨_, rfl⟩
  obtain ⟨b2, hb2⟩ : ∃ b, b = W.heap.size := ⟨_, rfl⟩
  obtain ⟨r, hr⟩ : ∃ b, b = W.heap.size + 1 := ⟨_, rfl⟩
  have h1 : w1.heap[b2]? = some (.cells #[.string a0, .string a1, .int .i64 la, .bool b, .bool c] 200 (0, 0)) := by
    rw [hw1, hb2]
    exact (Below.heap_alloc _ _ _ (by simp)).trans (alloc_cells _ _ _)
  have hr1 : w1.heap[r]? = some (.cells #[.string ⟨#[]⟩, .int .i64 0, .int .i64 0, .bool false, .bool false] 78 (0, 0)) := by
    rw [hw1, hr]
    have := alloc_cells (W.alloc (.cells #[.string a0, .string a1, .int .i64 la, .bool b, .bool c] 200)) #[.string ⟨#[]⟩, .int .i64 0, .int .i64 0, .bool false, .bool false] 78
    rwa [World.size_alloc] at this
  have hb1 : Below W.heap.size W w1 := by rw [hw1]; exact ((Below.refl _ _).alloc (Nat.le_refl _) _).alloc (by simp) _
  have r0 : w1.cell? ⟨r, 0, none⟩ = some (.string ⟨#[]⟩) := cell_of hr1 rfl
  have z0 : w1.frozen? ⟨r, 0, none⟩ = false := free_of hr1 _
  have r1 : w1.cell? ⟨r, 1, none⟩ = some (.int .i64 0) := cell_of hr1 rfl
  have z1 : w1.frozen? ⟨r, 1, none⟩ = false := free_of hr1 _
  have r2 : w1.cell? ⟨r, 2, none⟩ = some (.int .i64 0) := cell_of hr1 rfl
  have z2 : w1.frozen? ⟨r, 2, none⟩ = false := free_of hr1 _
  have r3 : w1.cell? ⟨r, 3, none⟩ = some (.bool false) := cell_of hr1 rfl
  have z3 : w1.frozen? ⟨r, 3, none⟩ = false := free_of hr1 _
  have r4 : w1.cell? ⟨r, 4, none⟩ = some (.bool false) := cell_of hr1 rfl
  have z4 : w1.frozen? ⟨r, 4, none⟩ = false := free_of hr1 _
  have HR1 := Lib.hid (And.intro hr1 hr)
  have y0 : w1.cell? ⟨b2, 0, none⟩ = some (.string a0) := cell_of h1 rfl
  have y1 : w1.cell? ⟨b2, 1, none⟩ = some (.string a1) := cell_of h1 rfl
  have y2 : w1.cell? ⟨b2, 2, none⟩ = some (.int .i64 la) := cell_of h1 rfl
  have y3 : w1.cell? ⟨b2, 3, none⟩ = some (.bool b) := cell_of h1 rfl
  have y4 : w1.cell? ⟨b2, 4, none⟩ = some (.bool c) := cell_of h1 rfl
  have HB := Lib.hid hb1
  clear h1 hb1 hr1
  go_enter Try.func131, Try.ntmps131
  go_upto_region 1 with fail
  rw [← hw1, ← hr, ← hb2]
  clear hw1 hb2 hr
  go_wp2_with fail
  obtain ⟨w2, hw2⟩ : ∃ w2 : World, w2 = (((((w1.setCell ⟨r, 0, none⟩ (.string a0)).setCell ⟨r, 1, none⟩ (.int .i64 (a1.size : Int))).setCell ⟨r, 2, none⟩ (.int .i64 la)).setCell ⟨r, 3, none⟩ (.bool b)).setCell ⟨r, 4, none⟩ (.bool c)) := ⟨_, rfl⟩
  have hr2 : w2.heap[r]? = some (.cells #[.string a0, .int .i64 (a1.size : Int), .int .i64 la, .bool b, .bool c] 78 (0, 0)) := by
    rw [hw2]; exact heap_setCell_here _ (heap_setCell_here _ (heap_setCell_here _ (heap_setCell_here _ (heap_setCell_here _ HR1.out.1))))
  have hlo : W.heap.size ≤ r := by have := HR1.out.2; omega
  have hb2 : Below W.heap.size W w2 := by
    rw [hw2]
    exact ((((HB.out.setCell (p := ⟨r, 0, none⟩) hlo _).setCell (p := ⟨r, 1, none⟩) hlo _).setCell (p := ⟨r, 2, none⟩) hlo _).setCell (p := ⟨r, 3, none⟩) hlo _).setCell (p := ⟨r, 4, none⟩) hlo _
  try rw [← hw2]
  have s0 : w2.cell? ⟨r, 0, none⟩ = some (.string a0) := cell_of hr2 rfl
  have s1 : w2.cell? ⟨r, 1, none⟩ = some (.int .i64 (a1.size : Int)) := cell_of hr2 rfl
  have s2 : w2.cell? ⟨r, 2, none⟩ = some (.int .i64 la) := cell_of hr2 rfl
  have s3 : w2.cell? ⟨r, 3, none⟩ = some (.bool b) := cell_of hr2 rfl
  have s4 : w2.cell? ⟨r, 4, none⟩ = some (.bool c) := cell_of hr2 rfl
  have HB2 := Lib.hid hb2
  clear hw2 hr2 hb2 hlo r0 r1 r2 r3 r4 z0 z1 z2 z3 z4 y0 y1 y2 y3 y4
  first | rw [Exit.noGoto_ret] | skip
  exact bodyPost_ret (v := .agg #[.string a0, .int .i64 (a1.size : Int), .int .i64 la, .bool b, .bool c]) (by simp [results, Try.results131, go_sem, s0, s1, s2, s3, s4]) rfl ⟨rfl, HB2.out⟩
theorem cl_file : Try.prog.cellsOf 78 = 5 := by kernel_rfl
theorem cl_str : Try.prog.cellsOf 9 = 1 := by kernel_rfl
theorem cl_int : Try.prog.cellsOf 3 = 1 := by kernel_rfl
theorem cl_bool : Try.prog.cellsOf 4 = 1 := by kernel_rfl
theorem k_str (a : ByteArray) (hs : a.size ≤ maxLen) : Try.prog.keyLits 9 9 [.string a] = some [.string a.data.toList] := by
  unfold Program.keyLits
  rw [Try.underlying9]
  exact if_pos hs
theorem k_int (a : Int) (hs : (Lit.int .i64 a).wf = true) : Try.prog.keyLits 9 3 [.int .i64 a] = some [.int .i64 a] := by
  unfold Program.keyLits
  rw [Try.underlying3]
  exact if_pos ⟨rfl, hs⟩
theorem k_bool (a : Bool) : Try.prog.keyLits 9 4 [.bool a] = some [.bool a] := by
  unfold Program.keyLits
  rw [Try.underlying4]
theorem file_key (a0 : ByteArray) (a1 a2 : Int) (a3 a4 : Bool) (hs : a0.size ≤ maxLen) (h1 : (Lit.int .i64 a1).wf = true) (h2 : (Lit.int .i64 a2).wf = true) : Try.prog.keyLits 10 78 [.string a0, .int .i64 a1, .int .i64 a2, .bool a3, .bool a4] = some [.string a0.data.toList, .int .i64 a1, .int .i64 a2, .bool a3, .bool a4] := by
  obtain ⟨K, hK⟩ : ∃ K, Try.prog.keyLits 9 = K := ⟨_, rfl⟩
  have e1 := k_str a0 hs
  have e2 := k_int a1 h1
  have e3 := k_int a2 h2
  have e4 := k_bool a3
  have e5 := k_bool a4
  rw [hK] at e1 e2 e3 e4 e5
  unfold Program.keyLits
  rw [Try.underlying78, hK]
  dsimp only
  rw [if_pos ⟨by rw [cl_file]; rfl, by kernel_rfl⟩]
  simp only [List.mapM_cons, List.mapM_nil, cl_str, cl_int, cl_bool, List.drop_zero, List.drop_succ_cons, List.take_succ_cons, List.take_zero, e1, e2, e3, e4, e5]
  rfl
theorem file_eq (a0 : ByteArray) (a1 a2 : Int) (a3 a4 : Bool) (hs : a0.size ≤ maxLen) (h1 : (Lit.int .i64 a1).wf = true) (h2 : (Lit.int .i64 a2).wf = true) (W : World) : (Op.equal 78 (.agg #[.string a0, .int .i64 a1, .int .i64 a2, .bool a3, .bool a4]) (.agg #[.string a0, .int .i64 a1, .int .i64 a2, .bool a3, .bool a4])).run Try.prog W = .ok true W := by
  obtain ⟨r, g1, g2⟩ := run_equalIn_deep (P := Try.prog) 9995 5 78 (by kernel_rfl) W 10 10 (.agg #[.string a0, .int .i64 a1, .int .i64 a2, .bool a3, .bool a4]) (.agg #[.string a0, .int .i64 a1, .int .i64 a2, .bool a3, .bool a4]) _ _ (by kernel_rfl) (by kernel_rfl) (file_key a0 a1 a2 a3 a4 hs h1 h2) (file_key a0 a1 a2 a3 a4 hs h1 h2)
  obtain rfl := g2.2 rfl
  exact g1
end Go.Proofs.Ytmkjejngnahpeaa
/- The document's disk: Same. -/
namespace Go.Proofs.Ytmkjejngnahpeaa
open Go Go.Maps Go.RowKit
open Go.Proofs (encStr)

theorem cl_rfile : Try.prog.cellsOf 200 = 5 := by kernel_rfl
theorem rfile_key (a0 a1 : ByteArray) (a2 : Int) (a3 a4 : Bool) (h0 : a0.size ≤ maxLen) (h1 : a1.size ≤ maxLen) (h2 : (Lit.int .i64 a2).wf = true) : Try.prog.keyLits 10 200 [.string a0, .string a1, .int .i64 a2, .bool a3, .bool a4] = some [.string a0.data.toList, .string a1.data.toList, .int .i64 a2, .bool a3, .bool a4] := by
  obtain ⟨K, hK⟩ : ∃ K, Try.prog.keyLits 9 = K := ⟨_, rfl⟩
  have e1 := k_str a0 h0
  have e2 := k_str a1 h1
  have e3 := k_int a2 h2
  have e4 := k_bool a3
  have e5 := k_bool a4
  rw [hK] at e1 e2 e3 e4 e5
  unfold Program.keyLits
  rw [Try.underlying200, hK]
  dsimp only
  rw [if_pos ⟨by rw [cl_rfile]; rfl, by kernel_rfl⟩]
  simp only [List.mapM_cons, List.mapM_nil, cl_str, cl_int, cl_bool, List.drop_zero, List.drop_succ_cons, List.take_succ_cons, List.take_zero, e1, e2, e3, e4, e5]
  rfl
/-- two files compare as they are -/
theorem rfile_ne (f g : F0) (a0 a1 b0 b1 : ByteArray) (ha0 : a0 = ⟨f.name.toArray⟩) (ha1 : a1 = ⟨f.bytes.toArray⟩) (hb0 : b0 = ⟨g.name.toArray⟩) (hb1 : b1 = ⟨g.bytes.toArray⟩) (z0 : a0.size ≤ maxLen) (z1 : a1.size ≤ maxLen) (z2 : b0.size ≤ maxLen) (z3 : b1.size ≤ maxLen) (w1 : (Lit.int .i64 (f.lasts : Int)).wf = true) (w2 : (Lit.int .i64 (g.lasts : Int)).wf = true) (W : World) :
    (binOp .neq 200 (.agg #[.string a0, .string a1, .int .i64 (f.lasts : Int), .bool f.there, .bool f.named]) (.agg #[.string b0, .string b1, .int .i64 (g.lasts : Int), .bool g.there, .bool g.named])).run Try.prog W = .ok (.bool (!decide (f = g))) W := by
  obtain ⟨r, g1, g2⟩ := run_equalIn_deep (P := Try.prog) 9995 5 200 (by kernel_rfl) W 10 10 (.agg #[.string a0, .string a1, .int .i64 (f.lasts : Int), .bool f.there, .bool f.named]) (.agg #[.string b0, .string b1, .int .i64 (g.lasts : Int), .bool g.there, .bool g.named]) _ _ (by kernel_rfl) (by kernel_rfl) (rfile_key a0 a1 _ _ _ z0 z1 w1) (rfile_key b0 b1 _ _ _ z2 z3 w2)
  have g3 : (Op.equal 200 (.agg #[.string a0, .string a1, .int .i64 (f.lasts : Int), .bool f.there, .bool f.named]) (.agg #[.string b0, .string b1, .int .i64 (g.lasts : Int), .bool g.there, .bool g.named])).run Try.prog W = .ok r W := g1
  have hr : r = decide (f = g) := by
    rw [Bool.eq_iff_iff, decide_eq_true_iff, g2]
    subst ha0 ha1 hb0 hb1
    obtain ⟨fn, fb, fl, ft, fm⟩ := f
    obtain ⟨gn, gb, gl, gt, gm⟩ := g
    simp
    intros
    omega
  simp [binOp, go_sem, g3, hr]
theorem name_len {l : List UInt8} (h : nameOk l = true) : l.length ≤ 32 := by
  unfold nameOk at h
  simp only [Bool.and_eq_true, decide_eq_true_eq] at h
  omega
theorem wf_lasts {f : F0} (h : f.lasts ≤ f.bytes.length ∧ f.bytes.length ≤ 16777216) : (Lit.int .i64 (f.lasts : Int)).wf = true := by
  have e1 : IntKind.i64.min = -9223372036854775808 := by decide
  have e2 : IntKind.i64.max = 9223372036854775807 := by decide
  simp only [Lit.wf, Bool.and_eq_true, decide_eq_true_eq]
  omega
set_option maxRecDepth 100000 in
set_option maxHeartbeats 1000000 in
theorem refSame_b {w : World} {S1 S2 : Nat → Prop} {p1 p2 : Nat} {a b : Dk} (h1 : RfAt w S1 p1 a) (h2 : RfAt w S2 p2 b) :
    Calls Try.prog 68 #[.pointer (some ⟨p1, 0, none⟩), .pointer (some ⟨p2, 0, none⟩)] w fun e w' => e = .returned (.bool (decide (a.files = b.files))) ∧ Below w.heap.size w w' := by
  obtain ⟨rv1, fv1, h1⟩ := h1
  obtain ⟨rv2, fv2, h2⟩ := h2
  obtain ⟨o1, c1, rfl, -⟩ := h1.files.shape
  obtain ⟨o2, c2, rfl, -⟩ := h2.files.shape
  obtain ⟨N, hN⟩ : ∃ N, a.files.length = N := ⟨_, rfl⟩
  obtain ⟨M, hM⟩ : ∃ M, b.files.length = M := ⟨_, rfl⟩
  have hd1 := h1.head
  have hd2 := h2.head
  have hr1 := h1.files
  have hr2 := h2.files
  have hN4 := h1.few
  have hM4 := h2.few
  rw [hN] at hd1 hr1 hN4
  rw [hM] at hd2 hr2 hM4
  have k1 : w.cell? ⟨p1, 0, none⟩ = some (.slice o1 N c1) := cell_of hd1 rfl
  have k2 : w.cell? ⟨p2, 0, none⟩ = some (.slice o2 M c2) := cell_of hd2 rfl
  have H := Lib.hid (And.intro hd1 (And.intro hd2 (And.intro hr1 (And.intro hr2 (And.intro hN (And.intro hM (And.intro h1 h2)))))))
  clear h1 h2 hd1 hd2 hr1 hr2 hN hM
  go_enter Try.func68, Try.ntmps68
  by_cases hNM : N = M
  · subst hNM
    go_wp2_with fail
    go_quiet (fail)
    go_wp2_with fail
    go_loopw [5] (fun s5 wr => ∃ t : Nat, s5 = .int .i64 (t : Int) ∧ t ≤ N ∧ Hid (Below w.heap.size w wr ∧ a.files.take t = b.files.take t)) (fun s5 _ => N - (intOf s5).toNat)
    case atStart => exact ⟨0, rfl, Nat.zero_le _, Lib.hid ⟨⟨rfl, rfl, rfl, Nat.le_refl _, fun _ _ => rfl⟩, rfl⟩⟩
    case round =>
      obtain ⟨t, rfl, ht, HR⟩ := hrel
      have hbw := HR.out.1
      have g1 := cell_of ((hbw.block p1 (Array.getElem?_eq_some_iff.1 H.out.1).1).trans H.out.1) (rfl : (#[Value.slice o1 N c1, fv1, .int .i64 a.steps] : Array Value)[0]? = some (.slice o1 N c1))
      have g2 := cell_of ((hbw.block p2 (Array.getElem?_eq_some_iff.1 H.out.2.1).1).trans H.out.2.1) (rfl : (#[Value.slice o2 N c2, fv2, .int .i64 b.steps] : Array Value)[0]? = some (.slice o2 N c2))
      by_cases hlt : t < N
      · have hr1 := H.out.2.2.1.kept (fun k hk => hbw.block k (H.out.2.2.1.lt k hk))
        have hr2 := H.out.2.2.2.1.kept (fun k hk => hbw.block k (H.out.2.2.2.1.lt k hk))
        have hi1 : t < a.files.length := by rw [H.out.2.2.2.2.1]; exact hlt
        have hi2 : t < b.files.length := by rw [H.out.2.2.2.2.2.1]; exact hlt
        obtain ⟨u1, f1, rfl⟩ := hr1.addr (by omega)
        obtain ⟨u2, f2, rfl⟩ := hr2.addr (by omega)
        obtain ⟨x, hx⟩ : ∃ x, a.files[t] = x := ⟨_, rfl⟩
        obtain ⟨y, hy⟩ : ∃ y, b.files[t] = y := ⟨_, rfl⟩
        obtain ⟨x0, hx0⟩ : ∃ z : ByteArray, z = ⟨x.name.toArray⟩ := ⟨_, rfl⟩
        obtain ⟨x1, hx1⟩ : ∃ z : ByteArray, z = ⟨x.bytes.toArray⟩ := ⟨_, rfl⟩
        obtain ⟨y0, hy0⟩ : ∃ z : ByteArray, z = ⟨y.name.toArray⟩ := ⟨_, rfl⟩
        obtain ⟨y1, hy1⟩ : ∃ z : ByteArray, z = ⟨y.bytes.toArray⟩ := ⟨_, rfl⟩
        have A0 : wr.cell? ⟨u1, f1 + t * 5 + 0, none⟩ = some (.string x0) := rf_cell (i := 0) hr1 hi1 (by omega) (by rw [hx, hx0]; rfl)
        have A1 : wr.cell? ⟨u1, f1 + t * 5 + 1, none⟩ = some (.string x1) := rf_cell (i := 1) hr1 hi1 (by omega) (by rw [hx, hx1]; rfl)
        have A2 : wr.cell? ⟨u1, f1 + t * 5 + 2, none⟩ = some (.int .i64 (x.lasts : Int)) := rf_cell (i := 2) hr1 hi1 (by omega) (by rw [hx]; rfl)
        have A3 : wr.cell? ⟨u1, f1 + t * 5 + 3, none⟩ = some (.bool x.there) := rf_cell (i := 3) hr1 hi1 (by omega) (by rw [hx]; rfl)
        have A4 : wr.cell? ⟨u1, f1 + t * 5 + 4, none⟩ = some (.bool x.named) := rf_cell (i := 4) hr1 hi1 (by omega) (by rw [hx]; rfl)
        have B0 : wr.cell? ⟨u2, f2 + t * 5 + 0, none⟩ = some (.string y0) := rf_cell (i := 0) hr2 hi2 (by omega) (by rw [hy, hy0]; rfl)
        have B1 : wr.cell? ⟨u2, f2 + t * 5 + 1, none⟩ = some (.string y1) := rf_cell (i := 1) hr2 hi2 (by omega) (by rw [hy, hy1]; rfl)
        have B2 : wr.cell? ⟨u2, f2 + t * 5 + 2, none⟩ = some (.int .i64 (y.lasts : Int)) := rf_cell (i := 2) hr2 hi2 (by omega) (by rw [hy]; rfl)
        have B3 : wr.cell? ⟨u2, f2 + t * 5 + 3, none⟩ = some (.bool y.there) := rf_cell (i := 3) hr2 hi2 (by omega) (by rw [hy]; rfl)
        have B4 : wr.cell? ⟨u2, f2 + t * 5 + 4, none⟩ = some (.bool y.named) := rf_cell (i := 4) hr2 hi2 (by omega) (by rw [hy]; rfl)
        rw [Nat.add_zero] at A0 B0
        have hm1 : x ∈ a.files := by rw [← hx]; exact List.getElem_mem hi1
        have hm2 : y ∈ b.files := by rw [← hy]; exact List.getElem_mem hi2
        have hz1 := H.out.2.2.2.2.2.2.1.sizes x hm1
        have hz2 := H.out.2.2.2.2.2.2.2.sizes y hm2
        have hn1 := name_len (H.out.2.2.2.2.2.2.1.names x hm1)
        have hn2 := name_len (H.out.2.2.2.2.2.2.2.names y hm2)
        have hne := fun W => rfile_ne x y x0 x1 y0 y1 hx0 hx1 hy0 hy1 (by rw [hx0]; show x.name.toArray.size ≤ maxLen; unfold maxLen; simp; omega) (by rw [hx1]; show x.bytes.toArray.size ≤ maxLen; unfold maxLen; simp; omega) (by rw [hy0]; show y.name.toArray.size ≤ maxLen; unfold maxLen; simp; omega) (by rw [hy1]; show y.bytes.toArray.size ≤ maxLen; unfold maxLen; simp; omega) (wf_lasts hz1) (wf_lasts hz2) W
        have HX : Hid (∃ (_ : t < a.files.length) (_ : t < b.files.length), a.files[t] = x ∧ b.files[t] = y) := Lib.hid ⟨hi1, hi2, hx, hy⟩
        obtain ⟨eq, heq⟩ : ∃ e, decide (x = y) = e := ⟨_, rfl⟩
        rw [heq] at hne
        have HEQ := Lib.hid heq
        clear hbw hr1 hr2 hi1 hi2 hx hy hx0 hx1 hy0 hy1 hm1 hm2 hz1 hz2 hn1 hn2 heq
        cases eq
        · go_wp2_with fail
          go_quiet (fail)
          go_wp2_with fail
          go_ret
          refine ⟨ret_bool (decide_eq_false (fun e => ?_)).symm, HR.out.1.trans ⟨rfl, rfl, rfl, Nat.le_refl _, fun _ _ => rfl⟩⟩
          obtain ⟨i1, i2, e1, e2⟩ := HX.out
          have : x = y := by rw [← e1, ← e2]; simp only [e]
          have h3 := HEQ.out
          rw [decide_eq_true this] at h3
          cases h3
        · go_wp2_with fail
          go_quiet (fail)
          go_wp2_with fail
          refine ⟨⟨t + 1, by simp, by omega, Lib.hid ⟨HR.out.1.trans ⟨rfl, rfl, rfl, Nat.le_refl _, fun _ _ => rfl⟩, ?_⟩⟩, by simp [intOf]; omega⟩
          obtain ⟨i1, i2, e1, e2⟩ := HX.out
          rw [List.take_succ_eq_append_getElem i1, List.take_succ_eq_append_getElem i2, HR.out.2, e1, e2, of_decide_eq_true HEQ.out]
      · obtain rfl : N = t := by omega
        clear hbw
        go_wp2_with fail
        go_ret
        refine ⟨ret_bool (decide_eq_true ?_).symm, HR.out.1⟩
        have h3 := HR.out.2
        rwa [List.take_of_length_le (by rw [H.out.2.2.2.2.1]; exact Nat.le_refl _), List.take_of_length_le (by rw [H.out.2.2.2.2.2.1]; exact Nat.le_refl _)] at h3
  · have hE : Hid (decide (a.files = b.files) = false) := Lib.hid (decide_eq_false (fun e => hNM (by rw [← H.out.2.2.2.2.1, ← H.out.2.2.2.2.2.1, e])))
    have hb : ((N : Int) != (M : Int)) = true := by rw [bne_iff_ne]; omega
    go_wp2_with fail
    go_quiet (fail)
    go_wp2_with fail
    go_ret
    exact ⟨ret_bool hE.out.symm, ⟨rfl, rfl, rfl, Nat.le_refl _, fun _ _ => rfl⟩⟩
end Go.Proofs.Ytmkjejngnahpeaa
/- The document's disk: Names. -/
namespace Go.Proofs.Ytmkjejngnahpeaa
open Go Go.Maps Go.RowKit
open Go.Proofs (encStr)

theorem info_strR : (Try.prog.info? 9).map (fun i => (i.zero, i.size, i.bytes)) = some (some (.string ⟨#[]⟩), 1, 16) := by kernel_rfl
theorem str_row (w : World) (a : Value) : rowAt (w.alloc (.cells #[a] 9)) 9 1 (.slice (some ⟨w.heap.size, 0, none⟩) 1 1) 1 [a] :=
  ⟨rfl, .inr ⟨_, 0, 1, _, _, rfl, alloc_cells _ _ _, Nat.le_refl _, by unfold maxLen; omega, by simp, freeRow_zero _, rfl⟩⟩
theorem wpList_append_str {w2 : World} {ops : Array Oper} {rest : List Oper} {o : Oper} {a : Act} {Q : Exit → Act → World → Prop} (hgd : o.guard = none) (s x : Operand)
    (ho : o.op = .call { callee := .builtin .append, args := #[s, x], argTypes := #[94, 94] })
    {oa : Option Addr} {m c : Nat} {xs : List Value} {nm : ByteArray} (h : rowAt w2 9 1 (.slice oa m c) m xs) (hm : m ≤ 1000000)
    (hs : a.eval s = .slice oa m c) (hx : a.eval x = .slice (some ⟨w2.heap.size, 0, none⟩) 1 1)
    (hK : ∀ oa3 c3 w3, Hid (rowAt w3 9 1 (.slice oa3 (m + 1) c3) (m + 1) (xs ++ [.string nm])) → Hid ((w2.alloc (.cells #[.string nm] 9)).grownBy w3 (Value.slice oa m c).ownBlock) →
      Hid ((Value.slice oa3 (m + 1) c3).ownBlock = (Value.slice oa m c).ownBlock ∨ (Value.slice oa3 (m + 1) c3).ownBlock = some (w2.heap.size + 1)) → wpList Try.prog ops Q rest (a.put o.dst (.slice oa3 (m + 1) c3)) w3) :
    wpList Try.prog ops Q (o :: rest) a (w2.alloc (.cells #[.string nm] 9)) := by
  refine wpList_append_at _ hgd s x 94 94 ho 9 (.string ⟨#[]⟩) 1 16 Try.underlying94 info_strR rfl _ m xs hs (h.kept (fun k hk => Below.heap_alloc _ _ k (h.lt k hk))) _ 1 _ hx (Src.of_row Try.underlying94 (str_row w2 (.string nm)) (fun v hv => by rw [List.mem_singleton] at hv; subst hv; rfl)) (by unfold maxLen; omega) (by omega) ?_
  intro v' w3 hr hg hown _
  obtain ⟨oa3, c3, rfl, _⟩ := hr.shape
  exact hK oa3 c3 w3 (Lib.hid hr) (Lib.hid hg) (Lib.hid (by simpa using hown))
/-- the names among the first files -/
def namesTo (l : List F0) (t : Nat) : List Value := ((l.take t).filter (·.there)).map fun f => encStr f.name
theorem namesTo_succ {l : List F0} {t : Nat} (h : t < l.length) : namesTo l (t + 1) = if l[t].there then namesTo l t ++ [encStr l[t].name] else namesTo l t := by
  unfold namesTo
  rw [List.take_succ_eq_append_getElem h, List.filter_append, List.map_append]
  cases hb : l[t].there <;> simp [hb]
set_option maxRecDepth 100000 in
set_option maxHeartbeats 1000000 in
theorem refNames_b {w : World} {S : Nat → Prop} {p : Nat} {d : Dk} (h : RfAt w S p d) :
    Calls Try.prog 132 #[.pointer (some ⟨p, 0, none⟩)] w fun e w' => ∃ v, e = .returned v ∧ rowAt w' 9 1 v d.names.length (d.names.map encStr) ∧ (∀ k, v.ownBlock = some k → w.heap.size ≤ k) ∧ Below w.heap.size w w' := by
  obtain ⟨rv, fv, h⟩ := h
  obtain ⟨oa, c, rfl, hnc⟩ := h.files.shape
  obtain ⟨N, hN⟩ : ∃ N, d.files.length = N := ⟨_, rfl⟩
  have hN4 : N ≤ 4096 := by rw [← hN]; exact h.few
  have hrow := h.files
  have hhd := h.head
  rw [hN] at hrow hhd
  have H := Lib.hid (And.intro h (And.intro hrow (And.intro hhd hN)))
  clear h hrow hhd hnc hN
  go_enter Try.func132, Try.ntmps132
  go_wp2_with fail
  go_loopw [3, 4] (fun s3 s4 wr => ∃ (t k : Nat) (oz : Option Addr) (cz : Nat), s4 = .int .i64 (t : Int) ∧ s3 = .slice oz k cz ∧ t ≤ N ∧ k ≤ t ∧ Hid (rowAt wr 9 1 (.slice oz k cz) k (namesTo d.files t) ∧ (∀ j, (Value.slice oz k cz).ownBlock = some j → w.heap.size ≤ j) ∧ Below w.heap.size w wr)) (fun _ s4 _ => N - (intOf s4).toNat)
  case atStart => exact ⟨0, 0, none, 0, rfl, rfl, Nat.zero_le _, Nat.le_refl _, Lib.hid ⟨⟨rfl, .inl ⟨rfl, rfl⟩⟩, fun j hj => by simp [Value.ownBlock] at hj, Below.refl _ _⟩⟩
  case round =>
    obtain ⟨t, k, oz, cz, rfl, rfl, ht, hkt, HR⟩ := hrel
    have hbw := HR.out.2.2
    have hlow := fun k hk => hbw.block k (H.out.1.low k hk)
    have c0 : wr.cell? ⟨p, 0, none⟩ = some (.slice oa N c) := cell_of ((hlow p H.out.1.footp).trans H.out.2.2.1) rfl
    by_cases hlt : t < N
    · have hi : t < d.files.length := by rw [H.out.2.2.2]; exact hlt
      have hrow := H.out.2.1.kept (fun k hk => hlow k (H.out.1.footr k (by rw [H.out.2.2.2]; exact hk)))
      obtain ⟨g, off, rfl⟩ := hrow.addr (by omega)
      obtain ⟨x, hx⟩ : ∃ x, d.files[t] = x := ⟨_, rfl⟩
      obtain ⟨nm, hnm⟩ : ∃ a : ByteArray, a = ⟨x.name.toArray⟩ := ⟨_, rfl⟩
      obtain ⟨th, hth⟩ : ∃ a, a = x.there := ⟨_, rfl⟩
      have k0 : wr.cell? ⟨g, off + t * 5 + 0, none⟩ = some (.string nm) := rf_cell (i := 0) hrow hi (by omega) (by rw [hx, hnm]; rfl)
      rw [Nat.add_zero] at k0
      have k3 : wr.cell? ⟨g, off + t * 5 + 3, none⟩ = some (.bool th) := rf_cell (i := 3) hrow hi (by omega) (by rw [hx, hth]; rfl)
      have hs := namesTo_succ hi
      rw [hx, ← hth, show encStr x.name = .string nm by rw [hnm]; try rfl] at hs
      have HS := Lib.hid hs
      clear hbw hlow hrow hx hnm hth hs
      cases th
      · go_wp2_with fail
        exact ⟨⟨t + 1, k, oz, cz, by simp, rfl, by omega, by omega, Lib.hid ⟨by rw [HS.out]; exact HR.out.1, HR.out.2⟩⟩, by simp [intOf]; omega⟩
      · go_wp2_with (at_builtin; refine wpList_append_str rfl (.tmp 22) (.tmp 31) rfl HR.out.1 (by omega) (by rfl) (by rfl) ?_; intro oa3 c3 w3 HR3 HG3 HO3)
        refine ⟨⟨t + 1, k + 1, oa3, c3, by simp, rfl, by omega, by omega, Lib.hid ⟨by rw [HS.out]; exact HR3.out, fun j hj => ?_, ?_⟩⟩, by simp [intOf]; omega⟩
        · have := HR.out.2.2.size
          rcases HO3.out with e | e
          · exact HR.out.2.1 j (by rw [← e]; exact hj)
          · rw [hj] at e
            simp only [Option.some.injEq] at e
            omega
        · exact (HR.out.2.2.alloc HR.out.2.2.size _).grown HG3.out (by have := HR.out.2.2.size; simp; omega) (fun j hj => HR.out.2.1 j hj)
    · obtain rfl : N = t := by omega
      clear hbw hlow
      go_wp2_with fail
      go_ret
      have e : namesTo d.files N = d.names.map encStr := by
        unfold namesTo Dk.names
        rw [← H.out.2.2.2, List.take_length, List.map_map]
        rfl
      have hk : k = d.names.length := by
        have := HR.out.1.1
        rw [e, List.length_map] at this
        omega
      rw [← hk, ← e]
      exact ⟨_, rfl, HR.out⟩
end Go.Proofs.Ytmkjejngnahpeaa
/- The document's disk: Read. -/
namespace Go.Proofs.Ytmkjejngnahpeaa
open Go Go.Maps Go.RowKit
open Go.Proofs (encStr)

theorem run_str_sub {P : Program} {t : TypeId} (h : P.underlying t = some .string) (s : ByteArray) (a e : Nat) (ha : a ≤ e) (he : e ≤ s.size) (W : World) : (Instr.slice t (.string s) (some (.int .i64 (a : Int))) (some (.int .i64 (e : Int))) none).run P W = .ok (.string (s.extract a e)) W := by
  simp [Instr.slice, Instr.sliceBounds, Instr.sliceBound, asIntOf, run_underlying h, ha, he]
theorem extract_sub (l : List UInt8) (a e : Nat) : ((⟨l.toArray⟩ : ByteArray).extract a e).data.toList = (l.drop a).take (e - a) := by
  simp [ByteArray.data_extract]
set_option maxRecDepth 100000 in
set_option maxHeartbeats 1000000 in
theorem refRead_b {w : World} {S : Nat → Prop} {p : Nat} {d : Dk} (h : RfAt w S p d) (nm : ByteArray) (hs : nm.size ≤ maxLen) (a n : Int) (ha : a ≤ 9223372036854775807) (hn63 : n ≤ 9223372036854775807) :
    Calls Try.prog 61 #[.pointer (some ⟨p, 0, none⟩), .string nm, .int .i64 a, .int .i64 n] w fun e w' => ReadIs w (d.read nm.data.toList a n) e w' := by
  obtain ⟨rv, fv, h⟩ := h
  obtain ⟨s, hss⟩ : ∃ s, nm.data.toList = s := ⟨_, rfl⟩
  have H := Lib.hid h
  have HSS := Lib.hid hss
  clear h
  go_enter Try.func61, Try.ntmps61
  go_wp2_with fail
  refine (refFind_b H.out nm hs).mono ?_
  rintro e w' ⟨hF, hw'⟩
  obtain rfl := hw'.symm
  rw [hss] at hF
  clear hss
  rcases hF with ⟨hn, rfl⟩ | ⟨hn, hf, rfl⟩ | ⟨hn, i, hi, hxn, hxt, hf, rfl⟩
  · have HE : Hid (ReadIs w (d.read s a n) (.returned (.tuple #[.slice none 0 0, .int .i64 2])) w) := Lib.hid (by
      rw [show d.read s a n = ([], 2) by simp [Dk.read, hn]]
      exact ReadIs.none w 2)
    clear hn
    go_wp2_with fail
    exact bodyPost_ret (v := .tuple #[.slice none 0 0, .int .i64 2]) (by simp [results, Try.results61, go_sem]) rfl (by rw [HSS.out]; exact HE.out)
  · have HE : Hid (ReadIs w (d.read s a n) (.returned (.tuple #[.slice none 0 0, .int .i64 171])) w) := Lib.hid (by
      rw [show d.read s a n = ([], 171) by simp [Dk.read, hn, hf]]
      exact ReadIs.none w 171)
    clear hn hf
    go_wp2_with fail
    exact bodyPost_ret (v := .tuple #[.slice none 0 0, .int .i64 171]) (by simp [results, Try.results61, go_sem]) rfl (by rw [HSS.out]; exact HE.out)
  · obtain ⟨oa, c, rfl, hnc⟩ := H.out.files.shape
    obtain ⟨N, hN⟩ : ∃ N, d.files.length = N := ⟨_, rfl⟩
    obtain ⟨x, hx⟩ : ∃ x, d.files[i] = x := ⟨_, rfl⟩
    have hrow := H.out.files
    rw [hN] at hrow
    have hiN : i < N := by omega
    obtain ⟨g, off, rfl⟩ := hrow.addr (by omega)
    obtain ⟨bs, hbs⟩ : ∃ a : ByteArray, a = ⟨x.bytes.toArray⟩ := ⟨_, rfl⟩
    have hbl : bs.size = x.bytes.length := by rw [hbs]; simp [ByteArray.size]
    have hsz := (H.out.sizes x (by rw [← hx]; exact List.getElem_mem hi)).2
    have c0 : w.cell? ⟨p, 0, none⟩ = some (.slice (some ⟨g, off, none⟩) N c) := cell_of H.out.head (by rw [← hN]; rfl)
    have k1 : w.cell? ⟨g, off + i * 5 + 1, none⟩ = some (.string bs) := rf_cell (i := 1) hrow hi (by omega) (by rw [hx, hbs]; rfl)
    have hbz : bs.size ≤ 16777216 := by omega
    have hbad : (a < 0 ∨ (bs.size : Int) < a ∨ n < 0) → Hid (ReadIs w (d.read s a n) (.returned (.tuple #[.slice none 0 0, .int .i64 4])) w) := fun hb => Lib.hid (by
      rw [show d.read s a n = ([], 4) by
        unfold Dk.read
        rw [if_neg (by rw [hn]; simp), hf, hx]
        exact if_pos (by rw [← hbl]; exact hb)]
      exact ReadIs.none w 4)
    have hgood : ¬ (a < 0 ∨ (bs.size : Int) < a ∨ n < 0) → d.read s a n = ((x.bytes.drop a.toNat).take (min n.toNat (x.bytes.length - a.toNat)), 0) := fun hb => by
      unfold Dk.read
      rw [if_neg (by rw [hn]; simp), hf, hx]
      exact if_neg (by rw [← hbl]; exact hb)
    have HX := Lib.hid (And.intro hbad (And.intro hgood (And.intro hbs hbl)))
    clear hn hxn hxt hf hx hbs hbl hN hrow hnc hsz hbad hgood
    by_cases hneg : a < 0
    · have dn : decide (a < 0) = true := decide_eq_true hneg
      have HE := HX.out.1 (.inl hneg)
      clear hneg
      go_wp2_with fail
      exact bodyPost_ret (v := .tuple #[.slice none 0 0, .int .i64 4]) (by simp [results, Try.results61, go_sem]) rfl (by rw [HSS.out]; exact HE.out)
    have dn : decide (a < 0) = false := decide_eq_false hneg
    by_cases hbig : (bs.size : Int) < a
    · have db : decide ((bs.size : Int) < a) = true := decide_eq_true hbig
      have HE := HX.out.1 (.inr (.inl hbig))
      clear hbig hneg
      go_wp2_with fail
      exact bodyPost_ret (v := .tuple #[.slice none 0 0, .int .i64 4]) (by simp [results, Try.results61, go_sem]) rfl (by rw [HSS.out]; exact HE.out)
    have db : decide ((bs.size : Int) < a) = false := decide_eq_false hbig
    by_cases hnn : n < 0
    · have dz : decide (n < 0) = true := decide_eq_true hnn
      have HE := HX.out.1 (.inr (.inr hnn))
      clear hbig hneg hnn
      go_wp2_with fail
      exact bodyPost_ret (v := .tuple #[.slice none 0 0, .int .i64 4]) (by simp [results, Try.results61, go_sem]) rfl (by rw [HSS.out]; exact HE.out)
    have HG := Lib.hid (HX.out.2.1 (by omega))
    obtain ⟨A, rfl⟩ : ∃ m : Nat, a = (m : Int) := ⟨a.toNat, by omega⟩
    obtain ⟨M, rfl⟩ : ∃ m : Nat, n = (m : Int) := ⟨n.toNat, by omega⟩
    have hA : A ≤ bs.size := by omega
    obtain ⟨E, hE⟩ : ∃ E, E = A + min M (bs.size - A) := ⟨_, rfl⟩
    have hEb : A ≤ E ∧ E ≤ bs.size := by omega
    obtain ⟨v, w2, hrun, hrw, hgr, hob, -⟩ := run_bytes_row (P := Try.prog) w 0 9 79 5 (bs.extract A E) Try.underlying9 Try.underlying79 Try.underlying5 (Nat.zero_le _) (by unfold maxLen; simp [ByteArray.size_extract]; omega)
    have hsl : ∀ W : World, (Instr.slice 9 (.string bs) (some (.int .i64 (A : Int))) (some (.int .i64 (E : Int))) none).run Try.prog W = .ok (.string (bs.extract A E)) W := run_str_sub Try.underlying9 bs A E hEb.1 hEb.2
    have e1 : IntKind.i64.wrap ((bs.size : Int) - (A : Int)) = ((bs.size - A : Nat) : Int) := by rw [IntWalk.i64_in _ (by omega)]; omega
    have e2 : min (M : Int) ((bs.size - A : Nat) : Int) = ((min M (bs.size - A) : Nat) : Int) := by omega
    have e3 : IntKind.i64.wrap ((A : Int) + ((min M (bs.size - A) : Nat) : Int)) = (E : Int) := by rw [IntWalk.i64_in _ (by omega)]; omega
    have db2 : decide (bs.size < A) = false := decide_eq_false (by omega)
    have dn2 : decide ((A : Int) < 0) = false := decide_eq_false (by omega)
    have dz2 : decide ((M : Int) < 0) = false := decide_eq_false (by omega)
    have hlen : (bs.extract A E).size = (bs.extract A E).data.toList.length := (Array.length_toList).symm
    rw [hlen] at hrw
    have hdt : (bs.extract A E).data.toList = (x.bytes.drop A).take (min M (x.bytes.length - A)) := by
      rw [HX.out.2.2.1, extract_sub, hE, ← HX.out.2.2.2]
      congr 1
      omega
    rw [hdt] at hrw
    have HE : Hid (ReadIs w (d.read s (A : Int) (M : Int)) (.returned (.tuple #[v, .int .i64 0])) w2) := Lib.hid (by
      rw [HG.out]
      exact ⟨v, rfl, rowAt.of_row hrw, fun k hk => by rw [hob] at hk; cases hk; exact Nat.le_refl _, (Below.refl _ _).grown hgr (Nat.le_refl _) (fun k e => by cases e)⟩)
    clear hE hEb hrw hgr hob hlen hdt dn db
    go_wp2_with fail
    exact bodyPost_ret (v := .tuple #[v, .int .i64 0]) (by simp [results, Try.results61, go_sem]) rfl (by rw [HSS.out]; exact HE.out)
end Go.Proofs.Ytmkjejngnahpeaa
/- Marks of ranges over functions, any number of them: how a frame that has some leaves. -/
namespace Go.Proofs.Ytmkjejngnahpeaa
open Go Go.RowKit

/-- the mark that a range over a function leaves among the deferred calls -/
def markD (k : Nat) : Deferred := { target := .collected k, args := #[] }
/-- the blocks of marks lie there, untouched -/
def MarksAt (W : World) (ks : List Nat) : Prop := ks.Nodup ∧ ∀ k ∈ ks, W.heap[k]? = some (.deferred (some []))
theorem MarksAt.nil {W : World} : MarksAt W [] := ⟨List.nodup_nil, fun _ hk => by cases hk⟩
theorem MarksAt.lt {W : World} {ks : List Nat} (h : MarksAt W ks) : ∀ k ∈ ks, k < W.heap.size := fun k hk => (Array.getElem?_eq_some_iff.1 (h.2 k hk)).1
theorem MarksAt.kept {W W' : World} {ks : List Nat} {X : Nat → Prop} (h : MarksAt W ks) (ho : Only X W W') (hX : ∀ k ∈ ks, ¬ X k) : MarksAt W' ks :=
  ⟨h.1, fun k hk => (ho.block k (h.lt k hk) (hX k hk)).trans (h.2 k hk)⟩
theorem MarksAt.below {W W' : World} {ks : List Nat} (h : MarksAt W ks) (hb : Below W.heap.size W W') : MarksAt W' ks :=
  ⟨h.1, fun k hk => (hb.block k (h.lt k hk)).trans (h.2 k hk)⟩
theorem MarksAt.cons {W' : World} {ks : List Nat} {k : Nat} (h : MarksAt W' ks) (hk : W'.heap[k]? = some (.deferred (some []))) (hlt : ∀ j ∈ ks, j < k) : MarksAt W' (k :: ks) :=
  ⟨List.nodup_cons.2 ⟨fun hm => Nat.lt_irrefl _ (hlt k hm), h.1⟩, fun j hj => by
    rcases List.mem_cons.1 hj with rfl | hj
    · exact hk
    · exact h.2 j hj⟩
/-- a store into a cell leaves the marks -/
theorem MarksAt.setCell {W : World} {ks : List Nat} (h : MarksAt W ks) (p : Addr) (v : Value) : MarksAt (W.setCell p v) ks :=
  ⟨h.1, fun k hk => (KeepsOthers.setCell W p v).same k _ (h.2 k hk) rfl⟩
/-- all marks are unwound -/
theorem leaves_marks {F : Fence} {n : Nat} {P : Program} {fn : Func} {tmps : Array Value} {R : Ending → World → Prop} : ∀ (ks : List Nat) (W : World), MarksAt W ks →
    (∀ W', Only (fun k => k ∈ ks) W W' → (∃ v, (results fn tmps).run P W' = .ok v W' ∧ R (.returned v) W')) → LeavesInM F n P fn tmps R (ks.map markD) .returning W
  | [], W, _, h => h W (Only.refl _ _)
  | k :: ks, W, hm, h => by
    have hk := hm.2 k (List.mem_cons_self ..)
    have hnd := List.nodup_cons.1 hm.1
    refine ⟨by simp, .inl ⟨k, W.putObj k (.deferred none), rfl, run_takeDeferred hk, leaves_marks ks _ ⟨hnd.2, fun j hj => ?_⟩ (fun W' ho => h W' ((only_put _ W k _ (List.mem_cons_self ..)).trans ho (fun j _ hj => List.mem_cons_of_mem _ hj)))⟩⟩
    have hne : j ≠ k := fun e => hnd.1 (e ▸ hj)
    exact (World.putObj_heap_other hne).trans (hm.2 j (List.mem_cons_of_mem _ hj))
end Go.Proofs.Ytmkjejngnahpeaa
/- A region that draws its order and only reads, inside a round of a range over a function. -/
namespace Go.Proofs.Ytmkjejngnahpeaa
open Go

def noDefer (o : Oper) : Bool := match o.op with | .defer _ => false | _ => true
theorem noDefer_spec {o : Oper} (h : noDefer o = true) : ∀ c, o.op ≠ .defer c := fun c e => by
  unfold noDefer at h
  rw [e] at h
  cases h
section
variable {F : Fence} {n : Nat} {P : Program} {ops : Array Oper} {md : Region.Mode} {C : World → Prop}
theorem wpIn_of_quiet_nd {o : Oper} {a : Act} {K : Act → Prop} {K' : Act → World → Prop} {Q' : Exit → Act → World → Prop} {w : World} (hnd : ∀ c, o.op ≠ .defer c) (hw : C w) (h : ∀ a w', C w' → K a → K' a w')
    (ha : o.askedIn F P a C) (hh : o.quietIn F n P a C K) : o.wpIn F n P a w K' Q' := by
  obtain ⟨v, h1, h2⟩ := hh
  have h3 := h1 w hw
  unfold Oper.quietAtIn at h3
  unfold Oper.wpIn
  refine ⟨ha w hw, ?_⟩
  rw [Oper.semAt_eq F.round _ _ hnd]
  generalize (execOp a.eval o).run P w = r at *
  cases r with
  | ok x w' =>
    cases x <;> simp only [Oper.quietUponIn] at h3 <;> simp only [Oper.uponIn]
    case value u =>
      obtain ⟨e1, e2⟩ := h3
      rw [e1, e2]
      exact h _ _ hw h2
    case skip =>
      obtain ⟨e1, e2⟩ := h3
      rw [e1, ← e2]
      exact h _ _ hw h2
    case enter f args =>
      obtain ⟨e1, hd, hc⟩ := h3
      rw [e1]
      exact ⟨hd, hc.mono fun e w'' ⟨he, hw''⟩ => by subst he; exact h _ _ hw'' h2⟩
  | halt x w' => simp only [Oper.quietUponIn] at h3
theorem wpOpIn_of_qOpIn_nd {i : Nat} {a : Act} {K : Act → Prop} {K' : Act → World → Prop} {Q' : Exit → Act → World → Prop} {w : World} (hnd : ∀ o ∈ ops, noDefer o = true) (hC : C w) (h : ∀ a w', C w' → K a → K' a w')
    (hh : qOpIn F n P ops C i K a) : wpOpIn F n P ops Q' i K' a w := by
  unfold qOpIn at hh
  unfold wpOpIn
  split
  · rename_i ho; simp only [ho] at hh; exact h _ _ hC hh
  · rename_i o ho
    simp only [ho] at hh
    obtain ⟨ha, hh⟩ := hh
    split
    · rename_i hw; simp only [hw, if_true] at hh; exact wpIn_of_quiet_nd (noDefer_spec (hnd o (Array.mem_of_getElem? ho))) hC h ha hh
    · rename_i hw; simp only [hw] at hh; exact ⟨ha w hC, h _ _ hC hh⟩
theorem wpAnyIn_of_quiet_nd {Q : Act → Prop} {Q' : Exit → Act → World → Prop} (hnd : ∀ o ∈ ops, noDefer o = true) (hQ : ∀ a w, C w → Q a → Q' .normal a w) : ∀ (fuel : Nat) (listed : Array Bool) (a : Act) (w : World), C w →
    wpAnyQIn F n P md ops C Q fuel listed a → wpAnyIn F n P md ops Q' fuel listed a w
  | 0, _, _, _, hw, h => ⟨h.1, hQ _ _ hw h.2⟩
  | fuel + 1, _, _, _, hw, h => ⟨fun h0 => hQ _ _ hw (h.1 h0), fun i hi => wpOpIn_of_qOpIn_nd hnd hw (fun a' w' hw' => wpAnyIn_of_quiet_nd hnd hQ fuel _ a' w' hw') (h.2 i hi)⟩
/-- one walk of the lexical order serves every order, in a round too, where no operation defers -/
theorem wpIn_region_quiet_nd {id : Nat} {Q : Exit → Act → World → Prop} {a : Act} {w : World} {l : List Oper} (hnd : l.all noDefer = true) (hm : P.follows .mixedOrders = true) (hB : Region.lexB .any l.toArray = true)
    (h : wpQuietIn F n P l.toArray (fun w' => ∃ n, w' = w.drewN n) (fun a' => ∀ w', (∃ n, w' = w.drewN n) → Q .normal a' w') l a) : (Code.region id l.toArray true).wpIn F n P Q a w := by
  simp only [Region.lexB, Bool.and_eq_true] at hB
  refine wpIn_region_any hm (wpAnyIn_of_quiet_nd (C := fun w' => ∃ n, w' = w.drewN n) (Q := fun a' => ∀ w', (∃ n, w' = w.drewN n) → Q .normal a' w') (fun o ho => List.all_eq_true.1 hnd o (by simpa using ho)) (fun _ w' hw' h => h w' hw') _ _ _ _ ⟨1, rfl⟩ ?_)
  have := wpAnyQIn_lex (F := F) (n := n) (C := fun w' => ∃ n, w' = w.drewN n) (md := .any) hB.1 l.toArray.toList 0 (Array.replicate l.toArray.size false) a (by simp) (by simpa using hB.2) (by simpa using h)
  simpa using this
end
end Go.Proofs.Ytmkjejngnahpeaa
/- Kit: a scope through which the run goes without a goto, in fenced words. -/
namespace Go

section
variable {F : Fence} {n : Nat} {P : Program} {b : Frame} {a : Act} {k : List Item} {cs : List Frame} {w : World} {Q : Exit → Act → World → Prop}
theorem stepR_scope {c : Code} : step P (lone (b.atR a (.code (.scope c) :: k)) cs w) = .next (lone (b.atR a (.code c :: .inScope c :: k)) cs w) :=
  step_lone_go (by simp [stepG, stepG.exec, Frame.atR])
theorem stepR_inScope {c : Code} : step P (lone (b.atR a (.inScope c :: k)) cs w) = .next (lone (b.atR a k) cs w) :=
  step_lone_go (by simp [stepG, stepG.exec, Frame.atR])
theorem wpIn_scope {c : Code} (h : c.wpIn F n P (Exit.noGoto Q) a w) : (Code.scope c).wpIn F n P Q a w := by
  intro b k cs hro hb hr
  have h0 : (lone (b.atR a (.code (.scope c) :: k)) cs w).fenced P F := fenced_calm hb hr rfl
  obtain ⟨e, a₁, w₁, hq, harr⟩ := h b (.inScope c :: k) cs hro hb hr
  cases e with
  | normal => exact ⟨.normal, a₁, w₁, hq, .head h0 stepR_scope (StepsIn.trans harr (.one (fenced_calm hb hr rfl) stepR_inScope))⟩
  | exit id' =>
    have hx : exitTo id' (.inScope c :: k) = exitTo id' k := by simp [exitTo]
    exact ⟨.exit id', a₁, w₁, hq, fun k' hk => .head h0 stepR_scope (harr.1 k' (by rw [hx]; exact hk)),
      fun hr' hk => let ⟨k₁, h1, h2⟩ := harr.2 hr' (by rw [hx]; exact hk); ⟨k₁, h1, .head h0 stepR_scope h2⟩⟩
  | goto l => exact hq.elim
  | ret => exact ⟨_, a₁, w₁, hq, .of_steps (.one h0 stepR_scope) harr⟩
  | panic ch => exact ⟨_, a₁, w₁, hq, .of_steps (.one h0 stepR_scope) harr⟩
  | outgrown => exact ⟨_, a₁, w₁, hq, .of_steps (.one h0 stepR_scope) harr⟩
/-- a statement that is left at its end alone -/
theorem wp_onlyR {P : Program} {c : Code} {K : Act → World → Prop} {Q' : Exit → Act → World → Prop} {a : Act} {w : World} (h : c.wp P (Exit.then K (fun _ _ _ => False)) a w) : c.wp P (Exit.then K Q') a w :=
  (wpIn_wide (n := 1)).1 (wpIn_mono (wpIn_wide.2 h) (fun e _ _ hq => by
    cases e with
    | normal => exact hq
    | exit id => exact hq.elim
    | goto l => exact hq.elim
    | ret => exact hq.elim
    | panic ch => exact hq.elim
    | outgrown => exact hq.elim))
end
end Go
