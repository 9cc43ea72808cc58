/- The texts Mv in one. -/
import Derived.Test.YtlgcoaeddeiegaaGreatV5
import Derived.Test.YtlgcoaeddeiegaaGreatV2
import Derived.Test.YtlgcoaeddeiegaaGreatV3
/- segment: Append. -/
namespace Go.Proofs.YtlgcoaeddeiegaaGreat
open Go Go.RowKit
attribute [local go_sem] Oper.semAt_some

theorem put_good {base : Int} {l : List Rc} (h : (putT base l).2 = 0) : GoodB base l ∧ putT base l = (batchT base l, 0) := by
  unfold putT at h ⊢
  split at h
  · cases h
  · rename_i h1
    split at h
    · rename_i h2
      exact absurd h h2
    · rename_i h2
      have h2' : (fitsT l).2 = 0 := by simpa using h2
      rw [if_neg h1, if_neg h2]
      refine ⟨?_, rfl⟩
      have h3 : putOk base l = true := by simpa using h1
      unfold putOk at h3
      simp only [Bool.not_eq_true', Bool.or_eq_false_iff, decide_eq_false_iff_not] at h3
      unfold fitsT at h2'
      split at h2'
      · cases h2'
      · rename_i g1
        split at h2'
        · cases h2'
        · rename_i g2
          split at h2'
          · cases h2'
          · rename_i g3
            split at h2'
            · cases h2'
            · rename_i g4
              exact ⟨g1, fun r hr => by
                cases ho : r.ok with
                | true => rfl
                | false => exact absurd (List.any_eq_true.2 ⟨r, hr, by rw [ho]; rfl⟩) g2, by omega, by omega, by omega, by omega⟩
theorem turnL_find (t : F0 → F0) (s : List UInt8) (ht : ∀ f, (t f).name = f.name) : ∀ l : List F0, (l.map fun f => if f.name = s then t f else f).find? (fun f => f.name == s) = (l.find? (fun f => f.name == s)).map t
  | [] => rfl
  | g :: r => by
    rw [List.map_cons, List.find?_cons, List.find?_cons]
    by_cases hg : g.name = s
    · rw [if_pos hg, show ((t g).name == s) = true by rw [ht, hg]; exact beq_self_eq_true s, show (g.name == s) = true by rw [hg]; exact beq_self_eq_true s]
      rfl
    · rw [if_neg hg, show (g.name == s) = false from beq_eq_false_iff_ne.2 hg]
      exact turnL_find t s ht r
theorem append_none {d : Dk} {s b : List UInt8} (h : (d.append s b).1 = 0) {f : F0} (hf : d.find s = some f) : b.length + f.bytes.length ≤ 16777216 ∧ ∃ g, (d.append s b).2.find s = some g ∧ g.bytes = f.bytes ++ b := by
  unfold Dk.append at h ⊢
  rw [hf] at h ⊢
  split at h
  · cases h
  · rename_i h1
    rw [if_neg h1]
    dsimp only at h ⊢
    split at h
    · cases h
    · rename_i h2
      rw [if_neg h2]
      dsimp only at h ⊢
      refine ⟨by omega, { f with bytes := f.bytes ++ b }, ?_, rfl⟩
      rw [h]
      simp only [if_true]
      unfold Dk.find Dk.at at hf ⊢
      obtain ⟨hg, hgt⟩ := Option.filter_eq_some_iff.1 hf
      have hk := turnL_find (fun f => { f with bytes := f.bytes ++ b }) s (fun _ => rfl) d.files
      rw [hg] at hk
      show Option.filter _ (List.find? _ (d.files.map _)) = _
      rw [hk]
      show Option.filter _ (some _) = _
      rw [Option.filter_some]
      exact if_pos hgt
theorem bats_many : ∀ bs : List Bat, (∀ b ∈ bs, GoodB b.1 b.2) → 32 * bs.length ≤ (batsT bs).length
  | [], _ => by simp
  | b :: r, h => by
    have h1 := bats_many r (fun c hc => h c (List.mem_cons_of_mem _ hc))
    have h2 := (h b (List.mem_cons_self ..)).pos.2
    have e : batsT (b :: r) = batchT b.1 b.2 ++ batsT r := rfl
    rw [e, List.length_append, batchT_len, List.length_cons]
    omega
theorem DiskAt.onlyS {w w' : World} {S T : Nat → Prop} {q : Nat} {d : Dk} (h : DiskAt w S q d) (ho : Only T w w') (hT : ∀ k, S k → ¬ T k) : DiskAt w' S q d := by
  obtain ⟨mb, fv, L, h⟩ := h
  exact ⟨mb, fv, L, h.only ho hT⟩
theorem append_end {w W3 w4 W4 w5 w8 : World} {S : Nat → Prop} {s x q : Nat} {nm : ByteArray} {bn step : Nat} {sv sv' : Value} {sp sp' : List Sp} {bs : List Bat} {b : Bat} {d d' : Dk}
    (h : SegI w S s x q nm bn step sv sp bs d) (h3 : w.heap.size ≤ W3.heap.size) (hd : DiskAt w4 (Wid S W3 w4) q d') (ho : Only S w w4) (h4 : Below w4.heap.size w4 W4)
    (hix : IdxI w5 x step sv' sp') (ho5 : Only (fun k => k = x ∨ sv.ownBlock = some k) W4 w5) (hov : ∀ k, sv'.ownBlock = some k → sv.ownBlock = some k ∨ W4.heap.size ≤ k) (ho8 : Only (fun k => k = s) w5 w8)
    (hs8 : w8.heap[s]? = some (.cells #[.int .i64 ((bs ++ [b]).length : Int), .int .i64 ((bn + cntT (bs ++ [b]) : Nat) : Int), .int .i64 ((batsT (bs ++ [b])).length : Int), .int .i64 0, .pointer (some ⟨q, 0, none⟩), .string nm, .int .i64 (bn : Int), .pointer (some ⟨x, 0, none⟩)] 250 (0, 0)))
    (hsp : SpotsOk bn (bs ++ [b]) sp') (hch : Chain bn (bs ++ [b])) (hf : ∃ f, d'.find nm.data.toList = some f ∧ f.bytes = batsT (bs ++ [b])) :
    ∃ S' sv' sp', (∀ k, S' k → Wid S w w8 k) ∧ (∀ k, sv'.ownBlock = some k → sv.ownBlock = some k ∨ w.heap.size ≤ k) ∧ SegI w8 S' s x q nm bn step sv' sp' (bs ++ [b]) d' ∧
      Only (fun k => S k ∨ k = s ∨ k = x ∨ sv.ownBlock = some k) w w8 := by
  have hsl := (Array.getElem?_eq_some_iff.1 h.head).1
  have hxl := (Array.getElem?_eq_some_iff.1 h.idx.head).1
  have hvl := h.idx.row.lt
  have h04 := ho.size
  have h45 := h4.size
  have h48 : w4.heap.size ≤ w8.heap.size := Nat.le_trans h45 (Nat.le_trans ho5.size ho8.size)
  have nS : ∀ k, k < w.heap.size → ¬ S k → ¬ Wid S W3 w4 k := fun k hk hn hw => by
    rcases hw with hw | hw
    · exact hn hw
    · omega
  have hvS : ∀ k, sv.ownBlock = some k → ¬ Wid S W3 w4 k := fun k hk => nS k (hvl k hk) (h.vS k hk)
  have hlow : ∀ k, Wid S W3 w4 k → k < w4.heap.size := hd.lowS
  have hv's : ∀ k, sv'.ownBlock = some k → k ≠ s ∧ k ≠ x := fun k hk => by
    rcases hov k hk with e | e
    · exact h.sv k e
    · omega
  refine ⟨Wid S W3 w4, sv', sp', fun k hk => ?_, fun k hk => ?_, ?_, ?_⟩
  · rcases hk with hk | hk
    · exact .inl hk
    · exact .inr ⟨by omega, by omega⟩
  · rcases hov k hk with e | e
    · exact .inl e
    · exact .inr (by omega)
  · exact {
      head := hs8
      idx := ⟨(ho8.block x (Array.getElem?_eq_some_iff.1 hix.head).1 (fun e => h.sx e.symm)).trans hix.head, hix.row.kept (fun k hk => ho8.block k (hix.row.lt k hk) (fun e => (hv's k hk).1 e))⟩
      spots := hsp
      chain := hch
      disk := by
        have h1 := (hd.belowS h4).onlyS ho5 (fun k hk e => by
          rcases e with e | e
          · exact nS x hxl h.xS (e ▸ hk)
          · exact hvS k e hk)
        exact h1.onlyS ho8 (fun k hk e => nS s hsl h.sS (e ▸ hk))
      file := hf
      sS := nS s hsl h.sS
      xS := nS x hxl h.xS
      vS := fun k hk hw => by
        rcases hov k hk with e | e
        · exact hvS k e hw
        · have := hlow k hw
          omega
      sx := h.sx
      sv := hv's
      stp := h.stp
      off := h.off
      nms := h.nms }
  · refine (((ho.mono (fun _ _ hk => .inl hk)).trans (Only.of_below h4 (Nat.le_refl _) (fun k => S k ∨ k = s ∨ k = x ∨ sv.ownBlock = some k)) (fun _ _ hk => hk)).trans ho5 (fun _ _ hk => ?_)).trans ho8 (fun _ _ hk => .inr (.inl hk))
    rcases hk with hk | hk
    · exact .inr (.inr (.inl hk))
    · exact .inr (.inr (.inr hk))
def AppS (w : World) (S : Nat → Prop) (s x q : Nat) (nm : ByteArray) (bn step : Nat) (sv : Value) (bs : List Bat) (d : Dk) (base : Int) (l : List Rc) (e : Ending) (w' : World) : Prop :=
  ((putT base l).2 ≠ 0 ∧ e = .returned (.int .i64 (putT base l).2) ∧ Below w.heap.size w w') ∨
  ((putT base l).2 = 0 ∧ base ≠ ((bn + cntT bs : Nat) : Int) ∧ e = .returned (.int .i64 4) ∧ Below w.heap.size w w') ∨
  ((putT base l).2 = 0 ∧ base = ((bn + cntT bs : Nat) : Int) ∧ (d.append nm.data.toList (batchT base l)).1 ≠ 0 ∧ e = .returned (.int .i64 (d.append nm.data.toList (batchT base l)).1) ∧
    DiskAt w' (Wid S w w') q (d.append nm.data.toList (batchT base l)).2 ∧ Only S w w') ∨
  ((putT base l).2 = 0 ∧ base = ((bn + cntT bs : Nat) : Int) ∧ (d.append nm.data.toList (batchT base l)).1 = 0 ∧ e = .returned (.int .i64 0) ∧
    ∃ S' sv' sp', (∀ k, S' k → Wid S w w' k) ∧ (∀ k, sv'.ownBlock = some k → sv.ownBlock = some k ∨ w.heap.size ≤ k) ∧ SegI w' S' s x q nm bn step sv' sp' (bs ++ [(base, l)]) (d.append nm.data.toList (batchT base l)).2 ∧
    Only (fun k => S k ∨ k = s ∨ k = x ∨ sv.ownBlock = some k) w w')
set_option maxRecDepth 100000 in
set_option maxHeartbeats 4000000 in
theorem appendSeg_b {w : World} {S : Nat → Prop} {s x q : Nat} {nm : ByteArray} {bn step : Nat} {sv : Value} {sp : List Sp} {bs : List Bat} {d : Dk} (h : SegI w S s x q nm bn step sv sp bs d)
    {base : Int} {oa : Option Addr} {n c : Nat} {l : List Rc} (hl : RecsAt w (.slice oa n c) l) (hn : l.length = n) (hnm : n ≤ 1000000000) (hb9 : -9223372036854775808 ≤ base ∧ base ≤ 9223372036854775807) :
    Calls Tryz.prog 77 #[.pointer (some ⟨s, 0, none⟩), .agg #[.int .i64 base, .slice oa n c]] w fun e w' => AppS w S s x q nm bn step sv bs d base l e w' := by
  obtain ⟨xs, hxl, hxs⟩ := hl
  obtain ⟨w1, hw1⟩ : ∃ W : World, W = w.alloc (.cells #[.int .i64 base, .slice oa n c] 168) := ⟨_, rfl⟩
  obtain ⟨b1, hb1⟩ : ∃ b, b = w.heap.size := ⟨_, rfl⟩
  have h1 : w1.heap[b1]? = some (.cells #[.int .i64 base, .slice oa n c] 168 (0, 0)) := by rw [hw1, hb1]; exact alloc_cells _ _ _
  have hbl : Below w.heap.size w w1 := by rw [hw1]; exact (Below.refl _ _).alloc (Nat.le_refl _) _
  have k0 : w1.cell? ⟨b1, 0, none⟩ = some (.int .i64 base) := cell_of h1 rfl
  have k1 : w1.cell? ⟨b1, 1, none⟩ = some (.slice oa n c) := cell_of h1 rfl
  have hi1 := h.later hbl
  have hx1 : RecsIs w1 (.slice oa n c) xs := hxs.below hbl
  have HP := Lib.hid (putR_b (base := base) hxl (by rw [← hn, ← hxl, List.length_map]) hx1 hnm hb9)
  have j4 : w1.cell? ⟨s, 4, none⟩ = some (.pointer (some ⟨q, 0, none⟩)) := cell_of hi1.head rfl
  have HN := Lib.hid (noneSeg_b j4)
  have HW := Lib.hid (And.intro h1 (And.intro hbl hb1))
  have HI := Lib.hid hi1
  clear h1 hbl hi1 hxs hxl hx1
  go_enter Tryz.func77, Tryz.ntmps77
  go_upto_region 1 with fail
  rw [← hw1, ← hb1]
  clear hw1 hb1
  go_wp2_with fail
  refine HN.out.mono ?_
  rintro e w2 ⟨rfl, hw2⟩
  obtain rfl := hw2.symm
  clear hw2
  go_wp2_with fail
  refine HP.out.mono ?_
  rintro e w2 ⟨oab, mb, cb, rfl, hnb⟩
  obtain ⟨r, hr⟩ : ∃ r, r = putT base l := ⟨_, rfl⟩
  rw [← hr] at hnb ⊢
  have HNB := Lib.hid hnb
  have HR := Lib.hid hr
  have hb12 : Below w1.heap.size w1 w2 := hnb.below
  have hb02 : Below w.heap.size w w2 := HW.out.2.1.trans (hb12.mono HW.out.2.1.size)
  have HB := Lib.hid (And.intro hb12 hb02)
  have hi2 := HI.out.later hb12
  have HI2 := Lib.hid hi2
  have j4 : w2.cell? ⟨s, 4, none⟩ = some (.pointer (some ⟨q, 0, none⟩)) := cell_of hi2.head rfl
  have j1 : w2.cell? ⟨s, 1, none⟩ = some (.int .i64 ((bn + cntT bs : Nat) : Int)) := cell_of hi2.head rfl
  have j5 : w2.cell? ⟨s, 5, none⟩ = some (.string nm) := cell_of hi2.head rfl
  have k0 : w2.cell? ⟨b1, 0, none⟩ = some (.int .i64 base) := by have := (hb12.cell (p := ⟨b1, 0, none⟩) (World.block_lt_of_cell? w1 _ k0)).trans k0; exact this
  clear hnb hr hb12 hb02 hi2 HN HP
  cases hc : (r.2 == 0) with
  | false =>
    have HC := Lib.hid hc
    have d1 : (r.2 != 0) = true := by unfold bne; rw [hc]; rfl
    clear hc
    go_wp2_with fail
    go_ret
    exact .inl ⟨fun h0 => (by have := HC.out; rw [beq_eq_false_iff_ne] at this; exact this (by rw [HR.out]; exact h0)), by rw [← HR.out]; rfl, HB.out.2⟩
  | true =>
    have hr0 : r.2 = 0 := beq_iff_eq.1 hc
    have HC := Lib.hid hr0
    rw [hr0]
    clear hc hr0
    obtain ⟨e1, he1⟩ : ∃ e : Int, e = ((bn + cntT bs : Nat) : Int) := ⟨_, rfl⟩
    rw [← he1] at j1
    have HE := Lib.hid he1
    clear he1
    cases hc : (base == e1) with
    | false =>
      have d1 : (base != e1) = true := by unfold bne; rw [hc]; rfl
      have HC2 := Lib.hid hc
      clear hc
      go_wp2_with fail
      go_region
      go_wp2_with fail
      go_ret
      refine .inr (.inl ⟨by rw [← HR.out]; exact HC.out, ?_, rfl, ?_⟩)
      · rw [← HE.out]
        exact beq_eq_false_iff_ne.1 HC2.out
      · exact HB.out.2.trans ((show Below w2.heap.size w2 w2.drew from ⟨rfl, rfl, rfl, Nat.le_refl _, fun _ _ => rfl⟩).mono HB.out.2.size)
    | true =>
      have hbe : base = e1 := beq_iff_eq.1 hc
      have d1 : (base != e1) = false := by unfold bne; rw [hc]; rfl
      have HC2 := Lib.hid hbe
      clear hc hbe
      go_wp2_with fail
      go_region
      go_wp2_with fail
      obtain ⟨w3, hw3⟩ : ∃ W : World, W = w2.drew := ⟨_, rfl⟩
      have hb23 : Below w2.heap.size w2 w3 := by rw [hw3]; exact ⟨rfl, rfl, rfl, Nat.le_refl _, fun _ _ => rfl⟩
      have hi3 := HI2.out.later hb23
      obtain ⟨hg, hpe⟩ := put_good (by rw [← HR.out]; exact HC.out)
      obtain ⟨B, hB⟩ : ∃ B, B = batchT base l := ⟨_, rfl⟩
      have hr1 : r.1 = B := by rw [HR.out, hpe, hB]
      have hnb := HNB.out
      rw [hr1] at hnb
      have hmb : B.length = mb := hnb.len
      have hBl : B.length ≤ 65536 := by
        rw [hB, batchT_len]
        exact hg.size
      have hb33 : Below w2.heap.size w2 w3.drew := by rw [hw3]; exact ⟨rfl, rfl, rfl, Nat.le_refl _, fun _ _ => rfl⟩
      have hi33 := HI2.out.later hb33
      have hap := append_b hi33.disk nm (Nat.le_trans hi3.nms (by decide)) oab cb B (by
        rw [hmb]
        exact bytesRd.kept' hnb.row.read hb33) (fun k hk _ hS => by
        rw [hmb] at hk
        exact Nat.not_lt.2 (hnb.own k hk) (HI.out.disk.lowS k hS)) (by omega)
      rw [hmb] at hap
      obtain ⟨p, hp⟩ : ∃ p, p = d.append nm.data.toList B := ⟨_, rfl⟩
      rw [← hp] at hap
      have HPP := Lib.hid hp
      clear hp
      have HAP := Lib.hid hap
      have HG := Lib.hid (And.intro hg (And.intro hB (And.intro hmb hBl)))
      have HI3 := Lib.hid hi33
      have HB3 := Lib.hid (And.intro hb33 hw3)
      have j4 : w3.cell? ⟨s, 4, none⟩ = some (.pointer (some ⟨q, 0, none⟩)) := cell_of hi3.head rfl
      have j5 : w3.cell? ⟨s, 5, none⟩ = some (.string nm) := cell_of hi3.head rfl
      rw [← hw3]
      clear hw3 hb23 hi3 hg hB hr1 hnb hmb hBl hap hpe hb33 hi33
      go_region_law (go_simp; go_at_call 149; refine HAP.out.mono ?_; rintro e w4 ⟨rfl, hd4, ho4⟩; have HD4 := Lib.hid hd4; have HO4 := Lib.hid ho4; clear hd4 ho4)
      all_goals
        have hb03 : Below w.heap.size w w3.drew := HB.out.2.trans (HB3.out.1.mono HB.out.2.size)
        have ho04 : Only S w w4 := (Only.of_below hb03 (Nat.le_refl _) S).trans HO4.out (fun _ _ h => h)
        have hlowS : ∀ k, Wid S w3.drew w4 k → k < w4.heap.size := fun k hk => by
          rcases hk with hk | hk
          · exact Nat.lt_of_lt_of_le (h.disk.lowS k hk) ho04.size
          · exact hk.2
        have HLOW := Lib.hid hlowS
        have hwidS : ∀ k, Wid S w3.drew w4 k → Wid S w w4 k := fun k hk => by
          rcases hk with hk | hk
          · exact .inl hk
          · exact .inr ⟨Nat.le_trans hb03.size hk.1, hk.2⟩
        have HWID := Lib.hid hwidS
        have HO04 := Lib.hid ho04
        have HB03 := Lib.hid hb03
        clear hlowS hwidS
        cases hc : (p.1 == 0) with
        | false =>
          have HCC := Lib.hid hc
          have d1 : (p.1 != 0) = true := by unfold bne; rw [hc]; rfl
          clear hc ho04 hb03
          go_wp2_with fail
          go_ret
          refine .inr (.inr (.inl ⟨by rw [← HR.out]; exact HC.out, HC2.out.trans HE.out, ?_⟩))
          rw [← HG.out.2.1, ← HPP.out]
          refine ⟨beq_eq_false_iff_ne.1 HCC.out, rfl, HD4.out.wider HWID.out (fun k hk => ?_), HO04.out⟩
          rcases hk with hk | hk
          · exact Nat.lt_of_lt_of_le (h.disk.lowS k hk) HO04.out.size
          · exact hk.2
        | true =>
          have hp0 : p.1 = 0 := beq_iff_eq.1 hc
          have HP0 := Lib.hid hp0
          rw [hp0]
          have hkeep : ∀ k, k < w3.heap.size → ¬ S k → w4.heap[k]? = w3.heap[k]? := fun k hk hS => HO4.out.block k hk hS
          have hs4 := (hkeep s (Array.getElem?_eq_some_iff.1 HI3.out.head).1 HI3.out.sS).trans HI3.out.head
          have hx4 : IdxI w4.drew x step sv sp := ⟨(hkeep x (Array.getElem?_eq_some_iff.1 HI3.out.idx.head).1 HI3.out.xS).trans HI3.out.idx.head, HI3.out.idx.row.kept (fun k hk => hkeep k (HI3.out.idx.row.lt k hk) (HI3.out.vS k hk))⟩
          have h23 : w2.heap[b1]? = some (.cells #[.int .i64 base, .slice oa n c] 168 (0, 0)) := (HB.out.1.block b1 (Array.getElem?_eq_some_iff.1 HW.out.1).1).trans HW.out.1
          have h33 : w3.heap[b1]? = some (.cells #[.int .i64 base, .slice oa n c] 168 (0, 0)) := (HB3.out.1.block b1 (Array.getElem?_eq_some_iff.1 h23).1).trans h23
          have hb14 : w4.heap[b1]? = some (.cells #[.int .i64 base, .slice oa n c] 168 (0, 0)) := (hkeep b1 (Array.getElem?_eq_some_iff.1 h33).1 (fun hS => by have h1 := h.disk.lowS b1 hS; rw [HW.out.2.2] at h1; exact Nat.lt_irrefl _ h1)).trans h33
          obtain ⟨f, hf, hfb⟩ := HI.out.file
          obtain ⟨hsz, g, hgf, hgb⟩ := append_none (d := d) (s := nm.data.toList) (b := B) (by rw [← HPP.out]; exact hp0) hf
          rw [hfb] at hsz hgb
          obtain ⟨z, hz⟩ : ∃ z, z = (batsT bs).length := ⟨_, rfl⟩
          obtain ⟨nb, hnb⟩ : ∃ n, n = bs.length := ⟨_, rfl⟩
          have hzl : z ≤ 16777216 := by omega
          have hnbl : nb ≤ 1000000 := by
            have h32 := bats_many bs HI.out.chain.good
            omega
          have hbb : base = ((bn + cntT bs : Nat) : Int) := HC2.out.trans HE.out
          have had := idxAdd_b (s := (bn + cntT bs, posT bs bs.length)) hx4 (spMay_next HI.out.chain HI.out.spots (by have := HG.out.1.high; have := HG.out.1.pos.1; rw [hbb] at *; omega) (by omega)) (Nat.le_trans HI.out.spots.len (by omega)) HI.out.stp.1
          rw [posT_all, ← hz] at had
          dsimp only at had
          rw [← hbb] at had
          have HAD := Lib.hid had
          rw [← hz, ← hnb] at hs4
          have l7 : w4.cell? ⟨s, 7, none⟩ = some (.pointer (some ⟨x, 0, none⟩)) := cell_of hs4 rfl
          have l2 : w4.cell? ⟨s, 2, none⟩ = some (.int .i64 (z : Int)) := cell_of hs4 rfl
          have lb : w4.cell? ⟨b1, 0, none⟩ = some (.int .i64 base) := cell_of hb14 rfl
          have H4 := Lib.hid (And.intro hs4 (And.intro hb14 (And.intro hz hnb)))
          have HF := Lib.hid (And.intro (And.intro hzl hnbl) (And.intro hgf hgb))
          clear hs4 hb14 hz hnb had hkeep h23 h33 hx4 hp0 hf hfb hsz hgf hgb hzl hnbl hbb hc ho04 hb03
          go_wp2_with fail
          go_region_law (go_simp; go_at_call 143; refine HAD.out.mono ?_; rintro e w5 ⟨sv', rfl, hix5, ho5, hov5⟩; have HI5 := Lib.hid (And.intro hix5 (And.intro ho5 hov5)); clear hix5 ho5 hov5)
          all_goals
            have hs5 := (HI5.out.2.1.block s (Array.getElem?_eq_some_iff.1 H4.out.1).1 (fun e => by
              rcases e with e | e
              · exact h.sx e
              · exact (h.sv s e).1 rfl)).trans H4.out.1
            have hb15 := (HI5.out.2.1.block b1 (Array.getElem?_eq_some_iff.1 H4.out.2.1).1 (fun e => by
              have hl1 : b1 = w.heap.size := HW.out.2.2
              rcases e with e | e
              · have := (Array.getElem?_eq_some_iff.1 h.idx.head).1
                omega
              · have := h.idx.row.lt b1 e
                omega)).trans H4.out.2.1
            have m0 : w5.cell? ⟨s, 0, none⟩ = some (.int .i64 (nb : Int)) := cell_of hs5 rfl
            have m1 : w5.cell? ⟨s, 1, none⟩ = some (.int .i64 e1) := cell_of hs5 (by rw [HE.out]; rfl)
            have m2 : w5.cell? ⟨s, 2, none⟩ = some (.int .i64 (z : Int)) := cell_of hs5 rfl
            have mf0 : w5.frozen? ⟨s, 0, none⟩ = false := free_of hs5 _
            have mf1 : w5.frozen? ⟨s, 1, none⟩ = false := free_of hs5 _
            have mf2 : w5.frozen? ⟨s, 2, none⟩ = false := free_of hs5 _
            have mb1 : w5.cell? ⟨b1, 1, none⟩ = some (.slice oa n c) := cell_of hb15 rfl
            have hsb : b1 ≠ s := fun e => by
              have hl1 : b1 = w.heap.size := HW.out.2.2
              have := (Array.getElem?_eq_some_iff.1 h.head).1
              omega
            have hnl := HF.out.1.2
            have hzl := HF.out.1.1
            have hel : 0 ≤ e1 ∧ e1 + (n : Int) ≤ 9007199254740993 := by
              have h1 := HG.out.1.high
              have h2 := HG.out.1.low
              have h3 := HC2.out
              rw [hn] at h1
              omega
            have hml : mb ≤ 65536 := by have := HG.out.2.2.1; have := HG.out.2.2.2; omega
            have HS5 := Lib.hid (And.intro hs5 hb15)
            clear hs5 hb15
            go_upto_region 13 with fail
            obtain ⟨w6, hw6⟩ : ∃ W : World, W = w5.setCell ⟨s, 0, none⟩ (.int .i64 ((nb : Int) + 1)) := ⟨_, rfl⟩
            rw [← hw6]
            have hs6 : w6.heap[s]? = some (.cells #[.int .i64 ((nb : Int) + 1), .int .i64 ((bn + cntT bs : Nat) : Int), .int .i64 (z : Int), .int .i64 0, .pointer (some ⟨q, 0, none⟩), .string nm, .int .i64 (bn : Int), .pointer (some ⟨x, 0, none⟩)] 250 (0, 0)) := by rw [hw6]; exact heap_setCell_here _ HS5.out.1
            have hb16 : w6.heap[b1]? = some (.cells #[.int .i64 base, .slice oa n c] 168 (0, 0)) := by rw [hw6]; exact (Below.heap_setCell _ _ _ _ hsb).trans HS5.out.2
            have ho56 : Only (fun k => k = s) w5 w6 := by rw [hw6]; exact only_setCell (fun k => k = s) _ s 0 _ rfl
            have n1 : w6.cell? ⟨s, 1, none⟩ = some (.int .i64 e1) := cell_of hs6 (by rw [HE.out]; rfl)
            have n2 : w6.cell? ⟨s, 2, none⟩ = some (.int .i64 (z : Int)) := cell_of hs6 rfl
            have nf1 : w6.frozen? ⟨s, 1, none⟩ = false := free_of hs6 _
            have nf2 : w6.frozen? ⟨s, 2, none⟩ = false := free_of hs6 _
            have nb1 : w6.cell? ⟨b1, 1, none⟩ = some (.slice oa n c) := cell_of hb16 rfl
            have HS6 := Lib.hid (And.intro hs6 (And.intro hb16 ho56))
            clear hs6 hb16 ho56 hw6 m0 m1 m2 mf0 mf1 mf2 mb1
            go_region
            all_goals
              obtain ⟨w7, hw7⟩ : ∃ W : World, W = (w6.setCell ⟨s, 1, none⟩ (.int .i64 (e1 + (n : Int)))).drew := ⟨_, rfl⟩
              rw [← hw7]
              have hs7 : w7.heap[s]? = some (.cells #[.int .i64 ((nb : Int) + 1), .int .i64 (e1 + (n : Int)), .int .i64 (z : Int), .int .i64 0, .pointer (some ⟨q, 0, none⟩), .string nm, .int .i64 (bn : Int), .pointer (some ⟨x, 0, none⟩)] 250 (0, 0)) := by rw [hw7]; exact heap_setCell_here _ HS6.out.1
              have ho67 : Only (fun k => k = s) w6 w7 := by
                have hh : Only (fun k => k = s) w6 (w6.setCell ⟨s, 1, none⟩ (.int .i64 (e1 + (n : Int)))) := only_setCell (fun k => k = s) _ s 1 _ rfl
                rw [hw7]
                exact ⟨hh.os, hh.tape, hh.output, hh.size, hh.block⟩
              have p2 : w7.cell? ⟨s, 2, none⟩ = some (.int .i64 (z : Int)) := cell_of hs7 rfl
              have pf2 : w7.frozen? ⟨s, 2, none⟩ = false := free_of hs7 _
              have HS7 := Lib.hid (And.intro hs7 ho67)
              clear hs7 ho67 hw7 n1 n2 nf1 nf2 nb1
              go_wp2_with fail
              go_ret
              have hbb : base = ((bn + cntT bs : Nat) : Int) := HC2.out.trans HE.out
              obtain ⟨w8, hw8⟩ : ∃ W : World, W = w7.setCell ⟨s, 2, none⟩ (.int .i64 ((z : Int) + (mb : Int))) := ⟨_, rfl⟩
              rw [← hw8]
              have hs8 : w8.heap[s]? = some (.cells #[.int .i64 ((nb : Int) + 1), .int .i64 (e1 + (n : Int)), .int .i64 ((z : Int) + (mb : Int)), .int .i64 0, .pointer (some ⟨q, 0, none⟩), .string nm, .int .i64 (bn : Int), .pointer (some ⟨x, 0, none⟩)] 250 (0, 0)) := by rw [hw8]; exact heap_setCell_here _ HS7.out.1
              have ho78 : Only (fun k => k = s) w7 w8 := by rw [hw8]; exact only_setCell (fun k => k = s) _ s 2 _ rfl
              have ho58 : Only (fun k => k = s) w5 w8 := (HS6.out.2.2.trans HS7.out.2 (fun _ _ h => h)).trans ho78 (fun _ _ h => h)
              have q1 : ((bs ++ [(base, l)]).length : Int) = (nb : Int) + 1 := by
                rw [List.length_append, H4.out.2.2.2]
                rfl
              have q2 : ((bn + cntT (bs ++ [(base, l)]) : Nat) : Int) = e1 + (n : Int) := by
                rw [cntT_append, HE.out, show cntT [(base, l)] = l.length by simp [cntT], hn]
                omega
              have q3 : ((batsT (bs ++ [(base, l)])).length : Int) = (z : Int) + (mb : Int) := by
                rw [batsT_append, List.length_append, H4.out.2.2.1, ← HG.out.2.2.1, HG.out.2.1, show batsT [(base, l)] = batchT base l by simp [batsT]]
                omega
              rw [← q1, ← q2, ← q3] at hs8
              have hsp := SpotsOk.snoc (step := step) (l := l) HI.out.chain HI.out.spots
              rw [posT_all, ← H4.out.2.2.1, ← hbb] at hsp
              have hch : Chain bn (bs ++ [(base, l)]) := by
                have := HI.out.chain.snoc (l := l) (by rw [← hbb]; exact HG.out.1)
                rwa [← hbb] at this
              refine .inr (.inr (.inr ⟨by rw [← HR.out]; exact HC.out, hbb, ?_, rfl, ?_⟩))
              · rw [← HG.out.2.1, ← HPP.out]
                exact HP0.out
              · rw [← HG.out.2.1, ← HPP.out]
                refine append_end h HB03.out.size HD4.out HO04.out (show Below w4.heap.size w4 w4.drew from ⟨rfl, rfl, rfl, Nat.le_refl _, fun _ _ => rfl⟩) HI5.out.1 HI5.out.2.1 HI5.out.2.2 ho58 hs8 hsp hch ?_
                have hf := HF.out.2
                rw [← HPP.out] at hf
                refine ⟨_, hf.1, ?_⟩
                rw [hf.2, batsT_append, HG.out.2.1, show batsT [(base, l)] = batchT base l by simp [batsT]]
end Go.Proofs.YtlgcoaeddeiegaaGreat
