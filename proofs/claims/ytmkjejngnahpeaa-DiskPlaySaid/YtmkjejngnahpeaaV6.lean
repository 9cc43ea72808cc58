/- The texts Ef, Id, Ie, If, Ig, Fa, Fb, Fc in one. -/
import Derived.Test.YtmkjejngnahpeaaV5
import Derived.Lib.SlBytesConst
import Derived.Test.YtmkjejngnahpeaaV4
import Derived.BigRegion
import Derived.Test.YtmkjejngnahpeaaV3
import Derived.Maps.RangeWalk
import Derived.Maps.OwnSet
import Derived.Laws.IdiomRangeMap
import Derived.Deep.LoopGhost
/- Disk: law07's own example. -/
namespace Go.Proofs.Ytmkjejngnahpeaa
open Go Go.Maps Go.RowKit

theorem run_string_at {P : Program} (w : World) (src dst e : TypeId) (v : Value) (l : List UInt8) (hs : P.underlying src = some (.slice e)) (he : P.underlying e = some (.int .u8)) (hd : P.underlying dst = some .string)
    (hown : rowAt w e 1 v l.length (byteCells l)) : (convert src dst v).run P w = .ok (.string ⟨l.toArray⟩) w := by
  rcases hown.2 with ⟨rfl, hn⟩ | ⟨g, off, cap, cur, fr, rfl, hg, hnc, hcm, hcs, hfr, htake⟩
  · exact run_string_row w 0 src dst e _ l hs he hd ⟨hown.1, .inl ⟨rfl, hn⟩⟩
  · refine run_convert_bytes_back w src dst e ⟨g, off, none⟩ cap l hs he hd fun j hj => ?_
    refine hown.cells (g := g) (off := off) rfl j _ ?_
    simp [byteCells, hj]
/-- all that is new since B -/
def Can (B : Nat) (w : World) : Nat → Prop := fun k => B ≤ k ∧ k < w.heap.size
theorem OpIs.canon {w0 w1 w2 : World} {B q : Nat} {r : Int × Dk} {e : Ending} (h : OpIs w1 (Can B w0) q r e w2) (h0 : w0.heap.size ≤ w1.heap.size) (hB : B ≤ w1.heap.size) : e = .returned (.int .i64 r.1) ∧ DiskAt w2 (Can B w2) q r.2 ∧ Below B w1 w2 := by
  obtain ⟨he, ⟨mb, fv, L, hd⟩, ho⟩ := h
  refine ⟨he, ⟨mb, fv, L, hd.wider (fun k hk => ?_) (fun k hk => hk.2)⟩, ho.below (fun i hi hs => by have := hs.1; omega) hB⟩
  have := ho.size
  rcases hk with hk | hk
  · exact ⟨hk.1, by have := hk.2; omega⟩
  · exact ⟨by omega, hk.2⟩
theorem DiskAt.below {w w' : World} {S : Nat → Prop} {q : Nat} {d : Dk} (h : DiskAt w S q d) (hb : Below w.heap.size w w') : DiskAt w' S q d := by
  obtain ⟨mb, fv, L, hd⟩ := h
  exact ⟨mb, fv, L, hd.below hb⟩
def k1 : Dk := ⟨[⟨[97], [], 0, true, false⟩], [], 1⟩
def k2 : Dk := ⟨[⟨[97], [120, 121, 122], 0, true, false⟩], [], 2⟩
def k3 : Dk := ⟨[⟨[97], [120, 121, 122], 3, true, false⟩], [], 3⟩
def k4 : Dk := ⟨[⟨[97], [120, 121, 122, 117, 118], 3, true, false⟩], [], 4⟩
def k5 : Dk := ⟨[⟨[97], [120, 121, 122, 117], 4, true, true⟩], [], 0⟩
theorem know1 : Dk.new.create [97] = (0, k1) := by kernel_rfl
theorem know2 : k1.append [97] [120, 121, 122] = (0, k2) := by kernel_rfl
theorem know3 : k2.sync [97] = (0, k3) := by kernel_rfl
theorem know4 : k3.append [97] [117, 118] = (0, k4) := by kernel_rfl
theorem know5 : k4.fileV ⟨#[97]⟩ = (.agg #[.string ⟨#[97]⟩, .int .i64 5, .int .i64 3, .bool true, .bool false], 0) := by rfl
theorem know6 : k4.crash [1, 1] = k5 := by rfl
theorem know7 : k5.read [97] 0 9 = ([120, 121, 122, 117], 0) := by rfl
theorem lit_row (w : World) (l : List UInt8) (h : l.length ≤ 1000) : bytesAt (w.alloc (.cells (byteCells l).toArray 5 ((byteCells l).toArray.size, (byteCells l).toArray.size + 1))) (.slice (some ⟨w.heap.size, 0, none⟩) l.length l.length) l := by
  refine ⟨by simp [byteCells], .inr ⟨w.heap.size, 0, l.length, (byteCells l).toArray, _, rfl, heap_alloc_new _ _, Nat.le_refl _, by unfold maxLen; omega, by simp [byteCells], freeRow_mark _, by rw [List.drop_zero]; exact List.take_of_length_le (by simp [byteCells])⟩⟩
set_option maxRecDepth 100000 in
set_option maxHeartbeats 1000000 in
theorem known7_b (w : World) : Calls Try.prog 38 #[] w fun e w' => e = .returned (.bool true) ∧ Below w.heap.size w w' := by
  obtain ⟨A, hA⟩ : ∃ A : ByteArray, A = ⟨#[97]⟩ := ⟨_, rfl⟩
  have hAs : A.size ≤ maxLen := by rw [hA]; decide
  have hAd : A.data.toList = [97] := by rw [hA]
  have hc1 : ∀ W : World, (convert 79 79 (.slice (some ⟨W.heap.size, 0, none⟩) 3 3)).run Try.prog (W.alloc (.cells #[.int .u8 120, .int .u8 121, .int .u8 122] 5)) = .ok (.slice (some ⟨W.heap.size, 0, none⟩) 3 3) (W.alloc (.cells #[.int .u8 120, .int .u8 121, .int .u8 122] 5 (3, 4))) := fun W => Lib.run_convert_bytes_const (P := Try.prog) W 79 5 #[.int .u8 120, .int .u8 121, .int .u8 122] 3 3 Try.underlying79 Try.underlying5
  have hc2 : ∀ W : World, (convert 79 79 (.slice (some ⟨W.heap.size, 0, none⟩) 2 2)).run Try.prog (W.alloc (.cells #[.int .u8 117, .int .u8 118] 5)) = .ok (.slice (some ⟨W.heap.size, 0, none⟩) 2 2) (W.alloc (.cells #[.int .u8 117, .int .u8 118] 5 (2, 3))) := fun W => Lib.run_convert_bytes_const (P := Try.prog) W 79 5 #[.int .u8 117, .int .u8 118] 2 2 Try.underlying79 Try.underlying5
  go_enter Try.func38, Try.ntmps38
  go_wp2_with fail
  refine (new_b _).mono ?_
  rintro e w1 ⟨q, rfl, h1, hb1⟩
  have H1 : Hid (DiskAt w1 (Can w.heap.size w1) q Dk.new) := Lib.hid h1
  have HB1 := Lib.hid hb1
  clear h1 hb1
  go_wp2_with fail
  rw [← hA]
  refine (create_b H1.out A hAs).mono ?_
  rintro e w2 ho
  rw [hAd, know1] at ho
  obtain ⟨rfl, h2, hb2⟩ := ho.canon (Nat.le_refl _) HB1.out.size
  have H2 := Lib.hid h2
  have HB2 : Hid (Below w.heap.size w w2) := Lib.hid (HB1.out.trans hb2)
  clear ho h2 hb2 H1 HB1
  go_wp2_with fail
  obtain ⟨w2a, hw2a⟩ : ∃ w2a : World, w2a = w2.alloc (.cells #[.int .u8 120, .int .u8 121, .int .u8 122] 5 (3, 4)) := ⟨_, rfl⟩
  have hba2 : bytesAt w2a (.slice (some ⟨w2.heap.size, 0, none⟩) 3 3) [120, 121, 122] := by rw [hw2a]; exact lit_row w2 [120, 121, 122] (by simp)
  have hla2 : Below w2.heap.size w2 w2a := by rw [hw2a]; exact (Below.refl _ _).alloc (Nat.le_refl _) _
  rw [← hw2a, ← hA]
  clear hw2a
  refine (append_b (DiskAt.below H2.out hla2) A hAs (some ⟨w2.heap.size, 0, none⟩) 3 [120, 121, 122] (rowAt.read hba2) (fun k hk _ hs => by
    simp only [Value.ownBlock, Option.some.injEq] at hk
    have := hs.2
    omega) (by simp)).mono ?_
  rintro e w3 ho
  rw [hAd, know2] at ho
  obtain ⟨rfl, h3, hb3⟩ := ho.canon hla2.size (Nat.le_trans HB2.out.size hla2.size)
  have H3 := Lib.hid h3
  have HB3 : Hid (Below w.heap.size w w3) := Lib.hid ((HB2.out.trans (hla2.mono HB2.out.size)).trans hb3)
  clear ho h3 hb3 H2 HB2 hba2 hla2
  go_wp2_with fail
  rw [← hA]
  refine (sync_b H3.out A hAs).mono ?_
  rintro e w4 ho
  rw [hAd, know3] at ho
  obtain ⟨rfl, h4, hb4⟩ := ho.canon (Nat.le_refl _) HB3.out.size
  have H4 := Lib.hid h4
  have HB4 : Hid (Below w.heap.size w w4) := Lib.hid (HB3.out.trans hb4)
  clear ho h4 hb4 H3 HB3
  go_wp2_with fail
  obtain ⟨w4a, hw4a⟩ : ∃ w4a : World, w4a = w4.alloc (.cells #[.int .u8 117, .int .u8 118] 5 (2, 3)) := ⟨_, rfl⟩
  have hba4 : bytesAt w4a (.slice (some ⟨w4.heap.size, 0, none⟩) 2 2) [117, 118] := by rw [hw4a]; exact lit_row w4 [117, 118] (by simp)
  have hla4 : Below w4.heap.size w4 w4a := by rw [hw4a]; exact (Below.refl _ _).alloc (Nat.le_refl _) _
  rw [← hw4a, ← hA]
  clear hw4a
  refine (append_b (DiskAt.below H4.out hla4) A hAs (some ⟨w4.heap.size, 0, none⟩) 2 [117, 118] (rowAt.read hba4) (fun k hk _ hs => by
    simp only [Value.ownBlock, Option.some.injEq] at hk
    have := hs.2
    omega) (by simp)).mono ?_
  rintro e w5 ho
  rw [hAd, know4] at ho
  obtain ⟨rfl, h5, hb5⟩ := ho.canon hla4.size (Nat.le_trans HB4.out.size hla4.size)
  have H5 := Lib.hid h5
  have HB5 : Hid (Below w.heap.size w w5) := Lib.hid ((HB4.out.trans (hla4.mono HB4.out.size)).trans hb5)
  clear ho h5 hb5 H4 HB4 hba4 hla4
  go_wp2_with fail
  rw [← hA]
  refine (file_b H5.out A hAs).mono ?_
  rintro e w6 ⟨rfl, hb6⟩
  rw [show k4.fileV A = (.agg #[.string ⟨#[97]⟩, .int .i64 5, .int .i64 3, .bool true, .bool false], 0) by rw [hA]; exact know5]
  have H6 : Hid (DiskAt w6 (Can w.heap.size w5) q k4) := Lib.hid (DiskAt.below H5.out hb6)
  have HB6 : Hid (Below w.heap.size w w6) := Lib.hid (HB5.out.trans (hb6.mono HB5.out.size))
  clear hb6 H5 HB5
  go_wp2_with fail
  obtain ⟨w7, hw7⟩ : ∃ w7 : World, w7 = w6.alloc (.cells #[.string ⟨#[97]⟩, .int .i64 5, .int .i64 3, .bool true, .bool false] 78) := ⟨_, rfl⟩
  have hf7 : w7.heap[w6.heap.size]? = some (.cells #[.string ⟨#[97]⟩, .int .i64 5, .int .i64 3, .bool true, .bool false] 78 (0, 0)) := by rw [hw7]; exact alloc_cells _ _ _
  have hs7 : w7.heap.size = w6.heap.size + 1 := by rw [hw7]; simp
  have hb7 : Below w6.heap.size w6 w7 := by rw [hw7]; exact (Below.refl _ _).alloc (Nat.le_refl _) _
  rw [← hw7]
  obtain ⟨w8, hw8⟩ : ∃ w8 : World, w8 = w7.alloc (.cells #[.int .i64 1, .int .i64 1] 3) := ⟨_, rfl⟩
  have hi8 : w8.heap[w6.heap.size + 1]? = some (.cells #[.int .i64 1, .int .i64 1] 3 (0, 0)) := by rw [hw8, ← hs7]; exact alloc_cells _ _ _
  have hb8 : Below w7.heap.size w7 w8 := by rw [hw8]; exact (Below.refl _ _).alloc (Nat.le_refl _) _
  have hf8 : w8.heap[w6.heap.size]? = some (.cells #[.string ⟨#[97]⟩, .int .i64 5, .int .i64 3, .bool true, .bool false] 78 (0, 0)) := (hb8.block _ (by omega)).trans hf7
  rw [← hw8]
  have hrow : rowAt w8 3 1 (.slice (some ⟨w6.heap.size + 1, 0, none⟩) [(1 : Int), 1].length 2) [(1 : Int), 1].length (intCells [1, 1]) :=
    ⟨by simp [intCells], .inr ⟨_, 0, 2, _, _, rfl, hi8, by simp, by unfold maxLen; omega, by simp, freeRow_zero _, by simp [intCells]⟩⟩
  have hb68 : Below w6.heap.size w6 w8 := hb7.trans (hb8.mono hb7.size)
  have hd8 := DiskAt.below H6.out hb68
  obtain ⟨b, hb⟩ : ∃ b, b = w6.heap.size := ⟨_, rfl⟩
  rw [← hb] at hf8 hrow ⊢
  have HF8 := Lib.hid hf8
  have HB8 : Hid (Below w.heap.size w w8) := Lib.hid (HB6.out.trans (hb68.mono HB6.out.size))
  clear hw7 hf7 hs7 hb7 hw8 hi8 hb8 hf8 hb68 H6 HB6 hb hc1 hc2
  refine (crash_b hd8 _ 2 [1, 1] hrow.read (by simp) (fun x hx => by simp at hx; omega)).mono ?_
  rintro e w9 (⟨hn, -, -⟩ | ⟨-, q2, rfl, h9, hb9⟩)
  · exact absurd (fun x hx => by simp at hx; omega) hn
  rw [know6] at h9
  have H9 := Lib.hid h9
  have hlt : b < w8.heap.size := (Array.getElem?_eq_some_iff.1 HF8.out).1
  have HF9 : Hid (w9.heap[b]? = some (.cells #[.string ⟨#[97]⟩, .int .i64 5, .int .i64 3, .bool true, .bool false] 78 (0, 0))) := Lib.hid ((hb9.block b hlt).trans HF8.out)
  have HB9 : Hid (Below w.heap.size w w9) := Lib.hid (HB8.out.trans (hb9.mono HB8.out.size))
  clear hrow hd8 h9 hb9 hlt HF8 HB8
  go_wp2_with fail
  rw [← hA]
  refine (read_b H9.out A hAs 0 9 (by omega) (by omega)).mono ?_
  rintro e w10 ⟨v, rfl, hnb⟩
  rw [hAd, know7] at hnb ⊢
  have hlt : b < w9.heap.size := (Array.getElem?_eq_some_iff.1 HF9.out).1
  have hf10 : w10.heap[b]? = some (.cells #[.string ⟨#[97]⟩, .int .i64 5, .int .i64 3, .bool true, .bool false] 78 (0, 0)) := (hnb.2.2.block b hlt).trans HF9.out
  have HB10 : Hid (Below w.heap.size w w10) := Lib.hid (HB9.out.trans (hnb.2.2.mono HB9.out.size))
  obtain ⟨oav, cv, hv, _⟩ := hnb.1.shape
  have hconv : (convert 79 9 (.slice oav 4 cv)).run Try.prog w10 = .ok (.string ⟨#[120, 121, 122, 117]⟩) w10 := by
    have h := run_string_at w10 79 9 5 v [120, 121, 122, 117] Try.underlying79 Try.underlying5 Try.underlying9 hnb.1
    rw [hv] at h
    exact h
  subst hv
  have f0 : w10.cell? ⟨b, 0, none⟩ = some (.string ⟨#[97]⟩) := cell_of hf10 rfl
  have f1 : w10.cell? ⟨b, 1, none⟩ = some (.int .i64 5) := cell_of hf10 rfl
  have f2 : w10.cell? ⟨b, 2, none⟩ = some (.int .i64 3) := cell_of hf10 rfl
  have f3 : w10.cell? ⟨b, 3, none⟩ = some (.bool true) := cell_of hf10 rfl
  have f4 : w10.cell? ⟨b, 4, none⟩ = some (.bool false) := cell_of hf10 rfl
  have heq : ∀ W : World, (Op.equalIn 10000 78 (.agg #[.string ⟨#[97]⟩, .int .i64 5, .int .i64 3, .bool true, .bool false]) (.agg #[.string ⟨#[97]⟩, .int .i64 5, .int .i64 3, .bool true, .bool false])).run Try.prog W = .ok true W := fun W => by kernel_rfl
  clear hnb hlt hf10 HF9 HB9 H9
  go_wp2_with fail
  go_ret
  exact ⟨rfl, HB10.out⟩
end Go.Proofs.Ytmkjejngnahpeaa
/- The document's disk: a file is written; Sync and Append of it. -/
namespace Go.Proofs.Ytmkjejngnahpeaa
open Go Go.Maps Go.RowKit
open Go.Proofs (encStr)

theorem rfCells_set : ∀ (l : List F0) (i k : Nat) (v : Value) (f' : F0) (hi : i < l.length), k < 5 → rfFile f' = (rfFile l[i]).set k v → rfCells (l.set i f') = (rfCells l).set (i * 5 + k) v
  | x :: r, 0, k, v, f', _, hk, h => by
    show rfFile f' ++ rfCells r = (rfFile x ++ rfCells r).set _ v
    have h5 : (rfFile x).length = 5 := rfl
    rw [List.set_append_left _ _ (by rw [h5]; omega), h, Nat.zero_mul, Nat.zero_add]
    rfl
  | x :: r, i + 1, k, v, f', hi, hk, h => by
    show rfFile x ++ rfCells (r.set i f') = (rfFile x ++ rfCells r).set _ v
    have h5 : (rfFile x).length = 5 := rfl
    rw [List.set_append_right _ _ (by rw [h5]; omega), h5, rfCells_set r i k v f' (by simpa using hi) hk h]
    congr 2
    omega
theorem turn_set {l : List F0} {s : List UInt8} (hs : (l.map (·.name)).Pairwise (· < ·)) {i : Nat} (hi : i < l.length) (hn : l[i].name = s) (t : F0 → F0) : (l.map fun f => if f.name = s then t f else f) = l.set i (t l[i]) := by
  refine List.ext_getElem (by simp) fun j h1 h2 => ?_
  rw [List.getElem_map, List.getElem_set]
  have hj : j < l.length := by simpa using h1
  by_cases hij : i = j
  · subst hij
    rw [if_pos hn, if_pos rfl]
  · rw [if_neg hij, if_neg]
    intro he
    have hp := List.pairwise_iff_getElem.1 hs
    rcases Nat.lt_or_gt_of_ne hij with h3 | h3
    · have := hp i j (by simpa using hi) (by simpa using hj) h3
      rw [List.getElem_map, List.getElem_map, hn, he] at this
      exact List.lt_irrefl _ this
    · have := hp j i (by simpa using hj) (by simpa using hi) h3
      rw [List.getElem_map, List.getElem_map, hn, he] at this
      exact List.lt_irrefl _ this
section
variable {w : World} {S : Nat → Prop} {p : Nat} {rv fv : Value} {d : Dk}
/-- one cell of one file is written -/
theorem RfIs.file_set (h : RfIs w S p rv fv d) {i k : Nat} (hi : i < d.files.length) {g off N c : Nat} (hrv : rv = .slice (some ⟨g, off, none⟩) N c) (hk : k < 5) {v : Value} {f' : F0} (hf : rfFile f' = (rfFile d.files[i]).set k v)
    (hn : f'.name = d.files[i].name) (hz : f'.lasts ≤ f'.bytes.length ∧ f'.bytes.length ≤ 16777216) : RfIs (w.setCell ⟨g, off + (i * 5 + k), none⟩ v) S p rv fv { d with files := d.files.set i f' } := by
  have ho : Only (fun k => k = g) w (w.setCell ⟨g, off + (i * 5 + k), none⟩ v) := only_setCell (fun k => k = g) _ _ _ _ rfl
  have hgr : rv.ownBlock = some g := by rw [hrv]; rfl
  have hmap : (d.files.set i f').map (·.name) = d.files.map (·.name) := by
    refine List.ext_getElem (by simp) fun j h1 h2 => ?_
    rw [List.getElem_map, List.getElem_map, List.getElem_set]
    split
    · rename_i e; subst e; exact hn
    · rfl
  have hmem : ∀ f ∈ d.files.set i f', f = f' ∨ f ∈ d.files := fun f hf' => by
    rcases List.mem_or_eq_of_mem_set hf' with h1 | h1
    · exact .inr h1
    · exact .inl h1
  exact {
    head := (ho.block p (h.low p h.footp) (fun e => h.rp g hgr e.symm)).trans h.head
    files := by
      have h1 := h.files
      rw [hrv] at h1
      have h2 := h1.setAt (j := i * 5 + k) (by omega) v
      rw [← rfCells_set d.files i k v f' hi hk hf] at h2
      rw [hrv]
      simpa using h2
    fates := h.fates.kept (fun k hk' => ho.block k (h.low k (h.footf k hk')) (fun e => h.rf g hgr (by rw [← e]; exact hk')))
    footp := h.footp
    footr := h.footr
    footf := h.footf
    low := fun k hk' => Nat.lt_of_lt_of_le (h.low k hk') ho.size
    sorted := by rw [hmap]; exact h.sorted
    names := fun f hf' => by
      rcases hmem f hf' with rfl | h1
      · rw [hn]; exact h.names _ (List.getElem_mem hi)
      · exact h.names f h1
    sizes := fun f hf' => by
      rcases hmem f hf' with rfl | h1
      · exact hz
      · exact h.sizes f h1
    few := by simpa using h.few }
theorem RfIs.drew (h : RfIs w S p rv fv d) : RfIs w.drew S p rv fv d := h.kept (fun _ _ => rfl) (Nat.le_refl _)
theorem RfIs.drewN (h : RfIs w S p rv fv d) (n : Nat) : RfIs (w.drewN n) S p rv fv d := h.kept (fun _ _ => rfl) (Nat.le_refl _)
end
theorem only_drewN {S : Nat → Prop} {w w' : World} (h : Only S w w') (n : Nat) : Only S w (w'.drewN n) := ⟨h.os, h.tape, h.output, h.size, h.block⟩
/-- what a call leaves of the document's disk -/
def ROpIs (w : World) (S : Nat → Prop) (p : Nat) (r : Int × Dk) (e : Ending) (w' : World) : Prop :=
  e = .returned (.int .i64 r.1) ∧ RfAt w' (Wid S w w') p r.2 ∧ Only S w w'
theorem rop_same {w w' : World} {S : Nat → Prop} {p : Nat} {rv fv : Value} {d d' : Dk} {n : Int} (h : RfIs w' S p rv fv d') (ho : Only S w w') (hd : d' = d) : ROpIs w S p (n, d) (.returned (.int .i64 n)) w' := by
  subst hd
  exact ⟨rfl, ⟨rv, fv, h.wider (fun k hk => .inl hk) (fun k hk => by
    rcases hk with hk | hk
    · exact h.low k hk
    · exact hk.2)⟩, ho⟩
theorem only_p {w w' : World} {S : Nat → Prop} {p : Nat} (h : Only (fun k => k = p) w w') (hp : S p) : Only S w w' := h.mono (fun i _ e => by rw [e]; exact hp)
theorem only_r {w w' : World} {S : Nat → Prop} {v : Value} {g : Nat} (h : Only (fun k => k = g) w w') (hg : v.ownBlock = some g) (hs : ∀ k, v.ownBlock = some k → S k) : Only S w w' := h.mono (fun i _ e => by rw [e]; exact hs g hg)
set_option maxRecDepth 100000 in
set_option maxHeartbeats 1000000 in
theorem refSync_b {w : World} {S : Nat → Prop} {p : Nat} {d : Dk} (h : RfAt w S p d) (nm : ByteArray) (hs : nm.size ≤ maxLen) :
    Calls Try.prog 57 #[.pointer (some ⟨p, 0, none⟩), .string nm] w fun e w' => ROpIs w S p (d.sync nm.data.toList) e w' := by
  obtain ⟨rv, fv, h⟩ := h
  obtain ⟨s, hss⟩ : ∃ s, nm.data.toList = s := ⟨_, rfl⟩
  have H := Lib.hid h
  have HSS := Lib.hid hss
  clear h
  go_enter Try.func57, Try.ntmps57
  go_wp2_with fail
  refine (refFind_b H.out nm hs).mono ?_
  rintro e w' ⟨hF, hw'⟩
  obtain rfl := hw'.symm
  rw [hss] at hF
  clear hss
  rcases hF with ⟨hn, rfl⟩ | ⟨hn, hf, rfl⟩ | ⟨hn, i, hi, hxn, hxt, hf, rfl⟩
  · have HE : Hid (ROpIs w S p (d.sync s) (.returned (.int .i64 2)) w) := Lib.hid (by
      rw [show d.sync s = (2, d) by simp [Dk.sync, hn]]
      exact rop_same H.out (Only.refl _ _) rfl)
    clear hn
    go_wp2_with fail
    go_ret
    rw [HSS.out]
    exact HE.out
  · have HE : Hid (ROpIs w S p (d.sync s) (.returned (.int .i64 171)) w) := Lib.hid (by
      rw [show d.sync s = (171, d) by simp [Dk.sync, hn, hf]]
      exact rop_same H.out (Only.refl _ _) rfl)
    clear hn hf
    go_wp2_with fail
    go_ret
    rw [HSS.out]
    exact HE.out
  · have HX := Lib.hid (And.intro hn (And.intro hxn (And.intro hxt hf)))
    clear hn hxn hxt hf
    go_wp2_with fail
    refine (refStep_b H.out).mono ?_
    rintro e w2 ⟨kp, fv2, rfl, hkp, h2, ho2⟩
    obtain ⟨oa, c, rfl, hnc⟩ := h2.files.shape
    obtain ⟨N, hN⟩ : ∃ N, d.files.length = N := ⟨_, rfl⟩
    obtain ⟨x, hx⟩ : ∃ x, d.files[i] = x := ⟨_, rfl⟩
    have hfl : d.next.files = d.files := rfl
    have hrow := h2.files
    rw [hfl, hN] at hrow
    have hiN : i < N := by omega
    obtain ⟨g, off, rfl⟩ := hrow.addr (by omega)
    obtain ⟨bs, hbs⟩ : ∃ a : ByteArray, a = ⟨x.bytes.toArray⟩ := ⟨_, rfl⟩
    have hbl : (bs.size : Int) = (x.bytes.length : Int) := by rw [hbs]; simp [ByteArray.size]
    obtain ⟨la, hla⟩ : ∃ a : Int, a = (x.lasts : Int) := ⟨_, rfl⟩
    have c0 : w2.cell? ⟨p, 0, none⟩ = some (.slice (some ⟨g, off, none⟩) N c) := cell_of h2.head (by rw [← hN]; rfl)
    have k1 : w2.cell? ⟨g, off + i * 5 + 1, none⟩ = some (.string bs) := rf_cell (i := 1) hrow hi (by omega) (by rw [hx, hbs]; rfl)
    have k2 : w2.cell? ⟨g, off + i * 5 + 2, none⟩ = some (.int .i64 la) := rf_cell (i := 2) hrow hi (by omega) (by rw [hx, hla]; rfl)
    have z2 : w2.frozen? ⟨g, off + i * 5 + 2, none⟩ = false := by have := hrow.freeAt (j := i * 5 + 2) (by omega); rwa [← Nat.add_assoc] at this
    have hsz := h2.sizes x (by rw [hfl, ← hx]; exact List.getElem_mem hi)
    have hN4 : N ≤ 4096 := by rw [← hN]; exact h2.few
    obtain ⟨er, her⟩ : ∃ n, d.fate.1 = n := ⟨_, rfl⟩
    rw [her] at hkp ⊢
    have hlb : 0 ≤ la ∧ la ≤ (bs.size : Int) ∧ (bs.size : Int) ≤ 16777216 := by omega
    have HD : Hid (∀ (v : Int) (W : World), v = ((if er = 0 then x.bytes.length else x.lasts + min (x.bytes.length - x.lasts) d.fate.2 : Nat) : Int) → (∃ a, W = w2.drewN a) → ROpIs w S p (d.sync s) (.returned (.int .i64 er)) (W.setCell ⟨g, off + i * 5 + 2, none⟩ (.int .i64 v)).drew) := Lib.hid (fun v W hv hW => by
      obtain ⟨na, hW⟩ := hW
      have hde : d.sync s = (er, { d.next with files := d.files.set i { x with lasts := if er = 0 then x.bytes.length else x.lasts + min (x.bytes.length - x.lasts) d.fate.2 } }) := by
        unfold Dk.sync
        rw [if_neg (by rw [HX.out.1]; simp), HX.out.2.2.2, her]
        simp only [Dk.turn]
        rw [turn_set h2.sorted (i := i) hi HX.out.2.1]
        simp only [hfl, hx]
      have h3 := (h2.drewN na).file_set (i := i) (k := 2) (v := .int .i64 v) (f' := { x with lasts := if er = 0 then x.bytes.length else x.lasts + min (x.bytes.length - x.lasts) d.fate.2 }) hi rfl (by omega)
        (by show rfFile _ = (rfFile d.files[i]).set 2 _; rw [hx, hv]; rfl) (by show x.name = d.files[i].name; rw [hx]) ⟨by show (if er = 0 then _ else _) ≤ x.bytes.length; split <;> omega, hsz.2⟩
      rw [hde, hW]
      rw [← Nat.add_assoc] at h3
      refine rop_same h3.drew (only_drew ?_) rfl
      refine ((only_p (only_drewN ho2 na) H.out.footp).trans (only_r (v := .slice (some ⟨g, off, none⟩) d.files.length c) (g := g) (only_setCell (fun k => k = g) _ _ _ _ rfl) rfl H.out.footr) (fun _ _ h => h))
      )
    have HKP := Lib.hid (And.intro hkp (And.intro hbl hla))
    clear hrow hx hbs hla hsz her hkp hnc hN h2 ho2 HX hfl hbl
    by_cases h0 : er = 0
    · subst h0
      go_wp2_with fail
      go_quiet (fail)
      go_wp2_with fail
      obtain ⟨w5, hw5⟩ : ∃ x, x = w2.drewN nq := ⟨_, rfl⟩
      have d0 : w5.cell? ⟨p, 0, none⟩ = some (.slice (some ⟨g, off, none⟩) N c) := by rw [hw5]; exact c0
      have d2 : w5.cell? ⟨g, off + i * 5 + 2, none⟩ = some (.int .i64 la) := by rw [hw5]; exact k2
      have y2 : w5.frozen? ⟨g, off + i * 5 + 2, none⟩ = false := by rw [hw5]; exact z2
      rw [← hw5]
      have HW5 : Hid (∃ a, w5 = w2.drewN a) := Lib.hid ⟨nq, hw5⟩
      clear hw5 z2 c0 k1 k2
      go_region
      go_wp2_with fail
      go_ret
      rw [HSS.out]
      refine HD.out _ _ ?_ HW5.out
      have h1 := HKP.out
      simp
      omega
    · have hne : (er != 0) = true := by simpa using h0
      have HKQ : Hid (0 ≤ kp ∧ kp = d.fate.2) := Lib.hid (by have := HKP.out.1 h0; omega)
      have hkq := HKQ.out.1
      by_cases hlt : kp < (bs.size : Int) - la
      · skip
        go_wp2_with fail
        go_quiet (fail)
        go_wp2_with fail
        obtain ⟨w5, hw5⟩ : ∃ x, x = w2.drewN nq := ⟨_, rfl⟩
        have d0 : w5.cell? ⟨p, 0, none⟩ = some (.slice (some ⟨g, off, none⟩) N c) := by rw [hw5]; exact c0
        have d2 : w5.cell? ⟨g, off + i * 5 + 2, none⟩ = some (.int .i64 la) := by rw [hw5]; exact k2
        have y2 : w5.frozen? ⟨g, off + i * 5 + 2, none⟩ = false := by rw [hw5]; exact z2
        rw [← hw5]
        have HW5 : Hid (∃ a, w5 = w2.drewN a) := Lib.hid ⟨nq, hw5⟩
        clear hw5 z2 c0 k1 k2
        go_region
        go_wp2_with fail
        go_ret
        rw [HSS.out]
        refine HD.out _ _ ?_ HW5.out
        have h1 := HKP.out
        have h2 := HKQ.out
        rw [if_neg h0]
        omega
      · skip
        go_wp2_with fail
        go_quiet (fail)
        go_wp2_with fail
        obtain ⟨w5, hw5⟩ : ∃ x, x = w2.drewN nq := ⟨_, rfl⟩
        have d0 : w5.cell? ⟨p, 0, none⟩ = some (.slice (some ⟨g, off, none⟩) N c) := by rw [hw5]; exact c0
        have d2 : w5.cell? ⟨g, off + i * 5 + 2, none⟩ = some (.int .i64 la) := by rw [hw5]; exact k2
        have y2 : w5.frozen? ⟨g, off + i * 5 + 2, none⟩ = false := by rw [hw5]; exact z2
        rw [← hw5]
        have HW5 : Hid (∃ a, w5 = w2.drewN a) := Lib.hid ⟨nq, hw5⟩
        clear hw5 z2 c0 k1 k2
        go_region
        go_wp2_with fail
        go_ret
        rw [HSS.out]
        refine HD.out _ _ ?_ HW5.out
        have h1 := HKP.out
        have h2 := HKQ.out
        rw [if_neg h0]
        omega
end Go.Proofs.Ytmkjejngnahpeaa
/- The document's disk: Append. -/
namespace Go.Proofs.Ytmkjejngnahpeaa
open Go Go.Maps Go.RowKit
open Go.Proofs (encStr)

theorem run_string_rd {P : Program} (w : World) (src dst e : TypeId) (oa : Option Addr) (n c : Nat) (l : List UInt8) (hl : l.length = n) (hs : P.underlying src = some (.slice e)) (he : P.underlying e = some (.int .u8)) (hd : P.underlying dst = some .string)
    (h : readAt w 1 (.slice oa n c) n (byteCells l)) : (convert src dst (.slice oa n c)).run P w = .ok (.string ⟨l.toArray⟩) w := by
  subst hl
  rcases h.2 with ⟨h0, oa', c', hv, hn⟩ | ⟨g, off, c', hv, h0, hg, hc, hj⟩
  · simp only [Value.slice.injEq] at hv
    obtain ⟨rfl, -, rfl⟩ := hv
    have hl : l = [] := List.eq_nil_of_length_eq_zero h0
    subst hl
    cases oa with
    | none => 
      obtain rfl := hn rfl
      exact run_string_row w 0 src dst e _ [] hs he hd ⟨rfl, .inl ⟨rfl, rfl⟩⟩
    | some a => exact run_convert_bytes_back w src dst e a c [] hs he hd fun j hj => by cases hj
  · simp only [Value.slice.injEq] at hv
    obtain ⟨rfl, -, rfl⟩ := hv
    refine run_convert_bytes_back w src dst e ⟨g, off, none⟩ c l hs he hd fun j hj' => ?_
    rw [Go.WideShapes.add_plain]
    exact hj j _ (by simp [byteCells, hj'])
set_option maxRecDepth 100000 in
set_option maxHeartbeats 1000000 in
theorem refAppend_b {w : World} {S : Nat → Prop} {p : Nat} {d : Dk} (h : RfAt w S p d) (nm : ByteArray) (hs : nm.size ≤ maxLen) (oa : Option Addr) (c : Nat) (b : List UInt8) (hb : readAt w 1 (.slice oa b.length c) b.length (byteCells b)) (hbS : ∀ k, (Value.slice oa b.length c).ownBlock = some k → 0 < b.length → ¬ S k) :
    Calls Try.prog 56 #[.pointer (some ⟨p, 0, none⟩), .string nm, .slice oa b.length c] w fun e w' => ROpIs w S p (d.append nm.data.toList b) e w' := by
  obtain ⟨rv, fv, h⟩ := h
  obtain ⟨lb, hlb⟩ : ∃ lb, b.length = lb := ⟨_, rfl⟩
  rw [hlb] at hb hbS ⊢
  have HBW := Lib.hid (And.intro hb hbS)
  have HLB := Lib.hid hlb
  clear hb hbS hlb
  obtain ⟨s, hss⟩ : ∃ s, nm.data.toList = s := ⟨_, rfl⟩
  have H := Lib.hid h
  have HSS := Lib.hid hss
  clear h
  go_enter Try.func56, Try.ntmps56
  go_wp2_with fail
  refine (refFind_b H.out nm hs).mono ?_
  rintro e w' ⟨hF, hw'⟩
  obtain rfl := hw'.symm
  rw [hss] at hF
  clear hss
  rcases hF with ⟨hn, rfl⟩ | ⟨hn, hf, rfl⟩ | ⟨hn, i, hi, hxn, hxt, hf, rfl⟩
  · have HE : Hid (ROpIs w S p (d.append s b) (.returned (.int .i64 2)) w) := Lib.hid (by
      rw [show d.append s b = (2, d) by simp [Dk.append, hn]]
      exact rop_same H.out (Only.refl _ _) rfl)
    clear hn
    go_wp2_with fail
    go_ret
    rw [HSS.out]
    exact HE.out
  · have HE : Hid (ROpIs w S p (d.append s b) (.returned (.int .i64 171)) w) := Lib.hid (by
      rw [show d.append s b = (171, d) by simp [Dk.append, hn, hf]]
      exact rop_same H.out (Only.refl _ _) rfl)
    clear hn hf
    go_wp2_with fail
    go_ret
    rw [HSS.out]
    exact HE.out
  · obtain ⟨x, hx⟩ : ∃ x, d.files[i] = x := ⟨_, rfl⟩
    obtain ⟨oa1, c1, rfl, hnc⟩ := H.out.files.shape
    obtain ⟨N, hN⟩ : ∃ N, d.files.length = N := ⟨_, rfl⟩
    obtain ⟨bs, hbs⟩ : ∃ a : ByteArray, a = ⟨x.bytes.toArray⟩ := ⟨_, rfl⟩
    have hbl' : bs.size = x.bytes.length := by rw [hbs]; simp [ByteArray.size]
    have hrow := H.out.files
    rw [hN] at hrow
    have hiN : i < N := by omega
    obtain ⟨g, off, rfl⟩ := hrow.addr (by omega)
    have hN4 : N ≤ 4096 := by rw [← hN]; exact H.out.few
    have hsz := H.out.sizes x (by rw [← hx]; exact List.getElem_mem hi)
    have c0 : w.cell? ⟨p, 0, none⟩ = some (.slice (some ⟨g, off, none⟩) N c1) := cell_of H.out.head (by rw [← hN]; rfl)
    have k1 : w.cell? ⟨g, off + i * 5 + 1, none⟩ = some (.string bs) := rf_cell (i := 1) hrow hi (by omega) (by rw [hx, hbs]; rfl)
    have hbb : bs.size ≤ 16777216 := by omega
    by_cases hvast : 16777216 < lb + bs.size
    · have HE : Hid (ROpIs w S p (d.append s b) (.returned (.int .i64 6)) w) := Lib.hid (by
        rw [show d.append s b = (6, d) by
          unfold Dk.append
          rw [if_neg (by rw [hn]; simp), hf, hx]
          show (if _ then _ else _) = _
          rw [if_pos (by rw [HLB.out, ← hbl']; exact hvast)]]
        exact rop_same H.out (Only.refl _ _) rfl)
      have hd : decide ((16777216 : Int) - (bs.size : Int) < (lb : Int)) = true := decide_eq_true (by omega)
      clear hn hf hxn hxt hx hnc hN hbs hbl' hrow hsz
      go_wp2_with fail
      go_ret
      rw [HSS.out]
      exact HE.out
    · have hd : decide ((16777216 : Int) - (bs.size : Int) < (lb : Int)) = false := decide_eq_false (by omega)
      have HX := Lib.hid (And.intro hn (And.intro hxn (And.intro hxt (And.intro hf (And.intro hx (And.intro hN (And.intro hbs (And.intro hbl' hsz))))))))
      clear hn hf hxn hxt hx hnc hN hbs hbl' hrow hsz
      go_wp2_with fail
      refine (refStep_b H.out).mono ?_
      rintro e w2 ⟨kp, fv2, rfl, hkp, h2, ho2⟩
      have hfl : d.next.files = d.files := rfl
      have hrow := h2.files
      rw [hfl, HX.out.2.2.2.2.2.1] at hrow
      have hh2 := h2.head
      rw [HX.out.2.2.2.2.2.1] at hh2
      have c0' : w2.cell? ⟨p, 0, none⟩ = some (.slice (some ⟨g, off, none⟩) N c1) := cell_of hh2 rfl
      have k1' : w2.cell? ⟨g, off + i * 5 + 1, none⟩ = some (.string bs) := rf_cell (i := 1) hrow hi (by omega) (by rw [HX.out.2.2.2.2.1, HX.out.2.2.2.2.2.2.1]; rfl)
      have z1' : w2.frozen? ⟨g, off + i * 5 + 1, none⟩ = false := by have := hrow.freeAt (j := i * 5 + 1) (by omega); rwa [← Nat.add_assoc] at this
      obtain ⟨er, her⟩ : ∃ n, d.fate.1 = n := ⟨_, rfl⟩
      rw [her] at hkp ⊢
      have HD : Hid (∀ (l : List UInt8) (v : ByteArray), l = (if er = 0 then b else b.take d.fate.2) → v = ⟨(x.bytes ++ l).toArray⟩ → ROpIs w S p (d.append s b) (.returned (.int .i64 er)) (w2.setCell ⟨g, off + i * 5 + 1, none⟩ (.string v)).drew) := Lib.hid (fun l v hl hv => by
        obtain ⟨hn, hxn, hxt, hf, hx, hN, hbs, hbl', hsz⟩ := HX.out
        have hde : d.append s b = (er, { d.next with files := d.files.set i { x with bytes := x.bytes ++ l } }) := by
          unfold Dk.append
          rw [if_neg (by rw [hn]; simp), hf]
          show (if _ then _ else _) = _
          rw [if_neg (by rw [HLB.out, hx, ← hbl']; exact hvast), her]
          simp only [Dk.turn]
          rw [turn_set h2.sorted (i := i) hi hxn]
          simp only [hfl, hx, hl]
        have hll : l.length ≤ lb := by
          rw [hl, ← HLB.out]
          split
          · exact Nat.le_refl _
          · rw [List.length_take]; omega
        have h3 := h2.file_set (i := i) (k := 1) (v := .string v) (f' := { x with bytes := x.bytes ++ l }) hi rfl (by omega)
          (by show rfFile _ = (rfFile d.files[i]).set 1 _; rw [hx, hv]; rfl) (by show x.name = d.files[i].name; rw [hx]) ⟨by show x.lasts ≤ (x.bytes ++ l).length; rw [List.length_append]; omega, by show (x.bytes ++ l).length ≤ _; rw [List.length_append]; omega⟩
        rw [hde]
        rw [← Nat.add_assoc] at h3
        refine rop_same h3.drew (only_drew ?_) rfl
        exact (only_p ho2 H.out.footp).trans (only_r (v := .slice (some ⟨g, off, none⟩) d.files.length c1) (g := g) (only_setCell (fun k => k = g) _ _ _ _ rfl) rfl H.out.footr) (fun _ _ h => h))
      have HBR : Hid (readAt w2 1 (.slice oa lb c) lb (byteCells b)) := Lib.hid (HBW.out.1.kept (fun k hk hk2 h0 => ho2.block k hk (fun e => HBW.out.2 k hk2 h0 (by rw [e]; exact H.out.footp))))
      have HBS : Hid (bs = ⟨x.bytes.toArray⟩) := Lib.hid HX.out.2.2.2.2.2.2.1
      have HKP := Lib.hid hkp
      clear hrow hh2 h2 ho2 her hkp hfl c0 k1 hd
      by_cases h0 : er = 0
      · subst h0
        have hcv : ∀ W : World, W = w2 ∨ W = w2.drew → (convert 79 9 (.slice oa lb c)).run Try.prog W = .ok (.string ⟨b.toArray⟩) W := fun W hW => run_string_rd W 79 9 5 oa lb c b HLB.out Try.underlying79 Try.underlying5 Try.underlying9 (by rcases hW with rfl | rfl <;> exact HBR.out)
        have hcv1 := hcv w2 (.inl rfl)
        have hcv2 := hcv w2.drew (.inr rfl)
        obtain ⟨ab, hab⟩ : ∃ a : ByteArray, a = ⟨b.toArray⟩ := ⟨_, rfl⟩
        rw [← hab] at hcv1 hcv2
        have HAB := Lib.hid hab
        have habs : ab.size = lb := by rw [hab, ← HLB.out]; simp [ByteArray.size]
        have hadd : ¬ 9223372036854775807 < bs.size + ab.size := by omega
        clear hcv hab
        go_wp2_with fail
        go_region
        go_wp2_with fail
        go_ret
        rw [HSS.out]
        exact HD.out b _ (by simp) (by rw [HBS.out, HAB.out, ByteArray.mk_append_mk])
      · have hne : (er != 0) = true := by simpa using h0
        obtain ⟨k, hk⟩ : ∃ k, d.fate.2 = k := ⟨_, rfl⟩
        have hkp : kp = (k : Int) := by rw [HKP.out h0, hk]
        subst hkp
        rw [hk] at HD
        clear hk HKP
        have hlc : lb ≤ c := HBR.out.cap
        have hz := add_zero_map oa
        by_cases hlt : k < lb
        · skip
          have hsl := fun W => run_take oa lb c k (by omega) hz W
          have hmin : min (k : Int) (lb : Int) = (k : Int) := by omega
          have hrd : readAt w2 1 (.slice oa k c) k (byteCells (b.take k)) := by
            have := HBR.out.take k (by omega)
            simpa [byteCells, List.map_take] using this
          have hkl : (b.take k).length = k := by rw [List.length_take, HLB.out]; omega
          have hcv : ∀ W : World, W = w2 ∨ W = w2.drew → (convert 79 9 (.slice oa k c)).run Try.prog W = .ok (.string ⟨(b.take k).toArray⟩) W := fun W hW => run_string_rd W 79 9 5 oa k c (b.take k) hkl Try.underlying79 Try.underlying5 Try.underlying9 (by rcases hW with rfl | rfl <;> exact hrd)
          have hcv1 := hcv w2 (.inl rfl)
          have hcv2 := hcv w2.drew (.inr rfl)
          obtain ⟨ab, hab⟩ : ∃ a : ByteArray, a = ⟨(b.take k).toArray⟩ := ⟨_, rfl⟩
          rw [← hab] at hcv1 hcv2
          have HAB := Lib.hid hab
          have habs : ab.size = k := by rw [hab, ← hkl]; simp [ByteArray.size]
          have hadd : ¬ 9223372036854775807 < bs.size + ab.size := by omega
          clear hcv hab hrd hkl hz
          go_wp2_with fail
          go_region
          go_wp2_with fail
          go_ret
          rw [HSS.out]
          exact HD.out (b.take k) _ (by rw [if_neg h0]) (by rw [HBS.out, HAB.out, ByteArray.mk_append_mk])
        · skip
          have hsl := fun W => run_take oa lb c lb (by omega) hz W
          have hmin : min (k : Int) (lb : Int) = (lb : Int) := by omega
          have hrd : readAt w2 1 (.slice oa lb c) lb (byteCells (b.take lb)) := by
            have := HBR.out.take lb (by omega)
            simpa [byteCells, List.map_take] using this
          have hkl : (b.take lb).length = lb := by rw [List.length_take, HLB.out]; omega
          have hcv : ∀ W : World, W = w2 ∨ W = w2.drew → (convert 79 9 (.slice oa lb c)).run Try.prog W = .ok (.string ⟨(b.take lb).toArray⟩) W := fun W hW => run_string_rd W 79 9 5 oa lb c (b.take lb) hkl Try.underlying79 Try.underlying5 Try.underlying9 (by rcases hW with rfl | rfl <;> exact hrd)
          have hcv1 := hcv w2 (.inl rfl)
          have hcv2 := hcv w2.drew (.inr rfl)
          obtain ⟨ab, hab⟩ : ∃ a : ByteArray, a = ⟨(b.take lb).toArray⟩ := ⟨_, rfl⟩
          rw [← hab] at hcv1 hcv2
          have HAB := Lib.hid hab
          have habs : ab.size = lb := by rw [hab, ← hkl]; simp [ByteArray.size]
          have hadd : ¬ 9223372036854775807 < bs.size + ab.size := by omega
          clear hcv hab hrd hkl hz
          go_wp2_with fail
          go_region
          go_wp2_with fail
          go_ret
          rw [HSS.out]
          exact HD.out (b.take lb) _ (by rw [if_neg h0, List.take_of_length_le (l := b) (by rw [HLB.out]; exact Nat.le_refl _), List.take_of_length_le (l := b) (by rw [HLB.out]; omega)]) (by rw [HBS.out, HAB.out, ByteArray.mk_append_mk])
end Go.Proofs.Ytmkjejngnahpeaa
/- The document's disk: rows of files that are built anew. -/
namespace Go.Proofs.Ytmkjejngnahpeaa
open Go Go.Maps Go.RowKit
open Go.Proofs (encStr)

theorem info_rfile : (Try.prog.info? 200).map (fun i => (i.zero, i.size, i.bytes)) = some (some (.agg #[.string ⟨#[]⟩, .string ⟨#[]⟩, .int .i64 0, .bool false, .bool false]), 5, 48) := by kernel_rfl
theorem rfive_row (w : World) (a b c d e : Value) : rowAt (w.alloc (.cells #[a, b, c, d, e] 200)) 200 5 (.slice (some ⟨w.heap.size, 0, none⟩) 1 1) 1 [a, b, c, d, e] :=
  ⟨rfl, .inr ⟨_, 0, 1, _, _, rfl, alloc_cells _ _ _, Nat.le_refl _, by unfold maxLen; omega, by simp, freeRow_zero _, rfl⟩⟩
/-- a row of the document's files, in blocks that are new since w0 -/
structure NewRow (w0 W : World) (v : Value) (l : List F0) : Prop where
  row : rowAt W 200 5 v l.length (rfCells l)
  own : ∀ k, v.ownBlock = some k → w0.heap.size ≤ k
  below : Below w0.heap.size w0 W
theorem NewRow.nil {w0 W : World} (h : Below w0.heap.size w0 W) : NewRow w0 W (.slice none 0 0) [] := ⟨⟨rfl, .inl ⟨rfl, rfl⟩⟩, fun k hk => by simp [Value.ownBlock] at hk, h⟩
theorem NewRow.kept {w0 W W' : World} {v : Value} {l : List F0} (h : NewRow w0 W v l) (hb : Below W.heap.size W W') : NewRow w0 W' v l :=
  ⟨h.row.kept (fun k hk => hb.block k (h.row.lt k hk)), h.own, h.below.trans (hb.mono h.below.size)⟩
theorem NewRow.alloc {w0 W : World} {v : Value} {l : List F0} (h : NewRow w0 W v l) (o : Obj) : NewRow w0 (W.alloc o) v l := h.kept ((Below.refl _ _).alloc (Nat.le_refl _) _)
theorem NewRow.len {w0 W : World} {oa : Option Addr} {m c : Nat} {l : List F0} (h : NewRow w0 W (.slice oa m c) l) : l.length = m := by
  obtain ⟨oa', c', he, _⟩ := h.row.shape
  simp only [Value.slice.injEq] at he
  exact he.2.1.symm
/-- files are appended to such a row -/
theorem wpList_append_rf {w0 w : World} {ops : Array Oper} {rest : List Oper} {o : Oper} {a : Act} {Q : Exit → Act → World → Prop} (hgd : o.guard = none) (s x : Operand)
    (ho : o.op = .call { callee := .builtin .append, args := #[s, x], argTypes := #[196, 196] })
    {oa : Option Addr} {m c : Nat} {l : List F0} (h : NewRow w0 w (.slice oa m c) l) {ob : Option Addr} {k cb : Nat} {l2 : List F0} (hk : l2.length = k) (hr : readAt w 5 (.slice ob k cb) k (rfCells l2)) {t : Nat} (ht : m + k = t) (hm : t ≤ 100000)
    (hs : a.eval s = .slice oa m c) (hx : a.eval x = .slice ob k cb)
    (hK : ∀ oa3 c3 w3, Hid (NewRow w0 w3 (.slice oa3 t c3) (l ++ l2)) → wpList Try.prog ops Q rest (a.put o.dst (.slice oa3 t c3)) w3) :
    wpList Try.prog ops Q (o :: rest) a w := by
  subst ht
  have hl := h.len
  have hrow := h.row
  rw [hl] at hrow
  refine wpList_append_at _ hgd s x 196 196 ho 200 (.agg #[.string ⟨#[]⟩, .string ⟨#[]⟩, .int .i64 0, .bool false, .bool false]) 5 48 Try.underlying196 info_rfile rfl _ m _ hs hrow _ k _ hx (Src.of_read Try.underlying196 hr (rfCells_one l2)) (by unfold maxLen; omega) (by omega) ?_
  intro v' w3 hr3 hg hown _
  obtain ⟨oa3, c3, rfl, _⟩ := hr3.shape
  refine hK oa3 c3 w3 (Lib.hid ⟨?_, ?_, ?_⟩)
  · rw [List.length_append, hl, hk, rfCells_append]
    exact hr3
  · intro j hj
    rcases hown with h1 | h1
    · exact h.own j (by rw [← h1]; exact hj)
    · rw [hj] at h1
      simp only [Option.some.injEq] at h1
      have := h.below.size
      omega
  · exact h.below.grown hg h.below.size (fun k hk' => h.own k hk')
theorem rtake_run {oa : Option Addr} {n c : Nat} (i : Nat) (hi : i ≤ c) (h0 : oa.map (fun x => x.add 0) = oa) (W : World) : (Instr.slice 196 (.slice oa n c) none (some (.int .i64 (i : Int))) none).run Try.prog W = .ok (.slice oa i c) W := by
  have hs : (sizeOf 200).run Try.prog W = .ok 5 W := by kernel_rfl
  have he : Try.prog.elem 196 = 200 := by kernel_rfl
  rw [run_slice_h (P := Try.prog) (w := W) 196 oa n c (by rw [he]; exact Try.underlying196) .i64 i (by omega) (by omega), he, hs]
  simp [Result.andThen, sliced, h0]
theorem rdrop_run (oa : Option Addr) (n c i : Nat) (hi : i ≤ n) (W : World) : (Instr.slice 196 (.slice oa n c) (some (.int .i64 (i : Int))) none none).run Try.prog W = .ok (.slice (if c = i then oa else oa.map (·.add (i * 5))) (n - i) (c - i)) W := by
  have hs : (sizeOf 200).run Try.prog W = .ok 5 W := by kernel_rfl
  have he : Try.prog.elem 196 = 200 := by kernel_rfl
  rw [run_slice_l (P := Try.prog) (w := W) 196 oa n c (by rw [he]; exact Try.underlying196) .i64 i (by omega) (by omega), he, hs]
  simp [Result.andThen, sliced]
theorem rowAt.files_take {w : World} {oa : Option Addr} {c n j : Nat} {l : List F0} (h : rowAt w 200 5 (.slice oa n c) n (rfCells l)) (hj : j ≤ n) : readAt w 5 (.slice oa j c) j (rfCells (l.take j)) := by
  rw [rfCells_take]
  exact (rowAt.take h j hj).read
theorem rowAt.files_drop {w : World} {oa : Option Addr} {c n j : Nat} {l : List F0} (h : rowAt w 200 5 (.slice oa n c) n (rfCells l)) (hj : j ≤ n) : readAt w 5 (.slice (if c = j then oa else oa.map (·.add (j * 5))) (n - j) (c - j)) (n - j) (rfCells (l.drop j)) := by
  obtain ⟨oa', c', he, hc⟩ := h.shape
  simp only [Value.slice.injEq] at he
  obtain ⟨-, -, rfl⟩ := he
  have h1 := (h.sub j n c hj (Nat.le_refl _) hc (Nat.le_refl _)).read
  have hl : (rfCells l).length = n * 5 := h.1
  have e : ((rfCells l).drop (j * 5)).take ((n - j) * 5) = rfCells (l.drop j) := by
    rw [rfCells_drop, List.take_of_length_le]
    rw [List.length_drop, hl]
    omega
  rw [e] at h1
  exact h1
/-- where a file is put in -/
theorem insF_at (f : F0) : ∀ (l : List F0) (j : Nat), j ≤ l.length → (∀ g ∈ l.take j, g.name < f.name) → (∀ h : j < l.length, ¬ l[j].name < f.name) → insF f l = l.take j ++ f :: l.drop j
  | [], j, hj, _, _ => by
    obtain rfl : j = 0 := by simpa using hj
    rfl
  | g :: r, 0, _, _, h => by
    have h0 := h (by simp)
    show (if g.name < f.name then _ else _) = _
    rw [if_neg (by simpa using h0)]
    rfl
  | g :: r, j + 1, hj, h1, h2 => by
    have h0 := h1 g (by simp)
    show (if g.name < f.name then _ else _) = _
    rw [if_pos h0, insF_at f r j (by simpa using hj) (fun x hx => h1 x (by simp [hx])) (fun hlt => h2 (by simpa using hlt))]
    rfl
theorem less_eq : ∀ (x y : List UInt8), Op.bytesLess x y = decide (x < y)
  | [], [] => by simp [Op.bytesLess]
  | _ :: _, [] => by simp [Op.bytesLess]
  | [], _ :: _ => by simp [Op.bytesLess]
  | a :: x, b :: y => by
    rw [Op.bytesLess, less_eq x y]
    by_cases h : a < b
    · simp [h, List.cons_lt_cons_iff]
    · by_cases e : a = b
      · subst e; simp
      · simp [h, e, List.cons_lt_cons_iff]
theorem str_less {a b : ByteArray} {t : Bool} (h : decide (a.data.toList < b.data.toList) = t) : Op.bytesLess a.toList b.toList = t := by
  rw [less_eq, ← h, Lib.toList_data, Lib.toList_data]
/-- a new row of files is stored -/
theorem rf_store {w w2 w5 : World} {S : Nat → Prop} {p : Nat} {rv fv : Value} {d1 : Dk} (h2 : RfIs w2 S p rv fv d1) (ho2 : Only (fun k => k = p) w w2) {v' : Value} {fl' : List F0} (hr : NewRow w2 w5 v' fl')
    (hs : (fl'.map (·.name)).Pairwise (· < ·)) (hn : ∀ f ∈ fl', nameOk f.name = true) (hz : ∀ f ∈ fl', f.lasts ≤ f.bytes.length ∧ f.bytes.length ≤ 16777216) (hf : fl'.length ≤ 4096) (er : Int) :
    ROpIs w S p (er, { d1 with files := fl' }) (.returned (.int .i64 er)) (w5.setCell ⟨p, 0, none⟩ v') := by
  have hplt : p < w2.heap.size := h2.low p h2.footp
  have hset : Only (fun k => k = p) w5 (w5.setCell ⟨p, 0, none⟩ v') := only_setCell (fun k => k = p) _ _ _ _ rfl
  have ho : Only (fun k => k = p) w2 (w5.setCell ⟨p, 0, none⟩ v') := (Only.of_below hr.below (Nat.le_refl _) _).trans hset (fun _ _ h => h)
  have hsz5 := hr.below.size
  have hszs := hset.size
  have hsz2 := ho2.size
  have hp5 := (hr.below.block p hplt).trans h2.head
  refine ⟨rfl, ⟨v', fv, ?_⟩, (only_p ho2 h2.footp).trans (only_p ho h2.footp) (fun _ _ h => h)⟩
  refine h2.files_turn ho (heap_setCell_here _ hp5) (hr.row.kept (fun k hk => hset.block k (hr.row.lt k hk) (fun e => by have := hr.own k hk; omega))) (fun k hk => .inl hk) (fun k hk => .inr ⟨?_, ?_⟩) (fun k hk => ?_) hs hn hz hf
  · have := hr.own k hk
    omega
  · have := hr.row.lt k hk
    omega
  · rcases hk with hk | hk
    · have := h2.low k hk
      omega
    · exact hk.2
end Go.Proofs.Ytmkjejngnahpeaa
/- The document's disk: Create. -/
namespace Go.Proofs.Ytmkjejngnahpeaa
open Go Go.Maps Go.RowKit
open Go.Proofs (encStr)

theorem create_sizes {l : List F0} {s : List UInt8} (h : ∀ f ∈ l, f.lasts ≤ f.bytes.length ∧ f.bytes.length ≤ 16777216) : ∀ f ∈ insF ⟨s, [], 0, true, false⟩ l, f.lasts ≤ f.bytes.length ∧ f.bytes.length ≤ 16777216 := fun f hf => by
  rcases (mem_insF _ f l).1 hf with rfl | hf
  · exact ⟨Nat.le_refl _, by show (0 : Nat) ≤ _; omega⟩
  · exact h f hf
theorem create_names {l : List F0} {s : List UInt8} (hs : nameOk s = true) (h : ∀ f ∈ l, nameOk f.name = true) : ∀ f ∈ insF ⟨s, [], 0, true, false⟩ l, nameOk f.name = true := fun f hf => by
  rcases (mem_insF _ f l).1 hf with rfl | hf
  · exact hs
  · exact h f hf
set_option maxRecDepth 100000 in
set_option maxHeartbeats 2000000 in
theorem refCreate_b {w : World} {S : Nat → Prop} {p : Nat} {d : Dk} (h : RfAt w S p d) (nm : ByteArray) (hs : nm.size ≤ maxLen) :
    Calls Try.prog 55 #[.pointer (some ⟨p, 0, none⟩), .string nm] w fun e w' => ROpIs w S p (d.create nm.data.toList) e w' := by
  obtain ⟨rv, fv, h⟩ := h
  obtain ⟨s, hss⟩ : ∃ s, nm.data.toList = s := ⟨_, rfl⟩
  have H := Lib.hid h
  have HSS := Lib.hid hss
  clear h
  go_enter Try.func55, Try.ntmps55
  go_wp2_with fail
  refine (refNamed_any nm _ hs).mono ?_
  rintro e w' ⟨rfl, hw'⟩
  obtain rfl := hw'.symm
  rw [hss]
  clear hss
  cases hn : nameOk s with
  | false =>
    have HE : Hid (ROpIs w S p (d.create s) (.returned (.int .i64 2)) w) := Lib.hid (by
      rw [show d.create s = (2, d) by simp [Dk.create, hn]]
      exact rop_same H.out (Only.refl _ _) rfl)
    clear hn
    go_wp2_with fail
    go_ret
    rw [HSS.out]
    exact HE.out
  | true =>
    have HNK := Lib.hid hn
    clear hn
    go_wp2_with fail
    refine (refAt_b H.out nm).mono ?_
    rintro e w1 ⟨hp, hw1⟩
    obtain rfl := hw1.symm
    rw [HSS.out] at hp
    rcases hp with ⟨ha, rfl⟩ | ⟨i, hi, hxn, ha, rfl⟩
    case inr =>
      have HE : Hid (ROpIs w S p (d.create s) (.returned (.int .i64 170)) w) := Lib.hid (by
        rw [show d.create s = (170, d) by simp [Dk.create, HNK.out, ha]]
        exact rop_same H.out (Only.refl _ _) rfl)
      have hd : decide ((0 : Int) ≤ (i : Int)) = true := decide_eq_true (by omega)
      clear ha hxn
      go_wp2_with fail
      go_ret
      rw [HSS.out]
      exact HE.out
    obtain ⟨oa, c, rfl, hnc⟩ := H.out.files.shape
    obtain ⟨N, hN⟩ : ∃ N, d.files.length = N := ⟨_, rfl⟩
    have hN4 : N ≤ 4096 := by rw [← hN]; exact H.out.few
    have c0 : w.cell? ⟨p, 0, none⟩ = some (.slice oa N c) := cell_of H.out.head (by rw [← hN]; rfl)
    have HAT := Lib.hid (And.intro ha hN)
    rw [hN] at hnc
    clear ha hN
    by_cases hfew : 4096 ≤ N
    · have HE : Hid (ROpIs w S p (d.create s) (.returned (.int .i64 6)) w) := Lib.hid (by
        rw [show d.create s = (6, d) by
          unfold Dk.create
          rw [if_neg (by rw [HNK.out]; simp), if_neg (by rw [HAT.out.1]; simp), if_pos (by rw [HAT.out.2]; exact hfew)]]
        exact rop_same H.out (Only.refl _ _) rfl)
      have hd : decide ((4096 : Int) ≤ (N : Int)) = true := decide_eq_true (by omega)
      go_wp2_with fail
      go_ret
      rw [HSS.out]
      exact HE.out
    have hd : decide ((4096 : Int) ≤ (N : Int)) = false := decide_eq_false (by omega)
    go_wp2_with fail
    refine (refStep_b H.out).mono ?_
    rintro e w2 ⟨kp, fv2, rfl, -, h2, ho2⟩
    clear hd c0
    obtain ⟨er, her⟩ : ∃ n, d.fate.1 = n := ⟨_, rfl⟩
    rw [her]
    by_cases h0 : er = 0
    case neg =>
      have hne : (er != 0) = true := by simpa using h0
      have HE : Hid (ROpIs w S p (d.create s) (.returned (.int .i64 er)) w2) := Lib.hid (by
        rw [show d.create s = (er, d.next) by
          unfold Dk.create
          rw [if_neg (by rw [HNK.out]; simp), if_neg (by rw [HAT.out.1]; simp), if_neg (by rw [HAT.out.2]; exact hfew), if_pos (by rw [her]; exact h0), her]]
        exact rop_same h2 (only_p ho2 H.out.footp) rfl)
      clear h2 ho2 her
      go_wp2_with fail
      go_ret
      rw [HSS.out]
      exact HE.out
    subst h0
    have hfl : d.next.files = d.files := rfl
    have hrow := h2.files
    rw [hfl, HAT.out.2] at hrow
    have hh2 := h2.head
    rw [HAT.out.2] at hh2
    have hplt : p < w2.heap.size := h2.low p h2.footp
    have c0 : w2.cell? ⟨p, 0, none⟩ = some (.slice oa N c) := cell_of hh2 rfl
    have HH2 := Lib.hid (And.intro hh2 hrow)
    have HD : Hid (∀ (j : Nat) (w5 : World) (v' : Value), j ≤ N → (∀ f ∈ d.files.take j, f.name < s) → (∀ h : j < d.files.length, ¬ d.files[j].name < s) → NewRow w2 w5 v' (d.files.take j ++ ⟨s, [], 0, true, false⟩ :: d.files.drop j) → ROpIs w S p (d.create s) (.returned (.int .i64 0)) (w5.setCell ⟨p, 0, none⟩ v')) := Lib.hid (fun j w5 v' hj h1 h3 hr => by
      have hno : ∀ g ∈ d.files, g.name ≠ s := fun g hg he => by
        have := List.find?_eq_none.1 HAT.out.1 g hg
        simp [he] at this
      have hins := insF_at (⟨s, [], 0, true, false⟩ : F0) d.files j (by rw [HAT.out.2]; exact hj) h1 h3
      rw [← hins] at hr
      have hde : d.create s = (0, { d.next with files := insF ⟨s, [], 0, true, false⟩ d.files }) := by
        unfold Dk.create
        rw [if_neg (by rw [HNK.out]; simp), if_neg (by rw [HAT.out.1]; simp), if_neg (by rw [HAT.out.2]; exact hfew), if_neg (by rw [her]; simp)]
      rw [hde]
      exact rf_store h2 ho2 hr (insF_sorted _ _ h2.sorted (by exact hno)) (create_names HNK.out h2.names) (create_sizes h2.sizes) (by rw [insF_length, HAT.out.2]; omega) 0)
    clear h2 ho2 her hrow hh2 hfl hfew
    have HFX : Hid (rfCells [⟨s, [], 0, true, false⟩] = [.string nm, .string ⟨#[]⟩, .int .i64 0, .bool true, .bool false]) := Lib.hid (by rw [← HSS.out]; rfl)
    go_wp2_with fail
    go_loop [9] (fun i => ∃ j : Nat, j ≤ N ∧ i = .int .i64 j ∧ Hid (∀ f ∈ d.files.take j, f.name < s)) (fun i => N - (intOf i).toNat)
    case atStart => exact ⟨0, Nat.zero_le _, rfl, Lib.hid (by simp)⟩
    case round =>
      obtain ⟨j, hj, rfl, HA⟩ := hrel
      by_cases hlt : j < N
      · have hjf : j < d.files.length := by rw [HAT.out.2]; exact hlt
        obtain ⟨g, off, rfl⟩ := HH2.out.2.addr (by omega)
        obtain ⟨x, hx⟩ : ∃ x, d.files[j] = x := ⟨_, rfl⟩
        obtain ⟨xn, hxn⟩ : ∃ a : ByteArray, a = ⟨x.name.toArray⟩ := ⟨_, rfl⟩
        have k0 : w2.cell? ⟨g, off + j * 5, none⟩ = some (.string xn) := rf_cell (i := 0) HH2.out.2 hjf (by omega) (by rw [hx, hxn]; rfl)
        by_cases hn : x.name < s
        · have hl : Op.bytesLess xn.toList nm.toList = true := str_less (decide_eq_true (by rw [hxn, HSS.out]; exact hn))
          have HA2 : Hid (∀ f ∈ d.files.take (j + 1), f.name < s) := Lib.hid (fun f hf => by
            rw [List.take_succ_eq_append_getElem hjf] at hf
            rcases List.mem_append.1 hf with h1 | h1
            · exact HA.out f h1
            · rw [List.mem_singleton] at h1
              rw [h1, hx]; exact hn)
          clear hx hxn hn
          go_wp2_with fail
          exact ⟨⟨j + 1, by omega, by simp, HA2⟩, by simp [intOf]; omega⟩
        · have hl : Op.bytesLess xn.toList nm.toList = false := str_less (decide_eq_false (by rw [hxn, HSS.out]; exact hn))
          have HB : Hid (∀ h : j < d.files.length, ¬ d.files[j].name < s) := Lib.hid (fun h => by rw [hx]; exact hn)
          clear hx hxn hn
          have hz := add_zero_map (some ⟨g, off, none⟩)
          have hsl1 := fun W => rtake_run (n := N) j (by omega : j ≤ c) hz W
          have hsl2 := fun W => rdrop_run (some ⟨g, off, none⟩) N c j hj W
          obtain ⟨od, hod⟩ : ∃ od : Option Addr, od = if c = j then some ⟨g, off, none⟩ else (some (⟨g, off, none⟩ : Addr)).map (·.add (j * 5)) := ⟨_, rfl⟩
          rw [← hod] at hsl2
          have HOD := Lib.hid hod
          clear hod hz
          go_wp2_with (at_builtin; first | (refine wpList_append_rf (w0 := w2) rfl (.tmp 53) (.tmp 59) rfl (NewRow.nil (Below.refl _ _)) (l2 := d.files.take j) (k := j) (by rw [List.length_take, HAT.out.2]; omega) (rowAt.files_take HH2.out.2 hj) (t := j) (by omega) (by omega) rfl rfl ?_; intro oa3 c3 w3 HL1) | (refine wpList_append_rf (w0 := w2) rfl (.tmp 61) (.tmp 64) rfl (HL1.out.alloc _) (l2 := [⟨s, [], 0, true, false⟩]) (k := 1) rfl (by rw [HFX.out]; exact (rfive_row w3 _ _ _ _ _).read) (t := j + 1) rfl (by omega) rfl rfl ?_; intro oa4 c4 w4 HL2; have hp4 := (HL2.out.below.block p hplt).trans HH2.out.1; have c04 : w4.cell? ⟨p, 0, none⟩ = some (.slice (some ⟨g, off, none⟩) N c) := cell_of hp4 rfl; clear hp4) | (refine wpList_append_rf (w0 := w2) rfl (.tmp 67) (.tmp 73) rfl HL2.out (l2 := d.files.drop j) (k := N - j) (by rw [List.length_drop, HAT.out.2]) (by rw [HOD.out]; exact rowAt.files_drop (HH2.out.2.kept (fun k hk => HL2.out.below.block k (HH2.out.2.lt k hk))) hj) (t := N + 1) (by omega) (by omega) rfl rfl ?_; intro oa5 c5 w5 HL3; have hp5 := (HL3.out.below.block p hplt).trans HH2.out.1; have c05 : w5.cell? ⟨p, 0, none⟩ = some (.slice (some ⟨g, off, none⟩) N c) := cell_of hp5 rfl; have z05 : w5.frozen? ⟨p, 0, none⟩ = false := free_of hp5 _; clear hp5))
          go_ret
          rw [HSS.out]
          refine HD.out j _ _ hj HA.out HB.out ?_
          have h9 := HL3.out
          simp only [List.nil_append, List.append_assoc, List.singleton_append] at h9
          exact h9
      · have HB : Hid (∀ h : j < d.files.length, ¬ d.files[j].name < s) := Lib.hid (fun h => by rw [HAT.out.2] at h; omega)
        have hz := add_zero_map oa
        have hsl1 := fun W => rtake_run (n := N) j (by omega : j ≤ c) hz W
        have hsl2 := fun W => rdrop_run oa N c j hj W
        obtain ⟨od, hod⟩ : ∃ od : Option Addr, od = if c = j then oa else (oa).map (·.add (j * 5)) := ⟨_, rfl⟩
        rw [← hod] at hsl2
        have HOD := Lib.hid hod
        clear hod hz
        go_wp2_with (at_builtin; first | (refine wpList_append_rf (w0 := w2) rfl (.tmp 53) (.tmp 59) rfl (NewRow.nil (Below.refl _ _)) (l2 := d.files.take j) (k := j) (by rw [List.length_take, HAT.out.2]; omega) (rowAt.files_take HH2.out.2 hj) (t := j) (by omega) (by omega) rfl rfl ?_; intro oa3 c3 w3 HL1) | (refine wpList_append_rf (w0 := w2) rfl (.tmp 61) (.tmp 64) rfl (HL1.out.alloc _) (l2 := [⟨s, [], 0, true, false⟩]) (k := 1) rfl (by rw [HFX.out]; exact (rfive_row w3 _ _ _ _ _).read) (t := j + 1) rfl (by omega) rfl rfl ?_; intro oa4 c4 w4 HL2; have hp4 := (HL2.out.below.block p hplt).trans HH2.out.1; have c04 : w4.cell? ⟨p, 0, none⟩ = some (.slice (oa) N c) := cell_of hp4 rfl; clear hp4) | (refine wpList_append_rf (w0 := w2) rfl (.tmp 67) (.tmp 73) rfl HL2.out (l2 := d.files.drop j) (k := N - j) (by rw [List.length_drop, HAT.out.2]) (by rw [HOD.out]; exact rowAt.files_drop (HH2.out.2.kept (fun k hk => HL2.out.below.block k (HH2.out.2.lt k hk))) hj) (t := N + 1) (by omega) (by omega) rfl rfl ?_; intro oa5 c5 w5 HL3; have hp5 := (HL3.out.below.block p hplt).trans HH2.out.1; have c05 : w5.cell? ⟨p, 0, none⟩ = some (.slice (oa) N c) := cell_of hp5 rfl; have z05 : w5.frozen? ⟨p, 0, none⟩ = false := free_of hp5 _; clear hp5))
        go_ret
        rw [HSS.out]
        refine HD.out j _ _ hj HA.out HB.out ?_
        have h9 := HL3.out
        simp only [List.nil_append, List.append_assoc, List.singleton_append] at h9
        exact h9
end Go.Proofs.Ytmkjejngnahpeaa
/- Disk: entries that come out of the map; a part of the files. -/
namespace Go.Proofs.Ytmkjejngnahpeaa
open Go Go.Maps Go.RowKit
open Go.Proofs (encStr)

theorem Dic.came {D : DataW Unit} {L : List (List UInt8 × Nat)} (h : Dic D L) {x : List UInt8} {yd : DataW Unit} (hat : ∀ zd, D.atKey (.string x) zd = yd) : ∃ b, (x, b) ∈ L ∧ yd = .lit (.int .i64 b) := by
  cases hh : Maps.has D (.string x) with
  | true =>
    obtain ⟨f, hf, he⟩ := (h.has x).1 hh
    obtain ⟨s, b⟩ := f
    simp only at he
    subst he
    exact ⟨b, hf, by rw [← hat .nil]; exact h.get _ hf _⟩
  | false =>
    have h1 := hat .nil
    have h2 := hat (.lit (.bool true))
    rw [atKey_of_not_has hh] at h1 h2
    rw [← h1] at h2
    cases h2
theorem ptrElem_val {v : Value} {y : DataW Unit × List MemPlace} (h : ptrElem v = some y) {b : Nat} (hy : y.1 = .lit (.int .i64 b)) : v = .pointer (some ⟨b, 0, none⟩) := by
  obtain ⟨y1, ps⟩ := y
  simp only at hy
  subst hy
  exact ptrElem_inv h
theorem wpList_next_dic {ops : Array Oper} {rest : List Oper} {o : Oper} {a : Act} {Q : Exit → Act → World → Prop} (w : World) (hg : o.guard = none) (it : Operand) (hop : o.op = Op.next it false)
    {L : List (List UInt8 × Nat)} {D : DataW Unit} (hD : Dic D L) (mb r n : Nat) (left : Lit → Bool) (cnt : Nat) (hit : a.eval it = .pointer (some ⟨r, 0, none⟩)) (h : w.ranges Try.prog 9 ptrElem mb r n D left cnt)
    (hDone : (∀ kl, left kl = false) → wpList Try.prog ops Q rest (a.put o.dst (.tuple #[.bool false])) w)
    (hMore : ∀ (s : List UInt8) (b : Nat) (w' : World) (cnt' : Nat), (s, b) ∈ L → left (.string s) = true → w'.ranges Try.prog 9 ptrElem mb r n D (fun z => left z && !z.sameKey (.string s)) cnt' → cnt' < cnt →
      w.grownBy w' (some r) → w'.heap.size = w.heap.size → (Instr.entry (.pointer (some ⟨r, 0, none⟩))).run Try.prog w' = .ok (.tuple #[encStr s, .pointer (some ⟨b, 0, none⟩)]) w' → Hid (keyOf Try.prog 9 (encStr s) = some (.string s)) →
      wpList Try.prog ops Q rest (a.put o.dst (.tuple #[.bool true, encStr s, .pointer (some ⟨b, 0, none⟩)])) w') :
    wpList Try.prog ops Q (o :: rest) a w := by
  refine wpList_next_ranges w hg it hop 9 (string_keyed Try.underlying9) ptrElem encStr id (fun key kl hk => by obtain ⟨x, hx, _⟩ := Maps.keyOf_str Try.underlying9 hk; exact ⟨x, hx⟩) (fun v _ _ => ⟨v, rfl⟩) mb r n D left cnt hit h (fun _ hl => hDone hl) ?_
  intro x c kl y w' cnt' hkey hlk hv hat hrg hlt hgr hsz hen
  obtain ⟨x', ex, rfl, _⟩ := Maps.keyOf_str Try.underlying9 hkey
  obtain rfl : x = x' := encStr_inj ex
  obtain ⟨b, hb, hy⟩ := hD.came hat
  have hc : c = .pointer (some ⟨b, 0, none⟩) := ptrElem_val hv hy
  subst hc
  exact hMore x b w' cnt' hb hlk hrg hlt hgr hsz hen (Lib.hid hkey)
theorem grown_setC (w : World) (a : Addr) (u : Value) : w.grownBy (w.setCell a u) (some a.block) :=
  ⟨rfl, rfl, rfl, by simp [World.setCell], fun k _ hk => Below.heap_setCell _ _ _ _ (fun e => hk (by rw [e]))⟩
theorem Only.grown {S : Nat → Prop} {w w' : World} (h : Only S w w') {row : Option Nat} (hr : ∀ k, k < w.heap.size → S k → row = some k) : w.grownBy w' row :=
  ⟨h.os, h.tape, h.output, h.size, fun k hk hn => h.block k hk (fun hs => hn (hr k hk hs).symm)⟩
theorem sameKey_str (x y : List UInt8) : (Lit.string x).sameKey (.string y) = decide (x = y) := by
  by_cases h : x = y
  · simp [Lit.sameKey, h]
  · simp [Lit.sameKey, h]
theorem DiskIs.narrow {w : World} {S S' : Nat → Prop} {q mb : Nat} {fv : Value} {L : List Fl} {d : Dk} (h : DiskIs w S' q mb fv L d) (hn : ∀ k, S' k → S k) (hl : ∀ k, S k → k < w.heap.size) : DiskIs w S q mb fv L d :=
  { h with foot := fun k hk => hn k (h.foot k hk), low := hl }
theorem flatMap_sub {α β : Type} (f : α → List β) {l l' : List α} (h : l'.Sublist l) : (l'.flatMap f).Sublist (l.flatMap f) := by
  induction h with
  | slnil => exact List.Sublist.refl _
  | cons a _ ih => exact (ih.trans (List.sublist_append_right _ _))
  | cons_cons a _ ih => exact ih.append_left _
/-- some files are struck -/
theorem DiskIs.files_sub {w w' : World} {S : Nat → Prop} {q mb : Nat} {fv : Value} {L L' : List Fl} {d : Dk} {n' : Nat} {D' : DataW Unit} (h : DiskIs w S q mb fv L d) (hL : L'.Sublist L) (ho : Only (fun k => k = mb) w w')
    (hm : w'.ownsMap Try.prog 9 ptrElem mb n' D') (hd : Dic D' (L'.map fun x => (x.f.name, x.blk))) : DiskIs w' S q mb fv L' { d with files := L'.map (·.f) } := by
  have hsb : (diskBlocks q mb fv L').Sublist (diskBlocks q mb fv L) := ((((flatMap_sub Fl.blocks hL).append_left _).cons_cons mb).cons_cons q)
  have hin : ∀ k ∈ diskBlocks q mb fv L', S k := fun k hk => h.foot k (hsb.subset hk)
  have hnd := h.apart.sublist hsb
  have hne : ∀ k ∈ diskBlocks q mb fv L', k ≠ mb → w'.heap[k]? = w.heap[k]? := fun k hk hk' => ho.block k (h.low k (hin k hk)) hk'
  have hap := hnd
  simp only [diskBlocks, List.nodup_cons, List.mem_cons, not_or] at hap
  have hmb : ∀ k, k ∈ fv.ownBlock.toList ++ L'.flatMap Fl.blocks → k ≠ mb := fun k hk e => hap.2.1 (e ▸ hk)
  have hsub : (L'.map (·.f)).Sublist d.files := by rw [← h.files]; exact hL.map _
  have hs2 : ((L'.map (·.f)).map (·.name)).Pairwise (· < ·) := h.sorted.sublist (hsub.map _)
  exact {
    files := rfl
    head := (hne q (by simp [diskBlocks]) (fun e => hap.1.1 e)).trans h.head
    fates := h.fates.kept (fun k hk => hne k (by simp [diskBlocks, hk]) (hmb k (by simp [hk])))
    map := by
      refine ⟨D', ?_, hd⟩
      have h1 := ownsMap_tight hm
      rw [hd.size hm (by
        rw [List.map_map]
        have : (L'.map (·.f.name)).Pairwise (· < ·) := by simpa [Function.comp_def] using hs2
        exact this.imp (fun {a b} hab he => by rw [he] at hab; exact List.lt_irrefl _ hab))] at h1
      simpa using h1
    each := fun y hy => (h.each y (hL.subset hy)).kept (fun k hk => by
        have h1 : k ∈ fv.ownBlock.toList ++ L'.flatMap Fl.blocks := List.mem_append_right _ (List.mem_flatMap.2 ⟨y, hy, hk⟩)
        exact hne k (by simp only [diskBlocks, List.mem_cons]; exact .inr (.inr h1)) (hmb k h1))
    apart := hnd
    foot := hin
    low := fun k hk => Nat.lt_of_lt_of_le (h.low k hk) ho.size
    sorted := hs2
    names := fun f hf => h.names f (hsub.subset hf)
    few := Nat.le_trans hsub.length_le h.few }
def Dk.syncdir (d : Dk) : Int × Dk :=
  if d.fate.1 ≠ 0 then (d.fate.1, d.next)
  else (0, { d.next with files := (d.files.filter (·.there)).map fun f => { f with named := true } })
end Go.Proofs.Ytmkjejngnahpeaa
/- Disk: SyncDir: what is gone is struck from the map. -/
namespace Go.Proofs.Ytmkjejngnahpeaa
open Go Go.Maps Go.RowKit
open Go.Proofs (encStr)

set_option maxHeartbeats 400000 in
theorem gone_b {w : World} {x : Fl} (s : Value) {b : Bool} (hb : x.f.there = b) (h : FlAt w x) : Calls Try.prog 121 #[s, .pointer (some ⟨x.blk, 0, none⟩)] w fun e w' => e = .returned (.bool (!b)) ∧ w' = w := by
  have c2 : w.cell? ⟨x.blk, 2, none⟩ = some (.bool b) := by rw [← hb]; exact cell_of h.cells rfl
  clear h hb
  go_enter Try.func121, Try.ntmps121
  go_wp2_with fail
  go_ret
  exact ⟨rfl, rfl⟩
/-- the files that are there, or are still to come -/
def stayF (left : Lit → Bool) (L : List Fl) : List Fl := L.filter fun x => x.f.there || left (.string x.f.name)
theorem stayF_sub (left : Lit → Bool) (L : List Fl) : (stayF left L).Sublist L := List.filter_sublist
def pairsF (L : List Fl) : List (List UInt8 × Nat) := L.map fun x => (x.f.name, x.blk)
theorem mem_pairsF {L : List Fl} {s : List UInt8} {b : Nat} (h : (s, b) ∈ pairsF L) : ∃ x ∈ L, x.f.name = s ∧ x.blk = b := by
  obtain ⟨x, hx, he⟩ := List.mem_map.1 h
  simp only [Prod.mk.injEq] at he
  exact ⟨x, hx, he.1, he.2⟩
theorem eq_of_name {L : List Fl} (hnd : (L.map (·.f.name)).Nodup) {x y : Fl} (hx : x ∈ L) (hy : y ∈ L) (h : x.f.name = y.f.name) : x = y := by
  induction L with
  | nil => cases hx
  | cons a l ih =>
    rw [List.map_cons, List.nodup_cons] at hnd
    rcases List.mem_cons.1 hx with hx1 | hx1
    · rcases List.mem_cons.1 hy with hy1 | hy1
      · rw [hx1, hy1]
      · exact absurd (by rw [← hx1, h]; exact List.mem_map_of_mem (f := fun x : Fl => x.f.name) hy1) hnd.1
    · rcases List.mem_cons.1 hy with hy1 | hy1
      · exact absurd (by rw [← hy1, ← h]; exact List.mem_map_of_mem (f := fun x : Fl => x.f.name) hx1) hnd.1
      · exact ih hnd.2 hx1 hy1
theorem stay_there {L : List Fl} (hnd : (L.map (·.f.name)).Nodup) {left : Lit → Bool} {x : Fl} (hx : x ∈ L) (ht : x.f.there = true) : stayF (fun z => left z && !z.sameKey (.string x.f.name)) L = stayF left L := by
  refine List.filter_congr fun y hy => ?_
  by_cases he : y.f.name = x.f.name
  · rw [eq_of_name hnd hy hx he, ht]; rfl
  · show (y.f.there || (left _ && !_)) = _
    rw [sameKey_str, decide_eq_false he]; simp
theorem stay_gone {L : List Fl} (hnd : (L.map (·.f.name)).Nodup) {left : Lit → Bool} {x : Fl} (hx : x ∈ L) (ht : x.f.there = false) (f : List UInt8 × Nat) : f ∈ pairsF (stayF (fun z => left z && !z.sameKey (.string x.f.name)) L) ↔ f ∈ pairsF (stayF left L) ∧ f.1 ≠ x.f.name := by
  simp only [pairsF, stayF, List.mem_map, List.mem_filter]
  constructor
  · rintro ⟨y, ⟨hy, hk⟩, rfl⟩
    have hne : y.f.name ≠ x.f.name := fun he => by
      rw [eq_of_name hnd hy hx he, ht, sameKey_str] at hk
      simp at hk
    refine ⟨⟨y, ⟨hy, ?_⟩, rfl⟩, hne⟩
    rw [sameKey_str, decide_eq_false hne] at hk
    simpa using hk
  · rintro ⟨⟨y, ⟨hy, hk⟩, rfl⟩, hne⟩
    refine ⟨y, ⟨hy, ?_⟩, rfl⟩
    rw [sameKey_str, decide_eq_false hne]
    simpa using hk
set_option maxRecDepth 100000 in
set_option maxHeartbeats 1000000 in
theorem delGone_b {w : World} {S : Nat → Prop} {q mb : Nat} {fv : Value} {L : List Fl} {d : Dk} (h : DiskIs w S q mb fv L d) :
    Calls Try.prog 120 #[.map (some mb), .func (.func 121) #[] #[]] w fun e w' => e = .returned (.tuple #[]) ∧
      (∃ n' D, w'.ownsMap Try.prog 9 ptrElem mb n' D ∧ Dic D (pairsF (L.filter (·.f.there)))) ∧ Only (fun k => k = mb) w w' := by
  obtain ⟨D0, hown, hsz, hd⟩ := h.look
  have hnd := h.nodup
  have hmS : S mb := h.foot mb (by simp [diskBlocks])
  have hmb : mb < w.heap.size := h.low _ hmS
  have hxb : ∀ x ∈ L, ∀ k ∈ x.blocks, k < w.heap.size ∧ k ≠ mb := fun x hx k hk => by
    have hk' : k ∈ L.flatMap Fl.blocks := List.mem_flatMap.2 ⟨x, hx, hk⟩
    have h1 := h.apart
    simp only [diskBlocks, List.nodup_cons] at h1
    exact ⟨h.low k (h.foot k (by simp only [diskBlocks, List.mem_cons, List.mem_append]; exact .inr (.inr (.inr hk')))), fun e => h1.2.1 (by rw [← e]; exact List.mem_append_right _ hk')⟩
  have HX := Lib.hid hxb
  have HE := Lib.hid h.each
  have HND := Lib.hid hnd
  have HD : Hid (Dic D0 (pairsF L)) := Lib.hid hd
  clear h hd hnd hxb hmS hsz
  go_enter Try.func120, Try.ntmps120
  go_wp2_with (at_range; refine wpList_range_own _ rfl _ 120 rfl 9 176 (string_keyed Try.underlying9) Try.underlying120 ptrElem mb _ _ rfl hown ?_; intro w0 hrg0 hg0 hs0)
  go_frame
  go_loopw [8] (fun _ wr => ∃ (left : Lit → Bool) (cnt : Nat) (D : DataW Unit), wr.ranges Try.prog 9 ptrElem mb w.heap.size L.length D left cnt ∧ Hid (Dic D (pairsF (stayF left L))) ∧ Only (fun k => k = mb) w wr)
    (fun _ wr => wr.rangeLeft mb w.heap.size)
  case atStart =>
    refine ⟨_, _, _, hrg0, Lib.hid ?_, Only.of_grown (S := fun k => k = mb) (hg0.but (some mb)) (fun k hk => by simp at hk; exact hk.symm)⟩
    have e : stayF (has D0) L = L := List.filter_eq_self.2 fun x hx => by
      rw [(HD.out.has x.f.name).2 ⟨_, List.mem_map_of_mem (f := fun x : Fl => (x.f.name, x.blk)) hx, rfl⟩]
      simp
    rw [e]
    exact HD.out
  case round =>
    obtain ⟨left, cnt, D, hrg, HDC, ho⟩ := hrel
    go_wp2_with (at_next; refine wpList_next_dic _ rfl _ rfl HDC.out mb w.heap.size L.length left cnt rfl hrg ?_ ?_)
    · intro hl0
      go_wp2
      go_end0
      refine ⟨rfl, ⟨_, D, hrg.owns, ?_⟩, ho⟩
      have e : stayF left L = L.filter (·.f.there) := List.filter_congr fun x _ => by rw [hl0]; simp
      rw [← e]
      exact HDC.out
    · intro s b w1 cnt1 hmem hls hrg1 hlt hg1 hs1 hen HKEY
      obtain ⟨x, hx, rfl, rfl⟩ := mem_pairsF hmem
      have hxL : x ∈ L := (stayF_sub left L).subset hx
      have ho1 : Only (fun k => k = mb) w w1 := ho.trans (Only.of_grown (S := fun k => k = w.heap.size) hg1 (fun k hk => by simp at hk; exact hk.symm)) (fun i hi he => by omega)
      have HFX : Hid (FlAt w1 x) := Lib.hid ((HE.out x hxL).kept (fun k hk => ho1.block k (HX.out x hxL k hk).1 (HX.out x hxL k hk).2))
      obtain ⟨th, hth⟩ : ∃ th, x.f.there = th := ⟨_, rfl⟩
      cases th
      · have HT : Hid (Dic (D.del (.string x.f.name)) (pairsF (stayF (fun z => left z && !z.sameKey (.string x.f.name)) L))) := Lib.hid (HDC.out.del _ (stay_gone HND.out hxL hth))
        go_wp2_with (first
          | (go_at_call 121; refine (gone_b _ hth HFX.out).mono ?_; rintro e w2 ⟨rfl, rfl⟩)
          | (at_delete; refine wpList_delete_ranges _ rfl _ _ 120 9 rfl 176 (string_keyed Try.underlying9) Try.underlying120 ptrElem mb w.heap.size L.length _ _ _ rfl hrg1 _ _ rfl HKEY.out ?_; intro w3 cnt3 hrg3 hle hturn; go_frame))
        rw [strike_twice] at hrg3
        go_roundw
        case rel => exact ⟨_, cnt3, _, hrg3, HT, ho1.trans (Only.of_grown (S := fun k => k = mb) hturn.grown (fun k hk => by simp at hk; exact hk.symm)) (fun _ _ h => h)⟩
        case measure => rw [hrg3.left_eq, hrg.left_eq]; omega
      · have HT : Hid (Dic D (pairsF (stayF (fun z => left z && !z.sameKey (.string x.f.name)) L))) := Lib.hid (by rw [stay_there HND.out hxL hth]; exact HDC.out)
        go_wp2_with (go_at_call 121; refine (gone_b _ hth HFX.out).mono ?_; rintro e w2 ⟨rfl, rfl⟩)
        go_roundw
        case rel => exact ⟨_, cnt1, D, hrg1, HT, ho1⟩
        case measure => rw [hrg1.left_eq, hrg.left_eq]; exact hlt
end Go.Proofs.Ytmkjejngnahpeaa
/- Disk: SyncDir. -/
namespace Go.Proofs.Ytmkjejngnahpeaa
open Go Go.Maps Go.RowKit
open Go.Proofs (encStr)

def nameF (x : Fl) : Fl := { x with f := { x.f with named := true } }
/-- the files, as they stand while some are still to come -/
def namedF (left : Lit → Bool) (x : Fl) : Fl := if left (.string x.f.name) = true then x else nameF x
theorem namedF_name (left : Lit → Bool) (x : Fl) : (namedF left x).f.name = x.f.name ∧ (namedF left x).blk = x.blk := by
  unfold namedF
  split <;> exact ⟨rfl, rfl⟩
theorem pairs_named (left : Lit → Bool) (L : List Fl) : pairsF (L.map (namedF left)) = pairsF L := by
  unfold pairsF
  rw [List.map_map]
  exact List.map_congr_left fun x _ => by simp [(namedF_name left x).1, (namedF_name left x).2]
theorem named_split {L : List Fl} (hnd : (L.map (·.f.name)).Nodup) {left : Lit → Bool} {x : Fl} (hx : x ∈ L) (hl : left (.string x.f.name) = true) :
    ∃ A B, L.map (namedF left) = A ++ x :: B ∧ L.map (namedF fun z => left z && !z.sameKey (.string x.f.name)) = A ++ nameF x :: B := by
  obtain ⟨A, B, rfl⟩ := List.append_of_mem hx
  have hne : ∀ y, y ∈ A ∨ y ∈ B → y.f.name ≠ x.f.name := fun y hy he => by
    rw [List.map_append, List.map_cons] at hnd
    have h2 := List.nodup_append.1 hnd
    rcases hy with hy | hy
    · exact h2.2.2 y.f.name (List.mem_map_of_mem (f := fun x : Fl => x.f.name) hy) x.f.name (by simp) he
    · exact (List.nodup_cons.1 h2.2.1).1 (by rw [← he]; exact List.mem_map_of_mem (f := fun x : Fl => x.f.name) hy)
  have hc : ∀ l : List Fl, (∀ y ∈ l, y.f.name ≠ x.f.name) → l.map (namedF fun z => left z && !z.sameKey (.string x.f.name)) = l.map (namedF left) := fun l hl => List.map_congr_left fun y hy => by
    show (if (left (.string y.f.name) && !(Lit.string y.f.name).sameKey (.string x.f.name)) = true then y else nameF y) = if left (.string y.f.name) = true then y else nameF y
    rw [sameKey_str, decide_eq_false (hl y hy)]
    simp
  refine ⟨A.map (namedF left), B.map (namedF left), ?_, ?_⟩
  · rw [List.map_append, List.map_cons]
    congr 2
    unfold namedF
    rw [hl]
    rfl
  · rw [List.map_append, List.map_cons, hc A (fun y hy => hne y (.inl hy)), hc B (fun y hy => hne y (.inr hy))]
    congr 2
    show (if (left (.string x.f.name) && !(Lit.string x.f.name).sameKey (.string x.f.name)) = true then x else nameF x) = nameF x
    rw [sameKey_str]
    simp
theorem set_named {w : World} {S : Nat → Prop} {q mb : Nat} {fv : Value} {A B : List Fl} {x : Fl} {d : Dk} (h : DiskIs w S q mb fv (A ++ x :: B) d) :
    DiskIs (w.setCell ⟨x.blk, 3, none⟩ (.bool true)) S q mb fv (A ++ nameF x :: B) { d with files := (A ++ nameF x :: B).map (·.f) } := by
  have hx := h.each x (by simp)
  have hset : Only (fun k => k = x.blk) w (w.setCell ⟨x.blk, 3, none⟩ (.bool true)) := only_setCell (fun k => k = x.blk) w x.blk 3 _ rfl
  have h1 := h.file_turn (x' := nameF x) rfl rfl (hset.mono (fun i _ hi => by rw [hi]; simp [Fl.blocks])) ⟨heap_setCell_here (w := w) _ hx.cells, hx.row.kept (fun k hk => hset.block k (hx.row.lt k hk) (FlAt.own_ne h k hk)), hx.lasts, hx.size⟩ (fun k hk => .inl hk)
  have e : (A ++ nameF x :: B).map (·.f) = A.map (·.f) ++ (nameF x).f :: B.map (·.f) := by simp
  rw [e]
  refine h1.narrow (fun k hk => ?_) (fun k hk => ?_)
  · rcases hk with hk | hk
    · exact hk
    · have h2 : (w.setCell ⟨x.blk, 3, none⟩ (.bool true)).heap.size = w.heap.size := by simp [World.setCell]
      omega
  · have := h.low k hk
    simpa [World.setCell] using this
theorem syncdir_plain {L : List Fl} {d : Dk} {left : Lit → Bool} (hl : ∀ k, left k = false) (hf : d.fate.1 = 0) (hL : L.map (·.f) = d.files.filter (·.there)) :
    d.syncdir = (0, { d.next with files := (L.map (namedF left)).map (·.f) }) := by
  unfold Dk.syncdir
  rw [hf, if_neg (by simp), ← hL, List.map_map, List.map_map]
  have e : L.map ((fun f : F0 => { f with named := true }) ∘ fun x : Fl => x.f) = L.map ((fun x : Fl => x.f) ∘ namedF left) := List.map_congr_left fun x _ => by simp [namedF, hl, nameF]
  rw [e]
set_option maxRecDepth 100000 in
set_option maxHeartbeats 1000000 in
theorem syncdir_b {w : World} {S : Nat → Prop} {q : Nat} {d : Dk} (h : DiskAt w S q d) :
    Calls Try.prog 48 #[.pointer (some ⟨q, 0, none⟩)] w fun e w' => OpIs w S q d.syncdir e w' := by
  obtain ⟨mb, fv, L, h⟩ := h
  have H := Lib.hid h
  clear h
  go_enter Try.func48, Try.ntmps48
  go_wp2_with fail
  refine (none_b H.out).mono ?_
  rintro e w' ⟨rfl, rfl⟩
  go_wp2_with fail
  refine (step_b H.out).mono ?_
  rintro e w1 ⟨kd, kp, fv', rfl, hkp, h1, ho1⟩
  obtain ⟨er, her⟩ : ∃ er, d.fate.1 = er := ⟨_, rfl⟩
  rw [her]
  have H1 := Lib.hid h1
  have HO1 := Lib.hid ho1
  have HE := Lib.hid her
  clear h1 ho1 hkp her
  go_upto_region 4 with fail
  obtain ⟨w2, hw2⟩ : ∃ w2 : World, w2 = w1.alloc (.cells #[.int .i64 kd, .int .i64 kp] 99) := ⟨_, rfl⟩
  obtain ⟨r, hr⟩ : ∃ r, r = w1.heap.size := ⟨_, rfl⟩
  have h2 : DiskIs w2 S q mb fv' L d.next := by rw [hw2]; exact H1.out.below ((Below.refl _ _).alloc (Nat.le_refl _) _)
  have ho2 : Only (fun k => k = q) w' w2 := by rw [hw2]; exact HO1.out.trans (only_alloc (fun k => k = q) _ _) (fun _ _ h => h)
  rw [← hw2, ← hr]
  clear hw2 hr H1 HO1
  have H2 := Lib.hid h2
  have HO2 := Lib.hid ho2
  clear h2 ho2
  by_cases h0 : er = 0
  · subst h0
    have c0 : w2.cell? ⟨q, 0, none⟩ = some (.map (some mb)) := cell_of H2.out.head rfl
    go_wp2_with fail
    refine (delGone_b H2.out).mono ?_
    rintro e w3 ⟨rfl, ⟨n', D, hown, hdic⟩, ho3⟩
    have h3 := H2.out.files_sub (L' := L.filter (·.f.there)) List.filter_sublist ho3 hown hdic
    obtain ⟨Lt, hLt⟩ : ∃ Lt, Lt = L.filter (·.f.there) := ⟨_, rfl⟩
    rw [← hLt] at h3 hdic
    have c0 : w3.cell? ⟨q, 0, none⟩ = some (.map (some mb)) := cell_of h3.head rfl
    have hown3 := ownsMap_tight hown
    have hnd := h3.nodup
    rw [hdic.size hown (by unfold pairsF; rw [List.map_map]; exact hnd)] at hown3
    have HDIC := Lib.hid hdic
    have HND := Lib.hid hnd
    have H3 := Lib.hid h3
    have HO3 : Hid (Only S w' w3) := Lib.hid ((HO2.out.mono (fun i _ hi => by rw [hi]; exact H2.out.q_mem)).trans ho3 (fun i _ hi => by rw [hi]; exact H2.out.foot _ (by simp [diskBlocks])))
    have HLT : Hid (Lt.map (·.f) = d.files.filter (·.there)) := Lib.hid (by
      rw [hLt]
      have : d.files = L.map (·.f) := H2.out.files.symm
      rw [this, List.filter_map]
      rfl)
    have hmb3 : Hid (mb < w3.heap.size) := Lib.hid hown3.lt
    have HSS : Hid (∀ k, S k → k < w3.heap.size) := Lib.hid h3.low
    clear hown hdic ho3 h3 hnd hLt H2 HO2
    go_wp2_with (at_range; refine wpList_range_own _ rfl _ 120 rfl 9 176 (string_keyed Try.underlying9) Try.underlying120 ptrElem mb _ _ rfl hown3 ?_; intro w4 hrg4 hg4 hs4)
    go_frame
    go_loopw [27] (fun _ wr => ∃ (left : Lit → Bool) (cnt : Nat), wr.ranges Try.prog 9 ptrElem mb w3.heap.size (pairsF Lt).length D left cnt ∧ Hid (DiskIs wr S q mb fv' (Lt.map (namedF left)) { d.next with files := (Lt.map (namedF left)).map (·.f) }) ∧ Hid (Only S w' wr))
      (fun _ wr => wr.rangeLeft mb w3.heap.size)
    case atStart =>
      have ho4 : Only (fun _ => False) w3 w4 := Only.of_grown (S := fun _ => False) hg4 (fun k hk => by simp at hk)
      refine ⟨_, _, hrg4, Lib.hid ?_, Lib.hid (HO3.out.trans ho4 (fun i _ hi => hi.elim))⟩
      have e : Lt.map (namedF (has D)) = Lt := by
        refine (List.map_congr_left fun x hx => ?_).trans (List.map_id _)
        have : has D (.string x.f.name) = true := (HDIC.out.has x.f.name).2 ⟨_, List.mem_map_of_mem (f := fun x : Fl => (x.f.name, x.blk)) hx, rfl⟩
        simp [namedF, this]
      rw [e]
      exact H3.out.only ho4 (fun _ _ h => h)
    case round =>
      obtain ⟨left, cnt, hrg, HDI, HO⟩ := hrel
      go_wp2_with (at_next; refine wpList_next_dic _ rfl _ rfl HDIC.out mb w3.heap.size _ left cnt rfl hrg ?_ ?_)
      · intro hl0
        have HX : Hid (OpIs w' S q d.syncdir (.returned (.int .i64 0)) wr) := Lib.hid (by
          rw [syncdir_plain hl0 HE.out HLT.out]
          refine ⟨rfl, ⟨mb, fv', _, HDI.out.wider (fun k hk => .inl hk) (fun k hk => ?_)⟩, HO.out⟩
          rcases hk with hk | hk
          · exact HDI.out.low k hk
          · exact hk.2)
        go_wp2_with fail
        go_ret
        exact HX.out
      · intro s b w5 cnt5 hmem hls hrg5 hlt hg5 hs5 hen HKEY
        obtain ⟨x, hx, rfl, rfl⟩ := mem_pairsF hmem
        obtain ⟨A, B, hAB, hAB'⟩ := named_split HND.out hx hls
        have hdi := HDI.out
        rw [hAB] at hdi
        have ho5 : Only (fun k => k = w3.heap.size) wr w5 := Only.of_grown (S := fun k => k = w3.heap.size) hg5 (fun k hk => by simp at hk; exact hk.symm)
        have hd5 := hdi.only ho5 (fun k hk he => by have := HSS.out k hk; omega)
        have hxc := (hd5.each x (by simp)).cells
        have k3 : w5.cell? ⟨x.blk, 3, none⟩ = some (.bool x.f.named) := cell_of hxc rfl
        have z3 : w5.frozen? ⟨x.blk, 3, none⟩ = false := free_of hxc _
        have hdn := set_named hd5
        obtain ⟨w6, hw6⟩ : ∃ w6 : World, w6 = w5.setCell ⟨x.blk, 3, none⟩ (.bool true) := ⟨_, rfl⟩
        rw [← hw6] at hdn
        have hxS : S x.blk := hd5.x_mem x.blk (by simp [Fl.blocks])
        have hxne : x.blk ≠ mb := fun e => by
          have h1 := (blocks_perm q mb fv' A x B).nodup_iff.1 hd5.apart
          exact not_mem_of_nodup_append h1 (k := x.blk) (by simp [Fl.blocks]) (by rw [e]; simp [diskBlocks])
        have hrg6 : w6.ranges Try.prog 9 ptrElem mb w3.heap.size (pairsF Lt).length D (fun z => left z && !z.sameKey (.string x.f.name)) cnt5 := by
          rw [hw6]
          exact hrg5.kept (grown_setC w5 ⟨x.blk, 3, none⟩ _) (by simp; omega) (by have := HSS.out _ hxS; simp; omega)
        have HO6 : Hid (Only S w' w6) := Lib.hid (by
          rw [hw6]
          exact (HO.out.trans ho5 (fun i hi he => by have := HO3.out.size; omega)).trans (only_setCell S _ _ _ _ hxS) (fun _ _ h => h))
        have HDN : Hid (DiskIs w6 S q mb fv' (Lt.map (namedF fun z => left z && !z.sameKey (.string x.f.name))) { d.next with files := (Lt.map (namedF fun z => left z && !z.sameKey (.string x.f.name))).map (·.f) }) := Lib.hid (by rw [hAB']; exact hdn)
        clear hdi ho5 hd5 hdn hxc hAB hAB'
        go_wp2_with fail
        rw [← hw6]
        go_roundw
        case rel => exact ⟨_, _, hrg6, HDN, HO6⟩
        case measure => rw [hrg6.left_eq, hrg.left_eq]; exact hlt
  · have hb0 : (er != 0) = true := by simpa using h0
    have HO : Hid (OpIs w' S q d.syncdir (.returned (.int .i64 er)) w2) := Lib.hid (by
      rw [show d.syncdir = (er, d.next) by
        unfold Dk.syncdir
        rw [HE.out, if_pos h0]]
      exact OpIs.next HO2.out H2.out er)
    clear h0
    go_wp2_with fail
    go_ret
    exact HO.out
end Go.Proofs.Ytmkjejngnahpeaa
