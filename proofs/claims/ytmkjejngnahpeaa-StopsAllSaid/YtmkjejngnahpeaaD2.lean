/- The texts Ef in one. -/
import Derived.Test.YtmkjejngnahpeaaD1
import Derived.Lib.SlBytesConst
/- Disk: law07's own example. -/
namespace Go.Proofs.Ytmkjejngnahpeaa
open Go Go.Maps Go.RowKit

theorem run_string_at {P : Program} (w : World) (src dst e : TypeId) (v : Value) (l : List UInt8) (hs : P.underlying src = some (.slice e)) (he : P.underlying e = some (.int .u8)) (hd : P.underlying dst = some .string)
    (hown : rowAt w e 1 v l.length (byteCells l)) : (convert src dst v).run P w = .ok (.string ⟨l.toArray⟩) w := by
  rcases hown.2 with ⟨rfl, hn⟩ | ⟨g, off, cap, cur, fr, rfl, hg, hnc, hcm, hcs, hfr, htake⟩
  · exact run_string_row w 0 src dst e _ l hs he hd ⟨hown.1, .inl ⟨rfl, hn⟩⟩
  · refine run_convert_bytes_back w src dst e ⟨g, off, none⟩ cap l hs he hd fun j hj => ?_
    refine hown.cells (g := g) (off := off) rfl j _ ?_
    simp [byteCells, hj]
/-- all that is new since B -/
def Can (B : Nat) (w : World) : Nat → Prop := fun k => B ≤ k ∧ k < w.heap.size
theorem OpIs.canon {w0 w1 w2 : World} {B q : Nat} {r : Int × Dk} {e : Ending} (h : OpIs w1 (Can B w0) q r e w2) (h0 : w0.heap.size ≤ w1.heap.size) (hB : B ≤ w1.heap.size) : e = .returned (.int .i64 r.1) ∧ DiskAt w2 (Can B w2) q r.2 ∧ Below B w1 w2 := by
  obtain ⟨he, ⟨mb, fv, L, hd⟩, ho⟩ := h
  refine ⟨he, ⟨mb, fv, L, hd.wider (fun k hk => ?_) (fun k hk => hk.2)⟩, ho.below (fun i hi hs => by have := hs.1; omega) hB⟩
  have := ho.size
  rcases hk with hk | hk
  · exact ⟨hk.1, by have := hk.2; omega⟩
  · exact ⟨by omega, hk.2⟩
theorem DiskAt.below {w w' : World} {S : Nat → Prop} {q : Nat} {d : Dk} (h : DiskAt w S q d) (hb : Below w.heap.size w w') : DiskAt w' S q d := by
  obtain ⟨mb, fv, L, hd⟩ := h
  exact ⟨mb, fv, L, hd.below hb⟩
def k1 : Dk := ⟨[⟨[97], [], 0, true, false⟩], [], 1⟩
def k2 : Dk := ⟨[⟨[97], [120, 121, 122], 0, true, false⟩], [], 2⟩
def k3 : Dk := ⟨[⟨[97], [120, 121, 122], 3, true, false⟩], [], 3⟩
def k4 : Dk := ⟨[⟨[97], [120, 121, 122, 117, 118], 3, true, false⟩], [], 4⟩
def k5 : Dk := ⟨[⟨[97], [120, 121, 122, 117], 4, true, true⟩], [], 0⟩
theorem know1 : Dk.new.create [97] = (0, k1) := by kernel_rfl
theorem know2 : k1.append [97] [120, 121, 122] = (0, k2) := by kernel_rfl
theorem know3 : k2.sync [97] = (0, k3) := by kernel_rfl
theorem know4 : k3.append [97] [117, 118] = (0, k4) := by kernel_rfl
theorem know5 : k4.fileV ⟨#[97]⟩ = (.agg #[.string ⟨#[97]⟩, .int .i64 5, .int .i64 3, .bool true, .bool false], 0) := by rfl
theorem know6 : k4.crash [1, 1] = k5 := by rfl
theorem know7 : k5.read [97] 0 9 = ([120, 121, 122, 117], 0) := by rfl
theorem lit_row (w : World) (l : List UInt8) (h : l.length ≤ 1000) : bytesAt (w.alloc (.cells (byteCells l).toArray 5 ((byteCells l).toArray.size, (byteCells l).toArray.size + 1))) (.slice (some ⟨w.heap.size, 0, none⟩) l.length l.length) l := by
  refine ⟨by simp [byteCells], .inr ⟨w.heap.size, 0, l.length, (byteCells l).toArray, _, rfl, heap_alloc_new _ _, Nat.le_refl _, by unfold maxLen; omega, by simp [byteCells], freeRow_mark _, by rw [List.drop_zero]; exact List.take_of_length_le (by simp [byteCells])⟩⟩
set_option maxRecDepth 100000 in
set_option maxHeartbeats 1000000 in
theorem known7_b (w : World) : Calls Try.prog 38 #[] w fun e w' => e = .returned (.bool true) ∧ Below w.heap.size w w' := by
  obtain ⟨A, hA⟩ : ∃ A : ByteArray, A = ⟨#[97]⟩ := ⟨_, rfl⟩
  have hAs : A.size ≤ maxLen := by rw [hA]; decide
  have hAd : A.data.toList = [97] := by rw [hA]
  have hc1 : ∀ W : World, (convert 79 79 (.slice (some ⟨W.heap.size, 0, none⟩) 3 3)).run Try.prog (W.alloc (.cells #[.int .u8 120, .int .u8 121, .int .u8 122] 5)) = .ok (.slice (some ⟨W.heap.size, 0, none⟩) 3 3) (W.alloc (.cells #[.int .u8 120, .int .u8 121, .int .u8 122] 5 (3, 4))) := fun W => Lib.run_convert_bytes_const (P := Try.prog) W 79 5 #[.int .u8 120, .int .u8 121, .int .u8 122] 3 3 Try.underlying79 Try.underlying5
  have hc2 : ∀ W : World, (convert 79 79 (.slice (some ⟨W.heap.size, 0, none⟩) 2 2)).run Try.prog (W.alloc (.cells #[.int .u8 117, .int .u8 118] 5)) = .ok (.slice (some ⟨W.heap.size, 0, none⟩) 2 2) (W.alloc (.cells #[.int .u8 117, .int .u8 118] 5 (2, 3))) := fun W => Lib.run_convert_bytes_const (P := Try.prog) W 79 5 #[.int .u8 117, .int .u8 118] 2 2 Try.underlying79 Try.underlying5
  go_enter Try.func38, Try.ntmps38
  go_wp2_with fail
  refine (new_b _).mono ?_
  rintro e w1 ⟨q, rfl, h1, hb1⟩
  have H1 : Hid (DiskAt w1 (Can w.heap.size w1) q Dk.new) := Lib.hid h1
  have HB1 := Lib.hid hb1
  clear h1 hb1
  go_wp2_with fail
  rw [← hA]
  refine (create_b H1.out A hAs).mono ?_
  rintro e w2 ho
  rw [hAd, know1] at ho
  obtain ⟨rfl, h2, hb2⟩ := ho.canon (Nat.le_refl _) HB1.out.size
  have H2 := Lib.hid h2
  have HB2 : Hid (Below w.heap.size w w2) := Lib.hid (HB1.out.trans hb2)
  clear ho h2 hb2 H1 HB1
  go_wp2_with fail
  obtain ⟨w2a, hw2a⟩ : ∃ w2a : World, w2a = w2.alloc (.cells #[.int .u8 120, .int .u8 121, .int .u8 122] 5 (3, 4)) := ⟨_, rfl⟩
  have hba2 : bytesAt w2a (.slice (some ⟨w2.heap.size, 0, none⟩) 3 3) [120, 121, 122] := by rw [hw2a]; exact lit_row w2 [120, 121, 122] (by simp)
  have hla2 : Below w2.heap.size w2 w2a := by rw [hw2a]; exact (Below.refl _ _).alloc (Nat.le_refl _) _
  rw [← hw2a, ← hA]
  clear hw2a
  refine (append_b (DiskAt.below H2.out hla2) A hAs (some ⟨w2.heap.size, 0, none⟩) 3 [120, 121, 122] (rowAt.read hba2) (fun k hk _ hs => by
    simp only [Value.ownBlock, Option.some.injEq] at hk
    have := hs.2
    omega) (by simp)).mono ?_
  rintro e w3 ho
  rw [hAd, know2] at ho
  obtain ⟨rfl, h3, hb3⟩ := ho.canon hla2.size (Nat.le_trans HB2.out.size hla2.size)
  have H3 := Lib.hid h3
  have HB3 : Hid (Below w.heap.size w w3) := Lib.hid ((HB2.out.trans (hla2.mono HB2.out.size)).trans hb3)
  clear ho h3 hb3 H2 HB2 hba2 hla2
  go_wp2_with fail
  rw [← hA]
  refine (sync_b H3.out A hAs).mono ?_
  rintro e w4 ho
  rw [hAd, know3] at ho
  obtain ⟨rfl, h4, hb4⟩ := ho.canon (Nat.le_refl _) HB3.out.size
  have H4 := Lib.hid h4
  have HB4 : Hid (Below w.heap.size w w4) := Lib.hid (HB3.out.trans hb4)
  clear ho h4 hb4 H3 HB3
  go_wp2_with fail
  obtain ⟨w4a, hw4a⟩ : ∃ w4a : World, w4a = w4.alloc (.cells #[.int .u8 117, .int .u8 118] 5 (2, 3)) := ⟨_, rfl⟩
  have hba4 : bytesAt w4a (.slice (some ⟨w4.heap.size, 0, none⟩) 2 2) [117, 118] := by rw [hw4a]; exact lit_row w4 [117, 118] (by simp)
  have hla4 : Below w4.heap.size w4 w4a := by rw [hw4a]; exact (Below.refl _ _).alloc (Nat.le_refl _) _
  rw [← hw4a, ← hA]
  clear hw4a
  refine (append_b (DiskAt.below H4.out hla4) A hAs (some ⟨w4.heap.size, 0, none⟩) 2 [117, 118] (rowAt.read hba4) (fun k hk _ hs => by
    simp only [Value.ownBlock, Option.some.injEq] at hk
    have := hs.2
    omega) (by simp)).mono ?_
  rintro e w5 ho
  rw [hAd, know4] at ho
  obtain ⟨rfl, h5, hb5⟩ := ho.canon hla4.size (Nat.le_trans HB4.out.size hla4.size)
  have H5 := Lib.hid h5
  have HB5 : Hid (Below w.heap.size w w5) := Lib.hid ((HB4.out.trans (hla4.mono HB4.out.size)).trans hb5)
  clear ho h5 hb5 H4 HB4 hba4 hla4
  go_wp2_with fail
  rw [← hA]
  refine (file_b H5.out A hAs).mono ?_
  rintro e w6 ⟨rfl, hb6⟩
  rw [show k4.fileV A = (.agg #[.string ⟨#[97]⟩, .int .i64 5, .int .i64 3, .bool true, .bool false], 0) by rw [hA]; exact know5]
  have H6 : Hid (DiskAt w6 (Can w.heap.size w5) q k4) := Lib.hid (DiskAt.below H5.out hb6)
  have HB6 : Hid (Below w.heap.size w w6) := Lib.hid (HB5.out.trans (hb6.mono HB5.out.size))
  clear hb6 H5 HB5
  go_wp2_with fail
  obtain ⟨w7, hw7⟩ : ∃ w7 : World, w7 = w6.alloc (.cells #[.string ⟨#[97]⟩, .int .i64 5, .int .i64 3, .bool true, .bool false] 78) := ⟨_, rfl⟩
  have hf7 : w7.heap[w6.heap.size]? = some (.cells #[.string ⟨#[97]⟩, .int .i64 5, .int .i64 3, .bool true, .bool false] 78 (0, 0)) := by rw [hw7]; exact alloc_cells _ _ _
  have hs7 : w7.heap.size = w6.heap.size + 1 := by rw [hw7]; simp
  have hb7 : Below w6.heap.size w6 w7 := by rw [hw7]; exact (Below.refl _ _).alloc (Nat.le_refl _) _
  rw [← hw7]
  obtain ⟨w8, hw8⟩ : ∃ w8 : World, w8 = w7.alloc (.cells #[.int .i64 1, .int .i64 1] 3) := ⟨_, rfl⟩
  have hi8 : w8.heap[w6.heap.size + 1]? = some (.cells #[.int .i64 1, .int .i64 1] 3 (0, 0)) := by rw [hw8, ← hs7]; exact alloc_cells _ _ _
  have hb8 : Below w7.heap.size w7 w8 := by rw [hw8]; exact (Below.refl _ _).alloc (Nat.le_refl _) _
  have hf8 : w8.heap[w6.heap.size]? = some (.cells #[.string ⟨#[97]⟩, .int .i64 5, .int .i64 3, .bool true, .bool false] 78 (0, 0)) := (hb8.block _ (by omega)).trans hf7
  rw [← hw8]
  have hrow : rowAt w8 3 1 (.slice (some ⟨w6.heap.size + 1, 0, none⟩) [(1 : Int), 1].length 2) [(1 : Int), 1].length (intCells [1, 1]) :=
    ⟨by simp [intCells], .inr ⟨_, 0, 2, _, _, rfl, hi8, by simp, by unfold maxLen; omega, by simp, freeRow_zero _, by simp [intCells]⟩⟩
  have hb68 : Below w6.heap.size w6 w8 := hb7.trans (hb8.mono hb7.size)
  have hd8 := DiskAt.below H6.out hb68
  obtain ⟨b, hb⟩ : ∃ b, b = w6.heap.size := ⟨_, rfl⟩
  rw [← hb] at hf8 hrow ⊢
  have HF8 := Lib.hid hf8
  have HB8 : Hid (Below w.heap.size w w8) := Lib.hid (HB6.out.trans (hb68.mono HB6.out.size))
  clear hw7 hf7 hs7 hb7 hw8 hi8 hb8 hf8 hb68 H6 HB6 hb hc1 hc2
  refine (crash_b hd8 _ 2 [1, 1] hrow.read (by simp) (fun x hx => by simp at hx; omega)).mono ?_
  rintro e w9 (⟨hn, -, -⟩ | ⟨-, q2, rfl, h9, hb9⟩)
  · exact absurd (fun x hx => by simp at hx; omega) hn
  rw [know6] at h9
  have H9 := Lib.hid h9
  have hlt : b < w8.heap.size := (Array.getElem?_eq_some_iff.1 HF8.out).1
  have HF9 : Hid (w9.heap[b]? = some (.cells #[.string ⟨#[97]⟩, .int .i64 5, .int .i64 3, .bool true, .bool false] 78 (0, 0))) := Lib.hid ((hb9.block b hlt).trans HF8.out)
  have HB9 : Hid (Below w.heap.size w w9) := Lib.hid (HB8.out.trans (hb9.mono HB8.out.size))
  clear hrow hd8 h9 hb9 hlt HF8 HB8
  go_wp2_with fail
  rw [← hA]
  refine (read_b H9.out A hAs 0 9 (by omega) (by omega)).mono ?_
  rintro e w10 ⟨v, rfl, hnb⟩
  rw [hAd, know7] at hnb ⊢
  have hlt : b < w9.heap.size := (Array.getElem?_eq_some_iff.1 HF9.out).1
  have hf10 : w10.heap[b]? = some (.cells #[.string ⟨#[97]⟩, .int .i64 5, .int .i64 3, .bool true, .bool false] 78 (0, 0)) := (hnb.2.2.block b hlt).trans HF9.out
  have HB10 : Hid (Below w.heap.size w w10) := Lib.hid (HB9.out.trans (hnb.2.2.mono HB9.out.size))
  obtain ⟨oav, cv, hv, _⟩ := hnb.1.shape
  have hconv : (convert 79 9 (.slice oav 4 cv)).run Try.prog w10 = .ok (.string ⟨#[120, 121, 122, 117]⟩) w10 := by
    have h := run_string_at w10 79 9 5 v [120, 121, 122, 117] Try.underlying79 Try.underlying5 Try.underlying9 hnb.1
    rw [hv] at h
    exact h
  subst hv
  have f0 : w10.cell? ⟨b, 0, none⟩ = some (.string ⟨#[97]⟩) := cell_of hf10 rfl
  have f1 : w10.cell? ⟨b, 1, none⟩ = some (.int .i64 5) := cell_of hf10 rfl
  have f2 : w10.cell? ⟨b, 2, none⟩ = some (.int .i64 3) := cell_of hf10 rfl
  have f3 : w10.cell? ⟨b, 3, none⟩ = some (.bool true) := cell_of hf10 rfl
  have f4 : w10.cell? ⟨b, 4, none⟩ = some (.bool false) := cell_of hf10 rfl
  have heq : ∀ W : World, (Op.equalIn 10000 78 (.agg #[.string ⟨#[97]⟩, .int .i64 5, .int .i64 3, .bool true, .bool false]) (.agg #[.string ⟨#[97]⟩, .int .i64 5, .int .i64 3, .bool true, .bool false])).run Try.prog W = .ok true W := fun W => by kernel_rfl
  clear hnb hlt hf10 HF9 HB9 H9
  go_wp2_with fail
  go_ret
  exact ⟨rfl, HB10.out⟩
end Go.Proofs.Ytmkjejngnahpeaa
