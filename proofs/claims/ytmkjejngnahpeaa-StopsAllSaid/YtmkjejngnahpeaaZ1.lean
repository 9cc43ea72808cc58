/- The texts Jq in one. -/
import Derived.Test.YtmkjejngnahpeaaD9
import Derived.Test.YtmkjejngnahpeaaC7
import Derived.Lib.SlBytesConst
/- law08: its own example. -/
namespace Go.Proofs.Ytmkjejngnahpeaa
open Go Go.Maps Go.RowKit

theorem many_row (w : World) (e : TypeId) (size n : Nat) (ys : List Value) (hy : ys.length = n * size) (hn : n ≤ 1000) : rowAt (w.alloc (.cells ys.toArray e)) e size (.slice (some ⟨w.heap.size, 0, none⟩) n n) n ys :=
  ⟨hy, .inr ⟨_, 0, n, _, _, rfl, alloc_cells _ _ _, Nat.le_refl _, by unfold maxLen; omega, by simp [hy], freeRow_zero _, by rw [List.drop_zero, ← hy]; simp⟩⟩
set_option maxRecDepth 100000 in
set_option maxHeartbeats 1000000 in
theorem psame_b {w : World} {oa ob : Option Addr} {n m c c' : Nat} {a b : List Int} (hn : a.length = n) (hm : b.length = m) (ha : readAt w 1 (.slice oa n c) n (intCells a)) (hb : readAt w 1 (.slice ob m c') m (intCells b)) (hl : n ≤ 1000000) :
    Calls Try.prog 78 #[.slice oa n c, .slice ob m c'] w fun e w' => e = .returned (.bool (decide (a = b))) ∧ Below w.heap.size w w' := by
  have HA := Lib.hid (And.intro hn ha)
  have HB := Lib.hid (And.intro hm hb)
  clear hn ha hm hb
  by_cases hnm : n = m
  case neg =>
    have hd : ((n : Int) != (m : Int)) = true := by simp; omega
    have HE : Hid (decide (a = b) = false) := Lib.hid (decide_eq_false (fun e => hnm (by rw [← HA.out.1, ← HB.out.1, e])))
    go_enter Try.func78, Try.ntmps78
    go_wp2_with fail
    go_ret
    exact ⟨by rw [HE.out]; rfl, Below.refl _ _⟩
  subst hnm
  go_enter Try.func78, Try.ntmps78
  go_wp2_with fail
  go_loopw [5] (fun i wr => ∃ j : Nat, j ≤ n ∧ i = .int .i64 j ∧ Hid (a.take j = b.take j) ∧ Hid (Below w.heap.size w wr)) (fun i wr => n - (intOf i).toNat)
  case atStart => exact ⟨0, Nat.zero_le _, rfl, Lib.hid (by simp), Lib.hid (Below.refl _ _)⟩
  case round =>
    obtain ⟨j, hj, rfl, HT, HBL⟩ := hrel
    by_cases hlt : j < n
    · have hja : j < a.length := by rw [HA.out.1]; exact hlt
      have hjb : j < b.length := by rw [HB.out.1]; exact hlt
      have hra := HA.out.2.kept (w' := wr) (fun k hk _ _ => HBL.out.block k hk)
      have hrb := HB.out.2.kept (w' := wr) (fun k hk _ _ => HBL.out.block k hk)
      obtain ⟨g, off, rfl⟩ := hra.addr (by omega)
      obtain ⟨g2, off2, rfl⟩ := hrb.addr (by omega)
      obtain ⟨x, hx⟩ : ∃ x, a[j] = x := ⟨_, rfl⟩
      obtain ⟨y, hy⟩ : ∃ y, b[j] = y := ⟨_, rfl⟩
      have k1 : wr.cell? ⟨g, off + j, none⟩ = some (.int .i64 x) := hra.cellAt (i := j) (by simp [intCells, hja, hx])
      have k2 : wr.cell? ⟨g2, off2 + j, none⟩ = some (.int .i64 y) := hrb.cellAt (i := j) (by simp [intCells, hjb, hy])
      by_cases hxy : x = y
      · subst hxy
        have HT2 : Hid (a.take (j + 1) = b.take (j + 1)) := Lib.hid (by rw [List.take_succ_eq_append_getElem hja, List.take_succ_eq_append_getElem hjb, HT.out, hx, hy])
        clear hra hrb hx hy
        go_wp2_with fail
        go_quiet (fail)
        go_wp2_with fail
        exact ⟨⟨j + 1, by omega, by simp, HT2, Lib.hid ⟨HBL.out.os, HBL.out.tape, HBL.out.output, HBL.out.size, HBL.out.block⟩⟩, by simp [intOf]; omega⟩
      · have hne : (x != y) = true := by simpa using hxy
        have HE : Hid (decide (a = b) = false) := Lib.hid (decide_eq_false (fun e => hxy (by subst e; rw [← hx, ← hy])))
        clear hra hrb hx hy hxy
        go_wp2_with fail
        go_quiet (fail)
        go_wp2_with fail
        go_ret
        exact ⟨by rw [HE.out]; rfl, ⟨HBL.out.os, HBL.out.tape, HBL.out.output, HBL.out.size, HBL.out.block⟩⟩
    · obtain rfl : j = n := by omega
      have HE : Hid (decide (a = b) = true) := Lib.hid (decide_eq_true (by
        have h1 := HT.out
        rwa [List.take_of_length_le (by rw [HA.out.1]; exact Nat.le_refl _), List.take_of_length_le (by rw [HB.out.1]; exact Nat.le_refl _)] at h1))
      go_wp2_with fail
      go_ret
      exact ⟨by rw [HE.out]; rfl, HBL.out⟩
def opsK (g1 g2 : Nat) : List OpT := [⟨1, ⟨#[97]⟩, [], .slice none 0 0⟩, ⟨4, ⟨#[]⟩, [], .slice none 0 0⟩, ⟨2, ⟨#[97]⟩, [120], .slice (some ⟨g1, 0, none⟩) 1 1⟩, ⟨3, ⟨#[97]⟩, [], .slice none 0 0⟩, ⟨2, ⟨#[97]⟩, [121, 122], .slice (some ⟨g2, 0, none⟩) 2 2⟩, ⟨1, ⟨#[98]⟩, [], .slice none 0 0⟩]
def dK : Dk := ⟨[⟨[97], [120, 121, 122], 1, true, true⟩, ⟨[98], [], 0, true, false⟩], [], 6⟩
theorem opsK_d (g1 g2 : Nat) : Dk.opsT ⟨[], [], 0⟩ (opsK g1 g2) = dK := by kernel_rfl
theorem dK_count : countV dK = (.int .i64 6, 0) := by rfl
theorem dK_at : atV dK 5 = ([2, 1], 0) := by rfl
theorem dK_number : numV dK [7, 5, 9] = (3, 0) := by rfl
theorem opsK_at (w : World) : OpsAt (((w.alloc (.cells #[.int .u8 120] 5 (1, 2))).alloc (.cells #[.int .u8 121, .int .u8 122] 5 (2, 3))).alloc (.cells (opsCells (opsK w.heap.size (w.heap.size + 1))).toArray 204)) (.slice (some ⟨w.heap.size + 1 + 1, 0, none⟩) 6 6) (opsK w.heap.size (w.heap.size + 1)) := by
  obtain ⟨w1, hw1⟩ : ∃ W : World, W = w.alloc (.cells #[.int .u8 120] 5 (1, 2)) := ⟨_, rfl⟩
  obtain ⟨w2, hw2⟩ : ∃ W : World, W = w1.alloc (.cells #[.int .u8 121, .int .u8 122] 5 (2, 3)) := ⟨_, rfl⟩
  have hs1 : w1.heap.size = w.heap.size + 1 := by rw [hw1]; simp
  have hs2 : w2.heap.size = w.heap.size + 1 + 1 := by rw [hw2]; simp [hs1]
  have r1 : readAt w1 1 (.slice (some ⟨w.heap.size, 0, none⟩) 1 1) 1 (byteCells [120]) := by rw [hw1]; exact (lit_row w [120] (by decide)).read
  have r2 : readAt w2 1 (.slice (some ⟨w1.heap.size, 0, none⟩) 2 2) 2 (byteCells [121, 122]) := by rw [hw2]; exact (lit_row w1 [121, 122] (by decide)).read
  have hb12 : Below w1.heap.size w1 w2 := by rw [hw2]; exact (Below.refl _ _).alloc (Nat.le_refl _) _
  rw [← hw1, ← hw2]
  have hb23 : ∀ o, Below w2.heap.size w2 (w2.alloc o) := fun o => (Below.refl _ _).alloc (Nat.le_refl _) _
  have hrow := (many_row w2 204 3 6 (opsCells (opsK w.heap.size (w.heap.size + 1))) (opsCells_length _) (by omega)).read
  rw [hs2] at hrow
  have hnil : ∀ W : World, readAt W 1 (.slice none 0 0) 0 (byteCells []) := fun W => ⟨rfl, .inl ⟨rfl, none, 0, rfl, fun _ => rfl⟩⟩
  refine ⟨hrow, fun x hx => ?_⟩
  have hsz : ∀ b : ByteArray, b.size ≤ 1 → b.size ≤ maxLen := fun b h => by unfold maxLen; omega
  simp only [opsK, List.mem_cons, List.not_mem_nil, or_false] at hx
  rcases hx with rfl | rfl | rfl | rfl | rfl | rfl
  · exact ⟨hsz _ (by show ByteArray.size _ ≤ 1; simp [ByteArray.size]), hnil _⟩
  · exact ⟨hsz _ (by show ByteArray.size _ ≤ 1; simp [ByteArray.size]), hnil _⟩
  · exact ⟨hsz _ (by show ByteArray.size _ ≤ 1; simp [ByteArray.size]), (r1.kept (fun k hk _ _ => hb12.block k hk)).kept (fun k hk _ _ => (hb23 _).block k hk)⟩
  · exact ⟨hsz _ (by show ByteArray.size _ ≤ 1; simp [ByteArray.size]), hnil _⟩
  · rw [hs1] at r2
    exact ⟨hsz _ (by show ByteArray.size _ ≤ 1; simp [ByteArray.size]), r2.kept (fun k hk _ _ => (hb23 _).block k hk)⟩
  · exact ⟨hsz _ (by show ByteArray.size _ ≤ 1; simp [ByteArray.size]), hnil _⟩
theorem opsK_short (g1 g2 : Nat) : ∀ x ∈ opsK g1 g2, x.bytes.length ≤ 2000 := by
  intro x hx
  simp only [opsK, List.mem_cons, List.not_mem_nil, or_false] at hx
  rcases hx with rfl | rfl | rfl | rfl | rfl | rfl <;> simp
set_option maxRecDepth 100000 in
set_option maxHeartbeats 1000000 in
theorem known8_b (w : World) : Calls Try.prog 71 #[] w fun e w' => e = .returned (.bool true) ∧ Below w.heap.size w w' := by
  have hc1 : ∀ W : World, (convert 79 79 (.slice (some ⟨W.heap.size, 0, none⟩) 1 1)).run Try.prog (W.alloc (.cells #[.int .u8 120] 5)) = .ok (.slice (some ⟨W.heap.size, 0, none⟩) 1 1) (W.alloc (.cells #[.int .u8 120] 5 (1, 2))) := fun W => Lib.run_convert_bytes_const (P := Try.prog) W 79 5 #[.int .u8 120] 1 1 Try.underlying79 Try.underlying5
  have hc2 : ∀ W : World, (convert 79 79 (.slice (some ⟨W.heap.size, 0, none⟩) 2 2)).run Try.prog (W.alloc (.cells #[.int .u8 121, .int .u8 122] 5)) = .ok (.slice (some ⟨W.heap.size, 0, none⟩) 2 2) (W.alloc (.cells #[.int .u8 121, .int .u8 122] 5 (2, 3))) := fun W => Lib.run_convert_bytes_const (P := Try.prog) W 79 5 #[.int .u8 121, .int .u8 122] 2 2 Try.underlying79 Try.underlying5
  have hc3 := hc2 (w.alloc (.cells #[.int .u8 120] 5 (1, 2)))
  simp only [World.size_alloc] at hc3
  go_enter Try.func71, Try.ntmps71
  go_wp2_with fail
  refine (both_b (opsK_at w) (by show (6 : Nat) ≤ 100; omega) (opsK_short _ _)).mono ?_
  rintro e w4 ⟨q, p, rfl, hI⟩
  rw [opsK_d] at hI
  obtain ⟨S1, S2, hI⟩ := hI
  have hbw : Below w.heap.size w (((w.alloc (.cells #[.int .u8 120] 5 (1, 2))).alloc (.cells #[.int .u8 121, .int .u8 122] 5 (2, 3))).alloc (.cells (opsCells (opsK w.heap.size (w.heap.size + 1))).toArray 204)) := (((Below.refl _ _).alloc (Nat.le_refl _) _).alloc (by simp) _).alloc (by simp; omega) _
  have H4 := Lib.hid (And.intro hI.one (And.intro hI.two (hbw.trans (hI.below.mono hbw.size))))
  clear hI hbw hc1 hc2 hc3
  go_wp2_with fail
  refine (sCount_b H4.out.1 (by decide)).mono ?_
  rw [dK_count]
  rintro e w5 ⟨rfl, hb5⟩
  have H5 := Lib.hid (And.intro (H4.out.1.below hb5) (And.intro (H4.out.2.1.below hb5) (H4.out.2.2.trans (hb5.mono H4.out.2.2.size))))
  clear hb5 H4
  go_wp2_with fail
  refine (sAt_b H5.out.1 (by decide) 5 (by omega)).mono ?_
  rw [dK_at]
  rintro e w6 ⟨oa, n6, c6, rfl, hn6, hr6⟩
  have hn2 : n6 = 2 := hn6.symm
  subst hn2
  have H6 := Lib.hid (And.intro (H5.out.1.below hr6.below) (And.intro (H5.out.2.1.below hr6.below) (And.intro (H5.out.2.2.trans (hr6.below.mono H5.out.2.2.size)) hr6.row)))
  clear hn6 hr6 H5
  go_wp2_with fail
  obtain ⟨w7, hw7⟩ : ∃ W : World, W = w6.alloc (.cells #[.slice oa 2 c6] 72) := ⟨_, rfl⟩
  obtain ⟨b5, hb5⟩ : ∃ b, b = w6.heap.size := ⟨_, rfl⟩
  subst hb5
  have h5 : w7.heap[w6.heap.size]? = some (.cells #[.slice oa 2 c6] 72 (0, 0)) := by rw [hw7]; exact alloc_cells _ _ _
  have hb67 : Below w6.heap.size w6 w7 := by rw [hw7]; exact (Below.refl _ _).alloc (Nat.le_refl _) _
  have hs7 : w6.heap.size + 1 = w7.heap.size := by rw [hw7]; simp
  obtain ⟨w8, hw8⟩ : ∃ W : World, W = w7.alloc (.cells #[.int .i64 7, .int .i64 5, .int .i64 9] 3) := ⟨_, rfl⟩
  have hpk : readAt w8 1 (.slice (some ⟨w7.heap.size, 0, none⟩) 3 3) 3 (intCells [7, 5, 9]) := by rw [hw8]; exact (many_row w7 3 1 3 (intCells [7, 5, 9]) rfl (by omega)).read
  have hb78 : Below w7.heap.size w7 w8 := by rw [hw8]; exact (Below.refl _ _).alloc (Nat.le_refl _) _
  have hb68 : Below w6.heap.size w6 w8 := hb67.trans (hb78.mono hb67.size)
  have H8 := Lib.hid (And.intro (H6.out.1.below hb68) (And.intro (H6.out.2.1.below hb68) (And.intro (H6.out.2.2.1.trans (hb68.mono H6.out.2.2.1.size)) (And.intro ((hb78.block w6.heap.size (Array.getElem?_eq_some_iff.1 h5).1).trans h5) (H6.out.2.2.2.kept (fun k hk => hb68.block k (H6.out.2.2.2.lt k hk)))))))
  rw [← hw7, hs7, ← hw8]
  have hnum := sNumber_b (n := 3) H8.out.1 (by decide) rfl hpk (by omega) (by decide) (by unfold AllGe; decide)
  rw [dK_number] at hnum
  clear hpk hw7 hw8 hb67 hb78 hb68 h5
  refine hnum.mono ?_
  rintro e w9 ⟨rfl, hb9⟩
  have H9 := Lib.hid (And.intro (H8.out.2.1.below hb9) (And.intro (H8.out.2.2.1.trans (hb9.mono H8.out.2.2.1.size)) (And.intro ((hb9.block w6.heap.size (Array.getElem?_eq_some_iff.1 H8.out.2.2.2.1).1).trans H8.out.2.2.2.1) (H8.out.2.2.2.2.kept (fun k hk => hb9.block k (H8.out.2.2.2.2.lt k hk))))))
  have c5 : w9.cell? ⟨w6.heap.size, 0, none⟩ = some (.slice oa 2 c6) := cell_of H9.out.2.2.1 rfl
  clear hb9 hnum H8 H6
  have hcr : Calls Try.prog 78 #[.slice oa 2 c6, .slice (some ⟨w9.heap.size, 0, none⟩) 2 2] (w9.alloc (.cells #[.int .i64 2, .int .i64 1] 3)) fun e w' => e = .returned (.bool true) ∧ Below w9.heap.size w9 w' := by
    have hbl : Below w9.heap.size w9 (w9.alloc (.cells #[.int .i64 2, .int .i64 1] 3)) := (Below.refl _ _).alloc (Nat.le_refl _) _
    have hra : readAt (w9.alloc (.cells #[.int .i64 2, .int .i64 1] 3)) 1 (.slice oa 2 c6) 2 (intCells [2, 1]) := (H9.out.2.2.2.kept (fun k hk => hbl.block k (H9.out.2.2.2.lt k hk))).read
    have hrb : readAt (w9.alloc (.cells #[.int .i64 2, .int .i64 1] 3)) 1 (.slice (some ⟨w9.heap.size, 0, none⟩) 2 2) 2 (intCells [2, 1]) := (many_row w9 3 1 2 (intCells [2, 1]) rfl (by omega)).read
    refine (psame_b (n := 2) (m := 2) rfl rfl hra hrb (by omega)).mono ?_
    rintro e w' ⟨rfl, hb⟩
    exact ⟨rfl, hbl.trans (hb.mono hbl.size)⟩
  have HCR := Lib.hid hcr
  clear hcr
  go_wp2_with fail
  refine HCR.out.mono ?_
  rintro e w11 ⟨rfl, hb11⟩
  obtain ⟨rv, fv, hrf⟩ := H9.out.1.below hb11
  obtain ⟨orf, crf, rfl, _⟩ := hrf.files.shape
  have cp : w11.cell? ⟨p, 0, none⟩ = some (.slice orf 2 crf) := cell_of hrf.head rfl
  have HB := Lib.hid (H9.out.2.1.trans (hb11.mono H9.out.2.1.size))
  clear hrf hb11
  go_wp2_with fail
  go_ret
  exact ⟨rfl, HB.out⟩
end Go.Proofs.Ytmkjejngnahpeaa
