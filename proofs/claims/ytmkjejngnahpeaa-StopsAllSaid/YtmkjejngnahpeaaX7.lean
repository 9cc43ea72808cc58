/- The texts Lf in one. -/
import Derived.Test.YtmkjejngnahpeaaX1
import Derived.Test.YtmkjejngnahpeaaX4
import Derived.Test.YtmkjejngnahpeaaX6
/- law08: StopsAll, the walk: all calls ahead of the loop, the loop of two turns, both ranges. -/
namespace Go.Proofs.Ytmkjejngnahpeaa
open Go Go.Maps Go.RowKit Go.Shelf Go.Sort
attribute [local go_sem] Oper.semAt_some

/-- the frame at the head of the loop of two turns: what the loop reads stands written out -/
def frS (b3 b4 b6 ba bb bs bm b : Nat) (u : Nat → Value) : Array Value := #[u 0, u 1, u 2, .pointer (some ⟨b3, 0, none⟩), .pointer (some ⟨b4, 0, none⟩), u 5, .pointer (some ⟨b6, 0, none⟩), .func (.func 141) #[] #[.pointer (some ⟨ba, 0, none⟩), .pointer (some ⟨bb, 0, none⟩)], .func (.func 142) #[] #[.pointer (some ⟨bs, 0, none⟩), .pointer (some ⟨bm, 0, none⟩)], u 9, u 10, u 11, u 12, u 13, u 14, u 15, u 16, u 17, u 18, .pointer (some ⟨b, 0, none⟩), u 20, u 21, u 22, u 23, u 24, u 25, u 26, u 27, u 28, u 29, u 30, u 31, u 32, u 33, u 34, u 35, u 36, u 37, u 38, u 39, u 40, u 41, u 42, u 43, u 44, u 45, u 46, u 47, u 48, u 49, u 50, u 51, u 52, u 53, u 54, u 55, u 56, u 57, u 58, u 59, u 60, u 61, u 62, u 63, u 64, u 65, u 66, u 67, u 68, u 69, u 70, u 71, u 72, u 73, u 74, u 75, u 76, u 77, u 78, u 79, u 80, u 81, u 82, u 83, u 84, u 85, u 86, u 87, u 88, u 89, u 90, u 91, u 92, u 93, u 94, u 95, u 96, u 97, u 98, u 99, u 100, u 101, u 102, u 103, u 104, u 105, u 106, u 107, u 108, u 109, u 110, u 111, u 112, u 113, u 114, u 115, u 116, u 117, u 118, u 119, u 120, u 121, u 122, u 123, u 124, u 125, u 126, u 127, u 128, u 129, u 130, u 131, u 132, u 133, u 134, u 135, u 136, u 137, u 138, u 139, u 140, u 141, u 142, u 143, u 144, u 145, u 146, u 147, u 148, u 149, u 150, u 151, u 152, u 153, u 154, u 155, u 156, u 157, u 158, u 159, u 160, u 161, u 162, u 163, u 164, u 165, u 166, u 167, u 168, u 169, u 170, u 171, u 172, u 173, u 174, u 175, u 176, u 177, u 178, u 179, u 180, u 181, u 182, u 183, u 184, u 185, u 186, u 187, u 188, u 189, u 190, u 191, u 192, u 193, u 194, u 195, u 196, u 197, u 198, u 199, u 200, u 201, u 202]
theorem frS_intro {b3 b4 b6 ba bb bs bm b : Nat} (l : Array Value) (h : l = frS b3 b4 b6 ba bb bs bm b (fun k => l.toList.getD k undef)) : ∃ u, l = frS b3 b4 b6 ba bb bs bm b u := ⟨_, h⟩
set_option maxRecDepth 100000 in
set_option maxHeartbeats 8000000 in
theorem stopsAll_walk {w : World} {v : Value} {l : List OpT} {lv : Int} (hs : OpsAt w v l) :
    Calls Try.prog 13 #[v, .int .i64 lv] w fun e w' => e = .returned (.bool true) ∧ Below w.heap.size w w' := by
  obtain ⟨ob, cb, rfl⟩ := hs.row.shape
  obtain ⟨n, hn⟩ : ∃ n, l.length = n := ⟨_, rfl⟩
  obtain ⟨w1, hw1⟩ : ∃ w1 : World, w1 = (w.alloc (.cells #[.int .i64 lv] 3)).alloc (.cells #[.bool false] 4) := ⟨_, rfl⟩
  obtain ⟨b3, hb3⟩ : ∃ b, b = w.heap.size := ⟨_, rfl⟩
  obtain ⟨b4, hb4⟩ : ∃ b, b = w.heap.size + 1 := ⟨_, rfl⟩
  have hr3 : w1.heap[b3]? = some (.cells #[.int .i64 lv] 3 (0, 0)) := by rw [hw1, hb3]; exact (Below.heap_alloc _ _ _ (by simp)).trans (alloc_cells _ _ _)
  have hr4 : w1.heap[b4]? = some (.cells #[.bool false] 4 (0, 0)) := by
    rw [hw1, hb4]
    have := alloc_cells (w.alloc (.cells #[.int .i64 lv] 3)) #[.bool false] 4
    rwa [World.size_alloc] at this
  have hbe : Below w.heap.size w w1 := by rw [hw1]; exact ((Below.refl _ _).alloc (Nat.le_refl _) _).alloc (by simp) _
  have hs1 := hs.below hbe
  have HVB := vast8_b hs1
  have HBO := fun (W : World) (hb : Below w1.heap.size w1 W) h1 h2 => both_b (hs1.below hb) h1 h2
  rw [hn] at HVB HBO ⊢
  obtain ⟨vt, hvt⟩ : ∃ b, vast8 l = b := ⟨_, rfl⟩
  rw [hvt] at HVB
  have HVB := Lib.hid HVB
  have HBO := Lib.hid HBO
  have HVT := Lib.hid hvt
  have H1 := Lib.hid (And.intro hr3 (And.intro hr4 hbe))
  have HB2 := Lib.hid (And.intro hb3 hb4)
  have HNN := Lib.hid hn
  clear hs hn hs1 hvt hr3 hr4 hbe
  refine (callsIn_wide (n := 8)).1 ?_
  have f1 : Fence.wide.fn 70 := trivial
  have f2 : Fence.wide.fn 71 := trivial
  have f3 : Fence.wide.fn 72 := trivial
  have f4 : Fence.wide.fn 80 := trivial
  have f5 : Fence.wide.fn 82 := trivial
  have f6 : Fence.wide.fn 81 := trivial
  have f7 : Fence.wide.fn 83 := trivial
  have f8 : Fence.wide.fn 66 := trivial
  have f9 : Fence.wide.fn 86 := trivial
  have f10 : Fence.wide.fn 78 := trivial
  have f11 : Fence.wide.fn 84 := trivial
  have f12 : Fence.wide.fn 85 := trivial
  have f13 : Fence.wide.fn 45 := trivial
  have f14 : Fence.wide.fn 46 := trivial
  refine callsIn_of_wp_marks Try.func13 rfl trivial ?_ rfl
  simp only [Try.ntmps13, List.size_toArray, List.length_cons, List.length_nil, Nat.reduceAdd, Nat.reduceSub, Array.replicate_succ, Array.replicate_zero, List.push_toArray, List.append_toArray, List.nil_append, List.cons_append]
  gi_upto_region 1 with fail
  rw [← hw1, ← hb4, ← hb3]
  clear hw1 hb3 hb4
  gi_wp2_with fail
  refine (callsIn_wide.2 HVB.out).mono ?_
  rintro e w1' ⟨rfl, hw'⟩
  obtain rfl := hw'.symm
  clear hw'
  cases vt
  case true =>
    gi_wp2_with fail
    refine (callsIn_wide.2 (known8_b _)).mono ?_
    rintro e V2 ⟨rfl, hbk⟩
    have hr2 : V2.heap[b4]? = some (.cells #[.bool false] 4 (0, 0)) := (hbk.block b4 (Array.getElem?_eq_some_iff.1 H1.out.2.1).1).trans H1.out.2.1
    have hbw : Below w.heap.size w V2 := H1.out.2.2.trans (hbk.mono H1.out.2.2.size)
    have HE := Lib.hid (And.intro hr2 hbw)
    have z2 : V2.frozen? ⟨b4, 0, none⟩ = false := free_of hr2 _
    have k2 : V2.cell? ⟨b4, 0, none⟩ = some (.bool false) := cell_of hr2 rfl
    clear hr2 hbw hbk
    gi_wp2_with fail
    have hr3 : (V2.setCell ⟨b4, 0, none⟩ (.bool true)).heap[b4]? = some (.cells #[.bool true] 4 (0, 0)) := heap_setCell_here _ HE.out.1
    have hcr := cell_of (i := 0) (v := .bool true) hr3 rfl
    have hbz : Below w.heap.size w (V2.setCell ⟨b4, 0, none⟩ (.bool true)) := HE.out.2.setCell (p := ⟨b4, 0, none⟩) (by show w.heap.size ≤ b4; have := HB2.out.2; omega) _
    exact ⟨.bool true, by simp [results, Try.results13, go_sem, hcr], rfl, hbz⟩
  case false =>
    obtain ⟨h100, hlx⟩ := not_vast8 HVT.out
    gi_wp2_with fail
    have h100' := HNN.out ▸ h100
    have HBO2 := Lib.hid (fun (W : World) (hb : Below w1.heap.size w1 W) => HBO.out W hb h100' hlx)
    clear HBO HVB
    refine (callsIn_wide.2 (HBO2.out w1 (Below.refl _ _))).mono ?_
    rintro e w2 ⟨q, p, rfl, ⟨S1, S2, ht⟩⟩
    have hfa := opsT_fates l ⟨[], [], 0⟩ rfl
    have hfi := opsT_fine l _ fine_nil
    obtain ⟨d, hd⟩ : ∃ d, Dk.opsT ⟨[], [], 0⟩ l = d := ⟨_, rfl⟩
    rw [hd] at ht hfa hfi
    have HDE := Lib.hid hd
    have HF : Hid (d.fates.length ≤ 1000000000 ∧ Fine d ∧ d.fates = []) := Lib.hid ⟨by rw [hfa]; simp, hfi, hfa⟩
    obtain ⟨w3, hw3⟩ : ∃ W : World, W = w2.alloc (.cells #[.pointer (some ⟨p, 0, none⟩)] 100) := ⟨_, rfl⟩
    obtain ⟨b6, hb6⟩ : ∃ b, b = w2.heap.size := ⟨_, rfl⟩
    have h66 : w3.heap[b6]? = some (.cells #[.pointer (some ⟨p, 0, none⟩)] 100 (0, 0)) := by rw [hw3, hb6]; exact alloc_cells _ _ _
    have hb23 : Below w2.heap.size w2 w3 := by rw [hw3]; exact (Below.refl _ _).alloc (Nat.le_refl _) _
    have hb13 : Below w1.heap.size w1 w3 := ht.below.trans (hb23.mono ht.below.size)
    have H3 := Lib.hid (And.intro (ht.one.below hb23) (And.intro (ht.two.below hb23) (And.intro hb13 h66)))
    have HAP := Lib.hid (And.intro ht.apart (And.intro ht.new1 (And.intro ht.new2 (show (∀ k, S1 k → k < w2.heap.size) from by obtain ⟨mb, fv, L, h⟩ := ht.one; exact h.low))))
    have HS6 := Lib.hid hb6
    gi_upto_region 4 with fail
    rw [← hw3, ← hb6]
    clear ht hfa hfi hd hlx h100 h100' hw3 hb6 h66 hb23 hb13
    gi_wp2_with fail
    refine (callsIn_wide.2 (sAll_new H3.out.1 HF.out.1)).mono ?_
    rintro e w4 ⟨ba, bb, rfl, hwa, hb34⟩
    have H4 := Lib.hid (And.intro (H3.out.1.below hb34) (And.intro (H3.out.2.1.below hb34) (And.intro hwa hb34)))
    clear hwa hb34
    unfold allV
    gi_wp2_with fail
    refine (callsIn_wide.2 (sImages_new H4.out.1 HF.out.1)).mono ?_
    rintro e w5 ⟨bs, bm, rfl, him, hb45⟩
    have hb35 := H4.out.2.2.2.trans (hb45.mono H4.out.2.2.2.size)
    have H5 := Lib.hid (And.intro (H4.out.1.below hb45) (And.intro (H4.out.2.1.below hb45) (And.intro (H4.out.2.2.1.below hb45) (And.intro him hb35))))
    clear him hb45 hb35
    unfold imagesV
    have hnf1 : ∀ (W : World), (binOp .eql 140 (.func (.func 141) #[] #[.pointer (some ⟨ba, 0, none⟩), .pointer (some ⟨bb, 0, none⟩)]) .nilFunc).run Try.prog W = .ok (.bool false) W := fun W => by kernel_rfl
    have hnf2 : ∀ W : World, (binOp .eql 143 (.func (.func 142) #[] #[.pointer (some ⟨bs, 0, none⟩), .pointer (some ⟨bm, 0, none⟩)]) .nilFunc).run Try.prog W = .ok (.bool false) W := fun W => by kernel_rfl
    gi_wp2_with fail
    have hb15 := H3.out.2.2.1.trans (H5.out.2.2.2.2.mono H3.out.2.2.1.size)
    refine (callsIn_wide.2 (HBO2.out w5 hb15)).mono ?_
    rintro e w6 ⟨q2, p2, rfl, ⟨S3, S4, ht⟩⟩
    rw [HDE.out] at ht
    have hb56 := ht.below
    have H6 := Lib.hid (And.intro ht.one hb56)
    clear ht hnf1 hnf2 hb15 hb56 HBO2
    gi_wp2_with fail
    refine (callsIn_wide.2 (sLeast_b H6.out.1 HF.out.1)).mono ?_
    rintro e w7 ⟨ql, rfl, hdl, hb67⟩
    have H7 := Lib.hid (And.intro hdl hb67)
    have H67 := Lib.hid (H6.out.1.below hb67)
    clear hdl hb67
    gi_wp2_with fail
    refine (callsIn_wide.2 (sMost_b H67.out HF.out.1)).mono ?_
    rintro e w8 ⟨qm, rfl, hdm, hb78⟩
    have hb58 : Below w5.heap.size w5 w8 := (H6.out.2.trans (H7.out.2.mono H6.out.2.size)).trans (hb78.mono (by have := H6.out.2.size; have := H7.out.2.size; omega))
    have hb38 := H5.out.2.2.2.2.trans (hb58.mono H5.out.2.2.2.2.size)
    have h68 := (hb38.block b6 (Array.getElem?_eq_some_iff.1 H3.out.2.2.2).1).trans H3.out.2.2.2
    have c6 : w8.cell? ⟨b6, 0, none⟩ = some (.pointer (some ⟨p, 0, none⟩)) := cell_of h68 rfl
    have H8 := Lib.hid (And.intro (H5.out.1.below hb58) (And.intro (H5.out.2.1.below hb58) (And.intro (H5.out.2.2.1.below hb58) (And.intro (H5.out.2.2.2.1.below hb58) (And.intro hb38 h68)))))
    have HLM := Lib.hid (And.intro (H7.out.1.below hb78) hdm)
    clear hdm hb78 hb58 hb38 h68
    gi_wp2_with fail
    refine (callsIn_wide.2 (rnone_b H8.out.2.1)).mono ?_
    rintro e w9 ⟨bl, op, mp, cp, v2, rfl, -, -, hl9, hb89, -⟩
    have HIS1 := Lib.hid (is_b (HLM.out.1.below hb89) hl9 (crash_there d []))
    have H9 := Lib.hid (And.intro (H8.out.2.1.below hb89) (And.intro hb89 ((hb89.block b6 (Array.getElem?_eq_some_iff.1 H8.out.2.2.2.2.2).1).trans H8.out.2.2.2.2.2)))
    clear hl9 hb89 c6
    gi_wp2_with fail
    refine (callsIn_wide.2 HIS1.out).mono ?_
    rintro e w10 ⟨rfl, hb9a⟩
    have c6 : w10.cell? ⟨b6, 0, none⟩ = some (.pointer (some ⟨p, 0, none⟩)) := cell_of ((hb9a.block b6 (Array.getElem?_eq_some_iff.1 H9.out.2.2).1).trans H9.out.2.2) rfl
    have HHI := Lib.hid (high_b (H9.out.1.below hb9a))
    have HB10 := Lib.hid (H9.out.2.1.trans (hb9a.mono H9.out.2.1.size))
    clear hb9a HIS1
    gi_wp2_with fail
    refine (callsIn_wide.2 HHI.out).mono ?_
    rintro e w11 ⟨bh, rfl, hlh, hb1011⟩
    have hb811 := HB10.out.trans (hb1011.mono HB10.out.size)
    rw [← most_high HF.out.2.1] at hlh
    have HIS2 := Lib.hid (is_b (HLM.out.2.below hb811) hlh (crash_there d _))
    have HB11 := Lib.hid hb811
    clear hlh hb1011 hb811 c6 HHI
    gi_wp2_with fail
    refine (callsIn_wide.2 HIS2.out).mono ?_
    rintro e w12 ⟨rfl, hb1112⟩
    have hb812 := HB11.out.trans (hb1112.mono HB11.out.size)
    have hb312 := H8.out.2.2.2.2.1.trans (hb812.mono H8.out.2.2.2.2.1.size)
    have H12 := Lib.hid (And.intro (H8.out.1.below hb812) (And.intro (H8.out.2.1.below hb812) (And.intro (H8.out.2.2.1.below hb812) (And.intro (H8.out.2.2.2.1.below hb812) hb312))))
    clear hb1112 hb812 hb312 HIS2
    gi_wp2_with fail
    refine (callsIn_wide.2 (create_b H12.out.1 ⟨#[122, 122, 45, 111, 116, 104, 101, 114]⟩ (by decide))).mono ?_
    rintro e w13 ⟨rfl, hd13, ho13⟩
    have ho13s := Lib.hid ho13.size
    have hcb : ∀ W : World, (convert 79 79 (.slice (some ⟨W.heap.size, 0, none⟩) 4 4)).run Try.prog (W.alloc (.cells #[.int .u8 109, .int .u8 111, .int .u8 114, .int .u8 101] 5)) = .ok (.slice (some ⟨W.heap.size, 0, none⟩) 4 4) (W.alloc (.cells #[.int .u8 109, .int .u8 111, .int .u8 114, .int .u8 101] 5 (4, 5))) := fun W => Lib.run_convert_bytes_const (P := Try.prog) W 79 5 #[.int .u8 109, .int .u8 111, .int .u8 114, .int .u8 101] 4 4 Try.underlying79 Try.underlying5
    obtain ⟨w14, hw14⟩ : ∃ W : World, W = w13.alloc (.cells #[.int .u8 109, .int .u8 111, .int .u8 114, .int .u8 101] 5 (4, 5)) := ⟨_, rfl⟩
    have h14 : w14.heap[w13.heap.size]? = some (.cells #[.int .u8 109, .int .u8 111, .int .u8 114, .int .u8 101] 5 (4, 5)) := by rw [hw14]; exact World.alloc_heap_new _ _
    have hb14 : Below w13.heap.size w13 w14 := by rw [hw14]; exact (Below.refl _ _).alloc (Nat.le_refl _) _
    have hrd : bytesRd w14 (.slice (some ⟨w13.heap.size, 0, none⟩) 4 4) [109, 111, 114, 101] := ⟨rfl, .inr ⟨w13.heap.size, 0, 4, rfl, by decide, (Array.getElem?_eq_some_iff.1 h14).1, by decide, fun j u hu => by
      rw [Nat.zero_add]
      exact cell_of h14 (by rw [← hu]; exact (by simp : (byteCells [109, 111, 114, 101]).toArray[j]? = (byteCells [109, 111, 114, 101])[j]?))⟩⟩
    have hs12 := HAP.out
    have hs212 : w2.heap.size ≤ w12.heap.size := by have := H12.out.2.2.2.2.size; have := HS6.out; have := (Array.getElem?_eq_some_iff.1 H3.out.2.2.2).1; omega
    have HAPP := Lib.hid (append_b (hd13.below hb14) ⟨#[122, 122, 45, 111, 116, 104, 101, 114]⟩ (by decide) (some ⟨w13.heap.size, 0, none⟩) 4 [109, 111, 114, 101] hrd (fun k hk _ e => by
      simp only [Value.ownBlock, Option.some.injEq] at hk
      have h13 := ho13.size
      rcases e with e | e
      · have := hs12.2.2.2 k e
        omega
      · have := e.2
        omega) (by decide))
    have hon : Only S1 w12 w14 := ho13.trans (Only.of_below hb14 (Nat.le_refl _) (fun _ => False)) (fun _ _ hf => hf.elim)
    have HON := Lib.hid hon
    have HSZ := Lib.hid (And.intro hs212 hon.size)
    clear hd13 ho13 h14 hb14 hrd hs12 hs212 hon
    gi_wp2_with fail
    rw [← hw14]
    refine (callsIn_wide.2 HAPP.out).mono ?_
    rintro e w15 ⟨rfl, -, ho15⟩
    obtain ⟨w16, hw16⟩ : ∃ W : World, W = w15.alloc (.cells #[.int .i64 0] 3) := ⟨_, rfl⟩
    obtain ⟨b19, hb19⟩ : ∃ b, b = w15.heap.size := ⟨_, rfl⟩
    have h19 : w16.heap[b19]? = some (.cells #[.int .i64 (0 : Nat)] 3 (0, 0)) := by rw [hw16, hb19]; exact alloc_cells _ _ _
    have hb16 : Below w15.heap.size w15 w16 := by rw [hw16]; exact (Below.refl _ _).alloc (Nat.le_refl _) _
    have ho : Only S1 w12 w16 := (HON.out.trans ho15 (fun i hi e => by
      rcases e with e | e
      · exact e
      · have := e.1; have := HON.out.size; have := ho13s.out; omega)).trans (Only.of_below hb16 (Nat.le_refl _) (fun _ => False)) (fun _ _ hf => hf.elim)
    gi_wp2_with fail
    rw [← hw16, ← hb19]
    -- what stands throughout the loop
    have hS1 := HAP.out
    have hb12w : Below w.heap.size w w12 := H1.out.2.2.trans ((H3.out.2.2.1.trans (H12.out.2.2.2.2.mono H3.out.2.2.1.size)).mono H1.out.2.2.size)
    have hw1b : Below w1.heap.size w1 w12 := H3.out.2.2.1.trans (H12.out.2.2.2.2.mono H3.out.2.2.1.size)
    have hbw : Below w.heap.size w w16 := hb12w.trans (ho.below (fun i hi e => by have := hS1.2.1 i e; have := H1.out.2.2.size; omega) hb12w.size)
    have hw1c : Below w1.heap.size w1 w16 := hw1b.trans (ho.below (fun i hi e => by have := hS1.2.1 i e; omega) hw1b.size)
    have hrf : RfAt w16 S2 p d := H12.out.2.1.only ho (fun k h2 h1 => hS1.1 k h1 h2)
    have hlow3 : w2.heap.size < w3.heap.size := by have := HS6.out; have := (Array.getElem?_eq_some_iff.1 H3.out.2.2.2).1; omega
    have hwn : WaysOf w16 ba bb (unsT d.files) := (H12.out.2.2.1.only ho (fun k hk => by have := hS1.2.2.2 k hk; omega)).ways
    have him : ImagesOf w16 bs bm (unsT d.files) d := (H12.out.2.2.2.1.only ho (fun k hk => by have := hS1.2.2.2 k hk; have := H4.out.2.2.2.size; omega)).images
    have hc6 : w16.heap[b6]? = some (.cells #[.pointer (some ⟨p, 0, none⟩)] 100 (0, 0)) :=
      (ho.block b6 (by have := (Array.getElem?_eq_some_iff.1 H3.out.2.2.2).1; have := H12.out.2.2.2.2.size; omega) (fun e => by have := hS1.2.2.2 _ e; have := HS6.out; omega)).trans ((H12.out.2.2.2.2.block b6 (Array.getElem?_eq_some_iff.1 H3.out.2.2.2).1).trans H3.out.2.2.2)
    have hc3 : w16.heap[b3]? = some (.cells #[.int .i64 lv] 3 (0, 0)) := (hw1c.block b3 (Array.getElem?_eq_some_iff.1 H1.out.1).1).trans H1.out.1
    have hc4 : w16.heap[b4]? = some (.cells #[.bool false] 4 (0, 0)) := (hw1c.block b4 (Array.getElem?_eq_some_iff.1 H1.out.2.1).1).trans H1.out.2.1
    have hb4w : w.heap.size ≤ b4 := by have := HB2.out.2; omega
    have hszs := H12.out.2.1
    have hulen : (unsT d.files).length ≤ 4096 := by have := unsT_len d.files; have := (H12.out.1).sizes.1; omega
    have humax : ∀ u ∈ unsT d.files, u.more ≤ 16777216 := unsT_more (fun f hf => ((H12.out.1).sizes.2 f hf).2)
    have HB := Lib.hid (And.intro hrf (And.intro hwn (And.intro him (And.intro hc6 (And.intro hc3 (And.intro hc4 (And.intro hbw (And.intro hb4w (And.intro hulen humax)))))))))
    have H19 := Lib.hid h19
    clear hS1 hb12w hw1b hbw hw1c hrf hlow3 hwn him hc6 hc3 hc4 hb4w hulen humax hszs h19 hb16 ho ho15 hw16 hb19 hw14 hcb HAPP HON HSZ ho13s HB11 HB10 H9 H8 H7 H67 HLM H6 H5 H4 H3 H12 HBO HVT HVB HAP HDE HF HNN HB2 H1 HS6
    refine wpIn_loop_ghost_k (fun g a W => ∃ (t b : Nat) (ks : List Nat) (u : Nat → Value), a = ⟨frS b3 b4 b6 ba bb bs bm b u, ks.map markD⟩ ∧ Hid (g + t = 2 ∧ W.heap[b]? = some (.cells #[.int .i64 t] 3 (0, 0)) ∧ Below w16.heap.size w16 W ∧ MarksAt W ks ∧ ∀ k ∈ ks, w16.heap.size ≤ k)) 2 ?_ ?_
    · obtain ⟨u, hu⟩ : ∃ u, _ = frS b3 b4 b6 ba bb bs bm b19 u := frS_intro _ (by kernel_rfl)
      exact ⟨0, b19, [], u, by rw [← hu]; rfl, Lib.hid ⟨rfl, H19.out, Below.refl _ _, MarksAt.nil, fun _ hk => by cases hk⟩⟩
    rintro g a W ⟨t, b, ks, u, rfl, HR⟩ J K hJ hK
    obtain ⟨hgt, hbt, hbW, hmk, hml⟩ := HR.out
    obtain ⟨zt, hzt⟩ : ∃ z : Int, (t : Int) = z := ⟨_, rfl⟩
    rw [hzt] at hbt
    have HZT := Lib.hid hzt
    clear hzt
    have kt : W.cell? ⟨b, 0, none⟩ = some (.int .i64 zt) := cell_of hbt rfl
    have k6 : W.cell? ⟨b6, 0, none⟩ = some (.pointer (some ⟨p, 0, none⟩)) := cell_of ((hbW.block b6 (Array.getElem?_eq_some_iff.1 HB.out.2.2.2.1).1).trans HB.out.2.2.2.1) rfl
    by_cases ht : t < 2
    case neg =>
      have hd2 : decide (zt < 2) = false := decide_eq_false (by have := HZT.out; omega)
      clear hgt hbt hbW hmk hml k6 hJ hK
      unfold frS
      gi_wp2_with fail
      refine (callsIn_wide.2 (known8_b _)).mono ?_
      rintro e V2 ⟨rfl, hbk⟩
      obtain ⟨hgt, hbt, hbW, hmk, hml⟩ := HR.out
      have hb2 : Below w16.heap.size w16 V2 := hbW.trans (hbk.mono hbW.size)
      have hr2 : V2.heap[b4]? = some (.cells #[.bool false] 4 (0, 0)) := (hb2.block b4 (Array.getElem?_eq_some_iff.1 HB.out.2.2.2.2.2.1).1).trans HB.out.2.2.2.2.2.1
      have hm2 := hmk.below hbk
      have z2 : V2.frozen? ⟨b4, 0, none⟩ = false := free_of hr2 _
      have k2 : V2.cell? ⟨b4, 0, none⟩ = some (.bool false) := cell_of hr2 rfl
      have HE := Lib.hid (And.intro hr2 (And.intro hm2 (And.intro hb2 hml)))
      clear hgt hbt hbW hmk hml hb2 hr2 hm2 hbk
      gi_wp2_with fail
      have hr3 : (V2.setCell ⟨b4, 0, none⟩ (.bool true)).heap[b4]? = some (.cells #[.bool true] 4 (0, 0)) := heap_setCell_here _ HE.out.1
      refine leaves_marks ks _ (HE.out.2.1.setCell _ _) (fun W' ho => ?_)
      have hne : ¬ b4 ∈ ks := fun hm => by
        have h1 := HE.out.2.2.2 b4 hm
        have h2 := (Array.getElem?_eq_some_iff.1 HB.out.2.2.2.2.2.1).1
        omega
      have hcr := cell_of (i := 0) (v := .bool true) ((ho.block b4 (Array.getElem?_eq_some_iff.1 hr3).1 hne).trans hr3) rfl
      have hbw : Below w.heap.size w V2 := HB.out.2.2.2.2.2.2.1.trans (HE.out.2.2.1.mono HB.out.2.2.2.2.2.2.1.size)
      have hbz : Below w.heap.size w (V2.setCell ⟨b4, 0, none⟩ (.bool true)) := hbw.setCell (p := ⟨b4, 0, none⟩) HB.out.2.2.2.2.2.2.2.1 _
      have hbz2 : Below w.heap.size w W' := hbz.trans (ho.below (fun i hi hm => by
        have h1 := HE.out.2.2.2 i hm
        have h2 := HB.out.2.2.2.2.2.2.1.size
        omega) hbz.size)
      exact ⟨.bool true, by simp [results, Try.results13, go_sem, hcr], rfl, hbz2⟩
    case pos =>
      have hd2 : decide (zt < 2) = true := decide_eq_true (by have := HZT.out; omega)
      have HCR := Lib.hid (rnone_b (HB.out.1.below hbW))
      clear hgt hbt hbW hmk hml
      unfold frS
      gi_wp2_with fail
      refine (callsIn_wide.2 HCR.out).mono ?_
      rintro e wc ⟨bl2, op2, mp2, cp2, v22, rfl, hpl2, hpr2, -, hb2c, how2⟩
      gi_wp2_with fail
      obtain ⟨wA, hwA⟩ : ∃ V : World, V = ((wc.alloc (.cells #[.slice op2 mp2 cp2] 32)).alloc (.cells #[.bool true] 4)).alloc (.cells #[.int .i64 0] 3) := ⟨_, rfl⟩
      obtain ⟨B1, hB1⟩ : ∃ b, b = wc.heap.size := ⟨_, rfl⟩
      obtain ⟨B2, hB2⟩ : ∃ b, b = wc.heap.size + 1 := ⟨_, rfl⟩
      obtain ⟨B3, hB3⟩ : ∃ b, b = wc.heap.size + 1 + 1 := ⟨_, rfl⟩
      have hbcA : Below wc.heap.size wc wA := by rw [hwA]; exact (((Below.refl _ _).alloc (Nat.le_refl _) _).alloc (by simp) _).alloc (by simp; omega) _
      have g1 : wA.heap[B1]? = some (.cells #[.slice op2 mp2 cp2] 32 (0, 0)) := by
        rw [hwA, hB1]
        exact (Below.heap_alloc _ _ _ (by simp; omega)).trans ((Below.heap_alloc _ _ _ (by simp)).trans (alloc_cells _ _ _))
      have g2 : wA.heap[B2]? = some (.cells #[.bool true] 4 (0, 0)) := by
        rw [hwA, hB2]
        have := alloc_cells (wc.alloc (.cells #[.slice op2 mp2 cp2] 32)) #[.bool true] 4
        rw [World.size_alloc] at this
        exact (Below.heap_alloc _ _ _ (by simp)).trans this
      have g3 : wA.heap[B3]? = some (.cells #[.int .i64 0] 3 (0, 0)) := by
        rw [hwA, hB3]
        have := alloc_cells ((wc.alloc (.cells #[.slice op2 mp2 cp2] 32)).alloc (.cells #[.bool true] 4)) #[.int .i64 0] 3
        rwa [World.size_alloc, World.size_alloc] at this
      have hszA : wA.heap.size = B3 + 1 := by rw [hwA, hB3]; simp
      rw [← hwA, ← hB3, ← hB2, ← hB1]
      obtain ⟨hgt, hbt, hbW, hmk, hml⟩ := HR.out
      rw [HZT.out] at hbt
      have hbcW : Below W.heap.size W wA := hb2c.trans (hbcA.mono hb2c.size)
      have hbA : Below w16.heap.size w16 wA := hbW.trans (hbcW.mono hbW.size)
      have hb1w : w16.heap.size ≤ B1 := by have := hbW.size; have := hb2c.size; omega
      have hbtA : wA.heap[b]? = some (.cells #[.int .i64 zt] 3 (0, 0)) := (hbcW.block b (Array.getElem?_eq_some_iff.1 hbt).1).trans hbt
      have hbB1 : b < B1 := by have := (Array.getElem?_eq_some_iff.1 hbt).1; have := hb2c.size; omega
      have hbks : ∀ k ∈ ks, k < B1 := fun k hk => by have := hmk.lt k hk; have := hb2c.size; omega
      have hR0 : ∀ T : Nat → Prop, (∀ k, T k → wA.heap.size + 2 ≤ k) → R1 (unsT d.files) wA B1 B2 B3 true T 0 wA := fun T hT =>
        ⟨Only.refl _ _, ⟨op2, mp2, cp2, g1, fun k hk h0 => by
          have h1 := readAt_lt_own hpr2 h0 k hk
          refine ⟨fun ht => by have := hT k ht; have := hbcA.size; omega, by have := hbcA.size; omega, by have := hbcA.size; omega⟩, fun _ => ⟨hpl2, hpr2.kept (fun k hk _ _ => hbcA.block k hk)⟩⟩, fun _ => by rw [g2, decide_eq_true (prodW_pos _)], g3, hT, by omega, by omega, by omega⟩
      have HA := Lib.hid (And.intro hR0 (And.intro hszA (And.intro hbA (And.intro hb1w (And.intro hbtA (And.intro hbB1 (And.intro hbks (And.intro (hmk.below hbcW) (And.intro hml (And.intro hgt (show B2 = B1 + 1 ∧ B3 = B1 + 2 by omega)))))))))))
      have hst := ways_told 7 (by omega) ba bb w16 (unsT d.files) HB.out.2.1 HB.out.2.2.2.2.2.2.2.2.1 HB.out.2.2.2.2.2.2.2.2.2
      clear hgt hbt hbW hmk hml hbcW hbA hb1w hbtA hbB1 hbks hR0 hszA g1 g2 g3 hbcA hB1 hB2 hB3 hwA hb2c how2 hpr2 hpl2 HCR kt k6 HR
      rename_i K2 hK2
      generalize hA : Act.mk _ _ = A
      have hAfter : ∀ (T : Nat → Prop) (j : Nat) (V : World), R1 (unsT d.files) wA B1 B2 B3 true T j V → V.heap[wA.heap.size]? = some (.deferred (some [])) → (j < prodW (unsT d.files) → (j : Int) = 300 ∨ zt = 0 ∧ (j : Int) = lv) → K2 { A with defers := markD wA.heap.size :: A.defers } V := by
        intro T j V hr hdf hc
        subst hA
        dsimp only
        have hbV := hr.below HA.out.2.2.1 HA.out.2.2.2.1 (by have := HA.out; omega) (by have := HA.out; omega)
        have hbt := hr.old HA.out.2.2.2.2.1 (by have := HA.out; omega) (by have := HA.out; omega) (by have := HA.out; omega)
        have hmore := hr.more rfl
        have hcnt := hr.cnt
        obtain ⟨z, hz⟩ : ∃ z : Int, (j : Int) = z := ⟨_, rfl⟩
        obtain ⟨mv, hmv⟩ : ∃ m, decide (j < prodW (unsT d.files)) = m := ⟨_, rfl⟩
        rw [hmv] at hmore
        rw [hz] at hcnt hc
        have k24 : V.cell? ⟨B2, 0, none⟩ = some (.bool mv) := cell_of hmore rfl
        have k25 : V.cell? ⟨B3, 0, none⟩ = some (.int .i64 z) := cell_of hcnt rfl
        have kt : V.cell? ⟨b, 0, none⟩ = some (.int .i64 zt) := cell_of hbt rfl
        have kl : V.cell? ⟨b3, 0, none⟩ = some (.int .i64 lv) := cell_of ((hbV.block b3 (Array.getElem?_eq_some_iff.1 HB.out.2.2.2.2.1).1).trans HB.out.2.2.2.2.1) rfl
        have HC : Hid (mv = true → z = 300 ∨ zt = 0 ∧ z = lv) := Lib.hid (fun h => hc (by rw [h] at hmv; exact of_decide_eq_true hmv))
        have HV := Lib.hid (And.intro hr (And.intro hdf (And.intro hbV (And.intro hbt (And.intro hmore hcnt)))))
        clear hr hdf hc hbV hbt hmore hcnt hz hmv
        gi_upto_region 28 with fail
        gi_cut [152] from 139 (fun s152 wx => s152 = .bool false ∧ wx = V)
        case first =>
          cases mv
          · gi_wp2_with fail
            gi_meet
            exact ⟨rfl, rfl⟩
          · by_cases h300 : z = 300
            · have hd : (z == 300) = true := by rw [beq_iff_eq]; exact h300
              gi_wp2_with fail
              gi_meet
              exact ⟨rfl, rfl⟩
            · have hd : (z == 300) = false := by rw [beq_eq_false_iff_ne]; exact h300
              have h2 := (HC.out rfl).resolve_left h300
              have hd1 : (zt == 1) = false := by rw [beq_eq_false_iff_ne]; omega
              have hdl : (z != lv) = false := by rw [h2.2]; simp
              have hdn : (z != 300) = true := by rw [bne_iff_ne]; exact h300
              clear h2
              gi_wp2_with fail
              gi_meet
              exact ⟨rfl, rfl⟩
        case rest =>
          obtain ⟨rfl, hwc⟩ := hcut
          obtain rfl := hwc.symm
          clear hwc k24 k25 kt kl HC
          have k6 : V.cell? ⟨b6, 0, none⟩ = some (.pointer (some ⟨p, 0, none⟩)) := cell_of ((HV.out.2.2.1.block b6 (Array.getElem?_eq_some_iff.1 HB.out.2.2.2.1).1).trans HB.out.2.2.2.1) rfl
          have HCR := Lib.hid (rnone_b (HB.out.1.below HV.out.2.2.1))
          gi_wp2_with fail
          refine (callsIn_wide.2 HCR.out).mono ?_
          rintro e wd ⟨bl3, op3, mp3, cp3, v23, rfl, hpl3, hpr3, -, hbd, how3⟩
          obtain ⟨o4, m4, c4, g1, -, -⟩ := HV.out.1.plain
          have g1' := (hbd.block B1 (Array.getElem?_eq_some_iff.1 g1).1).trans g1
          have g3' := (hbd.block B3 (Array.getElem?_eq_some_iff.1 HV.out.2.2.2.2.2).1).trans HV.out.2.2.2.2.2
          have z21 : wd.frozen? ⟨B1, 0, none⟩ = false := free_of g1' _
          have y21 := cell_of (i := 0) g1' rfl
          have HD := Lib.hid (And.intro hpl3 (And.intro hpr3 (And.intro hbd (And.intro how3 (And.intro g1' g3')))))
          clear hpl3 hpr3 hbd how3 g1 g1' g3' k6 HCR
          gi_upto_region 31 with fail
          obtain ⟨we, hwe⟩ : ∃ W : World, W = wd.setCell ⟨B1, 0, none⟩ (.slice op3 mp3 cp3) := ⟨_, rfl⟩
          have hB31 : B3 ≠ B1 := by have := HA.out; omega
          have g3e : we.heap[B3]? = some (.cells #[.int .i64 z] 3 (0, 0)) := by
            rw [hwe]
            exact (Below.heap_setCell _ _ _ _ hB31).trans HD.out.2.2.2.2.2
          have z25 : we.frozen? ⟨B3, 0, none⟩ = false := free_of g3e _
          have y25 := cell_of (i := 0) g3e rfl
          rw [← hwe]
          have HWE := Lib.hid (And.intro hwe g3e)
          clear hwe g3e hB31 z21 y21
          gi_wp2_with fail
          obtain ⟨wB, hwB⟩ : ∃ W : World, W = we.setCell ⟨B3, 0, none⟩ (.int .i64 0) := ⟨_, rfl⟩
          have hB13 : B1 ≠ B3 := by have := HA.out; omega
          have h1B : wB.heap[B1]? = some (.cells #[.slice op3 mp3 cp3] 32 (0, 0)) := by
            rw [hwB, HWE.out.1]
            exact (Below.heap_setCell _ _ _ _ hB13).trans (heap_setCell_here _ HD.out.2.2.2.2.1)
          have h3B : wB.heap[B3]? = some (.cells #[.int .i64 0] 3 (0, 0)) := by
            rw [hwB]
            exact heap_setCell_here _ HWE.out.2
          have hoB : Only (fun k => k = B1 ∨ k = B2 ∨ k = B3) wd wB := by
            rw [hwB, HWE.out.1]
            exact (only_setCell _ _ _ _ _ (.inl rfl)).trans (only_setCell _ _ _ _ _ (.inr (.inr rfl))) (fun _ _ e => e)
          have hoA : Only (fun k => k = B1 ∨ k = B2 ∨ k = B3) wA wB := (HV.out.1.only.trans (Only.of_below HD.out.2.2.1 (Nat.le_refl _) (fun _ => False)) (fun _ _ hf => hf.elim)).trans hoB (fun _ _ e => e)
          have hbB : Below w16.heap.size w16 wB := HA.out.2.2.1.trans (hoA.below (fun i hi e => by have := HA.out; rcases e with e | e | e <;> omega) HA.out.2.2.1.size)
          have hszAB := hoA.size
          have hdlt := (Array.getElem?_eq_some_iff.1 HV.out.2.1).1
          have hbtB : wB.heap[b]? = some (.cells #[.int .i64 zt] 3 (0, 0)) := (hoA.block b (Array.getElem?_eq_some_iff.1 HA.out.2.2.2.2.1).1 (fun e => by have := HA.out; rcases e with e | e | e <;> omega)).trans HA.out.2.2.2.2.1
          have hmkV : MarksAt wB (wA.heap.size :: ks) := by
            have h1 : MarksAt V ks := HA.out.2.2.2.2.2.2.2.1.kept HV.out.1.only (fun k hk e => by have := HA.out; have := HA.out.2.2.2.2.2.2.1 k hk; rcases e with e | e | e <;> omega)
            have h2 : MarksAt V (wA.heap.size :: ks) := h1.cons HV.out.2.1 (fun k hk => by have := HA.out; have := HA.out.2.2.2.2.2.2.1 k hk; omega)
            refine (h2.below HD.out.2.2.1).kept hoB (fun k hk e => ?_)
            have hA' := HA.out
            rcases List.mem_cons.1 hk with hk | hk
            · rcases e with e | e | e <;> omega
            · have := HA.out.2.2.2.2.2.2.1 k hk
              rcases e with e | e | e <;> omega
          have hltB := HA.out.2.1
          have hltB2 := HA.out
          have hR0 : ∀ T : Nat → Prop, (∀ k, T k → wB.heap.size + 2 ≤ k) → R1 (unsT d.files) wB B1 B2 B3 false T 0 wB := fun T hT =>
            ⟨Only.refl _ _, ⟨op3, mp3, cp3, h1B, fun k hk h0 => by
              have h5 := readAt_lt_own HD.out.2.1 h0 k hk
              have h6 := hoB.size
              exact ⟨fun ht => by have := hT k ht; omega, by omega, by omega⟩, fun _ => ⟨HD.out.1, HD.out.2.1.kept (fun k hk ho' _ => hoB.block k hk (fun e => by
                have h7 := HD.out.2.2.2.1 k ho'
                rcases e with e | e | e <;> omega))⟩⟩, fun hq => (by cases hq), h3B, hT, by omega, by omega, by omega⟩
          have HB2 := Lib.hid (And.intro hR0 (And.intro hbB (And.intro hbtB (And.intro hmkV (And.intro hszAB hdlt)))))
          rw [← hwB]
          clear hwB hB13 h1B h3B hoB hoA hbB hszAB hdlt hbtB hmkV hltB hltB2 hR0 z25 y25 HWE HD HV
          have hst2 := images_told 7 (by omega) bs bm w16 (unsT d.files) d HB.out.2.2.1 HB.out.2.2.2.2.2.2.2.2.1 HB.out.2.2.2.2.2.2.2.2.2
          rename_i K3 hK3
          generalize hA2 : Act.mk _ _ = A2
          have hAfter2 : ∀ (T : Nat → Prop) (j : Nat) (V2 : World), R1 (unsT d.files) wB B1 B2 B3 false T j V2 → V2.heap[wB.heap.size]? = some (.deferred (some [])) → K3 { A2 with defers := markD wB.heap.size :: A2.defers } V2 := by
            intro T j V2 hr hdf
            subst hA2
            dsimp only
            have hltB2 := HA.out
            have hszAB := HB2.out.2.2.2.2.1
            have hbV2 := hr.below HB2.out.2.1 (by omega) (by omega) (by omega)
            have hbt2 := hr.old HB2.out.2.2.1 (by omega) (by omega) (by omega)
            have kt2 : V2.cell? ⟨b, 0, none⟩ = some (.int .i64 zt) := cell_of hbt2 rfl
            have HV2 := Lib.hid (And.intro hr (And.intro hdf (And.intro hbV2 hbt2)))
            clear hr hdf hltB2 hszAB hbV2 hbt2 hst2
            gi_upto_region 17 with fail
            obtain ⟨wF, hwF⟩ : ∃ W : World, W = V2.alloc (.cells #[.int .i64 zt] 3) := ⟨_, rfl⟩
            obtain ⟨bF, hbF⟩ : ∃ b, b = V2.heap.size := ⟨_, rfl⟩
            have hcF : wF.heap[bF]? = some (.cells #[.int .i64 zt] 3 (0, 0)) := by rw [hwF, hbF]; exact alloc_cells _ _ _
            have hbVF : Below V2.heap.size V2 wF := by rw [hwF]; exact (Below.refl _ _).alloc (Nat.le_refl _) _
            have kF : wF.cell? ⟨bF, 0, none⟩ = some (.int .i64 zt) := cell_of hcF rfl
            have zF : wF.frozen? ⟨bF, 0, none⟩ = false := free_of hcF _
            have hz2 : zt < 2 := by have := HZT.out; omega
            have hz0 : 0 ≤ zt := by have := HZT.out; omega
            have HF := Lib.hid (And.intro hcF (And.intro hbVF hbF))
            rw [← hwF, ← hbF]
            clear hwF hbF hcF hbVF kt2
            gi_wp2_with fail
            obtain ⟨ug, hug⟩ : ∃ ug, _ = frS b3 b4 b6 ba bb bs bm bF ug := frS_intro _ (by kernel_rfl)
            have hml := HA.out.2.2.2.2.2.2.2.2.1
            have hgt := HA.out.2.2.2.2.2.2.2.2.2.1
            have hcG : (wF.setCell ⟨bF, 0, none⟩ (.int .i64 (zt + 1))).heap[bF]? = some (.cells #[.int .i64 ((t + 1 : Nat) : Int)] 3 (0, 0)) := by
              have e : ((t + 1 : Nat) : Int) = zt + 1 := by have := HZT.out; omega
              rw [e]
              exact heap_setCell_here _ HF.out.1
            have hb2F : Below w16.heap.size w16 wF := HV2.out.2.2.1.trans (HF.out.2.1.mono HV2.out.2.2.1.size)
            have hbG : Below w16.heap.size w16 (wF.setCell ⟨bF, 0, none⟩ (.int .i64 (zt + 1))) := hb2F.setCell (p := ⟨bF, 0, none⟩) (by show w16.heap.size ≤ bF; rw [HF.out.2.2]; exact HV2.out.2.2.1.size) _
            have hltB2 := HA.out
            have hszAB := HB2.out.2.2.2.2.1
            have hmk2 : MarksAt V2 (wB.heap.size :: wA.heap.size :: ks) := by
              refine (HB2.out.2.2.2.1.kept HV2.out.1.only (fun k hk e => ?_)).cons HV2.out.2.1 (fun k hk => HB2.out.2.2.2.1.lt k hk)
              rcases List.mem_cons.1 hk with hk | hk
              · rcases e with e | e | e <;> omega
              · have := HA.out.2.2.2.2.2.2.1 k hk
                rcases e with e | e | e <;> omega
            refine Handed.intro (g - 1) (by omega) (hJ _ _ _ ⟨t + 1, bF, wB.heap.size :: wA.heap.size :: ks, ug, by rw [← hug]; rfl, Lib.hid ⟨by omega, hcG, hbG, (hmk2.below HF.out.2.1).setCell _ _, fun k hk => ?_⟩⟩)
            rcases List.mem_cons.1 hk with hk | hk
            · omega
            · rcases List.mem_cons.1 hk with hk | hk
              · omega
              · exact hml k hk
          subst hA2
          have HAF2 := Lib.hid hAfter2
          clear hAfter2 hK3
          refine wpIn_rangeFunc_told (n := 8) (α := ImV) rfl (by omega) (gf := 142) (lb := #[.pointer (some ⟨bs, 0, none⟩), .pointer (some ⟨bm, 0, none⟩)]) rfl trivial (enters_of Try.func142 (by kernel_rfl) rfl) hst2 HB2.out.2.1 (fun _ => rfl)
            (fun T pre V => R1 (unsT d.files) wB B1 B2 B3 false T pre.length V ∧ pre.length < 100) (fun c T pre V => c = .exit 4 ∧ R1 (unsT d.files) wB B1 B2 B3 false T pre.length V) ?I2 ?Ix2 ?h02 ?round2 ?done2 ?stop2
          case I2 =>
            rintro T pre A0 B0 ⟨hi, hx⟩ ho
            exact ⟨hi.kept ho (fun _ h => h), hx⟩
          case Ix2 =>
            rintro c T pre A0 B0 ⟨hc, hi⟩ ho
            exact ⟨hc, hi.kept ho (fun _ h => h)⟩
          case h02 =>
            intro T W1 hb hsz hT
            exact ⟨(HB2.out.1 T (fun k hk => (hT k hk).1)).later hb, by decide⟩
          case done2 =>
            rintro T xs V2 hS ⟨hi, -⟩ hD
            exact HAF2.out T _ V2 hi hD
          case stop2 =>
            rintro T c0 pre V2 hS ⟨rfl, hi⟩ hD
            exact wpIn_exit (HAF2.out T _ V2 hi hD)
          case round2 =>
            rintro T pre ⟨⟨oa, xn, c1⟩, qx⟩ Wp V hT hrec hdef ⟨hip, hj100⟩ hop hszp hgv hlt K0 hK0
            obtain ⟨⟨hxn, hrow, hown⟩, Sx, hdx, hSx⟩ := hgv
            dsimp only at hxn hrow hown hdx
            obtain ⟨j, hj⟩ : ∃ j, pre.length = j := ⟨_, rfl⟩
            rw [hj] at hxn hrow hip hlt hj100 hdx
            obtain ⟨ps, hps⟩ : ∃ ps, picksOf (unsT d.files) j = ps := ⟨_, rfl⟩
            have hpn : ps.length = xn := by rw [← hps]; unfold picksOf; rw [List.length_map, hxn]
            rw [picksOf_cells, hps] at hrow
            rw [hps] at hdx
            have hpl : xn ≤ 10000 := by rw [← hpn, ← hps]; exact picksOf_len HB.out.2.2.2.2.2.2.2.2.1 j
            obtain ⟨V', hV'⟩ : ∃ V', V' = V.alloc (.cells #[.slice oa xn c1] 72) := ⟨_, rfl⟩
            obtain ⟨B, hB⟩ : ∃ b, b = V.heap.size := ⟨_, rfl⟩
            have hbV : Below V.heap.size V V' := by rw [hV']; exact (Below.refl _ _).alloc (Nat.le_refl _) _
            have hBx : V'.heap[B]? = some (.cells #[.slice oa xn c1] 72 (0, 0)) := by rw [hV', hB]; exact alloc_cells _ _ _
            have hVl : wB.heap.size + 1 < V.heap.size := by
              obtain ⟨r, hr⟩ := hrec
              exact (Array.getElem?_eq_some_iff.1 hr).1
            have HK := Lib.hid hK0
            have HI := Lib.hid hip
            have HOP := Lib.hid (And.intro hop (And.intro hszp (And.intro (fun k hk => (hT k hk).2) hVl)))
            have HX := Lib.hid (And.intro hrow hown)
            have HDX := Lib.hid (And.intro hdx hSx)
            have HJ := Lib.hid (And.intro hj (And.intro hps (And.intro hlt (And.intro hpn (And.intro hpl hj100)))))
            have HVB := Lib.hid (And.intro hbV (And.intro hBx hB))
            clear hT hrec hdef hip hop hszp hK0 hxn hrow hown hdx hSx hlt hst2 hj hps hpn hpl hj100 hbV hBx hVl HAF2
            unfold encI
            gi_wp2_with fail
            rw [← hV', ← hB]
            clear hV' hB
            refine HK.out _ _ (KeptR.of HVB.out.1) ?_
            intro W2 ho hr2
            have hopV : Only T Wp V' := HOP.out.1.trans (Only.of_below HVB.out.1 (Nat.le_refl _) (fun _ => False)) (fun _ _ hf => hf.elim)
            have hop2 : Only (fun k => T k ∨ k = wB.heap.size + 1) Wp W2 := (hopV.mono (fun _ _ h => .inl h)).trans (ho.mono (fun k _ h => .inr h)) (fun _ _ h => h)
            have hi2 := HI.out.kept hop2 (fun i h => h.elim .inl (fun h => .inr (.inr h)))
            have hV2 : V'.heap.size ≤ W2.heap.size := ho.size
            have hVs : V.heap.size ≤ V'.heap.size := HVB.out.1.size
            have hBV := HVB.out.2.2
            have hVl := HOP.out.2.2.2
            have hsp := HOP.out.2.1
            have hkb : W2.heap[B]? = some (.cells #[.slice oa xn c1] 72 (0, 0)) := (ho.block B (Array.getElem?_eq_some_iff.1 HVB.out.2.1).1 (fun e => by omega)).trans HVB.out.2.1
            have hrow2 : rowAt W2 3 1 (.slice oa xn c1) xn (intCells ps) := HX.out.1.kept (fun k hk => (ho.block k (Nat.lt_of_lt_of_le (HX.out.1.lt k hk) hVs) (fun e => by have := (HX.out.2 k hk).1; omega)).trans (HVB.out.1.block k (HX.out.1.lt k hk)))
            have hdx2 : DiskAt W2 Sx qx (d.crash ps) := (HDX.out.1.below HVB.out.1).only2 ho (fun k hk e => by have := (HDX.out.2 k hk).1; omega)
            obtain ⟨o, m, c, h1, h2, h3⟩ := hi2.plain
            obtain ⟨hm, hpr⟩ := h3 HJ.out.2.2.1
            have hltB2 := HA.out
            have hszAB := HB2.out.2.2.2.2.1
            have hbw2 := hi2.below HB2.out.2.1 (by omega) (by omega) (by omega)
            have k21 : W2.cell? ⟨B1, 0, none⟩ = some (.slice o m c) := cell_of h1 rfl
            have k6 : W2.cell? ⟨b6, 0, none⟩ = some (.pointer (some ⟨p, 0, none⟩)) := cell_of ((hbw2.block b6 (Array.getElem?_eq_some_iff.1 HB.out.2.2.2.1).1).trans HB.out.2.2.2.1) rfl
            have hcw := rway_b (oa := o) (n := m) (c := c) (HB.out.1.below hbw2) HB.out.2.2.2.2.2.2.2.2.1 HB.out.2.2.2.2.2.2.2.2.2 hm hpr
            rw [HJ.out.2.1] at hm hpr hcw
            have HCW := Lib.hid hcw
            have HT2 : Hid ((∀ k, T k → k < W2.heap.size) ∧ wB.heap.size + 2 ≤ W2.heap.size) := Lib.hid ⟨fun k hk => by have := HOP.out.2.2.1 k hk; omega, by omega⟩
            have H2 := Lib.hid (And.intro hi2 (And.intro h1 (And.intro hm (And.intro hpr (And.intro hkb (And.intro hrow2 hdx2))))))
            clear hopV hop2 hi2 hV2 hVs hBV hVl hsp hkb hrow2 hdx2 h1 h2 h3 hm hpr ho hr2 hltB2 hszAB hbw2 hcw
            generalize hQ : toldPost _ _ _ _ _ = Q
            have HQ := Lib.hid hQ
            clear hQ
            gi_wp2_with fail
            refine (CallsIn.inRound _ (callsIn_wide.2 HCW.out)).mono ?_
            rintro e W3 ⟨bl4, op4, mp4, cp4, v24, rfl, -, -, hlf, hb3, -⟩
            have hi3 := H2.out.1.later hb3
            have k21' : W3.cell? ⟨B1, 0, none⟩ = some (.slice o m c) := cell_of ((hb3.block B1 (Array.getElem?_eq_some_iff.1 H2.out.2.1).1).trans H2.out.2.1) rfl
            have kb' : W3.cell? ⟨B, 0, none⟩ = some (.slice oa xn c1) := cell_of ((hb3.block B (Array.getElem?_eq_some_iff.1 H2.out.2.2.2.2.1).1).trans H2.out.2.2.2.2.1) rfl
            have hrow3 := H2.out.2.2.2.2.2.1.kept (fun k hk => hb3.block k (H2.out.2.2.2.2.2.1.lt k hk))
            have hsm := psame_b HJ.out.2.2.2.1 H2.out.2.2.1 hrow3.read (H2.out.2.2.2.1.kept (fun k hk _ _ => hb3.block k hk)) (by have := HJ.out.2.2.2.2; omega)
            rw [decide_eq_true rfl] at hsm
            have HSM := Lib.hid hsm
            have H3 := Lib.hid (And.intro hb3 (And.intro hi3 (And.intro hlf (H2.out.2.2.2.2.2.2.below hb3))))
            clear hb3 hi3 hlf hrow3 hsm k21 k6 HCW
            gi_wp2_with fail
            refine (CallsIn.inRound _ (callsIn_wide.2 HSM.out)).mono ?_
            rintro e W4 ⟨rfl, hb4⟩
            have HIS := Lib.hid (is_b (H3.out.2.2.2.below hb4) (H3.out.2.2.1.below hb4) (crash_there d ps))
            have H4 := Lib.hid (And.intro (H3.out.1.trans (hb4.mono H3.out.1.size)) (H3.out.2.1.later hb4))
            clear hb4 k21' kb' HSM H3
            gi_wp2_with fail
            refine (CallsIn.inRound _ (callsIn_wide.2 HIS.out)).mono ?_
            rintro e W5 ⟨rfl, hb5⟩
            have hb25 := H4.out.1.trans (hb5.mono H4.out.1.size)
            have hi5 := H4.out.2.later hb5
            have hltB2 := HA.out
            have hszAB := HB2.out.2.2.2.2.1
            have hbw5 := hi5.below HB2.out.2.1 (by omega) (by omega) (by omega)
            have k6 : W5.cell? ⟨b6, 0, none⟩ = some (.pointer (some ⟨p, 0, none⟩)) := cell_of ((hbw5.block b6 (Array.getElem?_eq_some_iff.1 HB.out.2.2.2.1).1).trans HB.out.2.2.2.1) rfl
            have k21' : W5.cell? ⟨B1, 0, none⟩ = some (.slice o m c) := cell_of ((hb25.block B1 (Array.getElem?_eq_some_iff.1 H2.out.2.1).1).trans H2.out.2.1) rfl
            have hnx := refNext_b (oa := o) (n := m) (c := c) (HB.out.1.below hbw5) HJ.out.2.2.1 HB.out.2.2.2.2.2.2.2.2.1 HB.out.2.2.2.2.2.2.2.2.2 (by rw [HJ.out.2.1]; exact H2.out.2.2.1) (by rw [HJ.out.2.1]; exact H2.out.2.2.2.1.kept (fun k hk _ _ => hb25.block k hk))
            have HNX := Lib.hid hnx
            have H5 := Lib.hid (And.intro hb25 hi5)
            clear hb5 hb25 hi5 hltB2 hszAB hbw5 hnx HIS H4
            gi_wp2_with fail
            refine (CallsIn.inRound _ (callsIn_wide.2 HNX.out)).mono ?_
            rintro e W6 hnx
            obtain ⟨o2, m2, c2, rfl, how, hpp, hb6⟩ := hnx.one
            have hb26 := H5.out.1.trans (hb6.mono H5.out.1.size)
            have hi6 := H5.out.2.later hb6
            obtain ⟨o3, m3, c3, g1, -, -⟩ := hi6.plain
            have z21 : W6.frozen? ⟨B1, 0, none⟩ = false := free_of g1 _
            have y21 := cell_of (i := 0) g1 rfl
            have HD4 := Lib.hid (And.intro hi6 (And.intro hb26 (And.intro how (And.intro hpp hb6))))
            clear hnx how hpp hb6 hb26 hi6 g1 k6 k21' HNX
            gi_upto_region 39 with fail
            obtain ⟨w11, hw11⟩ : ∃ W : World, W = W6.setCell ⟨B1, 0, none⟩ (.slice o2 m2 c2) := ⟨_, rfl⟩
            have hB31 : B3 ≠ B1 := by have := HA.out; omega
            have hc11 : w11.heap[B3]? = some (.cells #[.int .i64 (j : Int)] 3 (0, 0)) := by
              rw [hw11]
              exact (Below.heap_setCell _ _ _ _ hB31).trans HD4.out.1.cnt
            have k25 : w11.cell? ⟨B3, 0, none⟩ = some (.int .i64 (j : Int)) := cell_of hc11 rfl
            have z25 : w11.frozen? ⟨B3, 0, none⟩ = false := free_of hc11 _
            rw [← hw11]
            have HW11 := Lib.hid hw11
            clear hw11 hc11 y21 z21 hB31
            have hjb : (j : Int) < 100 := by have := HJ.out; omega
            gi_upto_region 40 with fail
            obtain ⟨w12, hw12⟩ : ∃ W : World, W = w11.setCell ⟨B3, 0, none⟩ (.int .i64 ((j : Int) + 1)) := ⟨_, rfl⟩
            have hltB2 := HA.out
            have hszAB := HB2.out.2.2.2.2.1
            have hstep := R1.step (W := w12) H5.out.2 HD4.out.2.2.2.2 (by omega) (by omega) (by omega) (fun k hk => by have := HT2.out.1 k hk; have := H5.out.1.size; omega) (by have := HT2.out.2; have := H5.out.1.size; omega) HD4.out.2.2.1 HD4.out.2.2.2.1 (by rw [if_neg (by simp), hw12, HW11.out])
            rw [← hw12]
            have hkept : KeptS w16.heap.size wB.heap.size T W2 w12 := (KeptR.of HD4.out.2.1).join (hstep.2.mono (fun k _ e => by
              have hlo := HI.out.low
              refine ⟨by rcases e with e | e | e <;> omega, fun h => ?_⟩
              rcases h with h | h | h
              · have := hlo k h
                rcases e with e | e | e <;> omega
              · rcases e with e | e | e <;> omega
              · rcases e with e | e | e <;> omega))
            obtain ⟨z2, hz⟩ : ∃ z : Int, z = (j : Int) + 1 := ⟨_, rfl⟩
            have hcz := hstep.1.cnt
            have hze : ((j + 1 : Nat) : Int) = z2 := by omega
            rw [hze] at hcz
            have hbt := hstep.1.old HB2.out.2.2.1 (by omega) (by omega) (by omega)
            have hb12 := hstep.1.below HB2.out.2.1 (by omega) (by omega) (by omega)
            have c25 : w12.cell? ⟨B3, 0, none⟩ = some (.int .i64 z2) := cell_of hcz rfl
            have ct : w12.cell? ⟨b, 0, none⟩ = some (.int .i64 zt) := cell_of hbt rfl
            have cl : w12.cell? ⟨b3, 0, none⟩ = some (.int .i64 lv) := cell_of ((hb12.block b3 (Array.getElem?_eq_some_iff.1 HB.out.2.2.2.2.1).1).trans HB.out.2.2.2.2.1) rfl
            have hlen : (pre ++ [(⟨⟨oa, xn, c1⟩, qx⟩ : ImV)]).length = j + 1 := by rw [List.length_append, HJ.out.1]; rfl
            have HST := Lib.hid (And.intro hkept (And.intro hstep.1 (And.intro hlen hze)))
            clear hw12 hstep hkept hcz hz hze hbt hb12 k25 z25 hlen hjb hltB2 hszAB HW11 HD4 H5 H2 HT2
            by_cases h100 : z2 = 100
            · have hd : (z2 == 100) = true := by rw [beq_iff_eq]; exact h100
              gi_wp2_with fail
              rw [← HQ.out]
              refine ⟨HST.out.1, rfl, ?_⟩
              rw [HST.out.2.2.1]; exact HST.out.2.1
            · have hd : (z2 == 100) = false := by rw [beq_eq_false_iff_ne]; exact h100
              by_cases h0 : zt = 0
              · have hd0 : (zt == 0) = true := by rw [beq_iff_eq]; exact h0
                by_cases hl : z2 = lv
                · have hdl : (z2 == lv) = true := by rw [beq_iff_eq]; exact hl
                  gi_wp2_with fail
                  rw [← HQ.out]
                  refine ⟨HST.out.1, rfl, ?_⟩
                  rw [HST.out.2.2.1]; exact HST.out.2.1
                · have hdl : (z2 == lv) = false := by rw [beq_eq_false_iff_ne]; exact hl
                  gi_wp2_with fail
                  rw [← HQ.out]
                  refine ⟨HST.out.1, ?_⟩
                  show R1 _ _ _ _ _ _ _ (pre ++ [(⟨⟨oa, xn, c1⟩, qx⟩ : ImV)]).length _ ∧ (pre ++ [(⟨⟨oa, xn, c1⟩, qx⟩ : ImV)]).length < 100
                  rw [HST.out.2.2.1]
                  exact ⟨HST.out.2.1, by have := HST.out.2.2.2; have := HJ.out.2.2.2.2.2; omega⟩
              · have hd0 : (zt == 0) = false := by rw [beq_eq_false_iff_ne]; exact h0
                gi_wp2_with fail
                rw [← HQ.out]
                refine ⟨HST.out.1, ?_⟩
                show R1 _ _ _ _ _ _ _ (pre ++ [(⟨⟨oa, xn, c1⟩, qx⟩ : ImV)]).length _ ∧ (pre ++ [(⟨⟨oa, xn, c1⟩, qx⟩ : ImV)]).length < 100
                rw [HST.out.2.2.1]
                exact ⟨HST.out.2.1, by have := HST.out.2.2.2; have := HJ.out.2.2.2.2.2; omega⟩
      subst hA
      have HAF := Lib.hid hAfter
      clear hAfter hK2
      refine wpIn_rangeFunc_told (n := 8) (α := SlV) rfl (by omega) (gf := 141) (lb := #[.pointer (some ⟨ba, 0, none⟩), .pointer (some ⟨bb, 0, none⟩)]) rfl trivial (enters_of Try.func141 (by kernel_rfl) rfl) hst HA.out.2.2.1 (fun _ => rfl)
        (fun T pre V => R1 (unsT d.files) wA B1 B2 B3 true T pre.length V ∧ pre.length < 300) (fun c T pre V => c = .exit 2 ∧ R1 (unsT d.files) wA B1 B2 B3 true T pre.length V ∧ ((pre.length : Int) = 300 ∨ zt = 0 ∧ (pre.length : Int) = lv)) ?I ?Ix ?h0 ?round ?done ?stop
      case I =>
        rintro T pre A0 B0 ⟨hi, hx⟩ ho
        exact ⟨hi.kept ho (fun _ h => h), hx⟩
      case Ix =>
        rintro c T pre A0 B0 ⟨hc, hi, hx⟩ ho
        exact ⟨hc, hi.kept ho (fun _ h => h), hx⟩
      case h0 =>
        intro T W1 hb hsz hT
        exact ⟨(HA.out.1 T (fun k hk => (hT k hk).1)).later hb, by decide⟩
      case done =>
        rintro T xs V hS ⟨hi, -⟩ hD
        have hS' : xs.length = prodW (unsT d.files) := hS
        exact HAF.out T _ V hi hD (fun h => absurd h (by omega))
      case stop =>
        rintro T c0 pre V hS ⟨rfl, hi, hx⟩ hD
        exact wpIn_exit (HAF.out T _ V hi hD (fun _ => hx))
      case round =>
        rintro T pre ⟨oa, xn, c1⟩ Wp V hT hrec hdef ⟨hip, hj300⟩ hop hszp hgv hlt K0 hK0
        obtain ⟨hxn, hrow, hown⟩ := hgv
        dsimp only at hxn hrow hown
        obtain ⟨j, hj⟩ : ∃ j, pre.length = j := ⟨_, rfl⟩
        rw [hj] at hxn hrow hip hlt hj300
        obtain ⟨ps, hps⟩ : ∃ ps, picksOf (unsT d.files) j = ps := ⟨_, rfl⟩
        have hpn : ps.length = xn := by rw [← hps]; unfold picksOf; rw [List.length_map, hxn]
        rw [picksOf_cells, hps] at hrow
        have hpl : xn ≤ 10000 := by rw [← hpn, ← hps]; exact picksOf_len HB.out.2.2.2.2.2.2.2.2.1 j
        obtain ⟨V', hV'⟩ : ∃ V', V' = V.alloc (.cells #[.slice oa xn c1] 72) := ⟨_, rfl⟩
        obtain ⟨B, hB⟩ : ∃ b, b = V.heap.size := ⟨_, rfl⟩
        have hbV : Below V.heap.size V V' := by rw [hV']; exact (Below.refl _ _).alloc (Nat.le_refl _) _
        have hBx : V'.heap[B]? = some (.cells #[.slice oa xn c1] 72 (0, 0)) := by rw [hV', hB]; exact alloc_cells _ _ _
        have hVl : wA.heap.size + 1 < V.heap.size := by
          obtain ⟨r, hr⟩ := hrec
          exact (Array.getElem?_eq_some_iff.1 hr).1
        have HK := Lib.hid hK0
        have HI := Lib.hid hip
        have HOP := Lib.hid (And.intro hop (And.intro hszp (And.intro (fun k hk => (hT k hk).2) hVl)))
        have HX := Lib.hid (And.intro hrow hown)
        have HJ := Lib.hid (And.intro hj (And.intro hps (And.intro hlt (And.intro hpn hpl))))
        have HVB := Lib.hid (And.intro hbV (And.intro hBx hB))
        have HJ3 := Lib.hid hj300
        clear hj300 hT hrec hdef hip hop hszp hK0 hxn hrow hown hlt hst hj hps hpn hpl hbV hBx hVl HAF
        unfold encW
        gi_wp2_with fail
        rw [← hV', ← hB]
        clear hV' hB
        refine HK.out _ _ (KeptR.of HVB.out.1) ?_
        intro W2 ho hr2
        have hopV : Only T Wp V' := HOP.out.1.trans (Only.of_below HVB.out.1 (Nat.le_refl _) (fun _ => False)) (fun _ _ hf => hf.elim)
        have hop2 : Only (fun k => T k ∨ k = wA.heap.size + 1) Wp W2 := (hopV.mono (fun _ _ h => .inl h)).trans (ho.mono (fun k _ h => .inr h)) (fun _ _ h => h)
        have hi2 := HI.out.kept hop2 (fun i h => h.elim .inl (fun h => .inr (.inr h)))
        have hV2 : V'.heap.size ≤ W2.heap.size := ho.size
        have hVs : V.heap.size ≤ V'.heap.size := HVB.out.1.size
        have hBV := HVB.out.2.2
        have hVl := HOP.out.2.2.2
        have hsp := HOP.out.2.1
        have hkb : W2.heap[B]? = some (.cells #[.slice oa xn c1] 72 (0, 0)) := (ho.block B (Array.getElem?_eq_some_iff.1 HVB.out.2.1).1 (fun e => by omega)).trans HVB.out.2.1
        have hrow2 : rowAt W2 3 1 (.slice oa xn c1) xn (intCells ps) := HX.out.1.kept (fun k hk => (ho.block k (Nat.lt_of_lt_of_le (HX.out.1.lt k hk) hVs) (fun e => by have := (HX.out.2 k hk).1; omega)).trans (HVB.out.1.block k (HX.out.1.lt k hk)))
        obtain ⟨o, m, c, h1, h2, h3⟩ := hi2.plain
        obtain ⟨hm, hpr⟩ := h3 HJ.out.2.2.1
        rw [HJ.out.2.1] at hm hpr
        have hmore := hi2.more rfl
        rw [decide_eq_true HJ.out.2.2.1] at hmore
        have k24 : W2.cell? ⟨B2, 0, none⟩ = some (.bool true) := cell_of hmore rfl
        have kb : W2.cell? ⟨B, 0, none⟩ = some (.slice oa xn c1) := cell_of hkb rfl
        have k21 : W2.cell? ⟨B1, 0, none⟩ = some (.slice o m c) := cell_of h1 rfl
        have hsm := psame_b HJ.out.2.2.2.1 hm hrow2.read hpr (by have := HJ.out.2.2.2.2; omega)
        rw [decide_eq_true rfl] at hsm
        have HSM := Lib.hid hsm
        have HT2 : Hid ((∀ k, T k → k < W2.heap.size) ∧ wA.heap.size + 2 ≤ W2.heap.size) := Lib.hid ⟨fun k hk => by have := HOP.out.2.2.1 k hk; omega, by omega⟩
        have H2 := Lib.hid (And.intro hi2 (And.intro h1 (And.intro hm hpr)))
        clear hopV hop2 hi2 hV2 hVs hBV hVl hsp hkb hrow2 h1 h2 h3 hm hpr hmore hsm ho hr2
        generalize hQ : toldPost _ _ _ _ _ = Q
        have HQ := Lib.hid hQ
        clear hQ
        gi_wp2_with fail
        refine (CallsIn.inRound _ (callsIn_wide.2 HSM.out)).mono ?_
        rintro e W3 ⟨rfl, hb3⟩
        have hi3 := H2.out.1.later hb3
        have hbw3 := hi3.below HA.out.2.2.1 HA.out.2.2.2.1 (by have := HA.out; omega) (by have := HA.out; omega)
        have k6 : W3.cell? ⟨b6, 0, none⟩ = some (.pointer (some ⟨p, 0, none⟩)) := cell_of ((hbw3.block b6 (Array.getElem?_eq_some_iff.1 HB.out.2.2.2.1).1).trans HB.out.2.2.2.1) rfl
        have k21' : W3.cell? ⟨B1, 0, none⟩ = some (.slice o m c) := cell_of ((hb3.block B1 (Array.getElem?_eq_some_iff.1 H2.out.2.1).1).trans H2.out.2.1) rfl
        have hnx := refNext_b (oa := o) (n := m) (c := c) (HB.out.1.below hbw3) HJ.out.2.2.1 HB.out.2.2.2.2.2.2.2.2.1 HB.out.2.2.2.2.2.2.2.2.2 (by rw [HJ.out.2.1]; exact H2.out.2.2.1) (by rw [HJ.out.2.1]; exact H2.out.2.2.2.kept (fun k hk _ _ => hb3.block k hk))
        have HNX := Lib.hid hnx
        have H3 := Lib.hid (And.intro hb3 hi3)
        clear hb3 hi3 hbw3 hnx k24 kb k21 HSM
        gi_wp2_with fail
        refine (CallsIn.inRound _ (callsIn_wide.2 HNX.out)).mono ?_
        rintro e W4 hnx
        obtain ⟨o2, m2, c2, rfl, how, hpp, hb4⟩ := hnx.one
        have hb24 := H3.out.1.trans (hb4.mono H3.out.1.size)
        have hi4 := H3.out.2.later hb4
        obtain ⟨o3, m3, c3, g1, -, -⟩ := hi4.plain
        have g2 := hi4.more rfl
        have g3 := hi4.cnt
        have z21 : W4.frozen? ⟨B1, 0, none⟩ = false := free_of g1 _
        have hB21 : B2 ≠ B1 := by have := HA.out; omega
        have hB31 : B3 ≠ B1 := by have := HA.out; omega
        have hB32 : B3 ≠ B2 := by have := HA.out; omega
        have g24 : (W4.setCell ⟨B1, 0, none⟩ (.slice o2 m2 c2)).heap[B2]? = _ := (Below.heap_setCell _ _ _ _ hB21).trans g2
        have z24 : (W4.setCell ⟨B1, 0, none⟩ (.slice o2 m2 c2)).frozen? ⟨B2, 0, none⟩ = false := free_of g24 _
        have y21 := cell_of (i := 0) g1 rfl
        have y24 := cell_of (i := 0) g24 rfl
        have HD4 := Lib.hid (And.intro hi4 (And.intro hb24 (And.intro how (And.intro hpp hb4))))
        clear hnx how hpp hb4 hb24 hi4 g1 g2 g3 g24 k6 k21' HNX
        gi_upto_region 26 with fail
        obtain ⟨w11, hw11⟩ : ∃ W : World, W = (W4.setCell ⟨B1, 0, none⟩ (.slice o2 m2 c2)).setCell ⟨B2, 0, none⟩ (.bool (decide (j + 1 < prodW (unsT d.files)))) := ⟨_, rfl⟩
        have hc11 : w11.heap[B3]? = some (.cells #[.int .i64 (j : Int)] 3 (0, 0)) := by
          rw [hw11]
          exact (Below.heap_setCell _ _ _ _ hB32).trans ((Below.heap_setCell _ _ _ _ hB31).trans HD4.out.1.cnt)
        have k25 : w11.cell? ⟨B3, 0, none⟩ = some (.int .i64 (j : Int)) := cell_of hc11 rfl
        have z25 : w11.frozen? ⟨B3, 0, none⟩ = false := free_of hc11 _
        rw [← hw11]
        have HW11 := Lib.hid hw11
        clear hw11 hc11 y21 y24 z21 z24 hB21 hB31 hB32
        have hjb : (j : Int) < 300 := by have := HJ3.out; omega
        gi_upto_region 27 with fail
        obtain ⟨w12, hw12⟩ : ∃ W : World, W = w11.setCell ⟨B3, 0, none⟩ (.int .i64 ((j : Int) + 1)) := ⟨_, rfl⟩
        have hstep := R1.step (W := w12) H3.out.2 HD4.out.2.2.2.2 (by have := HA.out; omega) (by have := HA.out; omega) (by have := HA.out; omega) (fun k hk => by have := HT2.out.1 k hk; have := H3.out.1.size; omega) (by have := HT2.out.2; have := H3.out.1.size; omega) HD4.out.2.2.1 HD4.out.2.2.2.1 (by rw [if_pos rfl, hw12, HW11.out])
        rw [← hw12]
        have hkept : KeptS w16.heap.size wA.heap.size T W2 w12 := (KeptR.of HD4.out.2.1).join (hstep.2.mono (fun k _ e => by
          have hA' := HA.out
          have hlo := HI.out.low
          refine ⟨by rcases e with e | e | e <;> omega, fun h => ?_⟩
          rcases h with h | h | h
          · have := hlo k h
            rcases e with e | e | e <;> omega
          · rcases e with e | e | e <;> omega
          · rcases e with e | e | e <;> omega))
        obtain ⟨z, hz⟩ : ∃ z : Int, z = (j : Int) + 1 := ⟨_, rfl⟩
        have hcz := hstep.1.cnt
        have hze : ((j + 1 : Nat) : Int) = z := by omega
        rw [hze] at hcz
        have hbt := hstep.1.old HA.out.2.2.2.2.1 (by have := HA.out; omega) (by have := HA.out; omega) (by have := HA.out; omega)
        have hb12 := hstep.1.below HA.out.2.2.1 HA.out.2.2.2.1 (by have := HA.out; omega) (by have := HA.out; omega)
        have c25 : w12.cell? ⟨B3, 0, none⟩ = some (.int .i64 z) := cell_of hcz rfl
        have ct : w12.cell? ⟨b, 0, none⟩ = some (.int .i64 zt) := cell_of hbt rfl
        have cl : w12.cell? ⟨b3, 0, none⟩ = some (.int .i64 lv) := cell_of ((hb12.block b3 (Array.getElem?_eq_some_iff.1 HB.out.2.2.2.2.1).1).trans HB.out.2.2.2.2.1) rfl
        have hlen : (pre ++ [(⟨oa, xn, c1⟩ : SlV)]).length = j + 1 := by rw [List.length_append, HJ.out.1]; rfl
        have HST := Lib.hid (And.intro hkept (And.intro hstep.1 (And.intro hlen hze)))
        clear hw12 hstep hkept hcz hz hze hbt hb12 k25 z25 hlen hjb HW11 HD4 H3 H2 HT2
        by_cases h300 : z = 300
        · have hd : (z == 300) = true := by rw [beq_iff_eq]; exact h300
          gi_wp2_with fail
          rw [← HQ.out]
          refine ⟨HST.out.1, rfl, ?_, .inl ?_⟩
          · rw [HST.out.2.2.1]; exact HST.out.2.1
          · rw [HST.out.2.2.1, HST.out.2.2.2]; exact h300
        · have hd : (z == 300) = false := by rw [beq_eq_false_iff_ne]; exact h300
          by_cases h0 : zt = 0
          · have hd0 : (zt == 0) = true := by rw [beq_iff_eq]; exact h0
            by_cases hl : z = lv
            · have hdl : (z == lv) = true := by rw [beq_iff_eq]; exact hl
              gi_wp2_with fail
              rw [← HQ.out]
              refine ⟨HST.out.1, rfl, ?_, .inr ⟨h0, ?_⟩⟩
              · rw [HST.out.2.2.1]; exact HST.out.2.1
              · rw [HST.out.2.2.1, HST.out.2.2.2]; exact hl
            · have hdl : (z == lv) = false := by rw [beq_eq_false_iff_ne]; exact hl
              gi_wp2_with fail
              rw [← HQ.out]
              refine ⟨HST.out.1, ?_⟩
              show R1 _ _ _ _ _ _ _ (pre ++ [(⟨oa, xn, c1⟩ : SlV)]).length _ ∧ (pre ++ [(⟨oa, xn, c1⟩ : SlV)]).length < 300
              rw [HST.out.2.2.1]
              exact ⟨HST.out.2.1, by have := HST.out.2.2.2; have := HJ3.out; omega⟩
          · have hd0 : (zt == 0) = false := by rw [beq_eq_false_iff_ne]; exact h0
            gi_wp2_with fail
            rw [← HQ.out]
            refine ⟨HST.out.1, ?_⟩
            show R1 _ _ _ _ _ _ _ (pre ++ [(⟨oa, xn, c1⟩ : SlV)]).length _ ∧ (pre ++ [(⟨oa, xn, c1⟩ : SlV)]).length < 300
            rw [HST.out.2.2.1]
            exact ⟨HST.out.2.1, by have := HST.out.2.2.2; have := HJ3.out; omega⟩

end Go.Proofs.Ytmkjejngnahpeaa
