/- The texts Lb, Lc in one. -/
import Derived.Test.YtmkjejngnahpeaaC3
import Derived.Test.YtmkjejngnahpeaaB8
import Derived.Test.YtmkjejngnahpeaaA2
import Derived.DeepKeys
/- Disk: going over what All tells, in order. -/
namespace Go.Proofs.Ytmkjejngnahpeaa
open Go Go.Maps Go.RowKit Go.Shelf
open Go.Proofs (encStr)
attribute [local go_sem] Oper.semAt_some

set_option maxRecDepth 100000 in
set_option maxHeartbeats 1000000 in
theorem toldIn2 (F : Fence) (n : Nat) (h7 : F.fn 161) (hro : F.round = none) (hn : 1 ≤ n) (l vb : Nat) (w : World) (fs : List F0) (hsq : SeqAt w vb fs) (hfs : fs.length ≤ 1000000) (J Jx : Nat → World → Prop) (W : World) (hW : Below w.heap.size w W)
    (hJ : ∀ j A B, J j A → Below A.heap.size A B → J j B)
    (hY : ∀ j (hj : j < fs.length) W1, J j W1 → YieldAt F (n - 1) Try.prog l #[fileV fs[j]] W1 fun e W' =>
      (e = .returned (.bool true) ∧ J (j + 1) W' ∧ Below w.heap.size W1 W') ∨ (e = .returned (.bool false) ∧ Jx (j + 1) W')) (h0 : J 0 W) :
    CallsIn F n Try.prog 161 #[.func (.yield l) #[] #[], .pointer (some ⟨vb, 0, none⟩)] W fun e W' => (∃ v, e = .returned v) ∧ (J fs.length W' ∨ ∃ j, Jx j W') := by
  obtain ⟨v, hv, hrow⟩ := hsq
  obtain ⟨oa, c, rfl, hnc⟩ := hrow.shape
  obtain ⟨N, hN⟩ : ∃ N, fs.length = N := ⟨_, rfl⟩
  rw [hN] at hv hrow hnc hfs
  have cv : W.cell? ⟨vb, 0, none⟩ = some (.slice oa N c) := cell_of ((hW.block vb (Array.getElem?_eq_some_iff.1 hv).1).trans hv) rfl
  have HR := Lib.hid hrow
  have HN := Lib.hid hN
  have HY := Lib.hid hY
  have HJ := Lib.hid hJ
  have HW := Lib.hid hW
  clear hv hrow hN hY hJ hW
  refine callsIn_of_wp Try.func161 rfl h7 ?_ hro
  simp only [Try.ntmps161, List.size_toArray, List.length_cons, List.length_nil, Nat.reduceAdd, Nat.reduceSub, Array.replicate_succ, Array.replicate_zero, List.push_toArray, List.append_toArray, List.nil_append, List.cons_append]
  gi_wp2
  gi_loopw [7] (fun i wr => ∃ j : Nat, j ≤ N ∧ i = .int .i64 j ∧ J j wr ∧ Below w.heap.size w wr ∧ W.heap.size ≤ wr.heap.size) (fun i wr => N - (intOf i).toNat)
  case atStart => exact ⟨0, Nat.zero_le _, rfl, h0, HW.out, Nat.le_refl _⟩
  case round =>
    obtain ⟨j, hj, rfl, hJs, hbw, hWr⟩ := hrel
    by_cases hlt : j < N
    · have hjf : j < fs.length := by rw [HN.out]; exact hlt
      have hrw := HR.out.kept (fun k hk => hbw.block k (HR.out.lt k hk))
      obtain ⟨g, off, rfl⟩ := hrw.addr (by omega)
      obtain ⟨x, hx⟩ : ∃ x, fs[j] = x := ⟨_, rfl⟩
      have hcell : ∀ i, i < 5 → ∀ u, (fileCells x)[i]? = some u → wr.cell? ⟨g, off + (j * 5 + i), none⟩ = some u := fun i hi u hu => by
        have := hrw.cells (g := g) (off := off) rfl (j * 5 + i) u (by rw [filesCells_get hjf hi, hx, hu])
        simpa [Go.WideShapes.add_plain] using this
      have k0 : wr.cell? ⟨g, off + j * 5, none⟩ = some (encStr x.name) := hcell 0 (by omega) _ rfl
      have k1 : wr.cell? ⟨g, off + j * 5 + 1, none⟩ = some (.int .i64 x.bytes.length) := hcell 1 (by omega) _ rfl
      have k2 : wr.cell? ⟨g, off + j * 5 + 2, none⟩ = some (.int .i64 x.lasts) := hcell 2 (by omega) _ rfl
      have k3 : wr.cell? ⟨g, off + j * 5 + 3, none⟩ = some (.bool x.there) := hcell 3 (by omega) _ rfl
      have k4 : wr.cell? ⟨g, off + j * 5 + 4, none⟩ = some (.bool x.named) := hcell 4 (by omega) _ rfl
      obtain ⟨a0, ha0⟩ : ∃ a : ByteArray, encStr x.name = .string a := ⟨_, rfl⟩
      obtain ⟨a1, ha1⟩ : ∃ a : Int, (x.bytes.length : Int) = a := ⟨_, rfl⟩
      obtain ⟨a2, ha2⟩ : ∃ a : Int, (x.lasts : Int) = a := ⟨_, rfl⟩
      obtain ⟨a3, ha3⟩ : ∃ a, x.there = a := ⟨_, rfl⟩
      obtain ⟨a4, ha4⟩ : ∃ a, x.named = a := ⟨_, rfl⟩
      have HV : Hid (fileV x = .agg #[.string a0, .int .i64 a1, .int .i64 a2, .bool a3, .bool a4]) := Lib.hid (by unfold fileV; rw [ha0, ha1, ha2, ha3, ha4])
      rw [ha0] at k0; rw [ha1] at k1; rw [ha2] at k2; rw [ha3] at k3; rw [ha4] at k4
      have HX := Lib.hid hx
      have HJS := Lib.hid hJs
      have HBW := Lib.hid hbw
      obtain ⟨w2, hw2⟩ : ∃ w2 : World, w2 = wr.alloc (.cells #[.string a0, .int .i64 a1, .int .i64 a2, .bool a3, .bool a4] 78) := ⟨_, rfl⟩
      have hg2 : wr.grownBy w2 none := by rw [hw2]; exact World.grownBy_alloc _ _ _
      have hJ2 : J j w2 := HJ.out j wr w2 hJs (below_grown hg2)
      obtain ⟨fn, tmps, assign, body, hy, hR⟩ := HY.out j hjf w2 hJ2
      rw [hx, HV.out] at hy
      have HRD := Lib.hid hR
      have HB2 : Hid (Below w.heap.size w w2 ∧ W.heap.size ≤ w2.heap.size) := Lib.hid ⟨hbw.trans ((below_grown hg2).mono hbw.size), Nat.le_trans hWr hg2.size⟩
      clear hcell hrw hx hJs hbw ha0 ha1 ha2 ha3 ha4 hJ2 hg2 hR HJS
      subst hw2
      gi_wp2
      refine HRD.out.mono ?_
      rintro e W3 (⟨rfl, hJ3, hk3⟩ | ⟨rfl, hJx3⟩)
      · have HJ3 : Hid (J (j + 1) W3) := Lib.hid hJ3
        have HB3 : Hid (Below w.heap.size w W3 ∧ W.heap.size ≤ W3.heap.size) := Lib.hid ⟨HB2.out.1.trans hk3, Nat.le_trans HB2.out.2 hk3.size⟩
        clear hJ3 hk3
        gi_wp2
        exact ⟨⟨j + 1, by omega, by simp, HJ3.out, HB3.out.1, HB3.out.2⟩, by simp [intOf]; omega⟩
      · have HX3 : Hid (Jx (j + 1) W3) := Lib.hid hJx3
        clear hJx3
        gi_wp2
        refine bodyPost_ret (results_none rfl _ _ _) rfl ?_
        exact ⟨⟨_, rfl⟩, .inr ⟨j + 1, HX3.out⟩⟩
    · obtain rfl : j = N := by omega
      have HE : Hid (J fs.length wr) := Lib.hid (by rw [HN.out]; exact hJs)
      clear hJs
      gi_wp2
      go_end0
      exact ⟨⟨_, rfl⟩, .inl HE.out⟩
def encF (x : F0) : Array Value := #[fileV x]
/-- **going over what All tells: the next one is the next file** -/
theorem values_told (n : Nat) (hn : 1 ≤ n) (vb : Nat) (w : World) (fs : List F0) (hsq : SeqAt w vb fs) (hfs : fs.length ≤ 1000000) :
    SeqTold Fence.wide n Try.prog 161 #[.pointer (some ⟨vb, 0, none⟩)] encF (fun _ _ pre x _ => fs[pre.length]? = some x) (fun xs => xs = fs) (fun pre => pre.length ≤ fs.length) fs.length w := fun l J Jx W hW hs hJ hJx hY => by
  refine (toldIn2 Fence.wide n trivial rfl hn l vb w fs hsq hfs (fun j V => J (fun _ => False) (fs.take j) V ∧ W.heap.size ≤ V.heap.size) (fun j V => Jx (fun _ => False) (fs.take j) V ∧ j ≤ fs.length) W hW (fun j A B h hb => ⟨hJ _ _ A B h.1 (Only.of_below hb (Nat.le_refl _) _), Nat.le_trans h.2 hb.size⟩) (fun j hj W1 h1 => ?_) ⟨by
    have := hs (fun _ => False) W (Below.refl _ _) (fun _ hf => hf.elim)
    simpa using this, Nat.le_refl _⟩).mono ?_
  · have hl : (fs.take j).length = j := by rw [List.length_take]; omega
    have hgv : fs[(fs.take j).length]? = some fs[j] := by rw [hl]; exact List.getElem?_eq_getElem hj
    refine (hY (fun _ => False) (fs.take j) fs[j] W1 W1 (fun _ hf => hf.elim) h1.1 (Only.refl _ _) h1.2 hgv (by rw [hl]; exact hj)).mono (fun e W' hr => ?_)
    rw [← List.take_succ_eq_append_getElem hj] at hr
    rcases hr with ⟨h2, h3, h4⟩ | ⟨h2, h3, h4⟩
    · exact .inl ⟨h2, ⟨h3, Nat.le_trans h1.2 h4.size⟩, h4.below (fun i hi h => by have := h.1; omega) (by have := hW.size; have := h1.2; omega)⟩
    · exact .inr ⟨h2, h3, by omega⟩
  · rintro e W' ⟨he, ⟨h, -⟩ | ⟨j, h, hj⟩⟩
    · exact ⟨he, .inl ⟨_, _, rfl, by rwa [List.take_length] at h⟩⟩
    · exact ⟨he, .inr ⟨_, _, (by show (fs.take j).length ≤ fs.length; rw [List.length_take]; omega), h⟩⟩
end Go.Proofs.Ytmkjejngnahpeaa
/- The document's Tell; equal files compare equal. -/
namespace Go.Proofs.Ytmkjejngnahpeaa
open Go Go.Maps Go.RowKit

set_option maxRecDepth 100000 in
theorem refTell_b (a0 a1 : ByteArray) (la : Int) (b c : Bool) (W : World) : Calls Try.prog 131 #[.agg #[.string a0, .string a1, .int .i64 la, .bool b, .bool c]] W fun e w' => e = .returned (.agg #[.string a0, .int .i64 (a1.size : Int), .int .i64 la, .bool b, .bool c]) ∧ Below W.heap.size W w' := by
  obtain ⟨w1, hw1⟩ : ∃ V : World, V = (W.alloc (.cells #[.string a0, .string a1, .int .i64 la, .bool b, .bool c] 200)).alloc (.cells #[.string ⟨#[]⟩, .int .i64 0, .int .i64 0, .bool false, .bool false] 78) := ⟨_, rfl⟩
  obtain ⟨b2, hb2⟩ : ∃ b, b = W.heap.size := ⟨_, rfl⟩
  obtain ⟨r, hr⟩ : ∃ b, b = W.heap.size + 1 := ⟨_, rfl⟩
  have h1 : w1.heap[b2]? = some (.cells #[.string a0, .string a1, .int .i64 la, .bool b, .bool c] 200 (0, 0)) := by
    rw [hw1, hb2]
    exact (Below.heap_alloc _ _ _ (by simp)).trans (alloc_cells _ _ _)
  have hr1 : w1.heap[r]? = some (.cells #[.string ⟨#[]⟩, .int .i64 0, .int .i64 0, .bool false, .bool false] 78 (0, 0)) := by
    rw [hw1, hr]
    have := alloc_cells (W.alloc (.cells #[.string a0, .string a1, .int .i64 la, .bool b, .bool c] 200)) #[.string ⟨#[]⟩, .int .i64 0, .int .i64 0, .bool false, .bool false] 78
    rwa [World.size_alloc] at this
  have hb1 : Below W.heap.size W w1 := by rw [hw1]; exact ((Below.refl _ _).alloc (Nat.le_refl _) _).alloc (by simp) _
  have r0 : w1.cell? ⟨r, 0, none⟩ = some (.string ⟨#[]⟩) := cell_of hr1 rfl
  have z0 : w1.frozen? ⟨r, 0, none⟩ = false := free_of hr1 _
  have r1 : w1.cell? ⟨r, 1, none⟩ = some (.int .i64 0) := cell_of hr1 rfl
  have z1 : w1.frozen? ⟨r, 1, none⟩ = false := free_of hr1 _
  have r2 : w1.cell? ⟨r, 2, none⟩ = some (.int .i64 0) := cell_of hr1 rfl
  have z2 : w1.frozen? ⟨r, 2, none⟩ = false := free_of hr1 _
  have r3 : w1.cell? ⟨r, 3, none⟩ = some (.bool false) := cell_of hr1 rfl
  have z3 : w1.frozen? ⟨r, 3, none⟩ = false := free_of hr1 _
  have r4 : w1.cell? ⟨r, 4, none⟩ = some (.bool false) := cell_of hr1 rfl
  have z4 : w1.frozen? ⟨r, 4, none⟩ = false := free_of hr1 _
  have HR1 := Lib.hid (And.intro hr1 hr)
  have y0 : w1.cell? ⟨b2, 0, none⟩ = some (.string a0) := cell_of h1 rfl
  have y1 : w1.cell? ⟨b2, 1, none⟩ = some (.string a1) := cell_of h1 rfl
  have y2 : w1.cell? ⟨b2, 2, none⟩ = some (.int .i64 la) := cell_of h1 rfl
  have y3 : w1.cell? ⟨b2, 3, none⟩ = some (.bool b) := cell_of h1 rfl
  have y4 : w1.cell? ⟨b2, 4, none⟩ = some (.bool c) := cell_of h1 rfl
  have HB := Lib.hid hb1
  clear h1 hb1 hr1
  go_enter Try.func131, Try.ntmps131
  go_upto_region 1 with fail
  rw [← hw1, ← hr, ← hb2]
  clear hw1 hb2 hr
  go_wp2_with fail
  obtain ⟨w2, hw2⟩ : ∃ w2 : World, w2 = (((((w1.setCell ⟨r, 0, none⟩ (.string a0)).setCell ⟨r, 1, none⟩ (.int .i64 (a1.size : Int))).setCell ⟨r, 2, none⟩ (.int .i64 la)).setCell ⟨r, 3, none⟩ (.bool b)).setCell ⟨r, 4, none⟩ (.bool c)) := ⟨_, rfl⟩
  have hr2 : w2.heap[r]? = some (.cells #[.string a0, .int .i64 (a1.size : Int), .int .i64 la, .bool b, .bool c] 78 (0, 0)) := by
    rw [hw2]; exact heap_setCell_here _ (heap_setCell_here _ (heap_setCell_here _ (heap_setCell_here _ (heap_setCell_here _ HR1.out.1))))
  have hlo : W.heap.size ≤ r := by have := HR1.out.2; omega
  have hb2 : Below W.heap.size W w2 := by
    rw [hw2]
    exact ((((HB.out.setCell (p := ⟨r, 0, none⟩) hlo _).setCell (p := ⟨r, 1, none⟩) hlo _).setCell (p := ⟨r, 2, none⟩) hlo _).setCell (p := ⟨r, 3, none⟩) hlo _).setCell (p := ⟨r, 4, none⟩) hlo _
  try rw [← hw2]
  have s0 : w2.cell? ⟨r, 0, none⟩ = some (.string a0) := cell_of hr2 rfl
  have s1 : w2.cell? ⟨r, 1, none⟩ = some (.int .i64 (a1.size : Int)) := cell_of hr2 rfl
  have s2 : w2.cell? ⟨r, 2, none⟩ = some (.int .i64 la) := cell_of hr2 rfl
  have s3 : w2.cell? ⟨r, 3, none⟩ = some (.bool b) := cell_of hr2 rfl
  have s4 : w2.cell? ⟨r, 4, none⟩ = some (.bool c) := cell_of hr2 rfl
  have HB2 := Lib.hid hb2
  clear hw2 hr2 hb2 hlo r0 r1 r2 r3 r4 z0 z1 z2 z3 z4 y0 y1 y2 y3 y4
  first | rw [Exit.noGoto_ret] | skip
  exact bodyPost_ret (v := .agg #[.string a0, .int .i64 (a1.size : Int), .int .i64 la, .bool b, .bool c]) (by simp [results, Try.results131, go_sem, s0, s1, s2, s3, s4]) rfl ⟨rfl, HB2.out⟩
theorem cl_file : Try.prog.cellsOf 78 = 5 := by kernel_rfl
theorem cl_str : Try.prog.cellsOf 9 = 1 := by kernel_rfl
theorem cl_int : Try.prog.cellsOf 3 = 1 := by kernel_rfl
theorem cl_bool : Try.prog.cellsOf 4 = 1 := by kernel_rfl
theorem k_str (a : ByteArray) (hs : a.size ≤ maxLen) : Try.prog.keyLits 9 9 [.string a] = some [.string a.data.toList] := by
  unfold Program.keyLits
  rw [Try.underlying9]
  exact if_pos hs
theorem k_int (a : Int) (hs : (Lit.int .i64 a).wf = true) : Try.prog.keyLits 9 3 [.int .i64 a] = some [.int .i64 a] := by
  unfold Program.keyLits
  rw [Try.underlying3]
  exact if_pos ⟨rfl, hs⟩
theorem k_bool (a : Bool) : Try.prog.keyLits 9 4 [.bool a] = some [.bool a] := by
  unfold Program.keyLits
  rw [Try.underlying4]
theorem file_key (a0 : ByteArray) (a1 a2 : Int) (a3 a4 : Bool) (hs : a0.size ≤ maxLen) (h1 : (Lit.int .i64 a1).wf = true) (h2 : (Lit.int .i64 a2).wf = true) : Try.prog.keyLits 10 78 [.string a0, .int .i64 a1, .int .i64 a2, .bool a3, .bool a4] = some [.string a0.data.toList, .int .i64 a1, .int .i64 a2, .bool a3, .bool a4] := by
  obtain ⟨K, hK⟩ : ∃ K, Try.prog.keyLits 9 = K := ⟨_, rfl⟩
  have e1 := k_str a0 hs
  have e2 := k_int a1 h1
  have e3 := k_int a2 h2
  have e4 := k_bool a3
  have e5 := k_bool a4
  rw [hK] at e1 e2 e3 e4 e5
  unfold Program.keyLits
  rw [Try.underlying78, hK]
  dsimp only
  rw [if_pos ⟨by rw [cl_file]; rfl, by kernel_rfl⟩]
  simp only [List.mapM_cons, List.mapM_nil, cl_str, cl_int, cl_bool, List.drop_zero, List.drop_succ_cons, List.take_succ_cons, List.take_zero, e1, e2, e3, e4, e5]
  rfl
theorem file_eq (a0 : ByteArray) (a1 a2 : Int) (a3 a4 : Bool) (hs : a0.size ≤ maxLen) (h1 : (Lit.int .i64 a1).wf = true) (h2 : (Lit.int .i64 a2).wf = true) (W : World) : (Op.equal 78 (.agg #[.string a0, .int .i64 a1, .int .i64 a2, .bool a3, .bool a4]) (.agg #[.string a0, .int .i64 a1, .int .i64 a2, .bool a3, .bool a4])).run Try.prog W = .ok true W := by
  obtain ⟨r, g1, g2⟩ := run_equalIn_deep (P := Try.prog) 9995 5 78 (by kernel_rfl) W 10 10 (.agg #[.string a0, .int .i64 a1, .int .i64 a2, .bool a3, .bool a4]) (.agg #[.string a0, .int .i64 a1, .int .i64 a2, .bool a3, .bool a4]) _ _ (by kernel_rfl) (by kernel_rfl) (file_key a0 a1 a2 a3 a4 hs h1 h2) (file_key a0 a1 a2 a3 a4 hs h1 h2)
  obtain rfl := g2.2 rfl
  exact g1
end Go.Proofs.Ytmkjejngnahpeaa
