/- The texts Jd in one. -/
import Derived.Test.YtmkjejngnahpeaaD5
/- stops: the unsure files of a disk. -/
namespace Go.Proofs.Ytmkjejngnahpeaa
open Go Go.Maps Go.RowKit Go.Shelf
attribute [local go_sem] Oper.semAt_some

def unsF (f : F0) : U0 := ⟨!f.there || !f.named, if f.there = true then f.bytes.length - f.lasts else 0⟩
def unsOf (f : F0) : List U0 := if ((unsF f).name || decide (0 < (unsF f).more)) = true then [unsF f] else []
/-- the unsure files, by rising names -/
def unsT (l : List F0) : List U0 := l.flatMap unsOf
theorem unsT_append (a b : List F0) : unsT (a ++ b) = unsT a ++ unsT b := by simp [unsT]
theorem unsT_len (l : List F0) : (unsT l).length ≤ l.length := by
  induction l with
  | nil => exact Nat.le_refl _
  | cons f r ih =>
    show (unsOf f ++ unsT r).length ≤ _
    rw [List.length_append, List.length_cons]
    have : (unsOf f).length ≤ 1 := by unfold unsOf; split <;> simp
    omega
theorem unsT_more {l : List F0} (h : ∀ f ∈ l, f.bytes.length ≤ 16777216) : ∀ u ∈ unsT l, u.more ≤ 16777216 := by
  intro u hu
  obtain ⟨f, hf, h1⟩ := List.mem_flatMap.1 hu
  unfold unsOf at h1
  split at h1
  · rw [List.mem_singleton] at h1
    subst h1
    have := h f hf
    unfold unsF
    dsimp only
    split <;> omega
  · cases h1
def ofs {fs : List F0} (pre : List (Of fs)) : List F0 := pre.map (·.1)
theorem ofs_snoc {fs : List F0} (pre : List (Of fs)) (x : Of fs) : ofs (pre ++ [x]) = ofs pre ++ [x.1] := by simp [ofs]
/-- what stands at a round's head: the unsure ones so far -/
abbrev UnsI (b : Nat) (w wa W : World) (l : List F0) : Prop := BoxRow 213 206 2 b wa.heap.size w W (unsT l).length (uCells (unsT l))
theorem info_uns : (Try.prog.info? 213).map (fun i => (i.zero, i.size, i.bytes)) = some (some (.agg #[.bool false, .int .i64 0]), 2, 16) := by kernel_rfl
theorem DiskAt.sizes {w : World} {S : Nat → Prop} {q : Nat} {d : Dk} (h : DiskAt w S q d) : d.files.length ≤ 4096 ∧ ∀ f ∈ d.files, f.lasts ≤ f.bytes.length ∧ f.bytes.length ≤ 16777216 := by
  obtain ⟨mb, fv, L, h⟩ := h
  refine ⟨h.few, fun f hf => ?_⟩
  rw [← h.files] at hf
  obtain ⟨x, hx, rfl⟩ := List.mem_map.1 hf
  exact ⟨(h.each x hx).lasts, (h.each x hx).size⟩
set_option maxRecDepth 100000 in
set_option maxHeartbeats 4000000 in
theorem sall_new {w : World} {S : Nat → Prop} {q : Nat} {d : Dk} (h : DiskAt w S q d) :
    Calls Try.prog 135 #[.pointer (some ⟨q, 0, none⟩)] w fun e w' => ∃ oa n c, e = .returned (.slice oa n c) ∧ (unsT d.files).length = n ∧ rowAt w' 213 2 (.slice oa n c) n (uCells (unsT d.files)) ∧ Below w.heap.size w w' ∧ ∀ k, (Value.slice oa n c).ownBlock = some k → w.heap.size ≤ k := by
  have HD := Lib.hid h
  have HZ := Lib.hid h.sizes
  clear h
  refine (callsIn_wide (n := 8)).1 ?_
  have f1 : Fence.wide.fn 41 := trivial
  refine callsIn_of_wp_marks Try.func135 rfl trivial ?_ rfl
  simp only [Try.ntmps135, List.size_toArray, List.length_cons, List.length_nil, Nat.reduceAdd, Nat.reduceSub, Array.replicate_succ, Array.replicate_zero, List.push_toArray, List.append_toArray, List.nil_append, List.cons_append]
  obtain ⟨w1, hw1⟩ : ∃ w1 : World, w1 = w.alloc (.cells #[.slice none 0 0] 206) := ⟨_, rfl⟩
  obtain ⟨b3, hb3⟩ : ∃ b, b = w.heap.size := ⟨_, rfl⟩
  have hbr : w1.heap[b3]? = some (.cells #[.slice none 0 0] 206 (0, 0)) := by rw [hw1, hb3]; exact alloc_cells _ _ _
  have HBR := Lib.hid hbr
  have hb1 : Below w.heap.size w w1 := by rw [hw1]; exact (Below.refl _ _).alloc (Nat.le_refl _) _
  have HD1 := Lib.hid (HD.out.below hb1)
  have HB1 := Lib.hid hb1
  clear hb1 hbr HD
  gi_wp2_with (gi_at_call 41; rw [← hw1, ← hb3]; have HW1 := Lib.hid (And.intro hw1 hb3); clear hw1 hb3; refine (callsIn_wide.2 (all_b HD1.out)).mono ?_; rintro e wa ⟨vb, rfl, hsa, -, hba⟩; have HSA := Lib.hid (And.intro hsa hba); clear hsa hba)
  have hb3w : b3 < w1.heap.size := (Array.getElem?_eq_some_iff.1 HBR.out).1
  have hbr2 : UnsI b3 w wa wa [] := BoxRow.start ((HSA.out.2.block b3 hb3w).trans HBR.out) (by rw [HW1.out.2]; exact HB1.out.trans (HSA.out.2.mono HB1.out.size)) (by have := HSA.out.2.size; omega) (Nat.le_refl _)
  have hfl : d.files.length ≤ 1000000 := by have := HZ.out.1; omega
  have hrb : ∀ v, wa.heap[vb]? = some (.cells #[v] 76 (0, 0)) → ∀ k, v.ownBlock = some k → k ≠ b3 := fun v hv k hk e => by
    obtain ⟨v', hv', hrow⟩ := HSA.out.1
    rw [hv] at hv'
    simp only [Option.some.injEq, Obj.cells.injEq, Array.mk.injEq, List.cons.injEq, and_true] at hv'
    rw [← hv'] at hrow
    obtain ⟨oab, cb, hbx, _⟩ := hbr2.box
    rw [← e] at hbx
    exact absurd (row_type hrow hk hbx) (by decide)
  have hst := told_but Fence.wide 7 trivial rfl (by omega) vb wa d.files HSA.out.1 b3 hrb hfl
  have hlt := hbr2.lt
  have HLT : Hid (b3 < wa.heap.size ∧ w.heap.size ≤ b3) := Lib.hid ⟨hlt, by rw [HW1.out.2]; exact Nat.le_refl _⟩
  clear hrb hfl
  refine wpIn_rangeFunc_fresh (n := 8) (α := Of d.files) rfl (by omega) (gf := 161) (lb := #[.pointer (some ⟨vb, 0, none⟩)]) rfl trivial (enters_of Try.func161 (by kernel_rfl) rfl) hst (fun h k => But.join h k) (But.put (Nat.le_refl _)) (fun W o hW => But.of ((Below.refl _ _).alloc (Nat.le_refl _) _)) (Below.refl _ _) (fun _ => rfl)
    (fun pre W => UnsI b3 w wa W (ofs pre)) (fun _ _ _ => False) (fun pre W W' row hp hg hr => BoxRow.grown hp hg hr) (fun _ => fun _ _ _ _ hs _ _ => hs) hbr2 (fun pre W hp => hp.low)
    78 (fun x => (fileCells x.1).toArray) ?A ?assign ?body ?done ?stop
  case assign =>
    intro l x W K B hB hK
    unfold encOf fileV
    gi_wp2_with fail
    rw [← hB]
    exact hK
  case body =>
    intro l pre x B W1 hl hlr hp hB hx hlen
    obtain ⟨xf, hxf⟩ : ∃ f, x.1 = f := ⟨_, rfl⟩
    have hxz := HZ.out.2 x.1 x.2
    have hlen' : (ofs pre).length < d.files.length := by unfold ofs; rw [List.length_map]; exact hlen
    rw [hxf] at hx hxz
    obtain ⟨z1, hz1⟩ : ∃ a : Nat, a = xf.bytes.length := ⟨_, rfl⟩
    obtain ⟨z2, hz2⟩ : ∃ a : Nat, a = xf.lasts := ⟨_, rfl⟩
    obtain ⟨th, hth⟩ : ∃ b, b = xf.there := ⟨_, rfl⟩
    obtain ⟨nd, hnd⟩ : ∃ b, b = xf.named := ⟨_, rfl⟩
    have x1 : W1.cell? ⟨B, 1, none⟩ = some (.int .i64 z1) := cell_of hx (by rw [hz1]; rfl)
    have x2 : W1.cell? ⟨B, 2, none⟩ = some (.int .i64 z2) := cell_of hx (by rw [hz2]; rfl)
    have x3 : W1.cell? ⟨B, 3, none⟩ = some (.bool th) := cell_of hx (by rw [hth]; rfl)
    have x4 : W1.cell? ⟨B, 4, none⟩ = some (.bool nd) := cell_of hx (by rw [hnd]; rfl)
    rw [← hz1, ← hz2] at hxz
    have HU : Hid (unsF xf = ⟨!th || !nd, if th = true then z1 - z2 else 0⟩) := Lib.hid (by unfold unsF; rw [hz1, hz2, hth, hnd])
    have HSN : Hid (unsT (ofs (pre ++ [x])) = unsT (ofs pre) ++ unsOf xf) := Lib.hid (by rw [ofs_snoc, unsT_append, hxf]; simp [unsT])
    have hul : (unsT (ofs pre)).length ≤ 4096 := by
      have h1 := unsT_len (ofs pre)
      have h2 := HZ.out.1
      omega
    obtain ⟨m, hm⟩ : ∃ m, (unsT (ofs pre)).length = m := ⟨_, rfl⟩
    have hrow : BoxRow 213 206 2 b3 wa.heap.size w W1 m (uCells (unsT (ofs pre))) := by rw [← hm]; exact hp
    rw [hm] at hul
    have HP := Lib.hid (And.intro hrow hm)
    have HX := Lib.hid hx
    have HXV : Hid ((xf.bytes.length = z1) ∧ (xf.lasts = z2) ∧ (xf.there = th) ∧ xf.named = nd) := Lib.hid ⟨hz1.symm, hz2.symm, hth.symm, hnd.symm⟩
    have HEND0 : Hid (∀ W', Below W1.heap.size W1 W' → unsOf xf = [] → KeepsFrom wa.heap.size W1 W' ∧ But b3 wa.heap.size W1 W' ∧ UnsI b3 w wa W' (ofs (pre ++ [x]))) := Lib.hid (fun W' hb hu => by
      refine ⟨keepsFrom_below2 hb, But.of hb, ?_⟩
      unfold UnsI
      rw [HSN.out, hu, List.append_nil]
      exact BoxRow.kept hp hb)
    clear hx hz1 hz2 hth hnd hp hrow hm hxf hlen hlen' hst
    cases th
    · gi_upto_region 5 with fail
      obtain ⟨w5, hw5⟩ : ∃ W : World, W = W1.alloc (.cells #[.bool true, .int .i64 0] 213) := ⟨_, rfl⟩
      obtain ⟨b5, hb5⟩ : ∃ b, b = W1.heap.size := ⟨_, rfl⟩
      have h5 : w5.heap[b5]? = some (.cells #[.bool true, .int .i64 0] 213 (0, 0)) := by rw [hw5, hb5]; exact alloc_cells _ _ _
      have hbw5 : Below W1.heap.size W1 w5 := by rw [hw5]; exact (Below.refl _ _).alloc (Nat.le_refl _) _
      rw [← hw5, ← hb5]
      have HB5 := Lib.hid (And.intro hb5 hbw5)
      have hx5 := (hbw5.block B (Array.getElem?_eq_some_iff.1 HX.out).1).trans HX.out
      have x3' : w5.cell? ⟨B, 3, none⟩ = some (.bool false) := (hbw5.cell (p := ⟨B, 3, none⟩) (Array.getElem?_eq_some_iff.1 HX.out).1).trans x3
      have y0 : w5.cell? ⟨b5, 0, none⟩ = some (.bool true) := cell_of h5 rfl
      have y1 : w5.cell? ⟨b5, 1, none⟩ = some (.int .i64 0) := cell_of h5 rfl
      have HB6 := Lib.hid hbw5
      obtain ⟨w6, hw6⟩ : ∃ W, W = w5 := ⟨_, rfl⟩
      rw [← hw6] at x3' y0 y1 HB6 ⊢
      clear hw5 hb5 h5 hbw5 hx5 x1 x2 x3 x4 hw6
      have hbx6 := HP.out.1.kept HB6.out
      obtain ⟨oa3, c3, hbx, hrw, hown⟩ := hbx6.box
      have kb : w6.cell? ⟨b3, 0, none⟩ = some (.slice oa3 m c3) := cell_of hbx rfl
      have kf : w6.frozen? ⟨b3, 0, none⟩ = false := free_of hbx _
      have HBX := Lib.hid (And.intro hbx6 (And.intro hbx (And.intro hrw hown)))
      have hone : ∀ v ∈ ([.bool true, .int .i64 (0)] : List Value), v.oneCell' = true := by
        intro v hv
        simp only [List.mem_cons, List.not_mem_nil, or_false] at hv
        rcases hv with rfl | rfl <;> rfl
      clear hbx6 hbx hrw hown
      gi_wp2_with (gi_at_builtin; refine wpListIn_append_one rfl (.tmp 33) (.tmp 35) 206 213 rfl Try.underlying206 info_uns rfl (by omega) HBX.out.2.2.1 (by omega) [.bool true, .int .i64 (0)] rfl hone rfl rfl ?_; intro oa5 c5 w9 HRX HGX HOX; have hbx9 := BoxRow.still HBX.out.1 HBX.out.2.1 HBX.out.2.2.2 HGX.out; have kb9 : w9.cell? ⟨b3, 0, none⟩ = some (.slice oa3 m c3) := cell_of hbx9 rfl; have kf9 : w9.frozen? ⟨b3, 0, none⟩ = false := free_of hbx9 _; clear hbx9)
      have hu : unsOf xf = [⟨true, 0⟩] := by unfold unsOf; rw [HU.out]; rfl
      refine ⟨(keepsFrom_below2 HB6.out).trans (boxRow_keeps HBX.out.2.2.1 HGX.out _), (But.of HB6.out).join (boxRow_but HBX.out.2.2.2 HGX.out _), ?_⟩
      show UnsI b3 w wa _ (ofs (pre ++ [x]))
      unfold UnsI
      rw [HSN.out, hu, List.length_append, uCells_append, HP.out.2]
      exact BoxRow.step HBX.out.1 HBX.out.2.1 HBX.out.2.2.2 HRX.out HGX.out HOX.out
    · cases nd
      · gi_upto_region 5 with fail
        obtain ⟨w5, hw5⟩ : ∃ W : World, W = W1.alloc (.cells #[.bool true, .int .i64 0] 213) := ⟨_, rfl⟩
        obtain ⟨b5, hb5⟩ : ∃ b, b = W1.heap.size := ⟨_, rfl⟩
        have h5 : w5.heap[b5]? = some (.cells #[.bool true, .int .i64 0] 213 (0, 0)) := by rw [hw5, hb5]; exact alloc_cells _ _ _
        have hbw5 : Below W1.heap.size W1 w5 := by rw [hw5]; exact (Below.refl _ _).alloc (Nat.le_refl _) _
        rw [← hw5, ← hb5]
        have HB5 := Lib.hid (And.intro hb5 hbw5)
        have hx5 := (hbw5.block B (Array.getElem?_eq_some_iff.1 HX.out).1).trans HX.out
        have x3' : w5.cell? ⟨B, 3, none⟩ = some (.bool true) := (hbw5.cell (p := ⟨B, 3, none⟩) (Array.getElem?_eq_some_iff.1 HX.out).1).trans x3
        have x1' : w5.cell? ⟨B, 1, none⟩ = some (.int .i64 z1) := (hbw5.cell (p := ⟨B, 1, none⟩) (Array.getElem?_eq_some_iff.1 HX.out).1).trans x1
        have x2' : w5.cell? ⟨B, 2, none⟩ = some (.int .i64 z2) := (hbw5.cell (p := ⟨B, 2, none⟩) (Array.getElem?_eq_some_iff.1 HX.out).1).trans x2
        have y1 : w5.cell? ⟨b5, 1, none⟩ = some (.int .i64 0) := cell_of h5 rfl
        have f1' : w5.frozen? ⟨b5, 1, none⟩ = false := free_of h5 _
        have H5 := Lib.hid h5
        clear hw5 hb5 h5 hbw5 hx5 x1 x2 x3 x4
        gi_upto_region 7 with fail
        obtain ⟨w6, hw6⟩ : ∃ W, W = w5.setCell ⟨b5, 1, none⟩ (.int .i64 ((z1 : Int) - (z2 : Int))) := ⟨_, rfl⟩
        have h6 : w6.heap[b5]? = some (.cells #[.bool true, .int .i64 ((z1 : Int) - (z2 : Int))] 213 (0, 0)) := by rw [hw6]; exact heap_setCell_here _ H5.out
        have HB6 : Hid (Below W1.heap.size W1 w6) := Lib.hid (by rw [hw6]; exact HB5.out.2.setCell (p := ⟨b5, 1, none⟩) (by rw [HB5.out.1]; exact Nat.le_refl _) _)
        rw [← hw6]
        have y0 : w6.cell? ⟨b5, 0, none⟩ = some (.bool true) := cell_of h6 rfl
        have y1' : w6.cell? ⟨b5, 1, none⟩ = some (.int .i64 ((z1 : Int) - (z2 : Int))) := cell_of h6 rfl
        have HSUB : Hid ((z1 : Int) - (z2 : Int) = ((z1 - z2 : Nat) : Int)) := Lib.hid (by omega)
        clear hw6 h6 x1' x2' x3' y1 f1'
        have hbx6 := HP.out.1.kept HB6.out
        obtain ⟨oa3, c3, hbx, hrw, hown⟩ := hbx6.box
        have kb : w6.cell? ⟨b3, 0, none⟩ = some (.slice oa3 m c3) := cell_of hbx rfl
        have kf : w6.frozen? ⟨b3, 0, none⟩ = false := free_of hbx _
        have HBX := Lib.hid (And.intro hbx6 (And.intro hbx (And.intro hrw hown)))
        have hone : ∀ v ∈ ([.bool true, .int .i64 ((z1 : Int) - (z2 : Int))] : List Value), v.oneCell' = true := by
          intro v hv
          simp only [List.mem_cons, List.not_mem_nil, or_false] at hv
          rcases hv with rfl | rfl <;> rfl
        clear hbx6 hbx hrw hown
        gi_wp2_with (gi_at_builtin; refine wpListIn_append_one rfl (.tmp 33) (.tmp 35) 206 213 rfl Try.underlying206 info_uns rfl (by omega) HBX.out.2.2.1 (by omega) [.bool true, .int .i64 ((z1 : Int) - (z2 : Int))] rfl hone rfl rfl ?_; intro oa5 c5 w9 HRX HGX HOX; have hbx9 := BoxRow.still HBX.out.1 HBX.out.2.1 HBX.out.2.2.2 HGX.out; have kb9 : w9.cell? ⟨b3, 0, none⟩ = some (.slice oa3 m c3) := cell_of hbx9 rfl; have kf9 : w9.frozen? ⟨b3, 0, none⟩ = false := free_of hbx9 _; clear hbx9)
        have hu : unsOf xf = [⟨true, z1 - z2⟩] := by unfold unsOf; rw [HU.out]; rfl
        refine ⟨(keepsFrom_below2 HB6.out).trans (boxRow_keeps HBX.out.2.2.1 HGX.out _), (But.of HB6.out).join (boxRow_but HBX.out.2.2.2 HGX.out _), ?_⟩
        show UnsI b3 w wa _ (ofs (pre ++ [x]))
        unfold UnsI
        rw [HSN.out, hu, List.length_append, uCells_append, HP.out.2]
        exact BoxRow.step HBX.out.1 HBX.out.2.1 HBX.out.2.2.2 (ys := uCells [⟨true, z1 - z2⟩]) (by have h9 := HRX.out; rw [HSUB.out] at h9; exact h9) HGX.out HOX.out
      · gi_upto_region 5 with fail
        obtain ⟨w5, hw5⟩ : ∃ W : World, W = W1.alloc (.cells #[.bool false, .int .i64 0] 213) := ⟨_, rfl⟩
        obtain ⟨b5, hb5⟩ : ∃ b, b = W1.heap.size := ⟨_, rfl⟩
        have h5 : w5.heap[b5]? = some (.cells #[.bool false, .int .i64 0] 213 (0, 0)) := by rw [hw5, hb5]; exact alloc_cells _ _ _
        have hbw5 : Below W1.heap.size W1 w5 := by rw [hw5]; exact (Below.refl _ _).alloc (Nat.le_refl _) _
        rw [← hw5, ← hb5]
        have HB5 := Lib.hid (And.intro hb5 hbw5)
        have hx5 := (hbw5.block B (Array.getElem?_eq_some_iff.1 HX.out).1).trans HX.out
        have x3' : w5.cell? ⟨B, 3, none⟩ = some (.bool true) := (hbw5.cell (p := ⟨B, 3, none⟩) (Array.getElem?_eq_some_iff.1 HX.out).1).trans x3
        have x1' : w5.cell? ⟨B, 1, none⟩ = some (.int .i64 z1) := (hbw5.cell (p := ⟨B, 1, none⟩) (Array.getElem?_eq_some_iff.1 HX.out).1).trans x1
        have x2' : w5.cell? ⟨B, 2, none⟩ = some (.int .i64 z2) := (hbw5.cell (p := ⟨B, 2, none⟩) (Array.getElem?_eq_some_iff.1 HX.out).1).trans x2
        have y1 : w5.cell? ⟨b5, 1, none⟩ = some (.int .i64 0) := cell_of h5 rfl
        have f1' : w5.frozen? ⟨b5, 1, none⟩ = false := free_of h5 _
        have H5 := Lib.hid h5
        clear hw5 hb5 h5 hbw5 hx5 x1 x2 x3 x4
        gi_upto_region 7 with fail
        obtain ⟨w6, hw6⟩ : ∃ W, W = w5.setCell ⟨b5, 1, none⟩ (.int .i64 ((z1 : Int) - (z2 : Int))) := ⟨_, rfl⟩
        have h6 : w6.heap[b5]? = some (.cells #[.bool false, .int .i64 ((z1 : Int) - (z2 : Int))] 213 (0, 0)) := by rw [hw6]; exact heap_setCell_here _ H5.out
        have HB6 : Hid (Below W1.heap.size W1 w6) := Lib.hid (by rw [hw6]; exact HB5.out.2.setCell (p := ⟨b5, 1, none⟩) (by rw [HB5.out.1]; exact Nat.le_refl _) _)
        rw [← hw6]
        have y0 : w6.cell? ⟨b5, 0, none⟩ = some (.bool false) := cell_of h6 rfl
        have y1' : w6.cell? ⟨b5, 1, none⟩ = some (.int .i64 ((z1 : Int) - (z2 : Int))) := cell_of h6 rfl
        have HSUB : Hid ((z1 : Int) - (z2 : Int) = ((z1 - z2 : Nat) : Int)) := Lib.hid (by omega)
        clear hw6 h6 x1' x2' x3' y1 f1'
        by_cases hpos : (0 : Int) < (z1 : Int) - (z2 : Int)
        · have hd : decide ((0 : Int) < (z1 : Int) - (z2 : Int)) = true := decide_eq_true hpos
          have hbx6 := HP.out.1.kept HB6.out
          obtain ⟨oa3, c3, hbx, hrw, hown⟩ := hbx6.box
          have kb : w6.cell? ⟨b3, 0, none⟩ = some (.slice oa3 m c3) := cell_of hbx rfl
          have kf : w6.frozen? ⟨b3, 0, none⟩ = false := free_of hbx _
          have HBX := Lib.hid (And.intro hbx6 (And.intro hbx (And.intro hrw hown)))
          have hone : ∀ v ∈ ([.bool false, .int .i64 ((z1 : Int) - (z2 : Int))] : List Value), v.oneCell' = true := by
            intro v hv
            simp only [List.mem_cons, List.not_mem_nil, or_false] at hv
            rcases hv with rfl | rfl <;> rfl
          clear hbx6 hbx hrw hown
          gi_wp2_with (gi_at_builtin; refine wpListIn_append_one rfl (.tmp 33) (.tmp 35) 206 213 rfl Try.underlying206 info_uns rfl (by omega) HBX.out.2.2.1 (by omega) [.bool false, .int .i64 ((z1 : Int) - (z2 : Int))] rfl hone rfl rfl ?_; intro oa5 c5 w9 HRX HGX HOX; have hbx9 := BoxRow.still HBX.out.1 HBX.out.2.1 HBX.out.2.2.2 HGX.out; have kb9 : w9.cell? ⟨b3, 0, none⟩ = some (.slice oa3 m c3) := cell_of hbx9 rfl; have kf9 : w9.frozen? ⟨b3, 0, none⟩ = false := free_of hbx9 _; clear hbx9)
          have hu : unsOf xf = [⟨false, z1 - z2⟩] := by unfold unsOf; rw [HU.out]; simp only [Bool.not_true, Bool.or_self, Bool.false_or, if_true]; rw [decide_eq_true (by omega)]; rfl
          refine ⟨(keepsFrom_below2 HB6.out).trans (boxRow_keeps HBX.out.2.2.1 HGX.out _), (But.of HB6.out).join (boxRow_but HBX.out.2.2.2 HGX.out _), ?_⟩
          show UnsI b3 w wa _ (ofs (pre ++ [x]))
          unfold UnsI
          rw [HSN.out, hu, List.length_append, uCells_append, HP.out.2]
          exact BoxRow.step HBX.out.1 HBX.out.2.1 HBX.out.2.2.2 (ys := uCells [⟨false, z1 - z2⟩]) (by have h9 := HRX.out; rw [HSUB.out] at h9; exact h9) HGX.out HOX.out
        · have hd : decide ((0 : Int) < (z1 : Int) - (z2 : Int)) = false := decide_eq_false hpos
          have HE := Lib.hid (HEND0.out _ HB6.out (by unfold unsOf; rw [HU.out]; simp only [Bool.not_true, Bool.or_self, Bool.false_or, if_true]; rw [decide_eq_false (by omega)]; rfl))
          gi_wp2_with fail
          exact HE.out
  case stop =>
    rintro D c0 pre W1 _ h0 hf _
    exact hf.elim
  case done =>
    rintro D xs W1 hD hxs hp hK
    have hxs' : ofs xs = d.files := hxs
    rw [hxs'] at hp
    obtain ⟨m, hm⟩ : ∃ m, (unsT d.files).length = m := ⟨_, rfl⟩
    have hp2 : BoxRow 213 206 2 b3 wa.heap.size w W1 m (uCells (unsT d.files)) := by rw [← hm]; exact hp
    obtain ⟨oa3, c3, hbx, hrw, hown⟩ := hp2.box
    have k3 : W1.cell? ⟨b3, 0, none⟩ = some (.slice oa3 m c3) := cell_of hbx rfl
    have HR := Lib.hid (And.intro hrw (And.intro hp2 (And.intro hm hK)))
    have HOW : Hid (∀ k, (Value.slice oa3 m c3).ownBlock = some k → w.heap.size ≤ k) := Lib.hid (fun k hk => by have := hown k hk; have := HLT.out; omega)
    clear hbx hrw hown hp hp2 hK hst hxs hxs'
    gi_wp2_with fail
    have hg := grownBy_putObj' W1 D (.deferred none)
    refine ⟨by simp, .inl ⟨_, _, rfl, run_takeDeferred HR.out.2.2.2, ?_⟩⟩
    refine ⟨.slice oa3 m c3, by simp [results, Try.results135, go_sem], oa3, m, c3, rfl, hm, ?_, ?_, HOW.out⟩
    · refine HR.out.1.kept (fun k hk => hg.block k (HR.out.1.lt k hk) (fun e => ?_))
      simp only [Option.some.injEq] at e
      subst e
      rcases HR.out.1.2 with ⟨hv, _⟩ | ⟨g, off, cap, cur, fr, hv, hgg, _⟩
      · rw [hv] at hk
        simp [Value.ownBlock] at hk
      · rw [hv] at hk
        simp only [Value.ownBlock, Option.some.injEq] at hk
        rw [hk, HR.out.2.2.2] at hgg
        cases hgg
    · have hb := HR.out.2.1.below
      rw [HW1.out.2] at hb
      exact hb.grown hg hb.size (fun k e => by
        simp only [Option.some.injEq] at e
        have := HLT.out
        omega)
theorem sall_b {w : World} {S : Nat → Prop} {q : Nat} {d : Dk} (h : DiskAt w S q d) :
    Calls Try.prog 135 #[.pointer (some ⟨q, 0, none⟩)] w fun e w' => ∃ oa n c, e = .returned (.slice oa n c) ∧ (unsT d.files).length = n ∧ rowAt w' 213 2 (.slice oa n c) n (uCells (unsT d.files)) ∧ Below w.heap.size w w' :=
  (sall_new h).mono (fun _ _ ⟨oa, n, c, h1, h2, h3, h4, _⟩ => ⟨oa, n, c, h1, h2, h3, h4⟩)
end Go.Proofs.Ytmkjejngnahpeaa
