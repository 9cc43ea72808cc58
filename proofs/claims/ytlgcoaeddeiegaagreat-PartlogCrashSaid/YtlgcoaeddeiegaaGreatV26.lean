/- The texts Mz in one. -/
import Derived.Test.YtlgcoaeddeiegaaGreatV8
import Derived.Test.YtlgcoaeddeiegaaGreatV25
import Derived.Deep.RegionHeldLaw
import Derived.BigRegion
import Derived.Deep.RegionWith
import Derived.IntWalk
import Derived.Shelf.Abstract
/- segment: Read. -/
namespace Go.Proofs.YtlgcoaeddeiegaaGreat
open Go Go.RowKit Go.Shelf
attribute [local go_sem] Oper.semAt_some

theorem holdC {w W W' : World} {s o1 o2 o3 b o4 : Nat} {x y z t : Value} (h : W.cell? ⟨s, o1, none⟩ = some x ∧ W.cell? ⟨s, o2, none⟩ = some y ∧ W.cell? ⟨s, o3, none⟩ = some z ∧ W.cell? ⟨b, o4, none⟩ = some t ∧ Below w.heap.size w W ∧ s < W.heap.size ∧ b < W.heap.size) (hb : Below W.heap.size W W') :
    W'.cell? ⟨s, o1, none⟩ = some x ∧ W'.cell? ⟨s, o2, none⟩ = some y ∧ W'.cell? ⟨s, o3, none⟩ = some z ∧ W'.cell? ⟨b, o4, none⟩ = some t ∧ Below w.heap.size w W' ∧ s < W'.heap.size ∧ b < W'.heap.size :=
  ⟨(hb.cell (p := ⟨s, o1, none⟩) h.2.2.2.2.2.1).trans h.1, (hb.cell (p := ⟨s, o2, none⟩) h.2.2.2.2.2.1).trans h.2.1, (hb.cell (p := ⟨s, o3, none⟩) h.2.2.2.2.2.1).trans h.2.2.1, (hb.cell (p := ⟨b, o4, none⟩) h.2.2.2.2.2.2).trans h.2.2.2.1,
    h.2.2.2.2.1.trans (hb.mono h.2.2.2.2.1.size), Nat.lt_of_lt_of_le h.2.2.2.2.2.1 hb.size, Nat.lt_of_lt_of_le h.2.2.2.2.2.2 hb.size⟩
theorem holdC_drew {w W : World} {s o1 o2 o3 b o4 : Nat} {x y z t : Value} (h : W.cell? ⟨s, o1, none⟩ = some x ∧ W.cell? ⟨s, o2, none⟩ = some y ∧ W.cell? ⟨s, o3, none⟩ = some z ∧ W.cell? ⟨b, o4, none⟩ = some t ∧ Below w.heap.size w W ∧ s < W.heap.size ∧ b < W.heap.size) :
    W.drew.cell? ⟨s, o1, none⟩ = some x ∧ W.drew.cell? ⟨s, o2, none⟩ = some y ∧ W.drew.cell? ⟨s, o3, none⟩ = some z ∧ W.drew.cell? ⟨b, o4, none⟩ = some t ∧ Below w.heap.size w W.drew ∧ s < W.drew.heap.size ∧ b < W.drew.heap.size := holdC h (bdrew W)
def ReadS (w : World) (R : List Rc) (e : Ending) (w' : World) : Prop :=
  ∃ v xs, e = .returned (.tuple #[v, .int .i64 0]) ∧ xs.map (·.r) = R ∧ RowP (fun k => w.heap.size ≤ k) w' v xs ∧ Below w.heap.size w w'
def SpotBox (w3 wx : World) (bs : List Bat) (bn : Nat) (F : Int) (v : Value) : Prop :=
  ∃ b off j, v = .pointer (some ⟨b, 0, none⟩) ∧ j ≤ bs.length ∧ ((bn + cntT (bs.take j) : Nat) : Int) ≤ F ∧ w3.heap.size ≤ b ∧ wx.heap[b]? = some (.cells #[.int .i64 off, .int .i64 (posT bs j : Int)] 262 (0, 0)) ∧ Below w3.heap.size w3 wx
theorem spot_new {w3 W w4 : World} {sp : List Sp} {bs : List Bat} {bn r : Nat} {F : Int} (hW : Below w3.heap.size w3 W) (ho : W.heap[w3.heap.size]? = some (.cells #[.int .i64 0, .int .i64 0] 262 (0, 0))) (hb : Below W.heap.size W w4) (hs : SpotsOk bn bs sp) (hct : CutAt sp F r) (hF : (bn : Int) ≤ F) :
    SpotBox w3 ((w4.setCell ⟨w3.heap.size, 0, none⟩ (.int .i64 ((spotAt sp r).1 : Int))).setCell ⟨w3.heap.size, 1, none⟩ (.int .i64 ((spotAt sp r).2 : Int))) bs bn F (.pointer (some ⟨w3.heap.size, 0, none⟩)) := by
  obtain ⟨j, h1, h2, h3⟩ := spot_found hs hct hF
  have h4 := (hb.block _ (Array.getElem?_eq_some_iff.1 ho).1).trans ho
  have h5 := heap_setCell_here (.int .i64 ((spotAt sp r).1 : Int)) h4 (i := 0)
  have h6 := heap_setCell_here (.int .i64 ((spotAt sp r).2 : Int)) h5 (i := 1)
  rw [h2] at h6 ⊢
  exact ⟨_, _, j, rfl, h1, h3, Nat.le_refl _, h6, ((hW.trans (hb.mono hW.size)).setCell (p := ⟨w3.heap.size, 0, none⟩) (Nat.le_refl _) _).setCell (p := ⟨w3.heap.size, 1, none⟩) (Nat.le_refl _) _⟩
theorem spot_late {w3 W w4 : World} {sp : List Sp} {bs : List Bat} {bn r : Nat} {F : Int} (hW : Below w3.heap.size w3 W) (hb : Below W.heap.size W w4) (hs : SpotsOk bn bs sp) (hct : CutAt sp F r) (hF : (bn : Int) ≤ F) :
    SpotBox w3 (w4.alloc (.cells #[.int .i64 ((spotAt sp r).1 : Int), .int .i64 ((spotAt sp r).2 : Int)] 262)) bs bn F (.pointer (some ⟨w4.heap.size, 0, none⟩)) := by
  obtain ⟨j, h1, h2, h3⟩ := spot_found hs hct hF
  have h4 := hW.trans (hb.mono hW.size)
  rw [h2]
  exact ⟨_, _, j, rfl, h1, h3, h4.size, alloc_cells _ _ _, h4.alloc h4.size _⟩
section
variable {w : World} {S : Nat → Prop} {s x q : Nat} {nm : ByteArray} {bn step : Nat} {sv : Value} {sp : List Sp} {bs : List Bat} {d : Dk}
set_option maxRecDepth 100000 in
set_option maxHeartbeats 8000000 in
theorem readS_b (h : SegQ w S s x q nm bn step sv sp bs d) {i u most : Nat} (hi : i ≤ u) (hu : u ≤ cntT bs) (hmost : most ≤ 1000000000) :
    Calls Tryz.prog 88 #[.pointer (some ⟨s, 0, none⟩), .int .i64 ((bn + i : Nat) : Int), .int .i64 ((bn + u : Nat) : Int), .int .i64 (most : Int)] w fun e w' => ReadS w (readT (recsT bs) i u most) e w' := by
  obtain ⟨F, hF⟩ : ∃ F : Int, F = ((bn + i : Nat) : Int) := ⟨_, rfl⟩
  obtain ⟨U, hU⟩ : ∃ U : Int, U = ((bn + u : Nat) : Int) := ⟨_, rfl⟩
  obtain ⟨E, hE⟩ : ∃ E : Int, E = ((bn + cntT bs : Nat) : Int) := ⟨_, rfl⟩
  obtain ⟨z, hz⟩ : ∃ z, z = (batsT bs).length := ⟨_, rfl⟩
  rw [← hF, ← hU]
  have hlong := h.long
  have hcl := cnt_long bs
  have hoff := h.off
  have hFU : 0 ≤ F ∧ F ≤ 9007199271518208 ∧ 0 ≤ U ∧ U ≤ 9007199271518208 := by omega
  have d1 : decide (F < (bn : Int)) = false := decide_eq_false (by omega)
  have d2 : decide (U < F) = false := decide_eq_false (by omega)
  have d3 : decide (E < U) = false := decide_eq_false (by omega)
  obtain ⟨w1, hw1⟩ : ∃ W : World, W = ((w.alloc (.cells #[.int .i64 F] 2)).alloc (.cells #[.int .i64 U] 2)).alloc (.cells #[.int .i64 (most : Int)] 3) := ⟨_, rfl⟩
  obtain ⟨b5, hb5⟩ : ∃ b, b = w.heap.size := ⟨_, rfl⟩
  obtain ⟨b6, hb6⟩ : ∃ b, b = w.heap.size + 1 := ⟨_, rfl⟩
  obtain ⟨b7, hb7⟩ : ∃ b, b = w.heap.size + 1 + 1 := ⟨_, rfl⟩
  have hbl : Below w.heap.size w w1 := by rw [hw1]; exact (((Below.refl _ _).alloc (Nat.le_refl _) _).alloc (by simp) _).alloc (by simp; omega) _
  have g5 : w1.heap[b5]? = some (.cells #[.int .i64 F] 2 (0, 0)) := by
    rw [hw1, hb5]
    exact (Below.heap_alloc _ _ _ (by simp; omega)).trans ((Below.heap_alloc _ _ _ (by simp)).trans (alloc_cells _ _ _))
  have g6 : w1.heap[b6]? = some (.cells #[.int .i64 U] 2 (0, 0)) := by
    rw [hw1, hb6]
    have := alloc_cells (w.alloc (.cells #[.int .i64 F] 2)) #[.int .i64 U] 2
    rw [World.size_alloc] at this
    exact (Below.heap_alloc _ _ _ (by simp)).trans this
  have g7 : w1.heap[b7]? = some (.cells #[.int .i64 (most : Int)] 3 (0, 0)) := by
    rw [hw1, hb7]
    have := alloc_cells ((w.alloc (.cells #[.int .i64 F] 2)).alloc (.cells #[.int .i64 U] 2)) #[.int .i64 (most : Int)] 3
    rwa [World.size_alloc, World.size_alloc] at this
  have h1 := h.later hbl
  have k1 : w1.cell? ⟨s, 1, none⟩ = some (.int .i64 E) := cell_of h1.head (by rw [hE]; rfl)
  have k3 : w1.cell? ⟨s, 6, none⟩ = some (.int .i64 (bn : Int)) := cell_of h1.head rfl
  have k4 : w1.cell? ⟨s, 4, none⟩ = some (.pointer (some ⟨q, 0, none⟩)) := cell_of h1.head rfl
  have c5 : w1.cell? ⟨b5, 0, none⟩ = some (.int .i64 F) := cell_of g5 rfl
  have c6 : w1.cell? ⟨b6, 0, none⟩ = some (.int .i64 U) := cell_of g6 rfl
  have c7 : w1.cell? ⟨b7, 0, none⟩ = some (.int .i64 (most : Int)) := cell_of g7 rfl
  have HN := Lib.hid (noneSeg_b k4)
  have H1 := Lib.hid (And.intro h1 (And.intro hbl (And.intro g5 (And.intro g6 g7))))
  have HF := Lib.hid (And.intro hF (And.intro hU (And.intro hE (And.intro hz (And.intro hi (And.intro hu (And.intro hlong (And.intro hcl (And.intro hoff hFU)))))))))
  have HB := Lib.hid (And.intro hb5 (And.intro hb6 hb7))
  clear h h1 hbl g5 g6 g7 hF hU hE hz hlong hcl hoff hFU hi hu
  refine (callsIn_wide (n := 8)).1 ?_
  have f1 : Fence.wide.fn 147 := trivial
  have f2 : Fence.wide.fn 22 := trivial
  have f3 : Fence.wide.fn 156 := trivial
  have f4 : Fence.wide.fn 21 := trivial
  refine callsIn_of_wp_marks Tryz.func88 rfl trivial ?_ rfl
  simp only [Tryz.ntmps88, List.size_toArray, List.length_cons, List.length_nil, Nat.reduceAdd, Nat.reduceSub, Array.replicate_succ, Array.replicate_zero, List.push_toArray, List.append_toArray, List.nil_append, List.cons_append]
  gi_upto_region 1 with fail
  rw [← hw1, ← hb7, ← hb6, ← hb5]
  clear hw1 hb5 hb6 hb7
  refine wpIn_scope ?_
  gi_wp2_with fail
  refine (callsIn_wide.2 HN.out).mono ?_
  rintro e w2 ⟨rfl, hw2⟩
  obtain rfl := hw2.symm
  clear hw2
  gi_upto_region 5 with fail
  gi_cut [26] from 27 (fun s26 wx => s26 = .bool false ∧ wx = w1.drew)
  case first =>
    refine wpIn_wide.2 (wp_onlyR ?_)
    go_region
    all_goals
      go_wp2_with fail
      go_meet
      exact ⟨rfl, rfl⟩
  case rest =>
    obtain ⟨rfl, rfl⟩ := hcut
    clear k1 k3 k4 c6 c7 d1 d2 d3 HN
    obtain ⟨w3, hw3⟩ : ∃ W : World, W = w1.drew := ⟨_, rfl⟩
    have hb3 : Below w1.heap.size w1 w3 := by rw [hw3]; exact bdrew w1
    have h3 := H1.out.1.later hb3
    rw [← hw3]
    have k7 : w3.cell? ⟨s, 7, none⟩ = some (.pointer (some ⟨x, 0, none⟩)) := cell_of h3.head rfl
    have c5' : w3.cell? ⟨b5, 0, none⟩ = some (.int .i64 F) := cell_of ((hb3.block b5 (Array.getElem?_eq_some_iff.1 H1.out.2.2.1).1).trans H1.out.2.2.1) rfl
    have HFD : Hid (∀ W, Below w3.heap.size w3 W → Calls Tryz.prog 156 #[.pointer (some ⟨x, 0, none⟩), .int .i64 F] W fun e w' => SpotIs W sp F e w') := Lib.hid (fun W hW =>
      spotFind_b (h3.idx.later hW) h3.stp.1 (Nat.le_trans h3.spots.len (by have := h3.few; omega)) (h3.spots.rising h3.chain))
    have hl5 : b5 < w3.heap.size := World.block_lt_of_cell? w3 _ c5'
    have hls : s < w3.heap.size := World.block_lt_of_cell? w3 _ k7
    have H3 := Lib.hid (And.intro h3 (And.intro hb3 hw3))
    have HFB : Hid ((bn : Int) ≤ F) := Lib.hid (by have := HF.out.1; omega)
    clear hw3 hb3 h3 c5
    gi_wp2_with fail
    gi_upto_region 7 with fail
    gi_cut [10, 11] from 47 (fun s10 s11 wx => SpotBox w3 wx bs bn F s10)
    case first =>
      refine wpIn_wide.2 (wp_onlyR ?_)
      go_region_law (go_simp; go_at_call 156; refine (HFD.out _ (by first | exact Below.refl _ _ | exact bdrew _ | exact bdrewa _ _)).mono ?_; rintro e w4 ⟨r, hct, rfl, hb4⟩; obtain ⟨hc4, hf4⟩ := bcell hb4; (first | (have hz4 : w3.heap.size < w4.heap.size := (by have := hb4.size; simp at this; omega)) | skip))
      all_goals
        go_wp2_with fail
        go_meet
        first
        | exact spot_new (bdrewa w3 _) (alloc_cells _ _ _) hb4 H3.out.1.spots hct HFB.out
        | exact spot_late (bdrew w3) hb4 H3.out.1.spots hct HFB.out
    case rest =>
      obtain ⟨b10, off, j, rfl, hj, hjF, hb10, hbx, hb4⟩ := hcut
      obtain ⟨w4, hw4⟩ : ∃ W : World, W = wc := ⟨_, rfl⟩
      rw [← hw4] at hbx hb4 ⊢
      clear hw4 k7 c5' HFD hl5 hls
      obtain ⟨p, hp⟩ : ∃ p, p = posT bs j := ⟨_, rfl⟩
      rw [← hp] at hbx
      have h4 := H3.out.1.later hb4
      have hb04 : Below w.heap.size w w4 := H1.out.2.1.trans ((H3.out.2.1.trans (hb4.mono H3.out.2.1.size)).mono H1.out.2.1.size)
      have hpz : p ≤ z := by rw [hp, HF.out.2.2.2.1]; exact posT_le
      have hzl : z ≤ 16777216 := by rw [HF.out.2.2.2.1]; exact HF.out.2.2.2.2.2.2.1
      have hrd := h4.reads (p := p) (by rw [← HF.out.2.2.2.1]; exact hpz)
      rw [← HF.out.2.2.2.1] at hrd
      have hdr := bats_drop bs j
      rw [← hp] at hdr
      rw [hdr] at hrd
      obtain ⟨D, hD⟩ : ∃ D, D = batsT (bs.drop j) := ⟨_, rfl⟩
      obtain ⟨n, hn⟩ : ∃ n, D.length = n := ⟨_, rfl⟩
      rw [← hD] at hrd
      have hDl : n ≤ z := by
        rw [← hn, hD, ← hdr, List.length_drop, ← HF.out.2.2.2.1]
        omega
      have HRD : Hid (∀ W, Below w4.heap.size w4 W → Calls Tryz.prog 21 #[.pointer (some ⟨q, 0, none⟩), .string nm, .int .i64 (p : Int), .int .i64 ((z : Int) - (p : Int))] W fun e w' => ReadIs W (D, 0) e w') := Lib.hid (fun W hW => by
        have := read_b (h4.disk.belowS hW) nm (Nat.le_trans h4.nms (by decide)) (p : Int) ((z : Int) - (p : Int)) (by omega) (by omega)
        rw [hrd] at this
        exact this)
      have hS : w4.cell? ⟨s, 4, none⟩ = some (.pointer (some ⟨q, 0, none⟩)) ∧ w4.cell? ⟨s, 5, none⟩ = some (.string nm) ∧ w4.cell? ⟨s, 2, none⟩ = some (.int .i64 (z : Int)) ∧ w4.cell? ⟨b10, 1, none⟩ = some (.int .i64 (p : Int)) ∧ Below w4.heap.size w4 w4 ∧ s < w4.heap.size ∧ b10 < w4.heap.size :=
        ⟨cell_of h4.head rfl, cell_of h4.head rfl, cell_of h4.head (by rw [HF.out.2.2.2.1]; rfl), cell_of hbx rfl, Below.refl _ _, (Array.getElem?_eq_some_iff.1 h4.head).1, (Array.getElem?_eq_some_iff.1 hbx).1⟩
      have hsub1 : IntKind.i64.wrap ((z : Int) - (p : Int)) = (z : Int) - (p : Int) := IntWalk.i64_in _ (by omega)
      have HJ := Lib.hid (And.intro hj (And.intro hjF (And.intro hp (And.intro hD (And.intro hn hDl)))))
      have H4 := Lib.hid (And.intro h4 (And.intro hb04 (And.intro hb4 hzl)))
      clear hj hjF hb10 hbx hb4 hp h4 hb04 hpz hzl hrd hdr hD hn hDl
      gi_upto_region 8 with fail
      gi_cut [12, 13] from 56 (fun s12 s13 wx => ∃ oa c, s12 = .slice oa n c ∧ s13 = .int .i64 0 ∧ Hid (rowAt wx 5 1 (.slice oa n c) n (byteCells D) ∧ Below w4.heap.size w4 wx))
      case first =>
        refine wpIn_wide.2 (wp_onlyR ?_)
        go_region_held3 (fun W => W.cell? ⟨s, 4, none⟩ = some (.pointer (some ⟨q, 0, none⟩)) ∧ W.cell? ⟨s, 5, none⟩ = some (.string nm) ∧ W.cell? ⟨s, 2, none⟩ = some (.int .i64 (z : Int)) ∧ W.cell? ⟨b10, 1, none⟩ = some (.int .i64 (p : Int)) ∧ Below w4.heap.size w4 W ∧ s < W.heap.size ∧ b10 < W.heap.size)
          (first | assumption | exact holdC_drew (by assumption) | exact holdC (by assumption) hba)
          (first | (go_at_call 21; refine (HRD.out _ (holdC_drew hS).2.2.2.2.1).mono ?_; rintro e wa ⟨v, rfl, hv, hvo, hba⟩))
        all_goals
          obtain ⟨oa, c, rfl, -⟩ := hv.shape
          have HB := Lib.hid (And.intro hv hba)
          clear hv hvo hba hS
          go_wp2_with fail
          go_meet
          have hv : rowAt wa 5 1 (.slice oa D.length c) D.length (byteCells D) := HB.out.1
          rw [HJ.out.2.2.2.2.1] at hv ⊢
          exact ⟨oa, c, rfl, rfl, Lib.hid ⟨hv, (bdrew w4).trans HB.out.2⟩⟩
      case rest =>
        obtain ⟨oa, c, rfl, rfl, HV⟩ := hcut
        obtain ⟨w5, hw5⟩ : ∃ W : World, W = wc := ⟨_, rfl⟩
        rw [← hw5] at HV ⊢
        clear hw5 hS hsub1 HRD
        obtain ⟨w6, hw6⟩ : ∃ W : World, W = w5.alloc (.cells #[.slice none 0 0] 34) := ⟨_, rfl⟩
        obtain ⟨b14, hb14⟩ : ∃ b, b = w5.heap.size := ⟨_, rfl⟩
        have hb56 : Below w5.heap.size w5 w6 := by rw [hw6]; exact (Below.refl _ _).alloc (Nat.le_refl _) _
        have h14 : w6.heap[b14]? = some (.cells #[.slice none 0 0] 34 (0, 0)) := by rw [hw6, hb14]; exact alloc_cells _ _ _
        have hb05 : Below w.heap.size w w5 := H4.out.2.1.trans (HV.out.2.mono H4.out.2.1.size)
        have HA := Lib.hid (recAll_b HJ.out.2.2.2.2.1 (HV.out.1.read.kept (fun k hk _ _ => hb56.block k hk)) (by have := HJ.out.2.2.2.2.2; have := H4.out.2.2.2; omega))
        have H6 := Lib.hid (And.intro h14 (And.intro (hb05.trans (hb56.mono hb05.size)) (And.intro (show w.heap.size ≤ b14 by rw [hb14]; exact hb05.size) hb14)))
        gi_upto_region 12 with fail
        rw [← hw6, ← hb14]
        have HV56 := Lib.hid hb56
        clear hw6 hb14 hb56 h14 hb05
        refine wpIn_label ?_
        gi_wp2_with fail
        refine (callsIn_wide.2 HA.out).mono ?_
        rintro e w7 ⟨b1, rfl, hall, hb7⟩
        have H7 := Lib.hid (And.intro hall hb7)
        clear hall hb7 HA
        gi_wp2_with fail
        obtain ⟨o1, c1, hall1, hall2⟩ := H7.out.1
        obtain ⟨L, hL⟩ : ∃ L, L = bs.drop j := ⟨_, rfl⟩
        obtain ⟨n7, hn7⟩ : ∃ n7, n7 = w7.heap.size := ⟨_, rfl⟩
        have hDL : batsT L ++ [] = D := by rw [List.append_nil, hL, HJ.out.2.2.2.1]
        have h147 := (H7.out.2.block b14 (Array.getElem?_eq_some_iff.1 H6.out.1).1).trans H6.out.1
        have hb14l : b14 < n7 := by rw [hn7]; exact (Array.getElem?_eq_some_iff.1 h147).1
        have hst := all_toldX 7 (by omega) b1 w7 L [] ⟨fun b hb => H4.out.1.chain.good b (List.mem_of_mem_drop (by rw [← hL]; exact hb)), .inl rfl⟩ (oa := o1) (c := c1) (by rw [hDL]; exact ⟨hall1, hall2⟩) (by rw [hDL]; have := HJ.out.2.2.2.2; have := H4.out.2.2.2; omega)
          (fun k => k = b14 ∨ n7 ≤ k) (fun e => by
            rcases e with e | e
            · rw [e, h147] at hall1
              simp only [Option.some.injEq, Obj.cells.injEq] at hall1
              exact absurd hall1.2.1 (by decide)
            · have := (Array.getElem?_eq_some_iff.1 hall1).1; omega) (fun k hk e => by
            rw [hDL] at hk
            rcases e with e | e
            · rw [e] at hk
              exact hall2.notB h147 (by decide) hk
            · have := hall2.lt k hk; omega)
        have hb57 : Below w5.heap.size w5 w7 := by
          have h1 : Below w5.heap.size w5 w6 := HV56.out
          exact h1.trans (H7.out.2.mono h1.size)
        -- what each batch has, and where it stands
        have hKL : ∀ m (hm : m < L.length), ∃ hm' : j + m < bs.length, L[m] = bs[j + m] := fun m hm => by
          subst hL
          rw [List.length_drop] at hm
          exact ⟨by omega, by rw [List.getElem_drop]⟩
        have hk0 : cntT (bs.take j) ≤ i := by have := HJ.out.2.1; have := HF.out.1; omega
        have hbox : w5.heap[b5]? = some (.cells #[.int .i64 F] 2 (0, 0)) ∧ w5.heap[b6]? = some (.cells #[.int .i64 U] 2 (0, 0)) ∧ w5.heap[b7]? = some (.cells #[.int .i64 (most : Int)] 3 (0, 0)) := by
          have e : ∀ k, k < w1.heap.size → w5.heap[k]? = w1.heap[k]? := fun k hk => by
            have h13 := H3.out.2.1
            have h34 := H4.out.2.2.1
            have h45 := HV.out.2
            have s3 := h13.size
            have s4 := h34.size
            rw [h45.block k (by omega), h34.block k (by omega), h13.block k hk]
          refine ⟨(e _ (Array.getElem?_eq_some_iff.1 H1.out.2.2.1).1).trans H1.out.2.2.1, (e _ (Array.getElem?_eq_some_iff.1 H1.out.2.2.2.1).1).trans H1.out.2.2.2.1, (e _ (Array.getElem?_eq_some_iff.1 H1.out.2.2.2.2).1).trans H1.out.2.2.2.2⟩
        have HBX := Lib.hid hbox
        have HKL := Lib.hid hKL
        have HS := Lib.hid (And.intro h147 (And.intro hb14l (And.intro hb57 (And.intro hk0 hn7))))
        have HL := Lib.hid hL
        clear hall1 hall2 hL hDL h147 hb14l hb57 hKL hk0 hbox hn7
        rename_i K2 hK2
        generalize hA : Act.mk _ _ = A
        have hAfter : ∀ (T : Nat → Prop) (k : Nat) (V : World), GotI w5 V b14 n7 T (gotT (recsT bs) i k) → k ≤ u → (gotT (recsT bs) i k).length ≤ most → (k = u ∨ most ≤ (gotT (recsT bs) i k).length) → V.heap[n7]? = some (.deferred (some [])) → K2 { A with defers := { target := .collected n7, args := #[] } :: A.defers } V := by
          intro T k V hg hku hlm hfin hdf
          subst hA
          dsimp only
          obtain ⟨-, ob, nb, cb, ys, hy1, hy2, hbx, hrow⟩ := hg.out
          have k14 : V.cell? ⟨b14, 0, none⟩ = some (.slice ob nb cb) := cell_of hbx rfl
          have hul : u ≤ (recsT bs).length := by rw [recsT_len]; exact HF.out.2.2.2.2.2.1
          have hfin' := gotT_fin hul hku hlm hfin
          have hb05 : Below w.heap.size w w5 := H4.out.2.1.trans (HV.out.2.mono H4.out.2.1.size)
          have hbV : Below w.heap.size w V := hb05.trans (hg.below.mono hb05.size)
          have HG := Lib.hid (And.intro hg (And.intro hy1 (And.intro hy2 (And.intro hrow (And.intro hfin' (And.intro hbV hdf))))))
          clear hg hku hlm hfin hdf hy1 hy2 hbx hrow hfin' hul hbV hb05
          gi_wp2_with fail
          have hm := HG.out.2.2.2.2.2.2
          have hg := grownBy_putObj' V n7 (.deferred none)
          refine ⟨by simp, .inl ⟨_, _, rfl, run_takeDeferred hm, ?_⟩⟩
          refine ⟨.tuple #[.slice ob nb cb, .int .i64 0], by simp [results, Tryz.results88, go_sem], ?_⟩
          refine ⟨.slice ob nb cb, ys, rfl, HG.out.2.1.trans HG.out.2.2.2.2.1, ?_, ?_⟩
          · have h57 : w.heap.size ≤ n7 := by have := H6.out.2.2.1; have := HS.out.2.1; omega
            exact (HG.out.2.2.2.1.kept (fun k hk hp => hg.block k hk (fun e => by simp only [Option.some.injEq] at e; have := hp.1; omega))).mono (fun k _ hp => by have := hp.1; omega)
          · refine HG.out.2.2.2.2.2.1.grown hg HG.out.2.2.2.2.2.1.size (fun k e => by
              simp only [Option.some.injEq] at e
              have := H6.out.2.2.1; have := HS.out.2.1; omega)
        refine wpIn_rangeFunc_toldX (n := 8) (α := BatV) rfl (by omega) (gf := 84) (lb := #[.pointer (some ⟨b1, 0, none⟩)]) (by subst hA; rfl) trivial (enters_of Tryz.func84 (by kernel_rfl) rfl) (fun k hk => .inr (by have := HS.out.2.2.2.2; omega)) hst (Below.refl _ _) (fun _ => rfl)
          (fun T pre V => GotI w5 V b14 n7 T (gotT (recsT bs) i (cntT (bs.take (j + pre.length)))) ∧ cntT (bs.take (j + pre.length)) ≤ u ∧ (gotT (recsT bs) i (cntT (bs.take (j + pre.length)))).length ≤ most)
          (fun c T pre V => c = .exit 1 ∧ ∃ k, GotI w5 V b14 n7 T (gotT (recsT bs) i k) ∧ k ≤ u ∧ (gotT (recsT bs) i k).length ≤ most ∧ (k = u ∨ most ≤ (gotT (recsT bs) i k).length)) ?I ?Ix ?h0 ?round ?done ?stop
        case I =>
          rintro T pre A0 B0 ⟨hi, hx⟩ ho
          rw [← HS.out.2.2.2.2] at ho
          exact ⟨hi.kept ho (fun _ h => h), hx⟩
        case Ix =>
          rintro c T pre A0 B0 ⟨hc, k, hi, hx⟩ ho
          rw [← HS.out.2.2.2.2] at ho
          exact ⟨hc, k, hi.kept ho (fun _ h => h), hx⟩
        case h0 =>
          intro T W1 hb hsz hT
          have hg0 := gotT_none (R := recsT bs) HS.out.2.2.2.1
          show GotI _ _ _ _ _ (gotT (recsT bs) i (cntT (bs.take (j + 0)))) ∧ cntT (bs.take (j + 0)) ≤ u ∧ (gotT (recsT bs) i (cntT (bs.take (j + 0)))).length ≤ most
          rw [Nat.add_zero, hg0]
          rw [← HS.out.2.2.2.2] at hT
          refine ⟨⟨⟨fun hh => by have := HS.out.2.1; have := hh.1; omega, none, 0, 0, [], rfl, rfl, (hb.block b14 (by have := HS.out.2; omega)).trans HS.out.1, RowP.nil _ _⟩, HS.out.2.2.1.trans (hb.mono HS.out.2.2.1.size), fun a ha => (hT a ha).1, by rw [H6.out.2.2.2]; exact Nat.le_refl _, HS.out.2.1⟩, by have := HS.out.2.2.2.1; have := HF.out.2.2.2.2.1; omega, Nat.zero_le _⟩
        case done =>
          rintro T xs V hS ⟨hi, hx, hy⟩ hD
          have hS' : xs.length = L.length := hS
          have e : cntT (bs.take (j + xs.length)) = cntT bs := by
            rw [hS', HL.out, List.length_drop, List.take_of_length_le (by have := HJ.out.1; omega)]
          rw [e] at hi hx hy
          rw [← HS.out.2.2.2.2] at hD ⊢
          exact hAfter T _ V hi hx hy (.inl (by have := HF.out.2.2.2.2.2.1; omega)) hD
        case stop =>
          rintro T c0 pre V hS ⟨rfl, k, hi, hx, hy, hz⟩ hD
          rw [← HS.out.2.2.2.2] at hD ⊢
          exact wpIn_exit (hAfter T _ V hi hx hy hz hD)
        case round =>
          rintro T pre ⟨at0, base, oe, ce, xs⟩ Wp V hT hrec hdef ⟨hip, hku, hlm⟩ hop hszp ⟨hgv, hnT⟩ hlt K0 hK0
          rw [← HS.out.2.2.2.2] at hT hrec hdef hK0 hszp
          obtain ⟨hml, -, hbase, hxs, hrn⟩ := hgv
          dsimp only at hbase hxs hrn
          obtain ⟨hjm, hLb⟩ := HKL.out _ hml
          rw [hLb] at hbase hxs
          have hcs := cntT_succ hjm
          have hch := H4.out.1.chain.base _ hjm
          have hgood := H4.out.1.chain.good _ (List.getElem_mem hjm)
          have hrg := fun t => recsT_get (i := t) hjm
          obtain ⟨bb, hbb⟩ : ∃ b, b = bs[j + pre.length] := ⟨_, rfl⟩
          rw [← hbb] at hbase hxs hcs hch hgood hrg
          obtain ⟨k0, hk0⟩ : ∃ k, k = cntT (bs.take (j + pre.length)) := ⟨_, rfl⟩
          rw [← hk0] at hip hku hlm hcs hch hrg
          rw [← hbase] at hch hgood
          obtain ⟨N, hN⟩ : ∃ N, N = xs.length := ⟨_, rfl⟩
          have hNl : bb.2.length = N := by rw [← hxs, List.length_map, hN]
          rw [hNl] at hcs
          have hbd : 0 ≤ base ∧ base ≤ 9007199271518208 ∧ N ≤ 256 := by
            have h1 := hgood.low
            have h2 := hgood.high
            have h3 := hgood.len
            omega
          rw [← hN] at hrn
          obtain ⟨V', hV'⟩ : ∃ V', V' = V.alloc (.cells #[.int .i64 base, .slice oe N ce] 168) := ⟨_, rfl⟩
          obtain ⟨B, hB⟩ : ∃ b, b = V.heap.size := ⟨_, rfl⟩
          have hbV : Below V.heap.size V V' := by rw [hV']; exact (Below.refl _ _).alloc (Nat.le_refl _) _
          have hBx : V'.heap[B]? = some (.cells #[.int .i64 base, .slice oe N ce] 168 (0, 0)) := by rw [hV', hB]; exact alloc_cells _ _ _
          have hVl : n7 + 1 < V.heap.size := by
            obtain ⟨r, hr⟩ := hrec
            exact (Array.getElem?_eq_some_iff.1 hr).1
          have HK := Lib.hid hK0
          have HI := Lib.hid (And.intro hip (And.intro hku hlm))
          have HOP := Lib.hid (And.intro hop (And.intro hszp (And.intro (fun k hk => (hT k hk).2) (And.intro hVl hnT))))
          have HX := Lib.hid (And.intro hxs (And.intro hrn.rowP (And.intro hcs (And.intro hch (And.intro hrg (And.intro hN (And.intro hNl (And.intro hk0 hbb))))))))
          have HVB := Lib.hid (And.intro hbV (And.intro hBx hB))
          clear hN hT hrec hdef hip hku hlm hop hszp hK0 hxs hrn hcs hch hrg hgood hNl hk0 hbb hlt hst hml hbase hLb hbV hBx hVl hnT
          unfold encB
          subst hA
          gi_wp2_with fail
          rw [← HX.out.2.2.2.2.2.1, ← hV', ← hB]
          clear hV' hB
          refine HK.out _ _ (KeptX.of HVB.out.1) ?_
          intro W2 ho hr2
          have hopV : Only T Wp V' := HOP.out.1.trans (Only.of_below HVB.out.1 (Nat.le_refl _) (fun _ => False)) (fun _ _ hf => hf.elim)
          have hop2 : Only (fun k => T k ∨ k = n7 + 1) Wp W2 := (hopV.mono (fun _ _ h => .inl h)).trans (ho.mono (fun k _ h => .inr h)) (fun _ _ h => h)
          obtain ⟨oz0, nz0, cz0, ys0, hin0⟩ := HI.out.1.inI hop2 (fun i h => h.elim .inl (fun h => .inr (.inr h))) HOP.out.2.1
          have hV2 : V'.heap.size ≤ W2.heap.size := ho.size
          have hVs : V.heap.size ≤ V'.heap.size := HVB.out.1.size
          have hBV := HVB.out.2.2
          have hVl := HOP.out.2.2.2.1
          have hsp := HOP.out.2.1
          have hWV : Wp.heap.size ≤ V.heap.size := HOP.out.1.size
          have hkb : W2.heap[B]? = some (.cells #[.int .i64 base, .slice oe N ce] 168 (0, 0)) := (ho.block B (Array.getElem?_eq_some_iff.1 HVB.out.2.1).1 (fun e => by omega)).trans HVB.out.2.1
          have hrw2 : RowP (fun a => Wp.heap.size ≤ a) W2 (.slice oe N ce) xs := (HX.out.2.1.later HVB.out.1).kept (fun k hk hp => ho.block k hk (fun e => by omega))
          have HW := Lib.hid (And.intro hkb (And.intro hrw2 (And.intro hin0 (And.intro (show B < W2.heap.size ∧ Wp.heap.size ≤ B ∧ n7 + 2 ≤ Wp.heap.size by have := (Array.getElem?_eq_some_iff.1 hkb).1; omega) (fun a (ha : T a) => show a < W2.heap.size by have := HOP.out.2.2.1 a ha; omega)))))
          have kb1 : W2.cell? ⟨B, 1, none⟩ = some (.slice oe N ce) := cell_of hkb rfl
          clear hopV hop2 hin0 hV2 hVs hBV hVl hsp hkb hrw2 ho hr2 hWV
          generalize hQ : toldPost _ _ _ _ _ = Q
          have HQ := Lib.hid hQ
          clear hQ
          gi_wp2_with fail
          gi_loopw [88] (fun i88 wr => ∃ (t nz : Nat) (oz : Option Addr) (cz : Nat) (ys : List RcV), i88 = .int .i64 (t : Int) ∧ t ≤ N ∧ nz ≤ most ∧ k0 + t ≤ u ∧ Hid (InI w5 W2 wr b14 n7 Wp.heap.size W2.heap.size T (gotT (recsT bs) i (k0 + t)) oz nz cz ys ∧ W2.heap.size ≤ wr.heap.size)) (fun i88 _ => N - (intOf i88).toNat)
          case atStart => exact ⟨0, nz0, oz0, cz0, ys0, rfl, Nat.zero_le _, by rw [HW.out.2.2.1.size]; exact HI.out.2.2, HI.out.2.1, Lib.hid ⟨by rw [Nat.add_zero]; exact HW.out.2.2.1, Nat.le_refl _⟩⟩
          case round =>
            obtain ⟨t, nz, oz, cz, ys, rfl, ht, hnz, hkt, HM⟩ := hrel
            have h5 := HM.out.1.below
            have kF : wr.cell? ⟨b5, 0, none⟩ = some (.int .i64 F) := cell_of ((h5.block b5 (Array.getElem?_eq_some_iff.1 HBX.out.1).1).trans HBX.out.1) rfl
            have kU : wr.cell? ⟨b6, 0, none⟩ = some (.int .i64 U) := cell_of ((h5.block b6 (Array.getElem?_eq_some_iff.1 HBX.out.2.1).1).trans HBX.out.2.1) rfl
            have kM : wr.cell? ⟨b7, 0, none⟩ = some (.int .i64 (most : Int)) := cell_of ((h5.block b7 (Array.getElem?_eq_some_iff.1 HBX.out.2.2).1).trans HBX.out.2.2) rfl
            have hBr := (HM.out.1.old B HW.out.2.2.2.1.1 HW.out.2.2.2.1.2.1).trans HW.out.1
            have kb0 : wr.cell? ⟨B, 0, none⟩ = some (.int .i64 base) := cell_of hBr rfl
            have k14 : wr.cell? ⟨b14, 0, none⟩ = some (.slice oz nz cz) := cell_of HM.out.1.box rfl
            clear h5 hBr
            by_cases hlt2 : t < N
            · have hxl : t < xs.length := by rw [← HX.out.2.2.2.2.2.1]; exact hlt2
              have hrwr : RowP (fun a => Wp.heap.size ≤ a) wr (.slice oe N ce) xs := HW.out.2.1.kept (fun k hk hp => HM.out.1.old k hk hp)
              have hyr := hrwr.each _ (List.getElem_mem hxl)
              obtain ⟨ga, fa, ka, kc, va, vc, rfl, hkv, hvv, c0, c1, c2⟩ := hrwr.is.cells HX.out.2.2.2.2.2.1.symm hxl
              obtain ⟨y, hy⟩ : ∃ y, y = xs[t] := ⟨_, rfl⟩
              rw [← hy] at hkv hvv c0 c1 c2 hyr
              have hR : (recsT bs)[k0 + t]? = some y.r := by
                have h1 := HX.out.2.2.2.2.1 t (by rw [HX.out.2.2.2.2.2.2.1]; exact hlt2)
                rw [h1, hy]
                congr 1
                simp only [← HX.out.1, List.getElem_map]
              obtain ⟨tm, htm⟩ : ∃ a, a = y.r.time := ⟨_, rfl⟩
              obtain ⟨nk, hnk⟩ : ∃ a, a = y.r.key.length := ⟨_, rfl⟩
              obtain ⟨nv, hnv⟩ : ∃ a, a = y.r.val.length := ⟨_, rfl⟩
              rw [← htm] at c0
              rw [← hnk] at hkv c1
              rw [← hnv] at hvv c2
              have HY := Lib.hid (And.intro hyr (And.intro hkv (And.intro hvv (And.intro hR (And.intro htm (And.intro hnk hnv))))))
              have hbe : base = (bn : Int) + (k0 : Int) := by have := HX.out.2.2.2.1; omega
              have hUe := HF.out.2.1
              have hFe := HF.out.1
              clear hrwr hyr hkv hvv hy hR htm hnk hnv hxl
              obtain ⟨W17, hW17⟩ : ∃ W : World, W = wr.alloc (.cells #[.int .i64 tm, .slice ka nk kc, .slice va nv vc] 150) := ⟨_, rfl⟩
              obtain ⟨b18, hb18⟩ : ∃ b, b = wr.heap.size := ⟨_, rfl⟩
              have hb17 : Below wr.heap.size wr W17 := by rw [hW17]; exact (Below.refl _ _).alloc (Nat.le_refl _) _
              have hx18 : W17.heap[b18]? = some (.cells #[.int .i64 tm, .slice ka nk kc, .slice va nv vc] 150 (0, 0)) := by rw [hW17, hb18]; exact alloc_cells _ _ _
              have hc17 : ∀ b, b < wr.heap.size → ∀ v, wr.cell? ⟨b, 0, none⟩ = some v → W17.cell? ⟨b, 0, none⟩ = some v := fun b hb v hv => (hb17.cell (p := ⟨b, 0, none⟩) hb).trans hv
              have kF' := hc17 _ (World.block_lt_of_cell? wr _ kF) _ kF
              have kU' := hc17 _ (World.block_lt_of_cell? wr _ kU) _ kU
              have kM' := hc17 _ (World.block_lt_of_cell? wr _ kM) _ kM
              have kb0' := hc17 _ (World.block_lt_of_cell? wr _ kb0) _ kb0
              have k14' := hc17 _ (World.block_lt_of_cell? wr _ k14) _ k14
              have r0 : W17.cell? ⟨b18, 0, none⟩ = some (.int .i64 tm) := cell_of hx18 rfl
              have r1 : W17.cell? ⟨b18, 1, none⟩ = some (.slice ka nk kc) := cell_of hx18 rfl
              have r2 : W17.cell? ⟨b18, 2, none⟩ = some (.slice va nv vc) := cell_of hx18 rfl
              gi_upto_region 17 with fail
              rw [← hW17, ← hb18]
              have H17 := Lib.hid (And.intro (HM.out.1.later hb17 HM.out.2) (And.intro hb17 (Nat.le_trans HM.out.2 hb17.size)))
              clear hW17 hb18 hb17 hx18 hc17 kF kU kM kb0 k14 c0 c1 c2
              by_cases hu1 : k0 + t = u
              · have d1 : decide (U ≤ base + (t : Int)) = true := decide_eq_true (by omega)
                have HE := Lib.hid hu1
                clear hbe hUe hFe hu1
                gi_wp2_with fail
                rw [← HQ.out]
                exact ⟨H17.out.1.kept, rfl, k0 + t, H17.out.1.got, hkt, by rw [← H17.out.1.size]; exact hnz, .inl HE.out⟩
              · have d1 : decide (U ≤ base + (t : Int)) = false := decide_eq_false (by omega)
                by_cases hm1 : most ≤ nz
                · have d2 : decide (most ≤ nz) = true := decide_eq_true hm1
                  have HE := Lib.hid hm1
                  clear hbe hUe hFe hu1 hm1
                  gi_wp2_with fail
                  rw [← HQ.out]
                  exact ⟨H17.out.1.kept, rfl, k0 + t, H17.out.1.got, hkt, by rw [← H17.out.1.size]; exact hnz, .inr (by rw [← H17.out.1.size]; exact HE.out)⟩
                · have d2 : decide (most ≤ nz) = false := decide_eq_false hm1
                  by_cases hi1 : i ≤ k0 + t
                  · have d3 : decide (F ≤ base + (t : Int)) = true := decide_eq_true (by omega)
                    have HE := Lib.hid (And.intro hu1 (And.intro hm1 hi1))
                    clear hbe hUe hFe hu1 hm1 hi1
                    gi_upto_region 20 with fail
                    obtain ⟨W18, hW18⟩ : ∃ W : World, W = W17.alloc (.cells #[.int .i64 tm, .slice ka nk kc, .slice va nv vc] 150) := ⟨_, rfl⟩
                    obtain ⟨b19, hb19⟩ : ∃ b, b = W17.heap.size := ⟨_, rfl⟩
                    have hb18 : Below W17.heap.size W17 W18 := by rw [hW18]; exact (Below.refl _ _).alloc (Nat.le_refl _) _
                    have hcy : recCells y = [.int .i64 tm, .slice ka nk kc, .slice va nv vc] := by unfold recCells; rw [HY.out.2.1, HY.out.2.2.1, ← HY.out.2.2.2.2.1]
                    have hkvw := HY.out.1.1.kept (fun k hk => H17.out.2.1.block k (HY.out.1.1.lt k hk))
                    have hvvw := HY.out.1.2.1.kept (fun k hk => H17.out.2.1.block k (HY.out.1.2.1.lt k hk))
                    have HONE : Hid (RecsIs W18 (.slice (some ⟨b19, 0, none⟩) 1 1) [y]) := Lib.hid ⟨by
                      have h1 := (one_rowR W17 150 3 (recCells y) rfl).read
                      rw [hcy] at h1
                      rw [one_rec, hcy, hW18, hb19]
                      exact h1, fun x hx => by
                        rw [List.mem_singleton] at hx
                        subst hx
                        exact ⟨(hkvw.kept (fun k hk => hb18.block k (hkvw.lt k hk))).read, (hvvw.kept (fun k hk => hb18.block k (hvvw.lt k hk))).read⟩⟩
                    have hin := H17.out.1
                    have HROW := Lib.hid (And.intro (hin.row.later hb18) hin.len)
                    have hzs : ∀ x ∈ [y], rowAt W17 5 1 x.kv x.r.key.length (byteCells x.r.key) ∧ rowAt W17 5 1 x.vv x.r.val.length (byteCells x.r.val) ∧ (∀ k, x.kv.ownBlock = some k → n7 + 2 ≤ k ∧ ¬ T k) ∧ (∀ k, x.vv.ownBlock = some k → n7 + 2 ≤ k ∧ ¬ T k) := fun x hx => by
                      rw [List.mem_singleton] at hx
                      subst hx
                      have hpp : ∀ k, Wp.heap.size ≤ k → n7 + 2 ≤ k ∧ ¬ T k := fun k hk => ⟨by have := HW.out.2.2.2.1.2.2; omega, HOP.out.2.2.2.2 k⟩
                      exact ⟨hkvw, hvvw, fun k hk => hpp k (HY.out.1.2.2.1 k hk), fun k hk => hpp k (HY.out.1.2.2.2 k hk)⟩
                    have HST := Lib.hid (fun (w3 : World) (oa3 : Option Addr) (c3 : Nat) => InI.step (w3 := w3) (oa3 := oa3) (c3 := c3) (zs := [y]) (m := 1) hin rfl hzs hb18 H17.out.2.2 (fun a ha => Nat.lt_of_lt_of_le (HW.out.2.2.2.2 a ha) H17.out.2.2) (by have := HW.out.2.2.2.1; have := H17.out.2.2; omega) (by have := HW.out.2.2.2.1; omega))
                    have h18 := H17.out.2.2
                    have hs18 := hb18.size
                    have hnz2 : nz ≤ 16777216 := by
                      have h1 := H17.out.1.size
                      rw [gotT_len (by rw [recsT_len]; have := HF.out.2.2.2.2.2; omega)] at h1
                      have := HF.out.2.2.2.2.2
                      omega
                    subst hW18
                    subst hb19
                    clear hin hzs hkvw hvvw hcy hb18 kF' kU' kM' kb0' h18 hs18
                    gi_wp2_with (gi_at_builtin; refine wpListIn_append_recs rfl (.tmp 109) (.tmp 111) rfl (xs := ys) (ys := [y]) (P := fun a => n7 + 2 ≤ a ∧ ¬ T a) HROW.out.1 HROW.out.2 (by omega) HONE.out rfl (by omega) (by rfl) (by rfl) ?_; intro oa3 c3 w3 HR3 HG3 HO3; have hst := HST.out w3 oa3 c3 HR3.out HG3.out HO3.out; have y14 : w3.cell? ⟨b14, 0, none⟩ = some (.slice oz nz cz) := cell_of hst.1 rfl; have z14 : w3.frozen? ⟨b14, 0, none⟩ = false := free_of hst.1 _; have HS3 := Lib.hid (And.intro hst.2 HG3.out.size); clear hst)
                    refine ⟨⟨t + 1, nz + 1, oa3, c3, ys ++ [y], by simp, by omega, by have := HE.out.2.1; omega, by have := HE.out.1; omega, Lib.hid ⟨?_, ?_⟩⟩, by simp [intOf]; omega⟩
                    · have e := gotT_step (R := recsT bs) HE.out.2.2 HY.out.2.2.2.1
                      rw [Nat.add_assoc] at e
                      rw [e]
                      exact HS3.out.1
                    · have h1 := HS3.out.2
                      have h2 := H17.out.2.2
                      simp at h1 ⊢
                      omega
                  · have d3 : decide (F ≤ base + (t : Int)) = false := decide_eq_false (by omega)
                    have HE := Lib.hid (And.intro hu1 (And.intro hm1 hi1))
                    clear hbe hUe hFe hu1 hm1 hi1
                    gi_wp2_with fail
                    exact ⟨⟨t + 1, nz, oz, cz, ys, by simp, by omega, hnz, by have := HE.out.1; omega, Lib.hid ⟨by
                      have e := gotT_skip (R := recsT bs) (i := i) (k := k0 + t) (by have := HE.out.2.2; omega)
                      rw [Nat.add_assoc] at e
                      rw [e]
                      exact H17.out.1, H17.out.2.2⟩⟩, by simp [intOf]; omega⟩
            · obtain rfl : t = N := by omega
              gi_wp2_with fail
              rw [← HQ.out]
              refine ⟨HM.out.1.kept, ?_⟩
              have e : cntT (bs.take (j + (pre ++ [(⟨at0, base, oe, ce, xs⟩ : BatV)]).length)) = k0 + t := by
                rw [List.length_append, List.length_cons, List.length_nil, Nat.zero_add, ← Nat.add_assoc]
                exact HX.out.2.2.1
              show GotI _ _ _ _ _ (gotT (recsT bs) i (cntT (bs.take (j + (pre ++ [(⟨at0, base, oe, ce, xs⟩ : BatV)]).length)))) ∧ cntT (bs.take (j + (pre ++ [(⟨at0, base, oe, ce, xs⟩ : BatV)]).length)) ≤ u ∧ _
              rw [e]
              exact ⟨HM.out.1.got, hkt, by rw [← HM.out.1.size]; exact hnz⟩
end
end Go.Proofs.YtlgcoaeddeiegaaGreat
