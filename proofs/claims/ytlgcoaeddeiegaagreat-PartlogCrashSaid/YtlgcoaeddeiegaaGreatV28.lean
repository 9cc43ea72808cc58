/- The texts Pzs in one. -/
import Derived.Test.YtlgcoaeddeiegaaGreatV25
import Derived.Test.YtlgcoaeddeiegaaGreatV26
import Derived.Test.YtlgcoaeddeiegaaGreatV27
import Derived.Sort.QuietTacIn
/- partlog: Read. -/
namespace Go.Proofs.YtlgcoaeddeiegaaGreat
open Go Go.RowKit Go.Shelf
attribute [local go_sem] Oper.semAt_some

def Lg.segsR (g : Lg) : List (Nat × List Rc) := g.segs.map fun s => (s.1, recsT s.2)
theorem LogM.segQ {w : World} {S T : Nat → Prop} {lp q : Nat} {log : ByteArray} {roll step : Nat} {g : Lg} {G : List Sg} {a x : Sg} {pv : Value} {d : Dk} (hm : LogM w T lp q log roll step g G a pv) (hd : DiskAt w S q d) (hfit : LgFitQ log g d) (hx : x ∈ G ++ [a]) : SegQ w S x.s x.x q (segName log x.bn) x.bn step x.sv x.sp x.bs d :=
  { hm.rest.each x hx with
    disk := hd
    begins := hfit (x.bn, x.bs) (by rw [hm.segs]; exact List.mem_map.2 ⟨x, hx, rfl⟩) }
set_option maxRecDepth 100000 in
set_option maxHeartbeats 8000000 in
theorem logRead_b {w : World} {S T : Nat → Prop} {lp q : Nat} {log : ByteArray} {roll step : Nat} {g : Lg} {d : Dk} (h : LogD w S T lp q log roll step g d) (hfit : LgFitQ log g d) {f u most : Nat} (hf : g.begin ≤ f) (hfu : f ≤ u) (hu : u ≤ g.fin) (hmost : most ≤ 100000000) :
    Calls Tryz.prog 23 #[.pointer (some ⟨lp, 0, none⟩), .int .i64 (f : Int), .int .i64 (u : Int), .int .i64 (most : Int)] w fun e w' => ReadS w (readGo f u most g.segsR []) e w' := by
  obtain ⟨G, a, pv, hm⟩ := h.log'
  obtain ⟨F, hF⟩ : ∃ F : Int, F = (f : Int) := ⟨_, rfl⟩
  obtain ⟨U, hU⟩ : ∃ U : Int, U = (u : Int) := ⟨_, rfl⟩
  obtain ⟨E, hE⟩ : ∃ E : Int, E = (g.fin : Int) := ⟨_, rfl⟩
  obtain ⟨BG, hBG⟩ : ∃ B : Int, B = (g.begin : Int) := ⟨_, rfl⟩
  rw [← hF, ← hU]
  have d1 : decide (F < BG) = false := decide_eq_false (by omega)
  have d2 : decide (U < F) = false := decide_eq_false (by omega)
  have d3 : decide (E < U) = false := decide_eq_false (by omega)
  obtain ⟨w1, hw1⟩ : ∃ W : World, W = ((((w.alloc (.cells #[.int .i64 F] 2)).alloc (.cells #[.int .i64 U] 2)).alloc (.cells #[.int .i64 (most : Int)] 3)).alloc (.cells #[.slice none 0 0] 34)).alloc (.cells #[.int .i64 0] 28) := ⟨_, rfl⟩
  obtain ⟨b5, hb5⟩ : ∃ b, b = w.heap.size := ⟨_, rfl⟩
  obtain ⟨b6, hb6⟩ : ∃ b, b = w.heap.size + 1 := ⟨_, rfl⟩
  obtain ⟨b7, hb7⟩ : ∃ b, b = w.heap.size + 1 + 1 := ⟨_, rfl⟩
  obtain ⟨b8, hb8⟩ : ∃ b, b = w.heap.size + 1 + 1 + 1 := ⟨_, rfl⟩
  obtain ⟨b9, hb9⟩ : ∃ b, b = w.heap.size + 1 + 1 + 1 + 1 := ⟨_, rfl⟩
  have hbl : Below w.heap.size w w1 := by rw [hw1]; exact (((((Below.refl _ _).alloc (Nat.le_refl _) _).alloc (by simp) _).alloc (by simp <;> omega) _).alloc (by simp <;> omega) _).alloc (by simp <;> omega) _
  have g5 : w1.heap[b5]? = some (.cells #[.int .i64 F] 2 (0, 0)) := by
    rw [hw1, hb5]
    exact (Below.heap_alloc _ _ _ (by simp <;> omega)).trans ((Below.heap_alloc _ _ _ (by simp <;> omega)).trans ((Below.heap_alloc _ _ _ (by simp <;> omega)).trans ((Below.heap_alloc _ _ _ (by simp)).trans (alloc_cells _ _ _))))
  have g6 : w1.heap[b6]? = some (.cells #[.int .i64 U] 2 (0, 0)) := by
    rw [hw1, hb6]
    have := alloc_cells (w.alloc (.cells #[.int .i64 F] 2)) #[.int .i64 U] 2
    rw [World.size_alloc] at this
    exact (Below.heap_alloc _ _ _ (by simp <;> omega)).trans ((Below.heap_alloc _ _ _ (by simp <;> omega)).trans ((Below.heap_alloc _ _ _ (by simp)).trans this))
  have g7 : w1.heap[b7]? = some (.cells #[.int .i64 (most : Int)] 3 (0, 0)) := by
    rw [hw1, hb7]
    have := alloc_cells ((w.alloc (.cells #[.int .i64 F] 2)).alloc (.cells #[.int .i64 U] 2)) #[.int .i64 (most : Int)] 3
    rw [World.size_alloc, World.size_alloc] at this
    exact (Below.heap_alloc _ _ _ (by simp <;> omega)).trans ((Below.heap_alloc _ _ _ (by simp)).trans this)
  have g8 : w1.heap[b8]? = some (.cells #[.slice none 0 0] 34 (0, 0)) := by
    rw [hw1, hb8]
    have := alloc_cells (((w.alloc (.cells #[.int .i64 F] 2)).alloc (.cells #[.int .i64 U] 2)).alloc (.cells #[.int .i64 (most : Int)] 3)) #[.slice none 0 0] 34
    rw [World.size_alloc, World.size_alloc, World.size_alloc] at this
    exact (Below.heap_alloc _ _ _ (by simp)).trans this
  have g9 : w1.heap[b9]? = some (.cells #[.int .i64 0] 28 (0, 0)) := by
    rw [hw1, hb9]
    have := alloc_cells ((((w.alloc (.cells #[.int .i64 F] 2)).alloc (.cells #[.int .i64 U] 2)).alloc (.cells #[.int .i64 (most : Int)] 3)).alloc (.cells #[.slice none 0 0] 34)) #[.int .i64 0] 28
    rwa [World.size_alloc, World.size_alloc, World.size_alloc, World.size_alloc] at this
  have hm1 := hm.later hbl
  have k0 : w1.cell? ⟨lp, 0, none⟩ = some (.int .i64 BG) := cell_of hm1.head (by rw [hBG]; rfl)
  have k1 : w1.cell? ⟨lp, 1, none⟩ = some (.int .i64 E) := cell_of hm1.head (by rw [hE]; rfl)
  have c5 : w1.cell? ⟨b5, 0, none⟩ = some (.int .i64 F) := cell_of g5 rfl
  have c6 : w1.cell? ⟨b6, 0, none⟩ = some (.int .i64 U) := cell_of g6 rfl
  have c7 : w1.cell? ⟨b7, 0, none⟩ = some (.int .i64 (most : Int)) := cell_of g7 rfl
  have HN := Lib.hid (noneLog_b hm1)
  have H1 := Lib.hid (And.intro hm1 (And.intro (h.disk.belowS hbl) (And.intro hbl (And.intro g5 (And.intro g6 (And.intro g7 (And.intro g8 g9)))))))
  have HF := Lib.hid (And.intro hF (And.intro hU (And.intro hE (And.intro hBG (And.intro hf (And.intro hfu (And.intro hu hfit)))))))
  have HB := Lib.hid (And.intro hb5 (And.intro hb6 (And.intro hb7 (And.intro hb8 hb9))))
  clear h hm hm1 hbl g5 g6 g7 g8 g9 hF hU hE hBG hf hfu hu hfit
  refine (callsIn_wide (n := 8)).1 ?_
  have f1 : Fence.wide.fn 71 := trivial
  have f2 : Fence.wide.fn 86 := trivial
  have f3 : Fence.wide.fn 79 := trivial
  have f4 : Fence.wide.fn 87 := trivial
  have f5 : Fence.wide.fn 88 := trivial
  refine callsIn_of_wp_marks Tryz.func23 rfl trivial ?_ rfl
  simp only [Tryz.ntmps23, List.size_toArray, List.length_cons, List.length_nil, Nat.reduceAdd, Nat.reduceSub, Array.replicate_succ, Array.replicate_zero, List.push_toArray, List.append_toArray, List.nil_append, List.cons_append]
  gi_upto_region 1 with fail
  rw [← hw1, ← hb9, ← hb8, ← hb7, ← hb6, ← hb5]
  clear hw1 hb5 hb6 hb7 hb8 hb9
  refine wpIn_scope ?_
  gi_wp2_with fail
  refine (callsIn_wide.2 HN.out).mono ?_
  rintro e w2 ⟨rfl, hw2⟩
  obtain rfl := hw2.symm
  clear hw2
  gi_upto_region 5 with fail
  gi_cut [22] from 23 (fun s22 wx => s22 = .bool false ∧ wx = w1.drew)
  case first =>
    refine wpIn_wide.2 (wp_onlyR ?_)
    go_region
    all_goals
      go_wp2_with fail
      go_meet
      exact ⟨rfl, rfl⟩
  case rest =>
    obtain ⟨rfl, rfl⟩ := hcut
    clear k0 k1 c5 c6 c7 d1 d2 d3 HN
    obtain ⟨w3, hw3⟩ : ∃ W : World, W = w1.drew := ⟨_, rfl⟩
    have hb3 : Below w1.heap.size w1 w3 := by rw [hw3]; exact bdrew w1
    have hm3 := H1.out.1.later hb3
    have hd3 := H1.out.2.1.belowS hb3
    rw [← hw3]
    have e3 : ∀ k, k < w1.heap.size → w3.heap[k]? = w1.heap[k]? := fun k hk => hb3.block k hk
    have H3 := Lib.hid (And.intro hm3 (And.intro hd3 (And.intro (H1.out.2.2.1.trans (hb3.mono H1.out.2.2.1.size)) (And.intro e3 (show w3.heap.size = w1.heap.size by rw [hw3]; rfl)))))
    clear hw3 hb3 hm3 hd3 e3
    obtain ⟨N, hN⟩ : ∃ N, (G ++ [a]).length = N := ⟨_, rfl⟩
    have hrow := H3.out.1.rest.row
    rw [hN] at hrow
    obtain ⟨oa, c, hpe, -⟩ := hrow.shape
    rw [hpe] at hrow
    obtain ⟨w6, hw6⟩ : ∃ W : World, W = w3.alloc (.cells #[.slice none 0 0] 34) := ⟨_, rfl⟩
    obtain ⟨b10, hb10⟩ : ∃ b, b = w3.heap.size := ⟨_, rfl⟩
    have hb36 : Below w3.heap.size w3 w6 := by rw [hw6]; exact (Below.refl _ _).alloc (Nat.le_refl _) _
    have h10 : w6.heap[b10]? = some (.cells #[.slice none 0 0] 34 (0, 0)) := by rw [hw6, hb10]; exact alloc_cells _ _ _
    have k9 : w6.cell? ⟨lp, 9, none⟩ = some (.slice oa N c) := cell_of (H3.out.1.later hb36).head (by rw [← hpe]; rfl)
    gi_upto_region 8 with fail
    rw [← hw6, ← hb10]
    have hrow6 := hrow.kept (fun k hk => hb36.block k (hrow.lt k hk))
    have H6 := Lib.hid (And.intro hb36 (And.intro h10 (And.intro hb10 (And.intro hrow6 (fun k hk => hrow.lt k hk)))))
    have HNN := Lib.hid (And.intro hN hpe)
    clear hw6 hb10 hb36 h10 hrow hrow6 hN hpe
    refine wpIn_label ?_
    gi_wp2_with fail
    refine (callsIn_wide.2 (valuesSegs_b w6 oa N c)).mono ?_
    rintro e w7 ⟨rfl, hw7⟩
    have hat : w7.heap[w6.heap.size]? = some (.cells #[.slice oa N c] 80 (0, 0)) := by rw [hw7]; exact alloc_cells _ _ _
    have hb7' : Below w6.heap.size w6 w7 := by rw [hw7]; exact (Below.refl _ _).alloc (Nat.le_refl _) _
    obtain ⟨vb, hvb⟩ : ∃ b, b = w6.heap.size := ⟨_, rfl⟩
    rw [← hvb] at hat ⊢
    clear hw7 k9
    have hrow7 := H6.out.2.2.2.1.kept (fun k hk => hb7'.block k (H6.out.2.2.2.1.lt k hk))
    have h107 := (hb7'.block b10 (Array.getElem?_eq_some_iff.1 H6.out.2.1).1).trans H6.out.2.1
    obtain ⟨n7, hn7⟩ : ∃ n, n = w7.heap.size := ⟨_, rfl⟩
    have hb10l : b10 < n7 := by rw [hn7]; exact (Array.getElem?_eq_some_iff.1 h107).1
    have hxl : ((G ++ [a]).map Sg.ptr).length = N := by rw [List.length_map]; exact HNN.out.1
    have hNf : N ≤ 1000000000 := by rw [← HNN.out.1]; exact H3.out.1.rest.few
    have hst := valsSegs_toldX 7 (by omega) vb w7 ((G ++ [a]).map Sg.ptr) (oa := oa) (c := c) (by rw [hxl]; exact hat) (by rw [hxl]; exact hrow7) (by rw [hxl]; exact hNf) (fun k => k = b10 ∨ n7 ≤ k) (fun k hk e => by
      rw [hxl] at hk
      have h1 := H6.out.2.2.2.2 k hk
      have h2 := H6.out.2.2.1
      rcases e with e | e
      · omega
      · have := hrow7.lt k hk; omega)
    have hb37 : Below w3.heap.size w3 w7 := H6.out.1.trans (hb7'.mono H6.out.1.size)
    have HS := Lib.hid (And.intro h107 (And.intro hb10l (And.intro hb37 (And.intro hxl hn7))))
    clear hat hb7' hvb hrow7 h107 hb10l hxl hNf hb37 hn7
    gi_wp2_with fail
    rename_i K2 hK2
    generalize hA : Act.mk _ _ = A
    obtain ⟨R, hR⟩ : ∃ R, R = readGo f u most g.segsR [] := ⟨_, rfl⟩
    have hbox : w3.heap[b5]? = some (.cells #[.int .i64 F] 2 (0, 0)) ∧ w3.heap[b6]? = some (.cells #[.int .i64 U] 2 (0, 0)) ∧ w3.heap[b7]? = some (.cells #[.int .i64 (most : Int)] 3 (0, 0)) ∧ w3.heap[b8]? = some (.cells #[.slice none 0 0] 34 (0, 0)) ∧ w3.heap[b9]? = some (.cells #[.int .i64 0] 28 (0, 0)) := by
      have e := H3.out.2.2.2.1
      obtain ⟨-, -, -, q5, q6, q7, q8, q9⟩ := H1.out
      exact ⟨(e _ (Array.getElem?_eq_some_iff.1 q5).1).trans q5, (e _ (Array.getElem?_eq_some_iff.1 q6).1).trans q6, (e _ (Array.getElem?_eq_some_iff.1 q7).1).trans q7, (e _ (Array.getElem?_eq_some_iff.1 q8).1).trans q8, (e _ (Array.getElem?_eq_some_iff.1 q9).1).trans q9⟩
    have HBX := Lib.hid hbox
    have hsl : g.segsR.length = N := by
      unfold Lg.segsR
      rw [List.length_map, H3.out.1.segs, List.length_map]
      exact HNN.out.1
    have HR := Lib.hid (And.intro hR hsl)
    have HLO : Hid (w.heap.size ≤ b8 ∧ w.heap.size ≤ b9 ∧ w.heap.size ≤ b10 ∧ b8 ≠ b9 ∧ b10 ≠ b8 ∧ b10 ≠ b9 ∧ w.heap.size ≤ n7) := Lib.hid (by
      obtain ⟨q5, q6, q7, q8, q9⟩ := HB.out
      have h1 := H3.out.2.2.1.size
      have h2 := H6.out.2.2.1
      have h8 := (Array.getElem?_eq_some_iff.1 HBX.out.2.2.2.1).1
      have h9 := (Array.getElem?_eq_some_iff.1 HBX.out.2.2.2.2).1
      have h3 := HS.out.2.1
      omega)
    clear hbox hsl
    have hAfter : ∀ (T : Nat → Prop) (V : World), GotI w3 V b10 n7 T R → V.heap[n7]? = some (.deferred (some [])) → K2 { A with defers := { target := .collected n7, args := #[] } :: A.defers } V := by
      intro T V hg hdf
      subst hA
      dsimp only
      obtain ⟨-, ob, nb, cb, ys, hy1, hy2, hbx, hrow⟩ := hg.out
      have k10 : V.cell? ⟨b10, 0, none⟩ = some (.slice ob nb cb) := cell_of hbx rfl
      have g8 := (hg.below.block b8 (Array.getElem?_eq_some_iff.1 HBX.out.2.2.2.1).1).trans HBX.out.2.2.2.1
      have g9 := (hg.below.block b9 (Array.getElem?_eq_some_iff.1 HBX.out.2.2.2.2).1).trans HBX.out.2.2.2.2
      have k8 : V.cell? ⟨b8, 0, none⟩ = some (.slice none 0 0) := cell_of g8 rfl
      have z8 : V.frozen? ⟨b8, 0, none⟩ = false := free_of g8 _
      have k9 : V.cell? ⟨b9, 0, none⟩ = some (.int .i64 0) := cell_of g9 rfl
      have z9 : V.frozen? ⟨b9, 0, none⟩ = false := free_of g9 _
      have n89 := HLO.out.2.2.2.1
      have n98 := n89.symm
      have hbV : Below w.heap.size w V := H3.out.2.2.1.trans (hg.below.mono H3.out.2.2.1.size)
      have HG := Lib.hid (And.intro hg (And.intro hy1 (And.intro hy2 (And.intro hrow (And.intro g8 (And.intro g9 (And.intro hbV hdf)))))))
      clear hg hdf hy1 hy2 hbx hrow g8 g9 hbV
      gi_wp2_with fail
      have n8 : n7 ≠ b8 := by have := HLO.out; have h8 := (Array.getElem?_eq_some_iff.1 HBX.out.2.2.2.1).1; have h2 := H6.out.2.2.1; have h3 := HS.out.2.1; omega
      have n9 : n7 ≠ b9 := by have := HLO.out; have h8 := (Array.getElem?_eq_some_iff.1 HBX.out.2.2.2.2).1; have h2 := H6.out.2.2.1; have h3 := HS.out.2.1; omega
      obtain ⟨V2, hV2⟩ : ∃ W, W = (V.setCell ⟨b8, 0, none⟩ (.slice ob nb cb)).setCell ⟨b9, 0, none⟩ (.int .i64 0) := ⟨_, rfl⟩
      rw [← hV2]
      have r8 : V2.heap[b8]? = some (.cells #[.slice ob nb cb] 34 (0, 0)) := by rw [hV2]; exact (Below.heap_setCell _ _ _ _ n89).trans (heap_setCell_here _ HG.out.2.2.2.2.1)
      have r9 : V2.heap[b9]? = some (.cells #[.int .i64 0] 28 (0, 0)) := by rw [hV2]; exact heap_setCell_here _ ((Below.heap_setCell _ _ _ _ n98).trans HG.out.2.2.2.2.2.1)
      have hoV : ∀ k, k ≠ b8 → k ≠ b9 → V2.heap[k]? = V.heap[k]? := fun k e8 e9 => by rw [hV2]; exact (Below.heap_setCell _ _ _ _ e9).trans (Below.heap_setCell _ _ _ _ e8)
      have hb2 : Below w.heap.size w V2 := by rw [hV2]; exact (HG.out.2.2.2.2.2.2.1.setCell (p := ⟨b8, 0, none⟩) HLO.out.1 _).setCell (p := ⟨b9, 0, none⟩) HLO.out.2.1 _
      have hm : V2.heap[n7]? = some (.deferred (some [])) := (hoV _ n8 n9).trans HG.out.2.2.2.2.2.2.2
      have hg := grownBy_putObj' V2 n7 (.deferred none)
      refine ⟨by simp, .inl ⟨_, _, rfl, run_takeDeferred hm, ?_⟩⟩
      have q8 := cell_kept (cell_of r8 rfl : V2.cell? ⟨b8, 0, none⟩ = some (.slice ob nb cb)) hg (fun r e => by cases e; exact ⟨_, hm, rfl⟩)
      have q9 := cell_kept (cell_of r9 rfl : V2.cell? ⟨b9, 0, none⟩ = some (.int .i64 0)) hg (fun r e => by cases e; exact ⟨_, hm, rfl⟩)
      refine ⟨.tuple #[.slice ob nb cb, .int .i64 0], by simp [results, Tryz.results23, go_sem, q8, q9], ?_⟩
      refine ⟨.slice ob nb cb, ys, rfl, HG.out.2.1.trans HR.out.1, ?_, ?_⟩
      · have hl8 : b8 < n7 := by have := HLO.out; have h8 := (Array.getElem?_eq_some_iff.1 HBX.out.2.2.2.1).1; have h2 := H6.out.2.2.1; have h3 := HS.out.2.1; omega
        have hl9 : b9 < n7 := by have := HLO.out; have h8 := (Array.getElem?_eq_some_iff.1 HBX.out.2.2.2.2).1; have h2 := H6.out.2.2.1; have h3 := HS.out.2.1; omega
        exact (HG.out.2.2.2.1.kept (W' := V2.putObj n7 (.deferred none)) (fun k hk hp => (hg.block k (by rw [hV2]; simpa using hk) (fun e => by simp only [Option.some.injEq] at e; have := hp.1; omega)).trans (hoV k (by have := hp.1; omega) (by have := hp.1; omega)))).mono (fun k _ hp => by have := hp.1; have := HLO.out.2.2.2.2.2.2; omega)
      · exact hb2.grown hg hb2.size (fun k e => by
          simp only [Option.some.injEq] at e
          have := HLO.out.2.2.2.2.2.2; omega)
    refine wpIn_rangeFunc_toldX (n := 8) (α := Value) rfl (by omega) (gf := 155) (lb := #[.pointer (some ⟨vb, 0, none⟩)]) (by subst hA; rfl) trivial (enters_of Tryz.func155 (by kernel_rfl) rfl) (fun k hk => .inr (by have := HS.out.2.2.2.2; omega)) hst (Below.refl _ _) (fun _ => rfl)
      (fun T pre V => ∃ out, GotI w3 V b10 n7 T out ∧ R = readGo f u most (g.segsR.drop pre.length) out ∧ out.length ≤ most)
      (fun c T pre V => c = .exit 1 ∧ GotI w3 V b10 n7 T R) ?I ?Ix ?h0 ?round ?done ?stop
    case I =>
      rintro T pre A0 B0 ⟨out, hi, hx⟩ ho
      rw [← HS.out.2.2.2.2] at ho
      exact ⟨out, hi.kept ho (fun _ h => h), hx⟩
    case Ix =>
      rintro c T pre A0 B0 ⟨hc, hi⟩ ho
      rw [← HS.out.2.2.2.2] at ho
      exact ⟨hc, hi.kept ho (fun _ h => h)⟩
    case h0 =>
      intro T W1 hb hsz hT
      rw [← HS.out.2.2.2.2] at hT
      refine ⟨[], ⟨⟨fun hh => by have := HS.out.2.1; have := hh.1; omega, none, 0, 0, [], rfl, rfl, (hb.block b10 (by have := HS.out.2.1; have := HS.out.2.2.2.2; omega)).trans HS.out.1, RowP.nil _ _⟩, HS.out.2.2.1.trans (hb.mono HS.out.2.2.1.size), fun a ha => (hT a ha).1, by rw [H6.out.2.2.1]; exact Nat.le_refl _, HS.out.2.1⟩, by rw [HR.out.1]; rfl, Nat.zero_le _⟩
    case done =>
      rintro T xs V hS ⟨out, hi, hx, hy⟩ hD
      have hS' : xs = (G ++ [a]).map Sg.ptr := hS
      have e : g.segsR.drop xs.length = [] := by
        rw [hS', HS.out.2.2.2.1, ← HR.out.2, List.drop_length]
      rw [e] at hx
      have hx' : R = out := hx
      rw [← HS.out.2.2.2.2] at hD ⊢
      rw [← hx'] at hi
      exact hAfter T V hi hD
    case stop =>
      rintro T c0 pre V hS ⟨rfl, hi⟩ hD
      rw [← HS.out.2.2.2.2] at hD ⊢
      exact wpIn_exit (hAfter T V hi hD)
    case round =>
      rintro T pre v Wp V hT hrec hdef ⟨out, hip, hRo, hol⟩ hop hszp ⟨⟨hgv, -⟩, hnT⟩ hlt K0 hK0
      rw [← HS.out.2.2.2.2] at hT hrec hdef hK0 hszp
      have htl : pre.length < (G ++ [a]).length := by rw [List.length_map] at hlt; exact hlt
      obtain ⟨x, hx⟩ : ∃ x, x = (G ++ [a])[pre.length] := ⟨_, rfl⟩
      have hxm : x ∈ G ++ [a] := by rw [hx]; exact List.getElem_mem htl
      have hve : v = Sg.ptr x := by
        rw [List.getElem?_map, List.getElem?_eq_getElem htl, ← hx] at hgv
        simpa using hgv.symm
      subst hve
      have hdr : g.segsR.drop pre.length = (x.bn, recsT x.bs) :: g.segsR.drop (pre.length + 1) := by
        have h1 : pre.length < g.segsR.length := by rw [HR.out.2, ← HNN.out.1]; exact htl
        rw [List.drop_eq_getElem_cons h1]
        congr 1
        have h2 : g.segsR[pre.length]? = ((((G ++ [a]).map Sg.seg).map fun s => (s.1, recsT s.2)))[pre.length]? := by unfold Lg.segsR; rw [H3.out.1.segs]
        rw [List.getElem?_eq_getElem h1, List.getElem?_map, List.getElem?_map, List.getElem?_eq_getElem htl, ← hx] at h2
        simpa [Sg.seg] using h2
      rw [hdr] at hRo
      have HK := Lib.hid hK0
      have HI := Lib.hid (And.intro hip (And.intro hRo hol))
      have HOP := Lib.hid (And.intro hop (And.intro hszp (And.intro (fun k hk => (hT k hk).2) (And.intro hnT hrec))))
      have HX := Lib.hid hxm
      clear hT hrec hdef hip hRo hol hop hszp hgv hnT hlt hK0 hdr hx htl hxm hst hAfter
      rw [show encOne (Sg.ptr x) = #[.pointer (some ⟨x.s, 0, none⟩)] from rfl]
      subst hA
      gi_wp2_with fail
      refine HK.out _ _ (KeptX.of (Below.refl _ _)) ?_
      intro W2 ho hr2
      generalize hQ : toldPost _ _ _ _ _ = Q
      have HQ := Lib.hid hQ
      clear hQ
      have hVl : n7 + 1 < V.heap.size := by
        obtain ⟨r, hr⟩ := HOP.out.2.2.2.2
        exact (Array.getElem?_eq_some_iff.1 hr).1
      have hop2 : Only (fun k => T k ∨ k = n7 + 1) Wp W2 := (HOP.out.1.mono (fun _ _ h => .inl h)).trans (ho.mono (fun k _ h => .inr h)) (fun _ _ h => h)
      have hg2 := HI.out.1.kept hop2 (fun i h => h.elim .inl (fun h => .inr (.inr h)))
      have hm2 := H3.out.1.later hg2.below
      have hd2 := H3.out.2.1.belowS hg2.below
      have hsx := hm2.rest.each x HX.out
      obtain ⟨-, ob, nb, cb, ys, hy1, hy2, hbx, hrow⟩ := hg2.out
      have c10 : W2.cell? ⟨b10, 0, none⟩ = some (.slice ob nb cb) := cell_of hbx rfl
      have c5 : W2.cell? ⟨b5, 0, none⟩ = some (.int .i64 F) := cell_of ((hg2.below.block b5 (Array.getElem?_eq_some_iff.1 HBX.out.1).1).trans HBX.out.1) rfl
      have c6 : W2.cell? ⟨b6, 0, none⟩ = some (.int .i64 U) := cell_of ((hg2.below.block b6 (Array.getElem?_eq_some_iff.1 HBX.out.2.1).1).trans HBX.out.2.1) rfl
      have c7 : W2.cell? ⟨b7, 0, none⟩ = some (.int .i64 (most : Int)) := cell_of ((hg2.below.block b7 (Array.getElem?_eq_some_iff.1 HBX.out.2.2.1).1).trans HBX.out.2.2.1) rfl
      obtain ⟨BN, hBN⟩ : ∃ B : Int, B = (x.bn : Int) := ⟨_, rfl⟩
      obtain ⟨EN, hEN⟩ : ∃ B : Int, B = ((x.bn + cntT x.bs : Nat) : Int) := ⟨_, rfl⟩
      have cB : ∀ nq l m, CallsIn (Fence.wide.inRound l) m Tryz.prog 79 #[.pointer (some ⟨x.s, 0, none⟩)] (W2.drewN nq) fun e w'' => e = .returned (.int .i64 BN) ∧ ∃ m, w'' = W2.drewN m := fun nq l m => CallsIn.quiet_of_same (CallsIn.inRound _ (callsIn_wide.2 (by
        rw [hBN]
        exact baseM_b (hsx.later (⟨rfl, rfl, rfl, Nat.le_refl _, fun _ _ => rfl⟩ : Below W2.heap.size W2 (W2.drewN nq))))))
      have cE : ∀ nq l m, CallsIn (Fence.wide.inRound l) m Tryz.prog 87 #[.pointer (some ⟨x.s, 0, none⟩)] (W2.drewN nq) fun e w'' => e = .returned (.int .i64 EN) ∧ ∃ m, w'' = W2.drewN m := fun nq l m => CallsIn.quiet_of_same (CallsIn.inRound _ (callsIn_wide.2 (by
        rw [hEN]
        exact endM_b (hsx.later (⟨rfl, rfl, rfl, Nat.le_refl _, fun _ _ => rfl⟩ : Below W2.heap.size W2 (W2.drewN nq))))))
      have HW2 : Hid (V.heap.size ≤ W2.heap.size) := Lib.hid ho.size
      have HP7 : Hid (¬ (n7 + 2 ≤ b7 ∧ ¬ T b7)) := Lib.hid (fun hh => by have h7 := (Array.getElem?_eq_some_iff.1 HBX.out.2.2.1).1; have h2 := H6.out.2.2.1; have h3 := HS.out.2.1; have := hh.1; omega)
      have HW := Lib.hid (And.intro hg2 (And.intro hm2 (And.intro hd2 (And.intro hy1 (And.intro hy2 (And.intro hbx (And.intro hrow (And.intro hBN hEN))))))))
      clear hop2 hg2 hm2 hd2 hsx hy1 hy2 hbx hrow hBN hEN ho hr2 hVl
      gi_wp2_with fail
      refine wpIn_region_quiet_nd (by kernel_rfl) (by kernel_rfl) (by kernel_rfl) ?_
      repeat (quiet_step_in (first | exact cB _ _ _ | exact cE _ _ _))
      refine wpQuietIn_nil ?_
      intro _ hw'
      obtain ⟨nq, hw''⟩ := hw'
      obtain ⟨W3, hW3⟩ : ∃ V, V = W2.drewN nq := ⟨_, rfl⟩
      have hb23 : Below W2.heap.size W2 W3 := by rw [hW3]; exact ⟨rfl, rfl, rfl, Nat.le_refl _, fun _ _ => rfl⟩
      subst hw''
      rw [← hW3]
      clear hW3 cB cE c5 c6
      obtain ⟨A, hA⟩ : ∃ A, A = max F BN := ⟨_, rfl⟩
      obtain ⟨B, hB⟩ : ∃ B, B = min U EN := ⟨_, rfl⟩
      rw [← hA, ← hB]
      have c7' : W3.cell? ⟨b7, 0, none⟩ = some (.int .i64 (most : Int)) := (hb23.cell (p := ⟨b7, 0, none⟩) (World.block_lt_of_cell? W2 _ c7)).trans c7
      have c10' : W3.cell? ⟨b10, 0, none⟩ = some (.slice ob nb cb) := (hb23.cell (p := ⟨b10, 0, none⟩) (World.block_lt_of_cell? W2 _ c10)).trans c10
      have HB3 := Lib.hid hb23
      clear c7 c10 hb23
      have hnext : ∀ V' out', GotI w3 V' b10 n7 T out' → out'.length ≤ most → R = readGo f u most (g.segsR.drop (pre.length + 1)) out' → ∃ out, GotI w3 V' b10 n7 T out ∧ R = readGo f u most (g.segsR.drop (pre ++ [(.pointer (some ⟨x.s, 0, none⟩) : Value)]).length) out ∧ out.length ≤ most := fun V' out' h1 h2 h3 => ⟨out', h1, by rw [List.length_append, List.length_singleton]; exact h3, h2⟩
      have HNX := Lib.hid hnext
      clear hnext
      by_cases hle : B ≤ A
      · have d4 : decide (B ≤ A) = true := decide_eq_true hle
        have hgo : R = readGo f u most (g.segsR.drop (pre.length + 1)) out := by
          have h1 := HI.out.2.1
          unfold readGo at h1
          rw [if_pos] at h1
          · exact h1
          · rw [recsT_len]
            have := HF.out.1; have := HF.out.2.1; have := HW.out.2.2.2.2.2.2.2
            omega
        have HGO := Lib.hid hgo
        clear hle hA hB hgo
        gi_wp2_with fail
        rw [← HQ.out]
        exact ⟨KeptX.of HB3.out, HNX.out _ _ (HW.out.1.later HB3.out) HI.out.2.2 HGO.out⟩
      · have d4 : decide (B ≤ A) = false := decide_eq_false hle
        have hcnt : x.bn + cntT x.bs ≤ 9007199271518208 := by
          have h1 := (HW.out.2.1.segQ HW.out.2.2.1 HF.out.2.2.2.2.2.2.2 HX.out).long
          have h2 := (HW.out.2.1.segQ HW.out.2.2.1 HF.out.2.2.2.2.2.2.2 HX.out).off
          have h3 := cnt_long x.bs
          omega
        obtain ⟨i, hi⟩ : ∃ i, i = max f x.bn - x.bn := ⟨_, rfl⟩
        obtain ⟨j, hj⟩ : ∃ j, j = min u (x.bn + cntT x.bs) - x.bn := ⟨_, rfl⟩
        obtain ⟨e1, e2, e3, e4⟩ : A = ((x.bn + i : Nat) : Int) ∧ B = ((x.bn + j : Nat) : Int) ∧ i ≤ j ∧ j ≤ cntT x.bs := by
          have := HF.out.1; have := HF.out.2.1; have := HW.out.2.2.2.2.2.2.2
          omega
        have hnb : nb ≤ most := by rw [← HW.out.2.2.2.2.1, ← List.length_map (f := fun y : RcV => y.r), HW.out.2.2.2.1]; exact HI.out.2.2
        have hsub : IntKind.i64.wrap ((most : Int) - (nb : Int)) = ((most - nb : Nat) : Int) := by
          rw [IntWalk.i64_in _ (by omega)]
          omega
        have HRD := Lib.hid (readS_b ((HW.out.2.1.segQ HW.out.2.2.1 HF.out.2.2.2.2.2.2.2 HX.out).later HB3.out) (i := i) (u := j) (most := most - nb) e3 e4 (by omega))
        rw [← e1, ← e2] at HRD
        have HIJ := Lib.hid (And.intro hi (And.intro hj (And.intro hnb (And.intro hle (And.intro hA (And.intro hB (And.intro e3 e4)))))))
        clear hi hj hle hA hB e1 e2 e3 e4 hcnt
        gi_wp2_with fail
        refine (CallsIn.inRound _ (callsIn_wide.2 HRD.out)).mono ?_
        rintro e W4 ⟨v4, zs, rfl, hzs, hzp, hb34⟩
        obtain ⟨oz, cz, rfl, -⟩ := hzp.row.shape
        have hlow := HOP.out.2.2.1
        have hVl : n7 + 1 < V.heap.size := by
          obtain ⟨r, hr⟩ := HOP.out.2.2.2.2
          exact (Array.getElem?_eq_some_iff.1 hr).1
        have hon : out.length = nb := by rw [← HW.out.2.2.2.2.1, ← List.length_map (f := fun y : RcV => y.r), HW.out.2.2.2.1]
        have hstep : R = if most ≤ (out ++ zs.map (·.r)).length then out ++ zs.map (·.r) else readGo f u most (g.segsR.drop (pre.length + 1)) (out ++ zs.map (·.r)) := by
          have h1 := HI.out.2.1
          unfold readGo at h1
          have hcl : (recsT x.bs).length = cntT x.bs := recsT_len x.bs
          rw [if_neg (by
            rw [hcl]
            have := HF.out.1; have := HF.out.2.1; have := HW.out.2.2.2.2.2.2.2; have := HIJ.out
            omega), hcl, hon] at h1
          have e1 : max f x.bn - x.bn = i := HIJ.out.1.symm
          have e2 : min u (x.bn + cntT x.bs) - max f x.bn = j - i := by have := HIJ.out.1; have := HIJ.out.2.1; omega
          rw [e1, e2] at h1
          rw [hzs]
          exact h1
        obtain ⟨m, hm⟩ : ∃ m, zs.length = m := ⟨_, rfl⟩
        have hml : m ≤ most - nb := by
          rw [← hm, ← List.length_map (f := fun y : RcV => y.r), hzs, readT_len (by rw [recsT_len]; exact HIJ.out.2.2.2.2.2.2.2)]
          omega
        have hb24 : Below W2.heap.size W2 W4 := HB3.out.trans (hb34.mono HB3.out.size)
        have hrow4 := HW.out.2.2.2.2.2.2.1.later hb24
        have hbx4 := (hb24.block b10 (Array.getElem?_eq_some_iff.1 HW.out.2.2.2.2.2.1).1).trans HW.out.2.2.2.2.2.1
        have hg7 := (Array.getElem?_eq_some_iff.1 HBX.out.2.2.1).1
        have hb7W := ((HW.out.1.below.trans (hb24.mono HW.out.1.below.size)).block b7 hg7).trans HBX.out.2.2.1
        have hVW : V.heap.size ≤ W2.heap.size := HW2.out
        have hP4 : ∀ k, W2.heap.size ≤ k → n7 + 2 ≤ k ∧ ¬ T k := fun k hk => ⟨by omega, fun e => by have := hlow k e; omega⟩
        have hnb10 : ¬ (n7 + 2 ≤ b10 ∧ ¬ T b10) := fun hh => by have := HS.out.2.1; have := hh.1; omega
        have hb710 : b7 ≠ b10 := by have h2 := H6.out.2.2.1; omega
        have hstp := fun (w3 : World) (oa3 : Option Addr) (c3 : Nat) => out_step (V := W4) (V1 := W4) (w3 := w3) (oa3 := oa3) (c3 := c3) (P := fun k => n7 + 2 ≤ k ∧ ¬ T k) hrow4 HW.out.2.2.2.2.1 hm hbx4 hnb10 (fun y hy => by
          obtain ⟨q1, q2, q3, q4⟩ := hzp.each y hy
          have hz23 := HB3.out.size
          exact ⟨q1, q2, fun k hk => hP4 k (by have := q3 k hk; omega), fun k hk => hP4 k (by have := q4 k hk; omega)⟩) (fun k hk => hP4 k (by have := hb24.size; omega)) (Below.refl _ _)
        have HST := Lib.hid (And.intro hstep (And.intro hon (And.intro hm (And.intro hml hb24))))
        have HZ := Lib.hid (And.intro hrow4 (And.intro (show RecsIs W4 (.slice oz zs.length cz) zs from hzp.is) (And.intro hbx4 (And.intro hb7W (And.intro hP4 hb710)))))
        have HSTP := Lib.hid hstp
        rw [hm] at HZ ⊢
        have hnm : nb + m ≤ most := by have := HIJ.out.2.2.1; omega
        have c7 : W4.cell? ⟨b7, 0, none⟩ = some (.int .i64 (most : Int)) := cell_of hb7W rfl
        have c10 : W4.cell? ⟨b10, 0, none⟩ = some (.slice ob nb cb) := cell_of hbx4 rfl
        clear hzs hzp hb34 hlow hVl hon hstep hm hml hb24 hrow4 hbx4 hg7 hb7W hVW hP4 hnb10 hstp c7' c10' hsub HRD d4 hnb
        have hb107 : b10 ≠ b7 := hb710.symm
        gi_upto_region 16 with (gi_at_builtin; refine wpListIn_append_recs rfl (.tmp 75) (.tmp 76) rfl (xs := ys) (ys := zs) (P := fun a => n7 + 2 ≤ a ∧ ¬ T a) HZ.out.1 HW.out.2.2.2.2.1 (by omega) HZ.out.2.1 HST.out.2.2.1 (by omega) (by rfl) (by rfl) ?_; intro oa3 c3 W5 HR3 HG3 HO3; have hst := HSTP.out W5 oa3 c3 HR3.out HG3.out HO3.out; have y10 : W5.cell? ⟨b10, 0, none⟩ = some (.slice ob nb cb) := cell_of hst.1 rfl; have z10 : W5.frozen? ⟨b10, 0, none⟩ = false := free_of hst.1 _; have y7 : W5.cell? ⟨b7, 0, none⟩ = some (.int .i64 (most : Int)) := cell_of ((hst.2.1.block b7 (Array.getElem?_eq_some_iff.1 HZ.out.2.2.2.1).1 (fun e => HP7.out e)).trans HZ.out.2.2.2.1) rfl; have HS3 := Lib.hid (And.intro hst.2 HG3.out.size); clear hst)
        have hgot : ∀ T0, T0 = T → GotI w3 (W5.setCell ⟨b10, 0, none⟩ (.slice oa3 (nb + m) c3)) b10 n7 T (out ++ zs.map (·.r)) ∧ KeptSX (fun k => k = b10 ∨ n7 ≤ k) n7 T W2 (W5.setCell ⟨b10, 0, none⟩ (.slice oa3 (nb + m) c3)) := fun T0 _ => by
          obtain ⟨⟨ho5, hbx5, hrow5⟩, hz5⟩ := HS3.out
          have hlo := HW.out.1.low
          have hhb := HW.out.1.hb
          have hob : Only (fun k => (k = b10 ∨ n7 ≤ k) ∧ ¬ (T k ∨ k = n7 ∨ k = n7 + 1)) W4 W5 := ho5.mono (fun k _ hk => ⟨.inr (by omega), fun e => by
            rcases e with e | e | e
            · exact hk.2 e
            · omega
            · omega⟩)
          have hset : (b10 = b10 ∨ n7 ≤ b10) ∧ ¬ (T b10 ∨ b10 = n7 ∨ b10 = n7 + 1) := ⟨.inl rfl, fun e => by
            rcases e with e | e | e
            · have := hlo _ e; omega
            · omega
            · omega⟩
          have hos := only_setCell (fun k => (k = b10 ∨ n7 ≤ k) ∧ ¬ (T k ∨ k = n7 ∨ k = n7 + 1)) W5 b10 0 (.slice oa3 (nb + m) c3) hset
          have hall : Only (fun k => (k = b10 ∨ n7 ≤ k) ∧ ¬ (T k ∨ k = n7 ∨ k = n7 + 1)) W2 (W5.setCell ⟨b10, 0, none⟩ (.slice oa3 (nb + m) c3)) := ((Only.of_below HST.out.2.2.2.2 (Nat.le_refl _) _).trans hob (fun _ _ h => h)).trans hos (fun _ _ h => h)
          refine ⟨⟨⟨fun hh => by have := hh.1; omega, oa3, nb + m, c3, ys ++ zs, by rw [List.map_append, HW.out.2.2.2.1], by rw [List.length_append, HW.out.2.2.2.2.1, HST.out.2.2.1], hbx5, hrow5⟩, HW.out.1.below.trans (hall.below (fun k hk e => by
            rcases e.1 with e | e
            · omega
            · omega) HW.out.1.below.size), hlo, hhb⟩, hall⟩
        obtain ⟨hg5, hk5⟩ := hgot T rfl
        have hlen : (out ++ zs.map (·.r)).length = nb + m := by rw [List.length_append, List.length_map, HST.out.2.1, HST.out.2.2.1]
        have hst := HST.out.1
        rw [hlen] at hst
        have HE := Lib.hid (And.intro hg5 (And.intro hk5 (And.intro hlen hst)))
        clear hgot hg5 hk5 hlen hst
        by_cases hbr : most ≤ nb + m
        · have d5 : decide ((most : Int) ≤ (nb : Int) + (m : Int)) = true := decide_eq_true (by omega)
          have hfin : R = out ++ zs.map (·.r) := by
            have := HE.out.2.2.2
            rwa [if_pos hbr] at this
          have HFI := Lib.hid hfin
          clear hbr hfin hnm
          gi_wp2_with fail
          rw [← HQ.out]
          exact ⟨HE.out.2.1, rfl, by rw [HFI.out]; exact HE.out.1⟩
        · have d5 : decide ((most : Int) ≤ (nb : Int) + (m : Int)) = false := decide_eq_false (by omega)
          have hfin : R = readGo f u most (g.segsR.drop (pre.length + 1)) (out ++ zs.map (·.r)) := by
            have := HE.out.2.2.2
            rwa [if_neg hbr] at this
          have HFI := Lib.hid (And.intro hfin hnm)
          clear hbr hfin hnm
          gi_wp2_with fail
          rw [← HQ.out]
          exact ⟨HE.out.2.1, HNX.out _ _ HE.out.1 (by rw [HE.out.2.2.1]; exact HFI.out.2) HFI.out.1⟩
end Go.Proofs.YtlgcoaeddeiegaaGreat
