/- The texts Zs in one. -/
import Derived.Test.YtmkjejngnahpeaaV14
import Derived.Lib.QuietBelow
import Derived.LoopNIn
/- law07: tells: a disk tells what the document's has. -/
namespace Go.Proofs.Ytmkjejngnahpeaa
open Go Go.Maps Go.RowKit Go.Shelf Go.Sort
open Go.Proofs (encStr)
attribute [local go_sem] Oper.semAt_some

theorem wpIn_region_below_ndT {F : Fence} {n : Nat} {P : Program} {id : Nat} {Q : Exit → Act → World → Prop} {a : Act} {w : World} {l : List Oper} (hnd : l.all noDefer = true) (hm : P.follows .mixedOrders = true) (hB : Region.lexB .any l.toArray = true)
    (h : wpQuietIn F n P l.toArray (fun w' => ∃ p : Regrown, w' = grow (redrawn w p.d) p.os) (fun a' => ∀ w', (∃ p : Regrown, w' = grow (redrawn w p.d) p.os) → Q .normal a' w') l a) : (Code.region id l.toArray true).wpIn F n P Q a w := by
  simp only [Region.lexB, Bool.and_eq_true] at hB
  refine wpIn_region_any hm (wpAnyIn_of_quiet_nd (C := fun w' => ∃ p : Regrown, w' = grow (redrawn w p.d) p.os) (Q := fun a' => ∀ w', (∃ p : Regrown, w' = grow (redrawn w p.d) p.os) → Q .normal a' w') (fun o ho => List.all_eq_true.1 hnd o (by simpa using ho)) (fun _ w' hw' h => h w' hw') _ _ _ _ ⟨⟨w.drawn + 1, #[]⟩, by rw [grow_empty]; rfl⟩ ?_)
  have := wpAnyQIn_lex (F := F) (n := n) (C := fun w' => ∃ p : Regrown, w' = grow (redrawn w p.d) p.os) (md := .any) hB.1 l.toArray.toList 0 (Array.replicate l.toArray.size false) a (by simp) (by simpa using hB.2) (by simpa using h)
  simpa using this
/-- what stands at a round's head -/
structure TlI (w4 W : World) (b : Nat) (T : Nat → Prop) (j : Nat) : Prop where
  below : Below w4.heap.size w4 W
  box : W.heap[b]? = some (.cells #[.int .i64 j] 3 (0, 0))
  low : ∀ k, T k → b < k
  at' : b = w4.heap.size
theorem TlI.kept {w4 A B : World} {b j : Nat} {T X : Nat → Prop} (h : TlI w4 A b T j) (ho : Only X A B) (hX : ∀ k, X k → b < k) : TlI w4 B b T j :=
  ⟨h.below.trans (ho.below (fun i hi e => by have := hX i e; have := h.at'; omega) h.below.size), (ho.block _ (Array.getElem?_eq_some_iff.1 h.box).1 (fun e => by have := hX _ e; omega)).trans h.box, h.low, h.at'⟩
theorem TlI.later {w4 A B : World} {b j : Nat} {T : Nat → Prop} (h : TlI w4 A b T j) (hb : Below A.heap.size A B) : TlI w4 B b T j :=
  h.kept (Only.of_below hb (Nat.le_refl _) (fun _ => False)) (fun _ hf => hf.elim)
/-- what stands all along -/
structure TellW (w W : World) (S R : Nat → Prop) (q p b3 b4 vb : Nat) (d : Dk) (ks : List Nat) : Prop where
  disk : DiskAt W S q d
  doc : RfAt W R p d
  box3 : W.heap[b3]? = some (.cells #[.pointer (some ⟨p, 0, none⟩)] 100 (0, 0))
  box4 : W.heap[b4]? = some (.cells #[.bool false] 4 (0, 0))
  below : Below w.heap.size w W
  seq : SeqAt W vb d.files
  marks : MarksAt W ks
  new : ∀ k ∈ ks, w.heap.size ≤ k ∧ b4 < k
  b4w : w.heap.size ≤ b4
theorem TellW.later {w W W' : World} {S R : Nat → Prop} {q p b3 b4 vb : Nat} {d : Dk} {ks : List Nat} (h : TellW w W S R q p b3 b4 vb d ks) (hb : Below W.heap.size W W') : TellW w W' S R q p b3 b4 vb d ks :=
  { h with
    disk := h.disk.below hb
    doc := h.doc.below hb
    box3 := (hb.block b3 (Array.getElem?_eq_some_iff.1 h.box3).1).trans h.box3
    box4 := (hb.block b4 (Array.getElem?_eq_some_iff.1 h.box4).1).trans h.box4
    below := h.below.trans (hb.mono h.below.size)
    seq := h.seq.kept hb (Nat.le_refl _)
    marks := h.marks.below hb }
theorem TellW.mark {w W : World} {S R : Nat → Prop} {q p b3 b4 vb k : Nat} {d : Dk} {ks : List Nat} (h : TellW w W S R q p b3 b4 vb d ks) (hk : W.heap[k]? = some (.deferred (some []))) (hlt : ∀ j ∈ ks, j < k) (hn : w.heap.size ≤ k ∧ b4 < k) : TellW w W S R q p b3 b4 vb d (k :: ks) :=
  { h with
    marks := h.marks.cons hk hlt
    new := fun j hj => by
      rcases List.mem_cons.1 hj with rfl | hj
      · exact hn
      · exact h.new j hj }
/-- the document's cells that are looked at -/
theorem TellW.cells {w W : World} {S R : Nat → Prop} {q p b3 b4 vb : Nat} {d : Dk} {ks : List Nat} (h : TellW w W S R q p b3 b4 vb d ks) : ∃ oa c ob m, W.heap[p]? = some (.cells #[.slice oa d.files.length c, .slice ob d.fates.length m, .int .i64 d.steps] 198 (0, 0)) ∧ rowAt W 200 5 (.slice oa d.files.length c) d.files.length (rfCells d.files) := by
  obtain ⟨rv, fv, h⟩ := h.doc
  obtain ⟨oa, c, rfl, -⟩ := h.files.shape
  obtain ⟨ob, m, rfl, -⟩ := h.fates.shape
  exact ⟨oa, c, ob, m, h.head, h.files⟩
theorem wf_smallT {a : Int} (h0 : 0 ≤ a) (h1 : a ≤ 4611686018427387904) : (Lit.int .i64 a).wf = true := by
  have e1 : IntKind.i64.min = -9223372036854775808 := by decide
  have e2 : IntKind.i64.max = 9223372036854775807 := by decide
  simp only [Lit.wf, Bool.and_eq_true, decide_eq_true_eq]
  omega
theorem names_memT {d : Dk} {s : List UInt8} (h : s ∈ d.names) : ∃ f ∈ d.files, f.name = s := by
  unfold Dk.names at h
  obtain ⟨f, hf, rfl⟩ := List.mem_map.1 h
  exact ⟨f, (List.mem_filter.1 hf).1, rfl⟩
theorem holdT {w5 W W' : World} {b3 gn o : Nat} {x y : Value} (h : W.cell? ⟨b3, 0, none⟩ = some x ∧ W.cell? ⟨gn, o, none⟩ = some y ∧ Below w5.heap.size w5 W ∧ b3 < w5.heap.size ∧ gn < w5.heap.size) (hb : Below W.heap.size W W') :
    W'.cell? ⟨b3, 0, none⟩ = some x ∧ W'.cell? ⟨gn, o, none⟩ = some y ∧ Below w5.heap.size w5 W' ∧ b3 < w5.heap.size ∧ gn < w5.heap.size :=
  ⟨(hb.cell (p := ⟨b3, 0, none⟩) (Nat.lt_of_lt_of_le h.2.2.2.1 h.2.2.1.size)).trans h.1, (hb.cell (p := ⟨gn, o, none⟩) (Nat.lt_of_lt_of_le h.2.2.2.2 h.2.2.1.size)).trans h.2.1, h.2.2.1.trans (hb.mono h.2.2.1.size), h.2.2.2.1, h.2.2.2.2⟩
theorem holdT_drew {w5 W : World} {b3 gn o : Nat} {x y : Value} (h : W.cell? ⟨b3, 0, none⟩ = some x ∧ W.cell? ⟨gn, o, none⟩ = some y ∧ Below w5.heap.size w5 W ∧ b3 < w5.heap.size ∧ gn < w5.heap.size) :
    W.drew.cell? ⟨b3, 0, none⟩ = some x ∧ W.drew.cell? ⟨gn, o, none⟩ = some y ∧ Below w5.heap.size w5 W.drew ∧ b3 < w5.heap.size ∧ gn < w5.heap.size :=
  ⟨h.1, h.2.1, Below.drewR h.2.2.1, h.2.2.2.1, h.2.2.2.2⟩
set_option maxRecDepth 100000 in
set_option maxHeartbeats 8000000 in
theorem tells_b {w : World} {S R : Nat → Prop} {q p : Nat} {d : Dk} (h : DiskAt w S q d) (hr : RfAt w R p d) :
    Calls Try.prog 67 #[.pointer (some ⟨q, 0, none⟩), .pointer (some ⟨p, 0, none⟩)] w fun e w' => e = .returned (.bool true) ∧ Below w.heap.size w w' := by
  obtain ⟨N, hN⟩ : ∃ N, d.files.length = N := ⟨_, rfl⟩
  obtain ⟨FN, hFN⟩ : ∃ N, d.fates.length = N := ⟨_, rfl⟩
  obtain ⟨NN, hNN⟩ : ∃ N, d.names.length = N := ⟨_, rfl⟩
  obtain ⟨ST, hST⟩ : ∃ N, d.steps = N := ⟨_, rfl⟩
  have hpl := hr
  obtain ⟨rv0, fv0, hri⟩ := hpl
  have hsz := hri.sizes
  have hnm := hri.names
  have hfew := hri.few
  have hNNle : NN ≤ N := by
    rw [← hNN, ← hN]
    unfold Dk.names
    rw [List.length_map]
    exact List.length_filter_le _ _
  rw [hN] at hfew
  clear hri
  obtain ⟨w1, hw1⟩ : ∃ V : World, V = (w.alloc (.cells #[.pointer (some ⟨p, 0, none⟩)] 100)).alloc (.cells #[.bool false] 4) := ⟨_, rfl⟩
  obtain ⟨b3, hb3⟩ : ∃ b, b = w.heap.size := ⟨_, rfl⟩
  obtain ⟨b4, hb4⟩ : ∃ b, b = w.heap.size + 1 := ⟨_, rfl⟩
  have hbl : Below w.heap.size w w1 := by rw [hw1]; exact ((Below.refl _ _).alloc (Nat.le_refl _) _).alloc (by simp) _
  have h3 : w1.heap[b3]? = some (.cells #[.pointer (some ⟨p, 0, none⟩)] 100 (0, 0)) := by
    rw [hw1, hb3]
    exact (Below.heap_alloc _ _ _ (by simp)).trans (alloc_cells _ _ _)
  have h4 : w1.heap[b4]? = some (.cells #[.bool false] 4 (0, 0)) := by
    rw [hw1, hb4]
    have := alloc_cells (w.alloc (.cells #[.pointer (some ⟨p, 0, none⟩)] 100)) #[.bool false] 4
    rwa [World.size_alloc] at this
  have H := Lib.hid (And.intro (h.below hbl) (And.intro (hr.below hbl) (And.intro hbl (And.intro h3 h4))))
  have HN := Lib.hid (And.intro hN (And.intro hFN (And.intro hNN (And.intro hST (And.intro hsz hnm)))))
  have HB := Lib.hid (And.intro hb3 hb4)
  clear h hr hN hFN hNN hST hsz hnm hbl h3 h4
  refine (callsIn_wide (n := 8)).1 ?_
  have f1 : Fence.wide.fn 52 := trivial
  have f2 : Fence.wide.fn 132 := trivial
  have f3 : Fence.wide.fn 42 := trivial
  have f4 : Fence.wide.fn 61 := trivial
  have f5 : Fence.wide.fn 41 := trivial
  have f6 : Fence.wide.fn 44 := trivial
  have f7 : Fence.wide.fn 131 := trivial
  refine callsIn_of_wp_marks Try.func67 rfl trivial ?_ rfl
  simp only [Try.ntmps67, List.size_toArray, List.length_cons, List.length_nil, Nat.reduceAdd, Nat.reduceSub, Array.replicate_succ, Array.replicate_zero, List.push_toArray, List.append_toArray, List.nil_append, List.cons_append]
  gi_upto_region 1 with fail
  rw [← hw1, ← hb4, ← hb3]
  clear hw1 hb3 hb4
  gi_wp2_with fail
  refine (callsIn_wide.2 (Names_b H.out.1)).mono ?_
  rintro e w2 ⟨vl, rfl, hrl, hol, hb2⟩
  obtain ⟨ol, cl, rfl, -⟩ := hrl.shape
  have h32 := (hb2.block b3 (Array.getElem?_eq_some_iff.1 H.out.2.2.2.1).1).trans H.out.2.2.2.1
  have c3 : w2.cell? ⟨b3, 0, none⟩ = some (.pointer (some ⟨p, 0, none⟩)) := cell_of h32 rfl
  have H2 := Lib.hid (And.intro hrl (And.intro hb2 (H.out.2.1.below hb2)))
  clear hrl hol hb2 h32
  gi_wp2_with fail
  refine (callsIn_wide.2 (refNames_b H2.out.2.2)).mono ?_
  rintro e w3 ⟨vn, rfl, hrn, hon, hb3⟩
  obtain ⟨on, cn, rfl, -⟩ := hrn.shape
  have hb13 : Below w1.heap.size w1 w3 := H2.out.2.1.trans (hb3.mono H2.out.2.1.size)
  have H3 := Lib.hid (And.intro (show rowAt w3 9 1 (.slice ol NN cl) NN (d.names.map encStr) from by have := H2.out.1.kept (fun k hk => hb3.block k (H2.out.1.lt k hk)); rwa [HN.out.2.2.1] at this) (And.intro (show rowAt w3 9 1 (.slice on NN cn) NN (d.names.map encStr) from by have := hrn; rwa [HN.out.2.2.1] at this) hb13))
  rw [HN.out.2.2.1]
  clear hrn hon hb3 hb13 c3
  gi_wp2_with fail
  gi_loopw [7] (fun i wr => ∃ j : Nat, j ≤ NN ∧ i = .int .i64 j ∧ Hid (Below w3.heap.size w3 wr)) (fun i wr => NN - (intOf i).toNat)
  case atStart => exact ⟨0, Nat.zero_le _, rfl, Lib.hid (Below.refl _ _)⟩
  case round =>
    obtain ⟨j, hj, rfl, HR⟩ := hrel
    by_cases hlt : j < NN
    · have hjl : j < d.names.length := by rw [HN.out.2.2.1]; exact hlt
      obtain ⟨s, hs⟩ : ∃ s, d.names[j] = s := ⟨_, rfl⟩
      have hsm : s ∈ d.names := by rw [← hs]; exact List.getElem_mem _
      obtain ⟨f, hff, hfs⟩ := names_memT hsm
      have hbr := HR.out
      have hb1r : Below w1.heap.size w1 wr := H3.out.2.2.trans (hbr.mono H3.out.2.2.size)
      have hrl := H3.out.1.kept (fun k hk => hbr.block k (H3.out.1.lt k hk))
      have hrn := H3.out.2.1.kept (fun k hk => hbr.block k (H3.out.2.1.lt k hk))
      obtain ⟨gl, fl, rfl⟩ := hrl.addr (by omega)
      obtain ⟨gn, fn, rfl⟩ := hrn.addr (by omega)
      obtain ⟨a0, ha0⟩ : ∃ a : ByteArray, a = ⟨s.toArray⟩ := ⟨_, rfl⟩
      have hu : (d.names.map encStr)[j]? = some (.string a0) := by
        rw [List.getElem?_map, List.getElem?_eq_getElem hjl, hs, ha0]
        rfl
      have hsn : a0.size ≤ maxLen := by
        rw [ha0]
        have := name_len (HN.out.2.2.2.2.2 f hff)
        rw [hfs] at this
        show s.toArray.size ≤ maxLen
        unfold maxLen
        simp
        omega
      have kl : wr.cell? ⟨gl, fl + j, none⟩ = some (.string a0) := hrl.read.cellAt hu
      have HX := Lib.hid (And.intro hu hb1r)
      clear hjl hs hsm hff hfs hbr hb1r hrl hrn ha0 hu
      gi_wp2_with fail
      refine (callsIn_wide.2 (read_b (H.out.1.below HX.out.2) a0 hsn 0 16777216 (by omega) (by omega))).mono ?_
      rintro e w5 ⟨v1, rfl, hv1⟩
      have hb5 : Below w3.heap.size w3 w5 := HR.out.trans (hv1.2.2.mono HR.out.size)
      have hb15 : Below w1.heap.size w1 w5 := HX.out.2.trans (hv1.2.2.mono HX.out.2.size)
      have hrn5 := H3.out.2.1.kept (fun k hk => hb5.block k (H3.out.2.1.lt k hk))
      have kn : w5.cell? ⟨gn, fn + j, none⟩ = some (.string a0) := hrn5.read.cellAt HX.out.1
      have k3 : w5.cell? ⟨b3, 0, none⟩ = some (.pointer (some ⟨p, 0, none⟩)) := cell_of ((hb15.block b3 (Array.getElem?_eq_some_iff.1 H.out.2.2.2.1).1).trans H.out.2.2.2.1) rfl
      obtain ⟨rr, hrr⟩ : ∃ r, d.read a0.data.toList 0 16777216 = r := ⟨_, rfl⟩
      rw [hrr] at hv1 ⊢
      obtain ⟨er, her⟩ : ∃ er, rr.2 = er := ⟨_, rfl⟩
      obtain ⟨by1, hby⟩ : ∃ b, rr.1 = b := ⟨_, rfl⟩
      rw [her]
      rw [hby] at hv1
      have H5 := Lib.hid (And.intro hv1 (And.intro hb5 hb15))
      have HRR := Lib.hid (And.intro hrr (And.intro her hby))
      have HRD : Hid (∀ V : World, Below w5.heap.size w5 V → Calls Try.prog 61 #[.pointer (some ⟨p, 0, none⟩), .string a0, .int .i64 0, .int .i64 16777216] V fun e w' => ∃ v, e = .returned (.tuple #[v, .int .i64 er]) ∧ NewBytes V w' v by1) := Lib.hid (fun V hb => by
        have := refRead_b ((H.out.2.1.below H5.out.2.2).below hb) a0 hsn 0 16777216 (by omega) (by omega)
        unfold ReadIs at this
        rwa [HRR.out.1, HRR.out.2.1, HRR.out.2.2] at this)
      clear hv1 hb5 hb15 hrn5 hrr her hby kl
      have hS : w5.cell? ⟨b3, 0, none⟩ = some (.pointer (some ⟨p, 0, none⟩)) ∧ w5.cell? ⟨gn, fn + j, none⟩ = some (.string a0) ∧ Below w5.heap.size w5 w5 ∧ b3 < w5.heap.size ∧ gn < w5.heap.size := ⟨k3, kn, Below.refl _ _, World.block_lt_of_cell? _ _ k3, World.block_lt_of_cell? _ _ kn⟩
      clear k3 kn
      gi_wp2_with fail
      refine wpIn_wide.2 (wp_onlyR ?_)
      go_region_held3 (fun W => W.cell? ⟨b3, 0, none⟩ = some (.pointer (some ⟨p, 0, none⟩)) ∧ W.cell? ⟨gn, fn + j, none⟩ = some (.string a0) ∧ Below w5.heap.size w5 W ∧ b3 < w5.heap.size ∧ gn < w5.heap.size)
        (first | assumption | exact holdT_drew (by assumption) | exact holdT (by assumption) hba)
        (first | (go_at_call 61; refine (HRD.out _ (by first | exact hS.2.2.1 | exact (holdT_drew hS).2.2.1)).mono ?_; rintro e wa ⟨v2, rfl, hv2⟩; have hba := hv2.2.2; have HV2 : Hid (rowAt wa 5 1 v2 by1.length (byteCells by1) ∧ Below w5.heap.size w5 wa) := Lib.hid ⟨hv2.1, by first | exact hv2.2.2 | exact (bdrew0 w5).trans hv2.2.2⟩; clear hv2))
      all_goals
        clear hS
        have hb3a : Below w3.heap.size w3 wa := H5.out.2.1.trans (HV2.out.2.mono H5.out.2.1.size)
        have hrl := H3.out.1.kept (fun k hk => hb3a.block k (H3.out.1.lt k hk))
        have hrn := H3.out.2.1.kept (fun k hk => hb3a.block k (H3.out.2.1.lt k hk))
        have kl : wa.cell? ⟨gl, fl + j, none⟩ = some (.string a0) := hrl.read.cellAt HX.out.1
        have kn : wa.cell? ⟨gn, fn + j, none⟩ = some (.string a0) := hrn.read.cellAt HX.out.1
        have hr1 : rowAt wa 5 1 v1 by1.length (byteCells by1) := H5.out.1.1.kept (fun k hk => HV2.out.2.block k (H5.out.1.1.lt k hk))
        have hcv1 : ∀ k, (convert 79 9 v1).run Try.prog (wa.drewN k) = .ok (.string ⟨by1.toArray⟩) (wa.drewN k) := fun k => run_string_at _ 79 9 5 v1 by1 Try.underlying79 Try.underlying5 Try.underlying9 (hr1.kept (fun _ _ => rfl))
        have hcv2 : ∀ k, (convert 79 9 v2).run Try.prog (wa.drewN k) = .ok (.string ⟨by1.toArray⟩) (wa.drewN k) := fun k => run_string_at _ 79 9 5 v2 by1 Try.underlying79 Try.underlying5 Try.underlying9 (HV2.out.1.kept (fun _ _ => rfl))
        obtain ⟨ab, hab⟩ : ∃ a : ByteArray, a = ⟨by1.toArray⟩ := ⟨_, rfl⟩
        rw [← hab] at hcv1 hcv2
        have H6 := Lib.hid hb3a
        clear hb3a hrl hrn hr1 hab HV2 HRD HRR
        go_wp2_with fail
        gi_upto_region 10 with fail
        refine wpIn_wide.2 (wp_onlyR ?_)
        go_quiet (fail)
        all_goals
          go_wp2_with fail
          gi_wp2_with fail
          exact ⟨⟨j + 1, by omega, by simp, Lib.hid ⟨H6.out.os, H6.out.tape, H6.out.output, H6.out.size, H6.out.block⟩⟩, by simp [intOf]; omega⟩
    · obtain rfl : j = NN := by omega
      have HAL := Lib.hid (all_b (H.out.1.below (H3.out.2.2.trans (HR.out.mono H3.out.2.2.size))))
      gi_wp2_with fail
      refine (callsIn_wide.2 HAL.out).mono ?_
      rintro e W0 ⟨vb, rfl, hsq, hvb, hb0⟩
      have hb10 : Below w1.heap.size w1 W0 := H3.out.2.2.trans ((HR.out.trans (hb0.mono HR.out.size)).mono H3.out.2.2.size)
      have HW0 : Hid (TellW w W0 S R q p b3 b4 vb d []) := Lib.hid {
        disk := H.out.1.below hb10
        doc := H.out.2.1.below hb10
        box3 := (hb10.block b3 (Array.getElem?_eq_some_iff.1 H.out.2.2.2.1).1).trans H.out.2.2.2.1
        box4 := (hb10.block b4 (Array.getElem?_eq_some_iff.1 H.out.2.2.2.2).1).trans H.out.2.2.2.2
        below := H.out.2.2.1.trans (hb10.mono H.out.2.2.1.size)
        seq := hsq
        marks := MarksAt.nil
        new := fun _ hk => by cases hk
        b4w := by have := HB.out.2; omega }
      clear hsq hvb hb0 hb10 HAL H3 H2 H HR
      have hnf : ∀ (W : World), (binOp .eql 74 (.func (.func 161) #[] #[.pointer (some ⟨vb, 0, none⟩)]) .nilFunc).run Try.prog W = .ok (.bool false) W := fun W => by kernel_rfl
      gi_wp2_with fail
      clear hnf
      refine wpIn_loop_rounds 3 ?_
      rw [roundsIn_succ]
      gi_wp2_with fail
      obtain ⟨w50, hw5⟩ : ∃ V : World, V = W0.alloc (.cells #[.int .i64 0] 3) := ⟨_, rfl⟩
      obtain ⟨b60, hb6⟩ : ∃ b, b = W0.heap.size := ⟨_, rfl⟩
      have h66 : w50.heap[b60]? = some (.cells #[.int .i64 (0 : Nat)] 3 (0, 0)) := by rw [hw5, hb6]; exact alloc_cells _ _ _
      have hb45 : Below W0.heap.size W0 w50 := by rw [hw5]; exact (Below.refl _ _).alloc (Nat.le_refl _) _
      have hs5 : w50.heap.size = b60 + 1 := by rw [hw5, hb6]; simp
      rw [← hw5, ← hb6]
      have hst := values_told 7 (by omega) vb W0 d.files HW0.out.seq (by have := HN.out.1; omega)
      have H50 := Lib.hid (And.intro h66 (And.intro hb45 (And.intro hs5 hb6)))
      clear hw5 hb6 h66 hb45 hs5
      refine wpIn_rangeFunc_told (n := 8) (α := F0) rfl (by omega) (gf := 161) (lb := #[.pointer (some ⟨vb, 0, none⟩)]) rfl trivial (enters_of Try.func161 (by kernel_rfl) rfl) hst H50.out.2.1 (fun _ => rfl)
        (fun T pre V => TlI W0 V b60 T pre.length) (fun _ _ _ _ => False) ?I0 ?Ix0 ?h00 ?round0 ?done0 ?stop0
      case I0 =>
        rintro T pre A B hi ho
        rw [H50.out.2.2.1] at ho
        exact hi.kept ho (fun k hk => by rcases hk with hk | hk | hk; exact hi.low k hk; omega; omega)
      case Ix0 =>
        rintro c T pre A B hf ho
        exact hf
      case h00 =>
        intro T W1' hb hsz hT
        rw [H50.out.2.2.1] at hT
        exact ⟨H50.out.2.1.trans (hb.mono H50.out.2.1.size), (hb.block b60 (Array.getElem?_eq_some_iff.1 H50.out.1).1).trans H50.out.1, fun k hk => by have := (hT k hk).1; omega, H50.out.2.2.2⟩
      case stop0 =>
        rintro T c0 pre V hS hf hD
        exact hf.elim
      case round0 =>
        rintro T pre x Wp V hT hrec hdef hip hop hszp hgv hlt K hK
        rw [H50.out.2.2.1] at hT hrec hdef hK hszp
        obtain ⟨j, hj⟩ : ∃ j, pre.length = j := ⟨_, rfl⟩
        have hgv' : d.files[pre.length]? = some x := hgv
        rw [hj] at hgv' hip hlt
        obtain ⟨hjl, hjx⟩ := List.getElem?_eq_some_iff.1 hgv'
        have hxm : x ∈ d.files := by rw [← hjx]; exact List.getElem_mem _
        obtain ⟨a0, ha0⟩ : ∃ a : ByteArray, a = ⟨x.name.toArray⟩ := ⟨_, rfl⟩
        obtain ⟨s1, hs1⟩ : ∃ a : ByteArray, a = ⟨x.bytes.toArray⟩ := ⟨_, rfl⟩
        obtain ⟨a1, ha1⟩ : ∃ a : Int, a = (x.bytes.length : Int) := ⟨_, rfl⟩
        obtain ⟨a2, ha2⟩ : ∃ a : Int, a = (x.lasts : Int) := ⟨_, rfl⟩
        obtain ⟨a3, ha3⟩ : ∃ a, a = x.there := ⟨_, rfl⟩
        obtain ⟨a4, ha4⟩ : ∃ a, a = x.named := ⟨_, rfl⟩
        have hz := HN.out.2.2.2.2.1 x hxm
        have hnm := name_len (HN.out.2.2.2.2.2 x hxm)
        have hsn : a0.size ≤ maxLen := by
          rw [ha0]
          show x.name.toArray.size ≤ maxLen
          unfold maxLen
          simp
          omega
        have hs1z : (s1.size : Int) = a1 := by rw [hs1, ha1]; rfl
        have hfe := file_eq a0 a1 a2 a3 a4 hsn (by rw [ha1]; exact wf_smallT (by omega) (by omega)) (by rw [ha2]; exact wf_smallT (by omega) (by omega))
        have hfc : encF x = #[.agg #[.string a0, .int .i64 a1, .int .i64 a2, .bool a3, .bool a4]] := by
          unfold encF fileV
          rw [ha0, ha1, ha2, ha3, ha4]
        have hrf : rfFile x = [.string a0, .string s1, .int .i64 a2, .bool a3, .bool a4] := by
          unfold rfFile
          rw [ha0, hs1, ha2, ha3, ha4]
        rw [hfc]
        obtain ⟨V', hV'⟩ : ∃ V', V' = V.alloc (.cells #[.string a0, .int .i64 a1, .int .i64 a2, .bool a3, .bool a4] 78) := ⟨_, rfl⟩
        obtain ⟨B, hB⟩ : ∃ b, b = V.heap.size := ⟨_, rfl⟩
        have hbV : Below V.heap.size V V' := by rw [hV']; exact (Below.refl _ _).alloc (Nat.le_refl _) _
        have hBx : V'.heap[B]? = some (.cells #[.string a0, .int .i64 a1, .int .i64 a2, .bool a3, .bool a4] 78 (0, 0)) := by rw [hV', hB]; exact alloc_cells _ _ _
        have hVl : b60 + 2 < V.heap.size := by
          obtain ⟨r, hr⟩ := hrec
          exact (Array.getElem?_eq_some_iff.1 hr).1
        have HK := Lib.hid hK
        have HI := Lib.hid hip
        have HOP := Lib.hid (And.intro hop (And.intro hszp (And.intro (fun k hk => (hT k hk).1) hVl)))
        have HVB := Lib.hid (And.intro hbV (And.intro hBx hB))
        have HX := Lib.hid (And.intro (show ∃ h : j < d.files.length, d.files[j] = x from ⟨hjl, hjx⟩) (And.intro hrf hj))
        have HZ := Lib.hid hs1z
        have HFE := Lib.hid hfe
        clear hT hrec hdef hip hop hszp hgv hgv' hlt hK hjl hjx hxm ha0 hs1 ha1 ha2 ha3 ha4 hz hnm hsn hs1z hfe hfc hrf hbV hBx hVl hj hst
        gi_wp2_with fail
        rw [← hV', ← hB]
        clear hV' hB
        refine HK.out _ _ (KeptR.of HVB.out.1) ?_
        intro W2' ho hr2
        have hopV : Only T Wp V' := HOP.out.1.trans (Only.of_below HVB.out.1 (Nat.le_refl _) (fun _ => False)) (fun _ _ hf => hf.elim)
        have hop2 : Only (fun k => T k ∨ k = b60 + 2) Wp W2' := (hopV.mono (fun _ _ h => .inl h)).trans (ho.mono (fun k _ h => .inr h)) (fun _ _ h => h)
        have hi2 : TlI W0 W2' b60 T j := HI.out.kept hop2 (fun k hk => by rcases hk with hk | hk; (have := HOP.out.2.2.1 k hk; omega); omega)
        have hBV := HVB.out.2.2
        have hVl := HOP.out.2.2.2
        have hkb : W2'.heap[B]? = some (.cells #[.string a0, .int .i64 a1, .int .i64 a2, .bool a3, .bool a4] 78 (0, 0)) := (ho.block B (Array.getElem?_eq_some_iff.1 HVB.out.2.1).1 (fun e => by omega)).trans HVB.out.2.1
        have htw := HW0.out.later hi2.below
        obtain ⟨oa, c, ob, m, hh, hrow⟩ := htw.cells
        rw [HN.out.1] at hh hrow
        obtain ⟨hjl, hjx⟩ := HX.out.1
        have hjN : j < N := by have := HN.out.1; omega
        obtain ⟨g, off, rfl⟩ := hrow.addr (by omega)
        have hcells : ∀ i, i < 5 → ∀ u, [.string a0, .string s1, .int .i64 a2, .bool a3, .bool a4][i]? = some u → W2'.cell? ⟨g, off + j * 5 + i, none⟩ = some u := fun i hi u hu => rf_cell hrow hjl hi (by rw [hjx, HX.out.2.1]; exact hu)
        have k6 := cell_regrown (cell_of hi2.box rfl : W2'.cell? ⟨b60, 0, none⟩ = some (.int .i64 j))
        have k3 := cell_regrown (cell_of htw.box3 rfl : W2'.cell? ⟨b3, 0, none⟩ = some (.pointer (some ⟨p, 0, none⟩)))
        have kp := cell_regrown (cell_of hh rfl : W2'.cell? ⟨p, 0, none⟩ = some (.slice (some ⟨g, off, none⟩) N c))
        have g0 := cell_regrown (hcells 0 (by omega) _ rfl)
        have g1 := cell_regrown (hcells 1 (by omega) _ rfl)
        have g2 := cell_regrown (hcells 2 (by omega) _ rfl)
        have g3 := cell_regrown (hcells 3 (by omega) _ rfl)
        have g4 := cell_regrown (hcells 4 (by omega) _ rfl)
        rw [Nat.add_zero] at g0
        have e0 := cell_regrown (cell_of hkb rfl : W2'.cell? ⟨B, 0, none⟩ = some (.string a0))
        have e1 := cell_regrown (cell_of hkb rfl : W2'.cell? ⟨B, 1, none⟩ = some (.int .i64 a1))
        have e2 := cell_regrown (cell_of hkb rfl : W2'.cell? ⟨B, 2, none⟩ = some (.int .i64 a2))
        have e3 := cell_regrown (cell_of hkb rfl : W2'.cell? ⟨B, 3, none⟩ = some (.bool a3))
        have e4 := cell_regrown (cell_of hkb rfl : W2'.cell? ⟨B, 4, none⟩ = some (.bool a4))
        have hne : ∀ V : World, (binOp .neq 78 (.agg #[.string a0, .int .i64 a1, .int .i64 a2, .bool a3, .bool a4]) (.agg #[.string a0, .int .i64 a1, .int .i64 a2, .bool a3, .bool a4])).run Try.prog V = .ok (.bool false) V := fun V => by
          have := HFE.out V
          simp [binOp, go_sem, this]
        have cT : ∀ d os l m, CallsIn (Fence.wide.inRound l) m Try.prog 131 #[.agg #[.string a0, .string s1, .int .i64 a2, .bool a3, .bool a4]] (grow (redrawn W2' d) os) fun e w'' => e = .returned (.agg #[.string a0, .int .i64 a1, .int .i64 a2, .bool a3, .bool a4]) ∧ ∃ p : Regrown, w'' = grow (redrawn W2' p.d) p.os := fun d os l m => CallsIn.regrown_of (CallsIn.inRound _ (callsIn_wide.2 (by have := refTell_b a0 s1 a2 a3 a4 (grow (redrawn W2' d) os); rw [HZ.out] at this; exact this)))
        have hd0 : decide ((N : Int) ≤ (j : Int)) = false := decide_eq_false (by omega)
        have hjn : (j : Int) < (N : Int) := by omega
        have hj0 : ¬ ((j : Int) < 0) := by omega
        have hj0' : (0 : Int) ≤ (j : Int) := by omega
        have HI2 := Lib.hid hi2
        generalize hQ : toldPost _ _ _ _ _ = Q
        have HQ := Lib.hid hQ
        clear hjx hjl hopV hop2 hi2 hBV hVl hkb hcells hQ ho hr2 hh hrow htw
        gi_wp2_with fail
        refine wpIn_region_below_ndT (by kernel_rfl) (by kernel_rfl) (by kernel_rfl) ?_
        repeat (quiet_step_in (first | exact ⟨fun _ => by omega, cT _ _ _ _⟩ | exact cT _ _ _ _))
        refine wpQuietIn_nil ?_
        intro _ hw'
        obtain ⟨⟨dq, osq⟩, hw''⟩ := hw'
        obtain ⟨w6, hw6⟩ : ∃ V, V = grow (redrawn W2' dq) osq := ⟨_, rfl⟩
        have hb26 : Below W2'.heap.size W2' w6 := by rw [hw6]; exact below_regrown W2' dq osq
        have hi6 := HI2.out.later hb26
        subst hw''
        rw [← hw6]
        have k8 : w6.cell? ⟨b60, 0, none⟩ = some (.int .i64 j) := cell_of hi6.box rfl
        have z8 : w6.frozen? ⟨b60, 0, none⟩ = false := free_of hi6.box _
        have HI8 := Lib.hid (And.intro hi6 hb26)
        clear k6 k3 kp g0 g1 g2 g3 g4 e0 e1 e2 e3 e4 hne cT hd0 hw6 hb26 hi6
        gi_wp2_with fail
        rw [← HQ.out]
        have hb6 := HI8.out.1.at'
        have hl6 := HI8.out.1.low
        have hjj : ((j : Int) + 1) = ((j + 1 : Nat) : Int) := by omega
        have hset : W0.heap.size ≤ b60 ∧ ¬ (T b60 ∨ b60 = b60 + 1 ∨ b60 = b60 + 1 + 1) := ⟨by omega, fun e => by rcases e with e | e | e; (have := hl6 _ e; omega); omega; omega⟩
        rw [hjj]
        refine ⟨(KeptR.of HI8.out.2).join (only_setCell _ _ b60 _ _ hset), ?_⟩
        show TlI W0 _ b60 T (pre ++ [x]).length
        rw [List.length_append, List.length_singleton, HX.out.2.2]
        exact ⟨HI8.out.1.below.setCell (p := ⟨b60, 0, none⟩) (by show W0.heap.size ≤ b60; omega) _, heap_setCell_here _ HI8.out.1.box, hl6, hb6⟩
      rintro T xs V hS hi hD
      have hS' : xs = d.files := hS
      subst hS'
      have hi' : TlI W0 V b60 T N := by rw [← HN.out.1]; exact hi
      rw [H50.out.2.2.1] at hD
      have htw := (HW0.out.later hi'.below).mark hD (fun k hk => by have := HW0.out.marks.lt k hk; have := H50.out.2.2.2; omega) (by have := H50.out.2.2.2; have := HW0.out.below.size; have := (Array.getElem?_eq_some_iff.1 HW0.out.box4).1; omega)
      obtain ⟨oa, c, ob, m, hh, hrow⟩ := htw.cells
      rw [HN.out.1] at hh
      have k6 : V.cell? ⟨b60, 0, none⟩ = some (.int .i64 N) := cell_of hi'.box rfl
      have k3 : V.cell? ⟨b3, 0, none⟩ = some (.pointer (some ⟨p, 0, none⟩)) := cell_of htw.box3 rfl
      have kp : V.cell? ⟨p, 0, none⟩ = some (.slice oa N c) := cell_of hh rfl
      have HV := Lib.hid htw
      clear hS hi hi' hh hrow hD hst htw
      gi_upto_region 24 with fail
      gi_cut [109] from 103 (fun s109 wx => s109 = .bool false ∧ ∃ k, wx = V.drewN k)
      case first =>
        refine wpIn_wide.2 (wp_only ?_)
        go_quiet (fail)
        all_goals
          go_wp2_with fail
          go_meet
          exact ⟨rfl, _, rfl⟩
      obtain ⟨rfl, kd0, hwc⟩ := hcut
      obtain ⟨W1, hW1⟩ : ∃ X, X = V.drewN kd0 := ⟨_, rfl⟩
      rw [hwc, ← hW1]
      have HW1 := Lib.hid (HV.out.later (show Below V.heap.size V W1 by rw [hW1]; exact ⟨rfl, rfl, rfl, Nat.le_refl _, fun _ _ => rfl⟩))
      rw [H50.out.2.2.1]
      clear hwc hW1 k6 k3 kp HV
      gi_wp2_with fail
      rw [roundsIn_succ]
      gi_wp2_with fail
      obtain ⟨w51, hw5⟩ : ∃ V : World, V = W1.alloc (.cells #[.int .i64 0] 3) := ⟨_, rfl⟩
      obtain ⟨b61, hb6⟩ : ∃ b, b = W1.heap.size := ⟨_, rfl⟩
      have h66 : w51.heap[b61]? = some (.cells #[.int .i64 (0 : Nat)] 3 (0, 0)) := by rw [hw5, hb6]; exact alloc_cells _ _ _
      have hb45 : Below W1.heap.size W1 w51 := by rw [hw5]; exact (Below.refl _ _).alloc (Nat.le_refl _) _
      have hs5 : w51.heap.size = b61 + 1 := by rw [hw5, hb6]; simp
      rw [← hw5, ← hb6]
      have hst := values_told 7 (by omega) vb W1 d.files HW1.out.seq (by have := HN.out.1; omega)
      have H51 := Lib.hid (And.intro h66 (And.intro hb45 (And.intro hs5 hb6)))
      clear hw5 hb6 h66 hb45 hs5
      refine wpIn_rangeFunc_told (n := 8) (α := F0) rfl (by omega) (gf := 161) (lb := #[.pointer (some ⟨vb, 0, none⟩)]) rfl trivial (enters_of Try.func161 (by kernel_rfl) rfl) hst H51.out.2.1 (fun _ => rfl)
        (fun T pre V => TlI W1 V b61 T pre.length) (fun _ _ _ _ => False) ?I1 ?Ix1 ?h01 ?round1 ?done1 ?stop1
      case I1 =>
        rintro T pre A B hi ho
        rw [H51.out.2.2.1] at ho
        exact hi.kept ho (fun k hk => by rcases hk with hk | hk | hk; exact hi.low k hk; omega; omega)
      case Ix1 =>
        rintro c T pre A B hf ho
        exact hf
      case h01 =>
        intro T W1' hb hsz hT
        rw [H51.out.2.2.1] at hT
        exact ⟨H51.out.2.1.trans (hb.mono H51.out.2.1.size), (hb.block b61 (Array.getElem?_eq_some_iff.1 H51.out.1).1).trans H51.out.1, fun k hk => by have := (hT k hk).1; omega, H51.out.2.2.2⟩
      case stop1 =>
        rintro T c0 pre V hS hf hD
        exact hf.elim
      case round1 =>
        rintro T pre x Wp V hT hrec hdef hip hop hszp hgv hlt K hK
        rw [H51.out.2.2.1] at hT hrec hdef hK hszp
        obtain ⟨j, hj⟩ : ∃ j, pre.length = j := ⟨_, rfl⟩
        have hgv' : d.files[pre.length]? = some x := hgv
        rw [hj] at hgv' hip hlt
        obtain ⟨hjl, hjx⟩ := List.getElem?_eq_some_iff.1 hgv'
        have hxm : x ∈ d.files := by rw [← hjx]; exact List.getElem_mem _
        obtain ⟨a0, ha0⟩ : ∃ a : ByteArray, a = ⟨x.name.toArray⟩ := ⟨_, rfl⟩
        obtain ⟨s1, hs1⟩ : ∃ a : ByteArray, a = ⟨x.bytes.toArray⟩ := ⟨_, rfl⟩
        obtain ⟨a1, ha1⟩ : ∃ a : Int, a = (x.bytes.length : Int) := ⟨_, rfl⟩
        obtain ⟨a2, ha2⟩ : ∃ a : Int, a = (x.lasts : Int) := ⟨_, rfl⟩
        obtain ⟨a3, ha3⟩ : ∃ a, a = x.there := ⟨_, rfl⟩
        obtain ⟨a4, ha4⟩ : ∃ a, a = x.named := ⟨_, rfl⟩
        have hz := HN.out.2.2.2.2.1 x hxm
        have hnm := name_len (HN.out.2.2.2.2.2 x hxm)
        have hsn : a0.size ≤ maxLen := by
          rw [ha0]
          show x.name.toArray.size ≤ maxLen
          unfold maxLen
          simp
          omega
        have hs1z : (s1.size : Int) = a1 := by rw [hs1, ha1]; rfl
        have hfe := file_eq a0 a1 a2 a3 a4 hsn (by rw [ha1]; exact wf_smallT (by omega) (by omega)) (by rw [ha2]; exact wf_smallT (by omega) (by omega))
        have hfc : encF x = #[.agg #[.string a0, .int .i64 a1, .int .i64 a2, .bool a3, .bool a4]] := by
          unfold encF fileV
          rw [ha0, ha1, ha2, ha3, ha4]
        have hrf : rfFile x = [.string a0, .string s1, .int .i64 a2, .bool a3, .bool a4] := by
          unfold rfFile
          rw [ha0, hs1, ha2, ha3, ha4]
        rw [hfc]
        obtain ⟨V', hV'⟩ : ∃ V', V' = V.alloc (.cells #[.string a0, .int .i64 a1, .int .i64 a2, .bool a3, .bool a4] 78) := ⟨_, rfl⟩
        obtain ⟨B, hB⟩ : ∃ b, b = V.heap.size := ⟨_, rfl⟩
        have hbV : Below V.heap.size V V' := by rw [hV']; exact (Below.refl _ _).alloc (Nat.le_refl _) _
        have hBx : V'.heap[B]? = some (.cells #[.string a0, .int .i64 a1, .int .i64 a2, .bool a3, .bool a4] 78 (0, 0)) := by rw [hV', hB]; exact alloc_cells _ _ _
        have hVl : b61 + 2 < V.heap.size := by
          obtain ⟨r, hr⟩ := hrec
          exact (Array.getElem?_eq_some_iff.1 hr).1
        have HK := Lib.hid hK
        have HI := Lib.hid hip
        have HOP := Lib.hid (And.intro hop (And.intro hszp (And.intro (fun k hk => (hT k hk).1) hVl)))
        have HVB := Lib.hid (And.intro hbV (And.intro hBx hB))
        have HX := Lib.hid (And.intro (show ∃ h : j < d.files.length, d.files[j] = x from ⟨hjl, hjx⟩) (And.intro hrf hj))
        have HZ := Lib.hid hs1z
        have HFE := Lib.hid hfe
        clear hT hrec hdef hip hop hszp hgv hgv' hlt hK hjl hjx hxm ha0 hs1 ha1 ha2 ha3 ha4 hz hnm hsn hs1z hfe hfc hrf hbV hBx hVl hj hst
        gi_wp2_with fail
        rw [← hV', ← hB]
        clear hV' hB
        refine HK.out _ _ (KeptR.of HVB.out.1) ?_
        intro W2' ho hr2
        have hopV : Only T Wp V' := HOP.out.1.trans (Only.of_below HVB.out.1 (Nat.le_refl _) (fun _ => False)) (fun _ _ hf => hf.elim)
        have hop2 : Only (fun k => T k ∨ k = b61 + 2) Wp W2' := (hopV.mono (fun _ _ h => .inl h)).trans (ho.mono (fun k _ h => .inr h)) (fun _ _ h => h)
        have hi2 : TlI W1 W2' b61 T j := HI.out.kept hop2 (fun k hk => by rcases hk with hk | hk; (have := HOP.out.2.2.1 k hk; omega); omega)
        have hBV := HVB.out.2.2
        have hVl := HOP.out.2.2.2
        have hkb : W2'.heap[B]? = some (.cells #[.string a0, .int .i64 a1, .int .i64 a2, .bool a3, .bool a4] 78 (0, 0)) := (ho.block B (Array.getElem?_eq_some_iff.1 HVB.out.2.1).1 (fun e => by omega)).trans HVB.out.2.1
        have htw := HW1.out.later hi2.below
        obtain ⟨oa, c, ob, m, hh, hrow⟩ := htw.cells
        rw [HN.out.1] at hh hrow
        obtain ⟨hjl, hjx⟩ := HX.out.1
        have hjN : j < N := by have := HN.out.1; omega
        obtain ⟨g, off, rfl⟩ := hrow.addr (by omega)
        have hcells : ∀ i, i < 5 → ∀ u, [.string a0, .string s1, .int .i64 a2, .bool a3, .bool a4][i]? = some u → W2'.cell? ⟨g, off + j * 5 + i, none⟩ = some u := fun i hi u hu => rf_cell hrow hjl hi (by rw [hjx, HX.out.2.1]; exact hu)
        have k6 := cell_regrown (cell_of hi2.box rfl : W2'.cell? ⟨b61, 0, none⟩ = some (.int .i64 j))
        have k3 := cell_regrown (cell_of htw.box3 rfl : W2'.cell? ⟨b3, 0, none⟩ = some (.pointer (some ⟨p, 0, none⟩)))
        have kp := cell_regrown (cell_of hh rfl : W2'.cell? ⟨p, 0, none⟩ = some (.slice (some ⟨g, off, none⟩) N c))
        have g0 := cell_regrown (hcells 0 (by omega) _ rfl)
        have g1 := cell_regrown (hcells 1 (by omega) _ rfl)
        have g2 := cell_regrown (hcells 2 (by omega) _ rfl)
        have g3 := cell_regrown (hcells 3 (by omega) _ rfl)
        have g4 := cell_regrown (hcells 4 (by omega) _ rfl)
        rw [Nat.add_zero] at g0
        have e0 := cell_regrown (cell_of hkb rfl : W2'.cell? ⟨B, 0, none⟩ = some (.string a0))
        have e1 := cell_regrown (cell_of hkb rfl : W2'.cell? ⟨B, 1, none⟩ = some (.int .i64 a1))
        have e2 := cell_regrown (cell_of hkb rfl : W2'.cell? ⟨B, 2, none⟩ = some (.int .i64 a2))
        have e3 := cell_regrown (cell_of hkb rfl : W2'.cell? ⟨B, 3, none⟩ = some (.bool a3))
        have e4 := cell_regrown (cell_of hkb rfl : W2'.cell? ⟨B, 4, none⟩ = some (.bool a4))
        have hne : ∀ V : World, (binOp .neq 78 (.agg #[.string a0, .int .i64 a1, .int .i64 a2, .bool a3, .bool a4]) (.agg #[.string a0, .int .i64 a1, .int .i64 a2, .bool a3, .bool a4])).run Try.prog V = .ok (.bool false) V := fun V => by
          have := HFE.out V
          simp [binOp, go_sem, this]
        have cT : ∀ d os l m, CallsIn (Fence.wide.inRound l) m Try.prog 131 #[.agg #[.string a0, .string s1, .int .i64 a2, .bool a3, .bool a4]] (grow (redrawn W2' d) os) fun e w'' => e = .returned (.agg #[.string a0, .int .i64 a1, .int .i64 a2, .bool a3, .bool a4]) ∧ ∃ p : Regrown, w'' = grow (redrawn W2' p.d) p.os := fun d os l m => CallsIn.regrown_of (CallsIn.inRound _ (callsIn_wide.2 (by have := refTell_b a0 s1 a2 a3 a4 (grow (redrawn W2' d) os); rw [HZ.out] at this; exact this)))
        have hd0 : decide ((N : Int) ≤ (j : Int)) = false := decide_eq_false (by omega)
        have hjn : (j : Int) < (N : Int) := by omega
        have hj0 : ¬ ((j : Int) < 0) := by omega
        have hj0' : (0 : Int) ≤ (j : Int) := by omega
        have HI2 := Lib.hid hi2
        generalize hQ : toldPost _ _ _ _ _ = Q
        have HQ := Lib.hid hQ
        clear hjx hjl hopV hop2 hi2 hBV hVl hkb hcells hQ ho hr2 hh hrow htw
        gi_wp2_with fail
        refine wpIn_region_below_ndT (by kernel_rfl) (by kernel_rfl) (by kernel_rfl) ?_
        repeat (quiet_step_in (first | exact ⟨fun _ => by omega, cT _ _ _ _⟩ | exact cT _ _ _ _))
        refine wpQuietIn_nil ?_
        intro _ hw'
        obtain ⟨⟨dq, osq⟩, hw''⟩ := hw'
        obtain ⟨w6, hw6⟩ : ∃ V, V = grow (redrawn W2' dq) osq := ⟨_, rfl⟩
        have hb26 : Below W2'.heap.size W2' w6 := by rw [hw6]; exact below_regrown W2' dq osq
        have hi6 := HI2.out.later hb26
        subst hw''
        rw [← hw6]
        have k8 : w6.cell? ⟨b61, 0, none⟩ = some (.int .i64 j) := cell_of hi6.box rfl
        have z8 : w6.frozen? ⟨b61, 0, none⟩ = false := free_of hi6.box _
        have HI8 := Lib.hid (And.intro hi6 hb26)
        clear k6 k3 kp g0 g1 g2 g3 g4 e0 e1 e2 e3 e4 hne cT hd0 hw6 hb26 hi6
        gi_wp2_with fail
        rw [← HQ.out]
        have hb6 := HI8.out.1.at'
        have hl6 := HI8.out.1.low
        have hjj : ((j : Int) + 1) = ((j + 1 : Nat) : Int) := by omega
        have hset : W1.heap.size ≤ b61 ∧ ¬ (T b61 ∨ b61 = b61 + 1 ∨ b61 = b61 + 1 + 1) := ⟨by omega, fun e => by rcases e with e | e | e; (have := hl6 _ e; omega); omega; omega⟩
        rw [hjj]
        refine ⟨(KeptR.of HI8.out.2).join (only_setCell _ _ b61 _ _ hset), ?_⟩
        show TlI W1 _ b61 T (pre ++ [x]).length
        rw [List.length_append, List.length_singleton, HX.out.2.2]
        exact ⟨HI8.out.1.below.setCell (p := ⟨b61, 0, none⟩) (by show W1.heap.size ≤ b61; omega) _, heap_setCell_here _ HI8.out.1.box, hl6, hb6⟩
      rintro T xs V hS hi hD
      have hS' : xs = d.files := hS
      subst hS'
      have hi' : TlI W1 V b61 T N := by rw [← HN.out.1]; exact hi
      rw [H51.out.2.2.1] at hD
      have htw := (HW1.out.later hi'.below).mark hD (fun k hk => by have := HW1.out.marks.lt k hk; have := H51.out.2.2.2; omega) (by have := H51.out.2.2.2; have := HW1.out.below.size; have := (Array.getElem?_eq_some_iff.1 HW1.out.box4).1; omega)
      obtain ⟨oa, c, ob, m, hh, hrow⟩ := htw.cells
      rw [HN.out.1] at hh
      have k6 : V.cell? ⟨b61, 0, none⟩ = some (.int .i64 N) := cell_of hi'.box rfl
      have k3 : V.cell? ⟨b3, 0, none⟩ = some (.pointer (some ⟨p, 0, none⟩)) := cell_of htw.box3 rfl
      have kp : V.cell? ⟨p, 0, none⟩ = some (.slice oa N c) := cell_of hh rfl
      have HV := Lib.hid htw
      clear hS hi hi' hh hrow hD hst htw
      gi_upto_region 24 with fail
      gi_cut [109] from 103 (fun s109 wx => s109 = .bool false ∧ ∃ k, wx = V.drewN k)
      case first =>
        refine wpIn_wide.2 (wp_only ?_)
        go_quiet (fail)
        all_goals
          go_wp2_with fail
          go_meet
          exact ⟨rfl, _, rfl⟩
      obtain ⟨rfl, kd1, hwc⟩ := hcut
      obtain ⟨W2, hW2⟩ : ∃ X, X = V.drewN kd1 := ⟨_, rfl⟩
      rw [hwc, ← hW2]
      have HW2 := Lib.hid (HV.out.later (show Below V.heap.size V W2 by rw [hW2]; exact ⟨rfl, rfl, rfl, Nat.le_refl _, fun _ _ => rfl⟩))
      rw [H51.out.2.2.1]
      clear hwc hW2 k6 k3 kp HV
      gi_wp2_with fail
      rw [roundsIn_succ]
      gi_wp2_with fail
      refine (callsIn_wide.2 (steps_b HW2.out.disk)).mono ?_
      rintro e w9 ⟨rfl, hb9⟩
      rw [HN.out.2.2.2.1, HN.out.2.1]
      have htw := HW2.out.later hb9
      obtain ⟨oa, c, ob, m, hh, hrow⟩ := htw.cells
      rw [HN.out.2.2.2.1, HN.out.2.1] at hh
      have c3 : w9.cell? ⟨b3, 0, none⟩ = some (.pointer (some ⟨p, 0, none⟩)) := cell_of htw.box3 rfl
      have k1 : w9.cell? ⟨p, 1, none⟩ = some (.slice ob FN m) := cell_of hh rfl
      have k2 : w9.cell? ⟨p, 2, none⟩ = some (.int .i64 ST) := cell_of hh rfl
      have c4 : w9.cell? ⟨b4, 0, none⟩ = some (.bool false) := cell_of htw.box4 rfl
      have z4 : w9.frozen? ⟨b4, 0, none⟩ = false := free_of htw.box4 _
      have HT := Lib.hid htw
      clear hh hrow htw hb9
      gi_wp2_with fail
      have hr3 : (w9.setCell ⟨b4, 0, none⟩ (.bool true)).heap[b4]? = some (.cells #[.bool true] 4 (0, 0)) := heap_setCell_here _ HT.out.box4
      have hmk : MarksAt (w9.setCell ⟨b4, 0, none⟩ (.bool true)) [b61 + 1, b60 + 1] := HT.out.marks.setCell _ _
      refine leaves_marks [b61 + 1, b60 + 1] _ hmk (fun W' ho => ?_)
      have hne : ¬ b4 ∈ [b61 + 1, b60 + 1] := fun hm => by have := (HT.out.new b4 hm).2; omega
      have hcr := cell_of (i := 0) (v := .bool true) ((ho.block b4 (Array.getElem?_eq_some_iff.1 hr3).1 hne).trans hr3) rfl
      have hbz : Below w.heap.size w (w9.setCell ⟨b4, 0, none⟩ (.bool true)) := HT.out.below.setCell (p := ⟨b4, 0, none⟩) HT.out.b4w _
      have hbz2 : Below w.heap.size w W' := hbz.trans (ho.below (fun i hi hm => by have := (HT.out.new i hm).1; omega) hbz.size)
      exact ⟨.bool true, by simp [results, Try.results67, go_sem, hcr], rfl, hbz2⟩
end Go.Proofs.Ytmkjejngnahpeaa
