/- The texts Fp in one. -/
import Derived.Test.YtmkjejngnahpeaaB6
/- Disk: Copy. -/
namespace Go.Proofs.Ytmkjejngnahpeaa
open Go Go.Maps Go.RowKit Go.Shelf
open Go.Proofs (encStr)
attribute [local go_sem] Oper.semAt_some

theorem clone_cell {W1 W2 : World} {gb : Nat} {v u a b c : Value} {l : List UInt8} (h : W1.heap[gb]? = some (.cells #[u, a, b, c] 178 (0, 0))) (hn : NewBytes W1 W2 v l) : W2.cell? ⟨gb, 0, none⟩ = some u ∧ W2.frozen? ⟨gb, 0, none⟩ = false := by
  have h2 := (hn.2.2.block gb (Array.getElem?_eq_some_iff.1 h).1).trans h
  exact ⟨cell_of h2 rfl, free_of h2 _⟩
theorem copy_write {w0 W W1 W2 : World} {S : Nat → Prop} {q mb : Nat} {fv : Value} {L : List Fl} {d : Dk} {tb qo mo n : Nat} {fvo v : Value} {pre : List (FlOf L)} {x : FlOf L} {D : DataW Unit} {o : Obj} (h : CopyPre w0 W S q mb fv L d tb qo mo fvo pre) (hW1 : W1 = W.alloc o) (hnb : NewBytes W1 W2 v x.1.f.bytes)
    (ht : tb < w0.heap.size ∧ qo < w0.heap.size ∧ mo < w0.heap.size ∧ tb ≠ mo ∧ qo ≠ mo) (hown : W.ownsMap Try.prog 9 ptrElem mo n D) (hn : n ≤ pre.length) (hlen : pre.length < L.length) {gb : Nat} (hgb : gb = W.heap.size) :
    (W2.setCell ⟨gb, 0, none⟩ v).cell? ⟨tb, 0, none⟩ = some (.pointer (some ⟨qo, 0, none⟩)) ∧ (W2.setCell ⟨gb, 0, none⟩ v).cell? ⟨qo, 0, none⟩ = some (.map (some mo)) ∧
    ∃ W4, (Instr.mapUpdate 120 (.map (some mo)) (encStr x.1.f.name) (.pointer (some ⟨gb, 0, none⟩))).run Try.prog (W2.setCell ⟨gb, 0, none⟩ v) = .ok () W4 ∧
      Hid (W4.ownsMap Try.prog 9 ptrElem mo (n + 1) (D.put (.string x.1.f.name) (.lit (.int .i64 gb))) ∧ (W2.setCell ⟨gb, 0, none⟩ v).grownBy W4 (some mo)) := by
  have hs1 : W1.heap.size = W.heap.size + 1 := by rw [hW1]; simp
  have hsz := h.only.size
  have hs2 := hnb.2.2.size
  have hk : ∀ k, k < W.heap.size → (W2.setCell ⟨gb, 0, none⟩ v).heap[k]? = W.heap[k]? := fun k hk => by
    have h1 : W1.heap[k]? = W.heap[k]? := by rw [hW1]; exact Below.heap_alloc _ _ k hk
    exact (Below.heap_setCell _ _ _ _ (fun e => by dsimp only at e; omega)).trans ((hnb.2.2.block k (by omega)).trans h1)
  have hnm := h.old.names x.1.f (by rw [← h.old.files]; exact List.mem_map_of_mem x.2)
  have hkey : keyOf Try.prog 9 (encStr x.1.f.name) = some (.string x.1.f.name) := by
    have h3 := WideMaps.keyOf_string_mk (P := Try.prog) Try.underlying9 (s := ⟨x.1.f.name.toArray⟩) (by
      simp only [nameOk, Bool.and_eq_true, decide_eq_true_eq] at hnm
      have h4 : (⟨x.1.f.name.toArray⟩ : ByteArray).size = x.1.f.name.length := rfl
      unfold maxLen
      omega)
    exact h3
  have hLl : L.length ≤ 4096 := by
    have h1 := h.old.few
    rw [← h.old.files, List.length_map] at h1
    exact h1
  have hown3 := ownsMap_kept hown (w' := W2.setCell ⟨gb, 0, none⟩ v) (hk mo (by omega))
  obtain ⟨W4, hrun, ho4, hg4⟩ := hown3.update (t := 120) (string_keyed Try.underlying9) Try.underlying120 (by unfold maxLen; omega) hkey (ptrElem_mk gb)
  exact ⟨cell_of ((hk tb (by omega)).trans h.box) rfl, cell_of ((hk qo (by omega)).trans h.head) rfl, W4, hrun, Lib.hid ⟨ho4, hg4⟩⟩
set_option maxHeartbeats 400000 in
theorem mapsAll_b (mb : Option Nat) (w : World) : Calls Try.prog 117 #[.map mb] w fun e w' => e = .returned (.func (.func 162) #[] #[.pointer (some ⟨w.heap.size, 0, none⟩)]) ∧ w' = w.alloc (.cells #[.map mb] 120) := by
  go_enter Try.func117, Try.ntmps117
  go_wp2_with fail
  go_ret
  exact ⟨rfl, rfl⟩
set_option maxRecDepth 100000 in
set_option maxHeartbeats 4000000 in
theorem copy_b {w : World} {S : Nat → Prop} {q : Nat} {d : Dk} (h : DiskAt w S q d) (hfm : d.fates.length ≤ 1000000000) :
    Calls Try.prog 43 #[.pointer (some ⟨q, 0, none⟩)] w fun e w' => ∃ qo, e = .returned (.pointer (some ⟨qo, 0, none⟩)) ∧ DiskAt w' (fun k => w.heap.size ≤ k ∧ k < w'.heap.size) qo d ∧ Below w.heap.size w w' := by
  obtain ⟨mb, fv, L, h⟩ := h
  refine (callsIn_wide (n := 8)).1 ?_
  have f1 : Fence.wide.fn 108 := trivial
  have f2 : Fence.wide.fn 90 := trivial
  have f3 : Fence.wide.fn 117 := trivial
  have f4 : Fence.wide.fn 113 := trivial
  obtain ⟨oa, cap, rfl, _⟩ := h.fates.shape
  obtain ⟨st, hst⟩ : ∃ st, d.steps = st := ⟨_, rfl⟩
  obtain ⟨fn, hfn⟩ : ∃ n, d.fates.length = n := ⟨_, rfl⟩
  have hh := h.head
  rw [hst, hfn] at hh
  have c1 : w.cell? ⟨q, 1, none⟩ = some (.slice oa fn cap) := cell_of hh rfl
  have c2 : w.cell? ⟨q, 2, none⟩ = some (.int .i64 st) := cell_of hh rfl
  have H := Lib.hid h
  have HST := Lib.hid (And.intro hst hfn)
  have HFM := Lib.hid hfm
  have HCF : Hid (∀ W : World, Below w.heap.size w W → Calls Try.prog 90 #[.slice oa fn cap] W fun e w' => ∃ v, e = .returned v ∧ rowAt w' 99 2 v fn (fateCells d.fates) ∧ (∀ k, v.ownBlock = some k → W.heap.size ≤ k) ∧ Below W.heap.size W w') := Lib.hid (fun W hW => by
    have hf := h.fates
    rw [hfn] at hf
    exact cloneFate_b hfn (hf.kept (fun k hk => hW.block k (hf.lt k hk))).read (by omega))
  clear h hh hst hfn hfm
  refine callsIn_of_wp_marks Try.func43 rfl trivial ?_ rfl
  simp only [Try.ntmps43, List.size_toArray, List.length_cons, List.length_nil, Nat.reduceAdd, Nat.reduceSub, Array.replicate_succ, Array.replicate_zero, List.push_toArray, List.append_toArray, List.nil_append, List.cons_append]
  gi_wp2_with fail
  refine (callsIn_wide.2 (none_b H.out)).mono ?_
  rintro e w' ⟨rfl, rfl⟩
  have hmm := @run_makeMap Try.prog
  gi_wp2_with fail
  have hmix : Try.prog.follows .mixedOrders = true := by kernel_rfl
  have hql : q < w'.heap.size := H.out.low q H.out.q_mem
  have hS : w'.cell? ⟨q, 1, none⟩ = some (.slice oa fn cap) ∧ w'.cell? ⟨q, 2, none⟩ = some (.int .i64 st) ∧ Below w'.heap.size w' w' ∧ q < w'.heap.size := ⟨c1, c2, Below.refl _ _, hql⟩
  clear c1 c2
  have s2 : (w'.drew.alloc (.cells #[.pointer none] 37)).heap[w'.heap.size]? = some (.cells #[.pointer none] 37 (0, 0)) := alloc_cells w'.drew _ _
  have s3 : ((w'.drew.alloc (.map #[] 0)).alloc (.cells #[.pointer none] 37)).heap[w'.heap.size + 1]? = some (.cells #[.pointer none] 37 (0, 0)) := by
    have := alloc_cells (w'.drew.alloc (.map #[] 0)) #[.pointer none] 37
    simpa using this
  have s4 : ((w'.drew.alloc (.cells #[.pointer none] 37)).alloc (.map #[] 0)).heap[w'.heap.size]? = some (.cells #[.pointer none] 37 (0, 0)) := (Below.heap_alloc _ _ _ (by simp)).trans s2
  have m1 : (w'.drew.alloc (.map #[] 0)).heap[w'.heap.size]? = some (.map #[] 0) := heap_alloc_new w'.drew _
  have m3 : ((w'.drew.alloc (.map #[] 0)).alloc (.cells #[.pointer none] 37)).heap[w'.heap.size]? = some (.map #[] 0) := (Below.heap_alloc _ _ _ (by simp)).trans m1
  have m4 : ((w'.drew.alloc (.cells #[.pointer none] 37)).alloc (.map #[] 0)).heap[w'.heap.size + 1]? = some (.map #[] 0) := by
    have := heap_alloc_new (w'.drew.alloc (.cells #[.pointer none] 37)) (.map #[] 0)
    simpa using this
  gi_cut [3, 9, 14, 20] from 10 (fun s3 s9 s14 s20 wx => ∃ tb qo mo oa5 c5, s3 = .pointer (some ⟨tb, 0, none⟩) ∧ s9 = .map (some mo) ∧ s14 = .slice oa5 fn c5 ∧ s20 = .pointer (some ⟨qo, 0, none⟩) ∧ Hid (CopyStart w' wx d tb qo mo (.slice oa5 fn c5)))
  case first =>
   --(
   refine wpIn_wide.2 (wp_only ?_)
   go_region_held3 (fun W => W.cell? ⟨q, 1, none⟩ = some (.slice oa fn cap) ∧ W.cell? ⟨q, 2, none⟩ = some (.int .i64 st) ∧ Below w'.heap.size w' W ∧ q < w'.heap.size)
     (first | assumption | exact cs_drew (by assumption) | exact cs_alloc _ (by assumption) | exact cs_of (by assumption) (by assumption) | exact cs_set (by omega) (by assumption) | exact cs_of hS (below2 _ _ (by assumption)) | exact cs_of hS (below3 _ _ _ (by assumption)))
     (first | (go_at_call 90; refine (HCF.out _ (cs_below (by assumption))).mono ?_; rintro e w5 ⟨v, rfl, hr5, hv5, hb5⟩; obtain ⟨oa5, c5, rfl, _⟩ := hr5.shape; have hb05 : Below w'.heap.size w' w5 := cs_call (by assumption) hb5; (first | (have kb := keep_box hb5 s3; have kb1 := kb.2.1; have kb2 := kb.2.2.1; have kb3 := kb.2.2.2.1; have kb4 := kb.2.2.2.2; have HT := Lib.hid kb.1; clear kb) | (have kb := keep_box hb5 s4; have kb1 := kb.2.1; have kb2 := kb.2.2.1; have kb3 := kb.2.2.2.1; have kb4 := kb.2.2.2.2; have HT := Lib.hid kb.1; clear kb) | (have kb := keep_box hb5 s2; have kb1 := kb.2.1; have kb2 := kb.2.2.1; have kb3 := kb.2.2.2.1; have kb4 := kb.2.2.2.2; have HT := Lib.hid kb.1; clear kb) | skip); (first | (have HM := Lib.hid (keep_map hb5 m3)) | (have HM := Lib.hid (keep_map hb5 m4)) | (have HM := Lib.hid (keep_map hb5 m1)) | skip); have HV5 := Lib.hid (And.intro hr5 (And.intro hv5 hb5)); clear hr5 hv5))
   all_goals
     go_wp2_with fail
     go_meet
     refine ⟨_, _, _, _, _, rfl, rfl, rfl, rfl, Lib.hid ?_⟩
     have hs5 := HV5.out.2.2.size
     have hv5 := HV5.out.2.1
     simp only [World.size_alloc, size_drew] at hs5 hv5
     have hr5 := HV5.out.1
     rw [← HST.out.2] at hr5 ⊢
     rw [← HST.out.1]
     refine copy_start ?_ ?_ ?_ ?_ ?_ ⟨by omega, by omega, by omega, fun k hk => by have := hv5 k (by rw [HST.out.2] at hk; exact hk); omega⟩
     · first
         | (refine heap_setCell_here _ (cs := #[.pointer none]) ?_; simp only [World.alloc, Array.getElem?_push, Array.size_push]; (repeat (first | rw [if_pos (by omega)] | rw [if_pos trivial] | rw [if_neg (by omega)])); first | done | rfl | exact HT.out)
         | (simp only [World.alloc, Array.getElem?_push, Array.size_push]; (repeat (first | rw [if_pos (by omega)] | rw [if_pos trivial] | rw [if_neg (by omega)])); first | done | rfl | exact HT.out)
     · first
         | (refine (Below.heap_setCell _ _ _ _ (fun e => by dsimp only at e; omega)).trans ?_; simp only [World.alloc, Array.getElem?_push, Array.size_push]; (repeat (first | rw [if_pos (by omega)] | rw [if_pos trivial] | rw [if_neg (by omega)])); first | done | rfl)
         | (simp only [World.alloc, Array.getElem?_push, Array.size_push]; (repeat (first | rw [if_pos (by omega)] | rw [if_pos trivial] | rw [if_neg (by omega)])); first | done | rfl)
     · first
         | (refine (Below.heap_setCell _ _ _ _ (fun e => by dsimp only at e; omega)).trans ?_; simp only [World.alloc, Array.getElem?_push, Array.size_push]; (repeat (first | rw [if_pos (by omega)] | rw [if_pos trivial] | rw [if_neg (by omega)])); first | done | rfl | exact HM.out)
         | (simp only [World.alloc, Array.getElem?_push, Array.size_push]; (repeat (first | rw [if_pos (by omega)] | rw [if_pos trivial] | rw [if_neg (by omega)])); first | done | rfl | exact HM.out)
     · refine hr5.kept (fun k hk => ?_)
       have h1 := hr5.lt k hk
       have h2 := hv5 k (by rw [HST.out.2] at hk; exact hk)
       first
         | (refine (Below.heap_setCell _ _ _ _ (fun e => by dsimp only at e; omega)).trans ?_; simp only [World.alloc, Array.getElem?_push, Array.size_push]; (repeat (first | rw [if_pos (by omega)] | rw [if_pos trivial] | rw [if_neg (by omega)])))
         | (simp only [World.alloc, Array.getElem?_push, Array.size_push]; (repeat (first | rw [if_pos (by omega)] | rw [if_pos trivial] | rw [if_neg (by omega)])))
     · first
         | (refine Below.setCell (p := ⟨_, 0, none⟩) ?_ (by dsimp only; omega) _; first | exact below2 _ _ hb05 | exact hb05.alloc hb05.size _)
         | exact below2 _ _ hb05
         | exact below3 _ _ _ hb05
         | exact hb05.alloc hb05.size _
   --)
  case rest =>
    obtain ⟨tb, qo, mo, oa5, c5, rfl, rfl, rfl, rfl, HCS⟩ := hcut
    have HO := Lib.hid (H.out.below HCS.out.below)
    have c0 : wc.cell? ⟨q, 0, none⟩ = some (.map (some mb)) := cell_of HO.out.head rfl
    clear hmm hS s2 s3 s4 m1 m3 m4
    gi_wp2_with (gi_at_call 117; refine (callsIn_wide.2 (mapsAll_b _ _)).mono ?_; rintro e w2 ⟨rfl, hw2⟩)
    obtain ⟨vb, hvb⟩ : ∃ vb, vb = wc.heap.size := ⟨_, rfl⟩
    have hvc : w2.heap[vb]? = some (.cells #[.map (some mb)] 120 (0, 0)) := by rw [hw2, hvb]; exact alloc_cells _ _ _
    have hb2 : Below wc.heap.size wc w2 := by rw [hw2]; exact (Below.refl _ _).alloc (Nat.le_refl _) _
    rw [← hw2, ← hvb]
    have HVC := Lib.hid hvc
    have HB2 := Lib.hid hb2
    have hvl : vb < w2.heap.size := (Array.getElem?_eq_some_iff.1 hvc).1
    have hO2 := HO.out.below hb2
    have hdk2 := HCS.out.disk.below hb2
    have HS2 : Hid (∀ k, S k → k < w2.heap.size ∧ k ≠ mo) := Lib.hid (fun k hk => by
      have h1 := H.out.low k hk
      have h2 := HCS.out.ge.2.2.1
      have h3 := HCS.out.below.size
      have h4 := hb2.size
      omega)
    have HT2 : Hid (tb < w2.heap.size ∧ qo < w2.heap.size ∧ mo < w2.heap.size ∧ tb ≠ mo ∧ qo ≠ mo) := Lib.hid (by
      have h1 := (Array.getElem?_eq_some_iff.1 HCS.out.box).1
      have h2 := hb2.size
      refine ⟨by omega, hdk2.low qo (.inl rfl), hdk2.low mo (.inr (.inl rfl)), HCS.out.ne.2.1, fun e => ?_⟩
      have h3 := hdk2.apart
      rw [e] at h3
      simp [diskBlocks] at h3)
    have hLl : L.length ≤ 4096 := by
      have h1 := H.out.few
      rw [← H.out.files, List.length_map] at h1
      exact h1
    obtain ⟨D0, hown0, _, hdic0⟩ := hO2.look
    have hstp := pairs_stops Fence.wide 7 trivial rfl (by omega) vb mb mo _ D0 L hdic0 hO2.nodup w2 (cell_of hvc rfl) hown0 (fun e => by
      have h1 := HCS.out.ge.2.2.1
      have h2 := H.out.low mb (H.out.foot mb (by simp [diskBlocks]))
      omega) HT2.out.2.2.1
    have hpre0 : CopyPre w2 w2 S q mb (.slice oa d.fates.length cap) L d tb qo mo (.slice oa5 fn c5) [] := by
      have hbx := (hb2.block tb (Array.getElem?_eq_some_iff.1 HCS.out.box).1).trans HCS.out.box
      refine ⟨hO2, Only.refl _ _, hbx, hdk2.head, ?_, fun _ => ⟨[], [], ?_, rfl, fun f => by simp⟩⟩
      · obtain ⟨D, ho, _, _⟩ := hdk2.look
        exact ⟨D, 0, Nat.le_refl _, ho⟩
      · refine hdk2.wider (fun k hk => ?_) (fun k hk => hk.2)
        have h1 := hdk2.low k hk
        rcases hk with hk | hk | hk
        · exact ⟨.inl hk, h1⟩
        · exact ⟨.inr (.inl hk), h1⟩
        · exact ⟨.inr (.inr (.inl hk)), h1⟩
    clear hw2 hvb hvc hb2 hO2 hdk2 hown0 hdic0 c0
    refine wpIn_rangeFunc_ownG (n := 8) (α := FlOf L) rfl (by omega) (gf := 162) (lb := #[.pointer (some ⟨vb, 0, none⟩)]) rfl trivial (enters_of Try.func162 (by kernel_rfl) rfl) hstp (fun h k => h.trans k) (fun W l o o' _ h _ hw => WalksBut.put W l o o' h hw) (Below.refl _ _) (fun _ => rfl)
      (fun pre W => CopyPre w2 W S q mb (.slice oa d.fates.length cap) L d tb qo mo (.slice oa5 fn c5) pre) (fun _ _ _ => False) (fun pre W W' row hp hg hr => hp.own (fun k hk => (HS2.out k hk).1) ⟨HT2.out.1, HT2.out.2.1, HT2.out.2.2.1⟩ hg hr) (fun _ => fun _ _ _ _ hs _ _ => hs) hpre0 ?a1 ?assign ?body ?done ?stop
    case assign =>
      intro l x W K hK
      unfold encFl
      gi_wp2
      exact hK
    case stop =>
      rintro D c pre W _ h0 hf _
      exact hf.elim
    case body =>
      intro l pre x W hp hlen
      obtain ⟨D, n, hn, hown, hreal⟩ := hp.next x
      have hxa := hp.old.each x.1 x.2
      obtain ⟨oab, cb, hbv, _⟩ := hxa.row.shape
      obtain ⟨N, hN⟩ : ∃ N, x.1.f.bytes.length = N := ⟨_, rfl⟩
      obtain ⟨lx, hlx⟩ : ∃ l, x.1.f.lasts = l := ⟨_, rfl⟩
      obtain ⟨th, hth⟩ : ∃ t, x.1.f.there = t := ⟨_, rfl⟩
      obtain ⟨nd, hnd⟩ : ∃ t, x.1.f.named = t := ⟨_, rfl⟩
      have hxc := hxa.cells
      rw [hbv, hN, hlx, hth, hnd] at hxc
      have hxr := hxa.row
      have hxs := hxa.size
      rw [hbv, hN] at hxr
      rw [hN] at hxs
      obtain ⟨W1, hW1⟩ : ∃ W1 : World, W1 = W.alloc (.cells #[.slice oab N cb, .int .i64 lx, .bool th, .bool nd] 178) := ⟨_, rfl⟩
      obtain ⟨gb, hgb⟩ : ∃ gb, gb = W.heap.size := ⟨_, rfl⟩
      have hc1 : W1.heap[gb]? = some (.cells #[.slice oab N cb, .int .i64 lx, .bool th, .bool nd] 178 (0, 0)) := by rw [hW1, hgb]; exact alloc_cells _ _ _
      have hb1 : Below W.heap.size W W1 := by rw [hW1]; exact (Below.refl _ _).alloc (Nat.le_refl _) _
      have hxb : x.1.blk < W.heap.size := (Array.getElem?_eq_some_iff.1 hxc).1
      have k0 : W.cell? ⟨x.1.blk, 0, none⟩ = some (.slice oab N cb) := cell_of hxc rfl
      have k1 : W.cell? ⟨x.1.blk, 1, none⟩ = some (.int .i64 lx) := cell_of hxc rfl
      have k2 : W.cell? ⟨x.1.blk, 2, none⟩ = some (.bool th) := cell_of hxc rfl
      have k3 : W.cell? ⟨x.1.blk, 3, none⟩ = some (.bool nd) := cell_of hxc rfl
      have j0 : W1.cell? ⟨x.1.blk, 0, none⟩ = some (.slice oab N cb) := (hb1.cell (p := ⟨x.1.blk, 0, none⟩) hxb).trans k0
      have HC : Hid (Calls Try.prog 113 #[.slice oab N cb] W1 fun e w'' => ∃ v, e = .returned v ∧ NewBytes W1 w'' v x.1.f.bytes) := Lib.hid (clone_b hN (hxr.kept (fun k hk => hb1.block k (hxr.lt k hk))) (by omega))
      have HP := Lib.hid hp
      have HRE := Lib.hid (And.intro hn (And.intro hown hreal))
      have HX := Lib.hid (And.intro hbv (And.intro hN (And.intro hlx (And.intro hth hnd))))
      have HB1 := Lib.hid hb1
      have HC1 := Lib.hid hc1
      have HW1 := Lib.hid hW1
      have HGB := Lib.hid hgb
      have HLEN := Lib.hid hlen
      have HXB := Lib.hid hxb
      clear hp hn hown hreal hbv hN hlx hth hnd hxc hxa hxr hxs hb1 hc1 hpre0 hstp hlen
      gi_wp2
      rw [← hW1, ← hgb]
      clear hW1 hgb k0 k1 k2 k3
      gi_wp2_with (gi_at_call 113; refine (CallsIn.inRound l (callsIn_wide.2 HC.out)).mono ?_; rintro e W2 ⟨v, rfl, hnb⟩; obtain ⟨oav, cv, rfl, _⟩ := hnb.1.shape; have HNB := Lib.hid hnb; obtain ⟨kz, kf⟩ := clone_cell HC1.out hnb; obtain ⟨j1, j2, W4, hmu, HMU⟩ := copy_write HP.out HW1.out hnb HT2.out HRE.out.2.1 HRE.out.1 HLEN.out HGB.out; clear hnb)
      have hgb := HGB.out
      subst hgb
      have hW1 : W1 = W.alloc (.cells #[x.1.bv, .int .i64 x.1.f.lasts, .bool x.1.f.there, .bool x.1.f.named] 178) := by rw [HW1.out, HX.out.1, HX.out.2.1, HX.out.2.2.1, HX.out.2.2.2.1, HX.out.2.2.2.2]
      obtain ⟨hcp, ho⟩ := HP.out.step HS2.out HT2.out HRE.out.1 HRE.out.2.2 hW1 HNB.out rfl HMU.out.2 HMU.out.1 HLEN.out
      have hmo := HT2.out.2.2.1
      exact ⟨⟨ho.size, fun k o hB hk _ => (ho.block k (Array.getElem?_eq_some_iff.1 hk).1 (by omega)).trans hk⟩, WalksBut.only ho, hcp⟩
    case done =>
      rintro D xs W hD hac hp hK
      have cx : W.cell? ⟨tb, 0, none⟩ = some (.pointer (some ⟨qo, 0, none⟩)) := cell_of hp.box rfl
      have HP := Lib.hid hp
      have HK := Lib.hid hK
      have HDD := Lib.hid hD
      clear hp hK hD hpre0 hstp
      gi_wp2_with fail
      refine ⟨by simp, .inl ⟨_, _, rfl, run_takeDeferred HK.out, ?_⟩⟩
      have hg := grownBy_putObj' W D (.deferred none)
      have hD := HDD.out
      have hmo := HT2.out.2.2.1
      have hge := HCS.out.ge
      have hz1 := HCS.out.below.size
      have hz2 := HB2.out.size
      obtain ⟨Lo, hdo⟩ := HP.out.done hac
      have hd2 := hdo.own hg (fun r e => by
        simp only [Option.some.injEq] at e
        subst e
        exact ⟨by omega, _, HK.out, rfl⟩)
      refine ⟨.pointer (some ⟨qo, 0, none⟩), by simp [results, Try.results43, go_sem], qo, rfl, ⟨_, _, _, hd2.wider (fun k hk => ⟨?_, Nat.lt_of_lt_of_le hk.2 hg.size⟩) (fun k hk => hk.2)⟩, ?_⟩
      · rcases hk.1 with hk1 | hk1 | hk1 | hk1
        · rw [hk1]; exact hge.2.1
        · rw [hk1]; exact hge.2.2.1
        · exact hge.2.2.2 k hk1
        · omega
      · have h1 : Below w'.heap.size w2 W := HP.out.only.below (fun i hi e => by omega) (by omega)
        exact ((HCS.out.below.trans (HB2.out.mono hz1)).trans h1).grown hg (by have := h1.size; omega) (fun k e => by
          simp only [Option.some.injEq] at e
          omega)
end Go.Proofs.Ytmkjejngnahpeaa
