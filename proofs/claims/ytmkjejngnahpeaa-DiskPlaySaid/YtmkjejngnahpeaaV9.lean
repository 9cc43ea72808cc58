/- The texts Fp, Fq, Ij, Ja, Kb, Gd, Jb in one. -/
import Derived.Test.YtmkjejngnahpeaaV8
import Derived.Test.YtmkjejngnahpeaaV7
import Derived.RangeFuncNested
import Derived.RangeFuncWrites
/- Disk: Copy. -/
namespace Go.Proofs.Ytmkjejngnahpeaa
open Go Go.Maps Go.RowKit Go.Shelf
open Go.Proofs (encStr)
attribute [local go_sem] Oper.semAt_some

theorem clone_cell {W1 W2 : World} {gb : Nat} {v u a b c : Value} {l : List UInt8} (h : W1.heap[gb]? = some (.cells #[u, a, b, c] 178 (0, 0))) (hn : NewBytes W1 W2 v l) : W2.cell? ⟨gb, 0, none⟩ = some u ∧ W2.frozen? ⟨gb, 0, none⟩ = false := by
  have h2 := (hn.2.2.block gb (Array.getElem?_eq_some_iff.1 h).1).trans h
  exact ⟨cell_of h2 rfl, free_of h2 _⟩
theorem copy_write {w0 W W1 W2 : World} {S : Nat → Prop} {q mb : Nat} {fv : Value} {L : List Fl} {d : Dk} {tb qo mo n : Nat} {fvo v : Value} {pre : List (FlOf L)} {x : FlOf L} {D : DataW Unit} {o : Obj} (h : CopyPre w0 W S q mb fv L d tb qo mo fvo pre) (hW1 : W1 = W.alloc o) (hnb : NewBytes W1 W2 v x.1.f.bytes)
    (ht : tb < w0.heap.size ∧ qo < w0.heap.size ∧ mo < w0.heap.size ∧ tb ≠ mo ∧ qo ≠ mo) (hown : W.ownsMap Try.prog 9 ptrElem mo n D) (hn : n ≤ pre.length) (hlen : pre.length < L.length) {gb : Nat} (hgb : gb = W.heap.size) :
    (W2.setCell ⟨gb, 0, none⟩ v).cell? ⟨tb, 0, none⟩ = some (.pointer (some ⟨qo, 0, none⟩)) ∧ (W2.setCell ⟨gb, 0, none⟩ v).cell? ⟨qo, 0, none⟩ = some (.map (some mo)) ∧
    ∃ W4, (Instr.mapUpdate 120 (.map (some mo)) (encStr x.1.f.name) (.pointer (some ⟨gb, 0, none⟩))).run Try.prog (W2.setCell ⟨gb, 0, none⟩ v) = .ok () W4 ∧
      Hid (W4.ownsMap Try.prog 9 ptrElem mo (n + 1) (D.put (.string x.1.f.name) (.lit (.int .i64 gb))) ∧ (W2.setCell ⟨gb, 0, none⟩ v).grownBy W4 (some mo)) := by
  have hs1 : W1.heap.size = W.heap.size + 1 := by rw [hW1]; simp
  have hsz := h.only.size
  have hs2 := hnb.2.2.size
  have hk : ∀ k, k < W.heap.size → (W2.setCell ⟨gb, 0, none⟩ v).heap[k]? = W.heap[k]? := fun k hk => by
    have h1 : W1.heap[k]? = W.heap[k]? := by rw [hW1]; exact Below.heap_alloc _ _ k hk
    exact (Below.heap_setCell _ _ _ _ (fun e => by dsimp only at e; omega)).trans ((hnb.2.2.block k (by omega)).trans h1)
  have hnm := h.old.names x.1.f (by rw [← h.old.files]; exact List.mem_map_of_mem x.2)
  have hkey : keyOf Try.prog 9 (encStr x.1.f.name) = some (.string x.1.f.name) := by
    have h3 := WideMaps.keyOf_string_mk (P := Try.prog) Try.underlying9 (s := ⟨x.1.f.name.toArray⟩) (by
      simp only [nameOk, Bool.and_eq_true, decide_eq_true_eq] at hnm
      have h4 : (⟨x.1.f.name.toArray⟩ : ByteArray).size = x.1.f.name.length := rfl
      unfold maxLen
      omega)
    exact h3
  have hLl : L.length ≤ 4096 := by
    have h1 := h.old.few
    rw [← h.old.files, List.length_map] at h1
    exact h1
  have hown3 := ownsMap_kept hown (w' := W2.setCell ⟨gb, 0, none⟩ v) (hk mo (by omega))
  obtain ⟨W4, hrun, ho4, hg4⟩ := hown3.update (t := 120) (string_keyed Try.underlying9) Try.underlying120 (by unfold maxLen; omega) hkey (ptrElem_mk gb)
  exact ⟨cell_of ((hk tb (by omega)).trans h.box) rfl, cell_of ((hk qo (by omega)).trans h.head) rfl, W4, hrun, Lib.hid ⟨ho4, hg4⟩⟩
set_option maxHeartbeats 400000 in
theorem mapsAll_b (mb : Option Nat) (w : World) : Calls Try.prog 117 #[.map mb] w fun e w' => e = .returned (.func (.func 162) #[] #[.pointer (some ⟨w.heap.size, 0, none⟩)]) ∧ w' = w.alloc (.cells #[.map mb] 120) := by
  go_enter Try.func117, Try.ntmps117
  go_wp2_with fail
  go_ret
  exact ⟨rfl, rfl⟩
set_option maxRecDepth 100000 in
set_option maxHeartbeats 4000000 in
theorem copy_b {w : World} {S : Nat → Prop} {q : Nat} {d : Dk} (h : DiskAt w S q d) (hfm : d.fates.length ≤ 1000000000) :
    Calls Try.prog 43 #[.pointer (some ⟨q, 0, none⟩)] w fun e w' => ∃ qo, e = .returned (.pointer (some ⟨qo, 0, none⟩)) ∧ DiskAt w' (fun k => w.heap.size ≤ k ∧ k < w'.heap.size) qo d ∧ Below w.heap.size w w' := by
  obtain ⟨mb, fv, L, h⟩ := h
  refine (callsIn_wide (n := 8)).1 ?_
  have f1 : Fence.wide.fn 108 := trivial
  have f2 : Fence.wide.fn 90 := trivial
  have f3 : Fence.wide.fn 117 := trivial
  have f4 : Fence.wide.fn 113 := trivial
  obtain ⟨oa, cap, rfl, _⟩ := h.fates.shape
  obtain ⟨st, hst⟩ : ∃ st, d.steps = st := ⟨_, rfl⟩
  obtain ⟨fn, hfn⟩ : ∃ n, d.fates.length = n := ⟨_, rfl⟩
  have hh := h.head
  rw [hst, hfn] at hh
  have c1 : w.cell? ⟨q, 1, none⟩ = some (.slice oa fn cap) := cell_of hh rfl
  have c2 : w.cell? ⟨q, 2, none⟩ = some (.int .i64 st) := cell_of hh rfl
  have H := Lib.hid h
  have HST := Lib.hid (And.intro hst hfn)
  have HFM := Lib.hid hfm
  have HCF : Hid (∀ W : World, Below w.heap.size w W → Calls Try.prog 90 #[.slice oa fn cap] W fun e w' => ∃ v, e = .returned v ∧ rowAt w' 99 2 v fn (fateCells d.fates) ∧ (∀ k, v.ownBlock = some k → W.heap.size ≤ k) ∧ Below W.heap.size W w') := Lib.hid (fun W hW => by
    have hf := h.fates
    rw [hfn] at hf
    exact cloneFate_b hfn (hf.kept (fun k hk => hW.block k (hf.lt k hk))).read (by omega))
  clear h hh hst hfn hfm
  refine callsIn_of_wp_marks Try.func43 rfl trivial ?_ rfl
  simp only [Try.ntmps43, List.size_toArray, List.length_cons, List.length_nil, Nat.reduceAdd, Nat.reduceSub, Array.replicate_succ, Array.replicate_zero, List.push_toArray, List.append_toArray, List.nil_append, List.cons_append]
  gi_wp2_with fail
  refine (callsIn_wide.2 (none_b H.out)).mono ?_
  rintro e w' ⟨rfl, rfl⟩
  have hmm := @run_makeMap Try.prog
  gi_wp2_with fail
  have hmix : Try.prog.follows .mixedOrders = true := by kernel_rfl
  have hql : q < w'.heap.size := H.out.low q H.out.q_mem
  have hS : w'.cell? ⟨q, 1, none⟩ = some (.slice oa fn cap) ∧ w'.cell? ⟨q, 2, none⟩ = some (.int .i64 st) ∧ Below w'.heap.size w' w' ∧ q < w'.heap.size := ⟨c1, c2, Below.refl _ _, hql⟩
  clear c1 c2
  have s2 : (w'.drew.alloc (.cells #[.pointer none] 37)).heap[w'.heap.size]? = some (.cells #[.pointer none] 37 (0, 0)) := alloc_cells w'.drew _ _
  have s3 : ((w'.drew.alloc (.map #[] 0)).alloc (.cells #[.pointer none] 37)).heap[w'.heap.size + 1]? = some (.cells #[.pointer none] 37 (0, 0)) := by
    have := alloc_cells (w'.drew.alloc (.map #[] 0)) #[.pointer none] 37
    simpa using this
  have s4 : ((w'.drew.alloc (.cells #[.pointer none] 37)).alloc (.map #[] 0)).heap[w'.heap.size]? = some (.cells #[.pointer none] 37 (0, 0)) := (Below.heap_alloc _ _ _ (by simp)).trans s2
  have m1 : (w'.drew.alloc (.map #[] 0)).heap[w'.heap.size]? = some (.map #[] 0) := heap_alloc_new w'.drew _
  have m3 : ((w'.drew.alloc (.map #[] 0)).alloc (.cells #[.pointer none] 37)).heap[w'.heap.size]? = some (.map #[] 0) := (Below.heap_alloc _ _ _ (by simp)).trans m1
  have m4 : ((w'.drew.alloc (.cells #[.pointer none] 37)).alloc (.map #[] 0)).heap[w'.heap.size + 1]? = some (.map #[] 0) := by
    have := heap_alloc_new (w'.drew.alloc (.cells #[.pointer none] 37)) (.map #[] 0)
    simpa using this
  gi_cut [3, 9, 14, 20] from 10 (fun s3 s9 s14 s20 wx => ∃ tb qo mo oa5 c5, s3 = .pointer (some ⟨tb, 0, none⟩) ∧ s9 = .map (some mo) ∧ s14 = .slice oa5 fn c5 ∧ s20 = .pointer (some ⟨qo, 0, none⟩) ∧ Hid (CopyStart w' wx d tb qo mo (.slice oa5 fn c5)))
  case first =>
   --(
   refine wpIn_wide.2 (wp_only ?_)
   go_region_held3 (fun W => W.cell? ⟨q, 1, none⟩ = some (.slice oa fn cap) ∧ W.cell? ⟨q, 2, none⟩ = some (.int .i64 st) ∧ Below w'.heap.size w' W ∧ q < w'.heap.size)
     (first | assumption | exact cs_drew (by assumption) | exact cs_alloc _ (by assumption) | exact cs_of (by assumption) (by assumption) | exact cs_set (by omega) (by assumption) | exact cs_of hS (below2 _ _ (by assumption)) | exact cs_of hS (below3 _ _ _ (by assumption)))
     (first | (go_at_call 90; refine (HCF.out _ (cs_below (by assumption))).mono ?_; rintro e w5 ⟨v, rfl, hr5, hv5, hb5⟩; obtain ⟨oa5, c5, rfl, _⟩ := hr5.shape; have hb05 : Below w'.heap.size w' w5 := cs_call (by assumption) hb5; (first | (have kb := keep_box hb5 s3; have kb1 := kb.2.1; have kb2 := kb.2.2.1; have kb3 := kb.2.2.2.1; have kb4 := kb.2.2.2.2; have HT := Lib.hid kb.1; clear kb) | (have kb := keep_box hb5 s4; have kb1 := kb.2.1; have kb2 := kb.2.2.1; have kb3 := kb.2.2.2.1; have kb4 := kb.2.2.2.2; have HT := Lib.hid kb.1; clear kb) | (have kb := keep_box hb5 s2; have kb1 := kb.2.1; have kb2 := kb.2.2.1; have kb3 := kb.2.2.2.1; have kb4 := kb.2.2.2.2; have HT := Lib.hid kb.1; clear kb) | skip); (first | (have HM := Lib.hid (keep_map hb5 m3)) | (have HM := Lib.hid (keep_map hb5 m4)) | (have HM := Lib.hid (keep_map hb5 m1)) | skip); have HV5 := Lib.hid (And.intro hr5 (And.intro hv5 hb5)); clear hr5 hv5))
   all_goals
     go_wp2_with fail
     go_meet
     refine ⟨_, _, _, _, _, rfl, rfl, rfl, rfl, Lib.hid ?_⟩
     have hs5 := HV5.out.2.2.size
     have hv5 := HV5.out.2.1
     simp only [World.size_alloc, size_drew] at hs5 hv5
     have hr5 := HV5.out.1
     rw [← HST.out.2] at hr5 ⊢
     rw [← HST.out.1]
     refine copy_start ?_ ?_ ?_ ?_ ?_ ⟨by omega, by omega, by omega, fun k hk => by have := hv5 k (by rw [HST.out.2] at hk; exact hk); omega⟩
     · first
         | (refine heap_setCell_here _ (cs := #[.pointer none]) ?_; simp only [World.alloc, Array.getElem?_push, Array.size_push]; (repeat (first | rw [if_pos (by omega)] | rw [if_pos trivial] | rw [if_neg (by omega)])); first | done | rfl | exact HT.out)
         | (simp only [World.alloc, Array.getElem?_push, Array.size_push]; (repeat (first | rw [if_pos (by omega)] | rw [if_pos trivial] | rw [if_neg (by omega)])); first | done | rfl | exact HT.out)
     · first
         | (refine (Below.heap_setCell _ _ _ _ (fun e => by dsimp only at e; omega)).trans ?_; simp only [World.alloc, Array.getElem?_push, Array.size_push]; (repeat (first | rw [if_pos (by omega)] | rw [if_pos trivial] | rw [if_neg (by omega)])); first | done | rfl)
         | (simp only [World.alloc, Array.getElem?_push, Array.size_push]; (repeat (first | rw [if_pos (by omega)] | rw [if_pos trivial] | rw [if_neg (by omega)])); first | done | rfl)
     · first
         | (refine (Below.heap_setCell _ _ _ _ (fun e => by dsimp only at e; omega)).trans ?_; simp only [World.alloc, Array.getElem?_push, Array.size_push]; (repeat (first | rw [if_pos (by omega)] | rw [if_pos trivial] | rw [if_neg (by omega)])); first | done | rfl | exact HM.out)
         | (simp only [World.alloc, Array.getElem?_push, Array.size_push]; (repeat (first | rw [if_pos (by omega)] | rw [if_pos trivial] | rw [if_neg (by omega)])); first | done | rfl | exact HM.out)
     · refine hr5.kept (fun k hk => ?_)
       have h1 := hr5.lt k hk
       have h2 := hv5 k (by rw [HST.out.2] at hk; exact hk)
       first
         | (refine (Below.heap_setCell _ _ _ _ (fun e => by dsimp only at e; omega)).trans ?_; simp only [World.alloc, Array.getElem?_push, Array.size_push]; (repeat (first | rw [if_pos (by omega)] | rw [if_pos trivial] | rw [if_neg (by omega)])))
         | (simp only [World.alloc, Array.getElem?_push, Array.size_push]; (repeat (first | rw [if_pos (by omega)] | rw [if_pos trivial] | rw [if_neg (by omega)])))
     · first
         | (refine Below.setCell (p := ⟨_, 0, none⟩) ?_ (by dsimp only; omega) _; first | exact below2 _ _ hb05 | exact hb05.alloc hb05.size _)
         | exact below2 _ _ hb05
         | exact below3 _ _ _ hb05
         | exact hb05.alloc hb05.size _
   --)
  case rest =>
    obtain ⟨tb, qo, mo, oa5, c5, rfl, rfl, rfl, rfl, HCS⟩ := hcut
    have HO := Lib.hid (H.out.below HCS.out.below)
    have c0 : wc.cell? ⟨q, 0, none⟩ = some (.map (some mb)) := cell_of HO.out.head rfl
    clear hmm hS s2 s3 s4 m1 m3 m4
    gi_wp2_with (gi_at_call 117; refine (callsIn_wide.2 (mapsAll_b _ _)).mono ?_; rintro e w2 ⟨rfl, hw2⟩)
    obtain ⟨vb, hvb⟩ : ∃ vb, vb = wc.heap.size := ⟨_, rfl⟩
    have hvc : w2.heap[vb]? = some (.cells #[.map (some mb)] 120 (0, 0)) := by rw [hw2, hvb]; exact alloc_cells _ _ _
    have hb2 : Below wc.heap.size wc w2 := by rw [hw2]; exact (Below.refl _ _).alloc (Nat.le_refl _) _
    rw [← hw2, ← hvb]
    have HVC := Lib.hid hvc
    have HB2 := Lib.hid hb2
    have hvl : vb < w2.heap.size := (Array.getElem?_eq_some_iff.1 hvc).1
    have hO2 := HO.out.below hb2
    have hdk2 := HCS.out.disk.below hb2
    have HS2 : Hid (∀ k, S k → k < w2.heap.size ∧ k ≠ mo) := Lib.hid (fun k hk => by
      have h1 := H.out.low k hk
      have h2 := HCS.out.ge.2.2.1
      have h3 := HCS.out.below.size
      have h4 := hb2.size
      omega)
    have HT2 : Hid (tb < w2.heap.size ∧ qo < w2.heap.size ∧ mo < w2.heap.size ∧ tb ≠ mo ∧ qo ≠ mo) := Lib.hid (by
      have h1 := (Array.getElem?_eq_some_iff.1 HCS.out.box).1
      have h2 := hb2.size
      refine ⟨by omega, hdk2.low qo (.inl rfl), hdk2.low mo (.inr (.inl rfl)), HCS.out.ne.2.1, fun e => ?_⟩
      have h3 := hdk2.apart
      rw [e] at h3
      simp [diskBlocks] at h3)
    have hLl : L.length ≤ 4096 := by
      have h1 := H.out.few
      rw [← H.out.files, List.length_map] at h1
      exact h1
    obtain ⟨D0, hown0, _, hdic0⟩ := hO2.look
    have hstp := pairs_stops Fence.wide 7 trivial rfl (by omega) vb mb mo _ D0 L hdic0 hO2.nodup w2 (cell_of hvc rfl) hown0 (fun e => by
      have h1 := HCS.out.ge.2.2.1
      have h2 := H.out.low mb (H.out.foot mb (by simp [diskBlocks]))
      omega) HT2.out.2.2.1
    have hpre0 : CopyPre w2 w2 S q mb (.slice oa d.fates.length cap) L d tb qo mo (.slice oa5 fn c5) [] := by
      have hbx := (hb2.block tb (Array.getElem?_eq_some_iff.1 HCS.out.box).1).trans HCS.out.box
      refine ⟨hO2, Only.refl _ _, hbx, hdk2.head, ?_, fun _ => ⟨[], [], ?_, rfl, fun f => by simp⟩⟩
      · obtain ⟨D, ho, _, _⟩ := hdk2.look
        exact ⟨D, 0, Nat.le_refl _, ho⟩
      · refine hdk2.wider (fun k hk => ?_) (fun k hk => hk.2)
        have h1 := hdk2.low k hk
        rcases hk with hk | hk | hk
        · exact ⟨.inl hk, h1⟩
        · exact ⟨.inr (.inl hk), h1⟩
        · exact ⟨.inr (.inr (.inl hk)), h1⟩
    clear hw2 hvb hvc hb2 hO2 hdk2 hown0 hdic0 c0
    refine wpIn_rangeFunc_ownG (n := 8) (α := FlOf L) rfl (by omega) (gf := 162) (lb := #[.pointer (some ⟨vb, 0, none⟩)]) rfl trivial (enters_of Try.func162 (by kernel_rfl) rfl) hstp (fun h k => h.trans k) (fun W l o o' _ h _ hw => WalksBut.put W l o o' h hw) (Below.refl _ _) (fun _ => rfl)
      (fun pre W => CopyPre w2 W S q mb (.slice oa d.fates.length cap) L d tb qo mo (.slice oa5 fn c5) pre) (fun _ _ _ => False) (fun pre W W' row hp hg hr => hp.own (fun k hk => (HS2.out k hk).1) ⟨HT2.out.1, HT2.out.2.1, HT2.out.2.2.1⟩ hg hr) (fun _ => fun _ _ _ _ hs _ _ => hs) hpre0 ?a1 ?assign ?body ?done ?stop
    case assign =>
      intro l x W K hK
      unfold encFl
      gi_wp2
      exact hK
    case stop =>
      rintro D c pre W _ h0 hf _
      exact hf.elim
    case body =>
      intro l pre x W hp hlen
      obtain ⟨D, n, hn, hown, hreal⟩ := hp.next x
      have hxa := hp.old.each x.1 x.2
      obtain ⟨oab, cb, hbv, _⟩ := hxa.row.shape
      obtain ⟨N, hN⟩ : ∃ N, x.1.f.bytes.length = N := ⟨_, rfl⟩
      obtain ⟨lx, hlx⟩ : ∃ l, x.1.f.lasts = l := ⟨_, rfl⟩
      obtain ⟨th, hth⟩ : ∃ t, x.1.f.there = t := ⟨_, rfl⟩
      obtain ⟨nd, hnd⟩ : ∃ t, x.1.f.named = t := ⟨_, rfl⟩
      have hxc := hxa.cells
      rw [hbv, hN, hlx, hth, hnd] at hxc
      have hxr := hxa.row
      have hxs := hxa.size
      rw [hbv, hN] at hxr
      rw [hN] at hxs
      obtain ⟨W1, hW1⟩ : ∃ W1 : World, W1 = W.alloc (.cells #[.slice oab N cb, .int .i64 lx, .bool th, .bool nd] 178) := ⟨_, rfl⟩
      obtain ⟨gb, hgb⟩ : ∃ gb, gb = W.heap.size := ⟨_, rfl⟩
      have hc1 : W1.heap[gb]? = some (.cells #[.slice oab N cb, .int .i64 lx, .bool th, .bool nd] 178 (0, 0)) := by rw [hW1, hgb]; exact alloc_cells _ _ _
      have hb1 : Below W.heap.size W W1 := by rw [hW1]; exact (Below.refl _ _).alloc (Nat.le_refl _) _
      have hxb : x.1.blk < W.heap.size := (Array.getElem?_eq_some_iff.1 hxc).1
      have k0 : W.cell? ⟨x.1.blk, 0, none⟩ = some (.slice oab N cb) := cell_of hxc rfl
      have k1 : W.cell? ⟨x.1.blk, 1, none⟩ = some (.int .i64 lx) := cell_of hxc rfl
      have k2 : W.cell? ⟨x.1.blk, 2, none⟩ = some (.bool th) := cell_of hxc rfl
      have k3 : W.cell? ⟨x.1.blk, 3, none⟩ = some (.bool nd) := cell_of hxc rfl
      have j0 : W1.cell? ⟨x.1.blk, 0, none⟩ = some (.slice oab N cb) := (hb1.cell (p := ⟨x.1.blk, 0, none⟩) hxb).trans k0
      have HC : Hid (Calls Try.prog 113 #[.slice oab N cb] W1 fun e w'' => ∃ v, e = .returned v ∧ NewBytes W1 w'' v x.1.f.bytes) := Lib.hid (clone_b hN (hxr.kept (fun k hk => hb1.block k (hxr.lt k hk))) (by omega))
      have HP := Lib.hid hp
      have HRE := Lib.hid (And.intro hn (And.intro hown hreal))
      have HX := Lib.hid (And.intro hbv (And.intro hN (And.intro hlx (And.intro hth hnd))))
      have HB1 := Lib.hid hb1
      have HC1 := Lib.hid hc1
      have HW1 := Lib.hid hW1
      have HGB := Lib.hid hgb
      have HLEN := Lib.hid hlen
      have HXB := Lib.hid hxb
      clear hp hn hown hreal hbv hN hlx hth hnd hxc hxa hxr hxs hb1 hc1 hpre0 hstp hlen
      gi_wp2
      rw [← hW1, ← hgb]
      clear hW1 hgb k0 k1 k2 k3
      gi_wp2_with (gi_at_call 113; refine (CallsIn.inRound l (callsIn_wide.2 HC.out)).mono ?_; rintro e W2 ⟨v, rfl, hnb⟩; obtain ⟨oav, cv, rfl, _⟩ := hnb.1.shape; have HNB := Lib.hid hnb; obtain ⟨kz, kf⟩ := clone_cell HC1.out hnb; obtain ⟨j1, j2, W4, hmu, HMU⟩ := copy_write HP.out HW1.out hnb HT2.out HRE.out.2.1 HRE.out.1 HLEN.out HGB.out; clear hnb)
      have hgb := HGB.out
      subst hgb
      have hW1 : W1 = W.alloc (.cells #[x.1.bv, .int .i64 x.1.f.lasts, .bool x.1.f.there, .bool x.1.f.named] 178) := by rw [HW1.out, HX.out.1, HX.out.2.1, HX.out.2.2.1, HX.out.2.2.2.1, HX.out.2.2.2.2]
      obtain ⟨hcp, ho⟩ := HP.out.step HS2.out HT2.out HRE.out.1 HRE.out.2.2 hW1 HNB.out rfl HMU.out.2 HMU.out.1 HLEN.out
      have hmo := HT2.out.2.2.1
      exact ⟨⟨ho.size, fun k o hB hk _ => (ho.block k (Array.getElem?_eq_some_iff.1 hk).1 (by omega)).trans hk⟩, WalksBut.only ho, hcp⟩
    case done =>
      rintro D xs W hD hac hp hK
      have cx : W.cell? ⟨tb, 0, none⟩ = some (.pointer (some ⟨qo, 0, none⟩)) := cell_of hp.box rfl
      have HP := Lib.hid hp
      have HK := Lib.hid hK
      have HDD := Lib.hid hD
      clear hp hK hD hpre0 hstp
      gi_wp2_with fail
      refine ⟨by simp, .inl ⟨_, _, rfl, run_takeDeferred HK.out, ?_⟩⟩
      have hg := grownBy_putObj' W D (.deferred none)
      have hD := HDD.out
      have hmo := HT2.out.2.2.1
      have hge := HCS.out.ge
      have hz1 := HCS.out.below.size
      have hz2 := HB2.out.size
      obtain ⟨Lo, hdo⟩ := HP.out.done hac
      have hd2 := hdo.own hg (fun r e => by
        simp only [Option.some.injEq] at e
        subst e
        exact ⟨by omega, _, HK.out, rfl⟩)
      refine ⟨.pointer (some ⟨qo, 0, none⟩), by simp [results, Try.results43, go_sem], qo, rfl, ⟨_, _, _, hd2.wider (fun k hk => ⟨?_, Nat.lt_of_lt_of_le hk.2 hg.size⟩) (fun k hk => hk.2)⟩, ?_⟩
      · rcases hk.1 with hk1 | hk1 | hk1 | hk1
        · rw [hk1]; exact hge.2.1
        · rw [hk1]; exact hge.2.2.1
        · exact hge.2.2.2 k hk1
        · omega
      · have h1 : Below w'.heap.size w2 W := HP.out.only.below (fun i hi e => by omega) (by omega)
        exact ((HCS.out.below.trans (HB2.out.mono hz1)).trans h1).grown hg (by have := h1.size; omega) (fun k e => by
          simp only [Option.some.injEq] at e
          omega)
end Go.Proofs.Ytmkjejngnahpeaa
/- Disk: a script of calls, how it lies; vast, Right. -/
namespace Go.Proofs.Ytmkjejngnahpeaa
open Go Go.Maps Go.RowKit

structure StepT where
  kind : Int
  pl : Int
  n : Int
  name : ByteArray
  bytes : List UInt8
  fates : List (Int × Int)
  picks : List Int
  bv : Value
  fv : Value
  pv : Value
def StepT.cells (x : StepT) : List Value := [.int .i64 x.kind, .int .i64 x.pl, .int .i64 x.n, .string x.name, x.bv, x.fv, x.pv]
structure StepOk (w : World) (x : StepT) : Prop where
  name : x.name.size ≤ maxLen
  bytes : readAt w 1 x.bv x.bytes.length (byteCells x.bytes)
  fates : readAt w 2 x.fv x.fates.length (fateCells x.fates)
  picks : readAt w 1 x.pv x.picks.length (intCells x.picks)
  n : -9223372036854775808 ≤ x.n ∧ x.n ≤ 9223372036854775807
  pks : ∀ p ∈ x.picks, p ≤ 9223372036854775807
theorem StepOk.below {w w' : World} {x : StepT} (h : StepOk w x) (hb : Below w.heap.size w w') : StepOk w' x :=
  ⟨h.name, h.bytes.kept (fun k hl _ _ => hb.block k hl), h.fates.kept (fun k hl _ _ => hb.block k hl), h.picks.kept (fun k hl _ _ => hb.block k hl), h.n, h.pks⟩
def stepsCells (l : List StepT) : List Value := l.flatMap StepT.cells
theorem stepsCells_length : ∀ l : List StepT, (stepsCells l).length = l.length * 7
  | [] => rfl
  | f :: r => by
    have : stepsCells (f :: r) = f.cells ++ stepsCells r := rfl
    rw [this, List.length_append, stepsCells_length r]
    simp [StepT.cells]
    omega
theorem stepsCells_get : ∀ {l : List StepT} {j i : Nat} (hj : j < l.length) (_ : i < 7), (stepsCells l)[j * 7 + i]? = (l[j].cells)[i]?
  | f :: r, 0, i, _, hi => by
    have : stepsCells (f :: r) = f.cells ++ stepsCells r := rfl
    rw [this, List.getElem?_append_left (by simp [StepT.cells]; omega)]
    simp
  | f :: r, j + 1, i, hj, hi => by
    have : stepsCells (f :: r) = f.cells ++ stepsCells r := rfl
    have h5 : f.cells.length = 7 := by simp [StepT.cells]
    rw [this, List.getElem?_append_right (by omega), h5, show (j + 1) * 7 + i - 7 = j * 7 + i by omega, stepsCells_get (by simpa using hj) hi]
    simp
/-- v is a script of these steps -/
structure ScriptAt (w : World) (v : Value) (l : List StepT) : Prop where
  row : readAt w 7 v l.length (stepsCells l)
  each : ∀ x ∈ l, StepOk w x
theorem ScriptAt.below {w w' : World} {v : Value} {l : List StepT} (h : ScriptAt w v l) (hb : Below w.heap.size w w') : ScriptAt w' v l :=
  ⟨h.row.kept (fun k hl _ _ => hb.block k hl), fun x hx => (h.each x hx).below hb⟩
theorem readAt.cellAt {w : World} {size n c g off : Nat} {xs : List Value} (h : readAt w size (.slice (some ⟨g, off, none⟩) n c) n xs) {i : Nat} {u : Value} (hu : xs[i]? = some u) : w.cell? ⟨g, off + i, none⟩ = some u := by
  have := h.cells (g := g) (off := off) rfl i u hu
  simpa [Go.WideShapes.add_plain] using this
def StepT.vast (x : StepT) : Bool := decide (3000 < x.bytes.length) || decide (100 < x.fates.length) || decide (300 < x.picks.length)
def vastT (l : List StepT) : Bool := decide (300 < l.length) || l.any StepT.vast
theorem any_take_succ {α : Type} {l : List α} {f : α → Bool} {j : Nat} (hj : j < l.length) : (l.take (j + 1)).any f = ((l.take j).any f || f l[j]) := by
  rw [List.take_succ_eq_append_getElem hj, List.any_append]
  simp
set_option maxRecDepth 100000 in
set_option maxHeartbeats 1000000 in
theorem vast_b {w : World} {v : Value} {l : List StepT} (h : ScriptAt w v l) : Calls Try.prog 36 #[v] w fun e w' => e = .returned (.bool (vastT l)) ∧ w' = w := by
  obtain ⟨oa, c, rfl⟩ := h.row.shape
  obtain ⟨n, hn⟩ : ∃ n, l.length = n := ⟨_, rfl⟩
  have hrow := h.row
  rw [hn] at hrow ⊢
  have HR := Lib.hid hrow
  have HE := Lib.hid h.each
  have HN := Lib.hid hn
  have HV : Hid (vastT l = (decide (300 < n) || l.any StepT.vast)) := Lib.hid (by unfold vastT; rw [hn])
  clear h hrow hn
  by_cases hbig : 300 < n
  · have hd : decide ((300 : Int) < (n : Int)) = true := by simp; omega
    go_enter Try.func36, Try.ntmps36
    go_wp2_with fail
    go_ret
    exact ⟨by rw [HV.out, decide_eq_true hbig]; rfl, rfl⟩
  · have hd : decide ((300 : Int) < (n : Int)) = false := by simp; omega
    go_enter Try.func36, Try.ntmps36
    go_wp2_with fail
    go_loop [3] (fun i => ∃ j : Nat, j ≤ n ∧ i = .int .i64 j ∧ Hid ((l.take j).any StepT.vast = false)) (fun i => n - (intOf i).toNat)
    case atStart => exact ⟨0, Nat.zero_le _, rfl, Lib.hid (by simp)⟩
    case round =>
      obtain ⟨j, hj, rfl, HA⟩ := hrel
      by_cases hlt : j < n
      · have hjl : j < l.length := by rw [HN.out]; exact hlt
        obtain ⟨g, off, rfl⟩ := HR.out.addr (by omega)
        obtain ⟨x, hx⟩ : ∃ x, l[j] = x := ⟨_, rfl⟩
        have hok := HE.out x (by rw [← hx]; exact List.getElem_mem _)
        obtain ⟨ob, cb, hb⟩ := hok.bytes.shape
        obtain ⟨of, cf, hf⟩ := hok.fates.shape
        obtain ⟨op, cp, hp⟩ := hok.picks.shape
        have hcell : ∀ i, i < 7 → ∀ u, x.cells[i]? = some u → w.cell? ⟨g, off + (j * 7 + i), none⟩ = some u := fun i hi u hu => HR.out.cellAt (by rw [stepsCells_get hjl hi, hx, hu])
        have k4 : w.cell? ⟨g, off + j * 7 + 4, none⟩ = some (.slice ob x.bytes.length cb) := hcell 4 (by omega) _ (by rw [← hb]; rfl)
        have k5 : w.cell? ⟨g, off + j * 7 + 5, none⟩ = some (.slice of x.fates.length cf) := hcell 5 (by omega) _ (by rw [← hf]; rfl)
        have k6 : w.cell? ⟨g, off + j * 7 + 6, none⟩ = some (.slice op x.picks.length cp) := hcell 6 (by omega) _ (by rw [← hp]; rfl)
        obtain ⟨b1, hb1⟩ : ∃ b, decide ((3000 : Int) < (x.bytes.length : Int)) = b := ⟨_, rfl⟩
        obtain ⟨b2, hb2⟩ : ∃ b, decide ((100 : Int) < (x.fates.length : Int)) = b := ⟨_, rfl⟩
        obtain ⟨b3, hb3⟩ : ∃ b, decide ((300 : Int) < (x.picks.length : Int)) = b := ⟨_, rfl⟩
        have HXV : Hid (x.vast = (b1 || b2 || b3)) := Lib.hid (by
          unfold StepT.vast
          rw [← hb1, ← hb2, ← hb3]
          congr 1
          · congr 1
            · exact decide_eq_decide.2 (by omega)
            · exact decide_eq_decide.2 (by omega)
          · exact decide_eq_decide.2 (by omega))
        have HNX : Hid ((l.take (j + 1)).any StepT.vast = x.vast) := Lib.hid (by rw [any_take_succ hjl, HA.out, hx]; rfl)
        have HXL : Hid (l.any StepT.vast = true ∨ x.vast = false) := Lib.hid (by
          cases hv : x.vast with
          | false => exact .inr rfl
          | true => exact .inl (List.any_eq_true.2 ⟨x, by rw [← hx]; exact List.getElem_mem _, hv⟩))
        have HD : Hid (decide (300 < n) = false) := Lib.hid (decide_eq_false hbig)
        clear hok hx hcell hb hf hp
        have hgood : x.vast = false → Hid ((l.take (j + 1)).any StepT.vast = false) := fun h1 => Lib.hid (by rw [HNX.out, h1])
        have hbad : x.vast = true → Hid (vastT l = true) := fun h1 => Lib.hid (by
          rw [HV.out]
          rcases HXL.out with h2 | h2
          · rw [h2]; simp
          · rw [h1] at h2; cases h2)
        have HGOOD := Lib.hid hgood
        have HBAD := Lib.hid hbad
        clear hgood hbad
        go_upto_region 6 with fail
        go_cut [37] from 13 to 37 (fun s wx => s = .bool (b1 || b2 || b3) ∧ wx = w)
        case first =>
          cases b1 <;> cases b2 <;> (go_wp2_with fail; go_meet; exact ⟨rfl, rfl⟩)
        case rest =>
          obtain ⟨rfl, rfl⟩ := hcut
          obtain ⟨bb, hbb⟩ : ∃ b, (b1 || b2 || b3) = b := ⟨_, rfl⟩
          rw [hbb] at HXV ⊢
          clear hbb hb1 hb2 hb3
          cases bb
          · have HN2 := HGOOD.out HXV.out
            go_wp2_with fail
            exact ⟨⟨j + 1, by omega, by simp, HN2⟩, by simp [intOf]; omega⟩
          · have HB2 := HBAD.out HXV.out
            go_wp2_with fail
            go_ret
            exact ⟨by rw [HB2.out]; rfl, rfl⟩
      · obtain rfl : j = n := by omega
        have HF : Hid (vastT l = false) := Lib.hid (by
          have h1 := HA.out
          rw [List.take_of_length_le (by rw [HN.out]; exact Nat.le_refl _)] at h1
          rw [HV.out, h1, decide_eq_false hbig]
          rfl)
        go_wp2_with fail
        go_ret
        exact ⟨by rw [HF.out]; rfl, rfl⟩
end Go.Proofs.Ytmkjejngnahpeaa
/- law08: the same calls on the program's disk and on the document's (printed by genij.py). -/
namespace Go.Proofs.Ytmkjejngnahpeaa
open Go Go.Maps Go.RowKit

structure OpT where
  kind : Int
  name : ByteArray
  bytes : List UInt8
  bv : Value
def OpT.cells (x : OpT) : List Value := [.int .i64 x.kind, .string x.name, x.bv]
structure OpOk (w : World) (x : OpT) : Prop where
  name : x.name.size ≤ maxLen
  bytes : readAt w 1 x.bv x.bytes.length (byteCells x.bytes)
theorem OpOk.below {w w' : World} {x : OpT} (h : OpOk w x) (hb : Below w.heap.size w w') : OpOk w' x :=
  ⟨h.name, h.bytes.kept (fun k hl _ _ => hb.block k hl)⟩
def opsCells (l : List OpT) : List Value := l.flatMap OpT.cells
theorem opsCells_length : ∀ l : List OpT, (opsCells l).length = l.length * 3
  | [] => rfl
  | f :: r => by
    have : opsCells (f :: r) = f.cells ++ opsCells r := rfl
    rw [this, List.length_append, opsCells_length r]
    simp [OpT.cells]
    omega
theorem opsCells_get : ∀ {l : List OpT} {j i : Nat} (hj : j < l.length) (_ : i < 3), (opsCells l)[j * 3 + i]? = (l[j].cells)[i]?
  | f :: r, 0, i, _, hi => by
    have : opsCells (f :: r) = f.cells ++ opsCells r := rfl
    rw [this, List.getElem?_append_left (by simp [OpT.cells]; omega)]
    simp
  | f :: r, j + 1, i, hj, hi => by
    have : opsCells (f :: r) = f.cells ++ opsCells r := rfl
    have h5 : f.cells.length = 3 := by simp [OpT.cells]
    rw [this, List.getElem?_append_right (by omega), h5, show (j + 1) * 3 + i - 3 = j * 3 + i by omega, opsCells_get (by simpa using hj) hi]
    simp
/-- v is a list of these calls -/
structure OpsAt (w : World) (v : Value) (l : List OpT) : Prop where
  row : readAt w 3 v l.length (opsCells l)
  each : ∀ x ∈ l, OpOk w x
theorem OpsAt.below {w w' : World} {v : Value} {l : List OpT} (h : OpsAt w v l) (hb : Below w.heap.size w w') : OpsAt w' v l :=
  ⟨h.row.kept (fun k hl _ _ => hb.block k hl), fun x hx => (h.each x hx).below hb⟩
def Dk.opT (d : Dk) (x : OpT) : Dk :=
  if x.kind = 1 then (d.create x.name.data.toList).2
  else if x.kind = 2 then (d.append x.name.data.toList x.bytes).2
  else if x.kind = 3 then (d.sync x.name.data.toList).2
  else if x.kind = 4 then d.syncdir.2
  else if x.kind = 5 then (d.remove x.name.data.toList).2
  else d
def Dk.opsT (d : Dk) (l : List OpT) : Dk := l.foldl Dk.opT d
theorem opsT_succ {d : Dk} {l : List OpT} {j : Nat} (hj : j < l.length) : d.opsT (l.take (j + 1)) = (d.opsT (l.take j)).opT l[j] := by
  unfold Dk.opsT
  rw [List.take_succ_eq_append_getElem hj, List.foldl_append]
  rfl
theorem DiskAt.only2 {w w' : World} {S T : Nat → Prop} {q : Nat} {d : Dk} (h : DiskAt w S q d) (ho : Only T w w') (hT : ∀ k, S k → ¬ T k) : DiskAt w' S q d := by
  obtain ⟨mb, fv, L, h⟩ := h
  exact ⟨mb, fv, L, h.only ho hT⟩
theorem DiskAt.low2 {w : World} {S : Nat → Prop} {q : Nat} {d : Dk} (h : DiskAt w S q d) : ∀ k, S k → k < w.heap.size := by
  obtain ⟨mb, fv, L, h⟩ := h
  exact h.low
theorem RfAt.only {w w' : World} {S T : Nat → Prop} {p : Nat} {d : Dk} (h : RfAt w S p d) (ho : Only T w w') (hT : ∀ k, S k → ¬ T k) : RfAt w' S p d := by
  obtain ⟨rv, fv, h⟩ := h
  exact ⟨rv, fv, h.only ho hT⟩
theorem RfAt.below {w w' : World} {S : Nat → Prop} {p : Nat} {d : Dk} (h : RfAt w S p d) (hb : Below w.heap.size w w') : RfAt w' S p d := by
  obtain ⟨rv, fv, h⟩ := h
  exact ⟨rv, fv, h.below hb⟩
theorem RfAt.low {w : World} {S : Nat → Prop} {p : Nat} {d : Dk} (h : RfAt w S p d) : ∀ k, S k → k < w.heap.size := by
  obtain ⟨rv, fv, h⟩ := h
  exact h.low
/-- both disks lie there, apart, in blocks that are new since w -/
structure TwoS (w W : World) (S1 S2 : Nat → Prop) (q p : Nat) (d : Dk) : Prop where
  one : DiskAt W S1 q d
  two : RfAt W S2 p d
  apart : ∀ k, S1 k → ¬ S2 k
  new1 : ∀ k, S1 k → w.heap.size ≤ k
  new2 : ∀ k, S2 k → w.heap.size ≤ k
  below : Below w.heap.size w W
def TwoI (w W : World) (q p : Nat) (d : Dk) : Prop := ∃ S1 S2, TwoS w W S1 S2 q p d
theorem TwoS.grown {w W W' : World} {S1 S2 : Nat → Prop} {q p : Nat} {d : Dk} (h : TwoS w W S1 S2 q p d) (hb : Below W.heap.size W W') : TwoS w W' S1 S2 q p d :=
  ⟨h.one.below hb, h.two.below hb, h.apart, h.new1, h.new2, h.below.trans (hb.mono h.below.size)⟩
theorem TwoS.mid {w W W1 : World} {S1 S2 : Nat → Prop} {q p : Nat} {d : Dk} {r : Int × Dk} {e : Ending} (h : TwoS w W S1 S2 q p d) (h1 : OpIs W S1 q r e W1) : RfAt W1 S2 p d := h.two.only h1.2.2 (fun k h2 h3 => h.apart k h3 h2)
theorem TwoS.next {w W W1 W2 : World} {S1 S2 : Nat → Prop} {q p : Nat} {d d' : Dk} {n n' : Int} {e e' : Ending} (h : TwoS w W S1 S2 q p d) (h1 : OpIs W S1 q (n, d') e W1) (h2 : ROpIs W1 S2 p (n', d') e' W2) : TwoI w W2 q p d' := by
  have hsz := h.below.size
  have hs1 := h1.2.2.size
  have hs2 := h2.2.2.size
  have hd1 : ∀ k, Wid S1 W W1 k → ¬ S2 k := fun k hk h3 => by
    rcases hk with hk | hk
    · exact h.apart k hk h3
    · have := h.two.low k h3
      omega
  refine ⟨Wid S1 W W1, Wid S2 W1 W2, h1.2.1.only2 h2.2.2 hd1, h2.2.1, fun k hk h3 => ?_, fun k hk => ?_, fun k hk => ?_, ?_⟩
  · rcases h3 with h3 | h3
    · exact hd1 k hk h3
    · have := h1.2.1.low2 k hk
      omega
  · rcases hk with hk | hk
    · exact h.new1 k hk
    · omega
  · rcases hk with hk | hk
    · exact h.new2 k hk
    · omega
  · have b1 : Below w.heap.size W W1 := h1.2.2.below (fun i hi hs => by have := h.new1 i hs; omega) hsz
    have b2 : Below w.heap.size W1 W2 := h2.2.2.below (fun i hi hs => by have := h.new2 i hs; omega) (by omega)
    exact h.below.trans (b1.trans b2)
set_option maxRecDepth 100000 in
set_option maxHeartbeats 4000000 in
theorem both_b {w : World} {v : Value} {l : List OpT} (hs : OpsAt w v l) (hll : l.length ≤ 100) (hlx : ∀ x ∈ l, x.bytes.length ≤ 2000) :
    Calls Try.prog 72 #[v] w fun e w' => ∃ q p, e = .returned (.tuple #[.pointer (some ⟨q, 0, none⟩), .pointer (some ⟨p, 0, none⟩)]) ∧ TwoI w w' q p (Dk.opsT ⟨[], [], 0⟩ l) := by
  obtain ⟨ob, cb, rfl⟩ := hs.row.shape
  obtain ⟨n, hn⟩ : ∃ n, l.length = n := ⟨_, rfl⟩
  rw [hn] at hs hll ⊢
  have HS := Lib.hid hs
  have HN := Lib.hid hn
  have HLX := Lib.hid hlx
  clear hs hn hlx
  have hnil : ∀ W : World, readAt W 2 (.slice none 0 0) 0 (fateCells []) := fun W => ⟨rfl, .inl ⟨rfl, none, 0, rfl, fun _ => rfl⟩⟩
  have HNIL := Lib.hid hnil
  clear hnil
  go_enter Try.func72, Try.ntmps72
  go_wp2_with fail
  refine (newF_b (l := []) (n := 0) rfl (HNIL.out w) (Nat.zero_le _) rfl).mono ?_
  rintro e w1 ⟨q, rfl, hd1, hb1⟩
  have HD1 := Lib.hid (And.intro hd1 hb1)
  clear hd1 hb1
  go_wp2_with fail
  refine (refNew_b (fs := []) (n := 0) rfl (HNIL.out w1) (Nat.zero_le _)).mono ?_
  rintro e w2 ⟨p, rfl, hr2, hb2⟩
  have HI0 : Hid (TwoI w w2 q p ⟨[], [], 0⟩) := Lib.hid ⟨_, _, HD1.out.1.below hb2, hr2, fun k h1 h2 => by have := h1.2; have := h2.1; omega, fun k h1 => h1.1, fun k h1 => Nat.le_trans HD1.out.2.size h1.1, HD1.out.2.trans (hb2.mono HD1.out.2.size)⟩
  clear hr2 hb2
  go_wp2_with fail
  go_loopw [7] (fun i wr => ∃ (j : Nat), j ≤ n ∧ i = .int .i64 j ∧ Hid (TwoI w wr q p (Dk.opsT ⟨[], [], 0⟩ (l.take j)))) (fun i wr => n - (intOf i).toNat)
  case atStart => exact ⟨0, Nat.zero_le _, rfl, HI0⟩
  case round =>
    obtain ⟨j, hj, rfl, HI⟩ := hrel
    obtain ⟨d, hd⟩ : ∃ d, Dk.opsT ⟨[], [], 0⟩ (l.take j) = d := ⟨_, rfl⟩
    rw [hd] at HI
    by_cases hlt : j < n
    · have hjl : j < l.length := by rw [HN.out]; exact hlt
      obtain ⟨x, hx⟩ : ∃ x, l[j] = x := ⟨_, rfl⟩
      have hxl : x ∈ l := by rw [← hx]; exact List.getElem_mem _
      have HPT : Hid (Dk.opsT ⟨[], [], 0⟩ (l.take (j + 1)) = d.opT x) := Lib.hid (by rw [opsT_succ hjl, hd, hx])
      obtain ⟨S1, S2, hI⟩ := HI.out
      have hsr := HS.out.below hI.below
      have hok := hsr.each x hxl
      have hrow : readAt wr 3 (.slice ob n cb) n (opsCells l) := by have := hsr.row; rwa [HN.out] at this
      obtain ⟨g, off, rfl⟩ := hrow.addr (by omega)
      have hcell : ∀ i, i < 3 → ∀ u, x.cells[i]? = some u → wr.cell? ⟨g, off + (j * 3 + i), none⟩ = some u := fun i hi u hu => hrow.cellAt (by rw [opsCells_get hjl hi, hx, hu])
      obtain ⟨oB, cB, hbv⟩ := hok.bytes.shape
      obtain ⟨kd, hkd⟩ : ∃ k, x.kind = k := ⟨_, rfl⟩
      obtain ⟨lb, hlb⟩ : ∃ k, x.bytes.length = k := ⟨_, rfl⟩
      rw [hlb] at hbv
      have k0 : wr.cell? ⟨g, off + j * 3, none⟩ = some (.int .i64 kd) := hcell 0 (by omega) _ (by rw [← hkd]; rfl)
      have k1 : wr.cell? ⟨g, off + j * 3 + 1, none⟩ = some (.string x.name) := hcell 1 (by omega) _ rfl
      have k2 : wr.cell? ⟨g, off + j * 3 + 2, none⟩ = some (.slice oB lb cB) := hcell 2 (by omega) _ (by rw [← hbv]; rfl)
      obtain ⟨w2, hw2⟩ : ∃ w2 : World, w2 = wr.alloc (.cells #[.int .i64 kd, .string x.name, .slice oB lb cB] 204) := ⟨_, rfl⟩
      obtain ⟨b8, hb8⟩ : ∃ b, b = wr.heap.size := ⟨_, rfl⟩
      have hc2 : w2.heap[b8]? = some (.cells #[.int .i64 kd, .string x.name, .slice oB lb cB] 204 (0, 0)) := by rw [hw2, hb8]; exact alloc_cells _ _ _
      have hb2 : Below wr.heap.size wr w2 := by rw [hw2]; exact (Below.refl _ _).alloc (Nat.le_refl _) _
      have HX := Lib.hid (And.intro hbv (And.intro hlb (And.intro hkd hxl)))
      have HLB : Hid (lb ≤ 2000) := Lib.hid (by rw [← hlb]; exact HLX.out x hxl)
      have HI2 := Lib.hid (hI.grown hb2)
      have HOK : Hid (x.name.size ≤ maxLen ∧ readAt w2 1 (.slice oB x.bytes.length cB) x.bytes.length (byteCells x.bytes)) := Lib.hid ⟨hok.name, by have := (hok.below hb2).bytes; rw [hbv, ← hlb] at this; exact this⟩
      have HNS : Hid (∀ k, (Value.slice oB x.bytes.length cB).ownBlock = some k → 0 < x.bytes.length → k < w.heap.size) := Lib.hid (fun k hk h0 => (HS.out.each x hxl).bytes.lt h0 k (by rw [hbv]; rw [hlb] at hk; exact hk))
      have HB8 : Hid ((∀ k, S1 k → k ≠ b8) ∧ b8 < w2.heap.size) := Lib.hid ⟨fun k hk => by have := hI.one.low2 k hk; omega, (Array.getElem?_eq_some_iff.1 hc2).1⟩
      have HC2 := Lib.hid hc2
      clear hx hxl hsr hok hrow hcell hbv hkd hlb hb2 hd hI HI
      go_upto_region 7 with fail
      rw [← hw2, ← hb8]
      have c0 : w2.cell? ⟨b8, 0, none⟩ = some (.int .i64 kd) := cell_of hc2 rfl
      have c1 : w2.cell? ⟨b8, 1, none⟩ = some (.string x.name) := cell_of hc2 rfl
      have c2 : w2.cell? ⟨b8, 2, none⟩ = some (.slice oB lb cB) := cell_of hc2 rfl
      clear hw2 hb8 hc2 k0 k1 k2
      have HFIN : Hid (∀ wx : World, TwoI w wx q p (d.opT x) → Hid (TwoI w wx q p (Dk.opsT ⟨[], [], 0⟩ (l.take (j + 1))))) := Lib.hid (fun wx h1 => Lib.hid (by rw [HPT.out]; exact h1))
      by_cases hkk : kd = 1 ∨ kd = 2 ∨ kd = 3 ∨ kd = 4 ∨ kd = 5
      · rcases hkk with rfl | rfl | rfl | rfl | rfl
        · have HDT : Hid (d.opT x = (d.create x.name.data.toList).2) := Lib.hid (by unfold Dk.opT; rw [HX.out.2.2.1]; rfl)
          go_wp2_with fail
          refine (create_b HI2.out.one x.name HOK.out.1).mono ?_
          rintro e w3 ho
          obtain rfl := ho.1
          have hm := HI2.out.mid ho
          have hc3 := (ho.2.2.block b8 HB8.out.2 (fun h => HB8.out.1 b8 h rfl)).trans HC2.out
          have c0' : w3.cell? ⟨b8, 0, none⟩ = some (.int .i64 1) := cell_of hc3 rfl
          have c1' : w3.cell? ⟨b8, 1, none⟩ = some (.string x.name) := cell_of hc3 rfl
          have c2' : w3.cell? ⟨b8, 2, none⟩ = some (.slice oB lb cB) := cell_of hc3 rfl
          have HRC := Lib.hid (refCreate_b hm x.name HOK.out.1)
          have HO := Lib.hid ho
          clear ho hm hc3
          go_wp2_with fail
          refine (HRC.out).mono ?_
          rintro e w4 ho4
          obtain rfl := ho4.1
          have HIN := HFIN.out _ (by rw [HDT.out]; exact HI2.out.next HO.out ho4)
          clear ho4
          go_wp2_with fail
          exact ⟨⟨j + 1, by omega, by simp, HIN⟩, by simp [intOf]; omega⟩
        · have HDT : Hid (d.opT x = (d.append x.name.data.toList x.bytes).2) := Lib.hid (by unfold Dk.opT; rw [HX.out.2.2.1]; rfl)
          have HAP := Lib.hid (append_b HI2.out.one x.name HOK.out.1 oB cB x.bytes HOK.out.2 (fun k hk h0 hc => by have := HNS.out k hk h0; have := HI2.out.new1 k hc; omega) (by rw [HX.out.2.1]; have := HLB.out; omega))
          rw [HX.out.2.1] at HAP
          go_wp2_with fail
          refine (HAP.out).mono ?_
          rintro e w3 ho
          obtain rfl := ho.1
          have hm := HI2.out.mid ho
          have hc3 := (ho.2.2.block b8 HB8.out.2 (fun h => HB8.out.1 b8 h rfl)).trans HC2.out
          have c0' : w3.cell? ⟨b8, 0, none⟩ = some (.int .i64 2) := cell_of hc3 rfl
          have c1' : w3.cell? ⟨b8, 1, none⟩ = some (.string x.name) := cell_of hc3 rfl
          have c2' : w3.cell? ⟨b8, 2, none⟩ = some (.slice oB lb cB) := cell_of hc3 rfl
          have hrb : readAt w3 1 (.slice oB x.bytes.length cB) x.bytes.length (byteCells x.bytes) := HOK.out.2.kept (fun k hk hk2 h0 => ho.2.2.block k hk (fun hc => by have := HNS.out k hk2 h0; have := HI2.out.new1 k hc; omega))
          have HRC := Lib.hid (refAppend_b hm x.name HOK.out.1 oB cB x.bytes hrb (fun k hk h0 hc => by have := HNS.out k hk h0; have := HI2.out.new2 k hc; omega))
          rw [HX.out.2.1] at HRC
          have HO := Lib.hid ho
          clear ho hm hc3 hrb
          go_wp2_with fail
          refine (HRC.out).mono ?_
          rintro e w4 ho4
          obtain rfl := ho4.1
          have HIN := HFIN.out _ (by rw [HDT.out]; exact HI2.out.next HO.out ho4)
          clear ho4
          go_wp2_with fail
          exact ⟨⟨j + 1, by omega, by simp, HIN⟩, by simp [intOf]; omega⟩
        · have HDT : Hid (d.opT x = (d.sync x.name.data.toList).2) := Lib.hid (by unfold Dk.opT; rw [HX.out.2.2.1]; rfl)
          go_wp2_with fail
          refine (sync_b HI2.out.one x.name HOK.out.1).mono ?_
          rintro e w3 ho
          obtain rfl := ho.1
          have hm := HI2.out.mid ho
          have hc3 := (ho.2.2.block b8 HB8.out.2 (fun h => HB8.out.1 b8 h rfl)).trans HC2.out
          have c0' : w3.cell? ⟨b8, 0, none⟩ = some (.int .i64 3) := cell_of hc3 rfl
          have c1' : w3.cell? ⟨b8, 1, none⟩ = some (.string x.name) := cell_of hc3 rfl
          have c2' : w3.cell? ⟨b8, 2, none⟩ = some (.slice oB lb cB) := cell_of hc3 rfl
          have HRC := Lib.hid (refSync_b hm x.name HOK.out.1)
          have HO := Lib.hid ho
          clear ho hm hc3
          go_wp2_with fail
          refine (HRC.out).mono ?_
          rintro e w4 ho4
          obtain rfl := ho4.1
          have HIN := HFIN.out _ (by rw [HDT.out]; exact HI2.out.next HO.out ho4)
          clear ho4
          go_wp2_with fail
          exact ⟨⟨j + 1, by omega, by simp, HIN⟩, by simp [intOf]; omega⟩
        · have HDT : Hid (d.opT x = (d.syncdir).2) := Lib.hid (by unfold Dk.opT; rw [HX.out.2.2.1]; rfl)
          go_wp2_with fail
          refine (syncdir_b HI2.out.one).mono ?_
          rintro e w3 ho
          obtain rfl := ho.1
          have hm := HI2.out.mid ho
          have hc3 := (ho.2.2.block b8 HB8.out.2 (fun h => HB8.out.1 b8 h rfl)).trans HC2.out
          have c0' : w3.cell? ⟨b8, 0, none⟩ = some (.int .i64 4) := cell_of hc3 rfl
          have c1' : w3.cell? ⟨b8, 1, none⟩ = some (.string x.name) := cell_of hc3 rfl
          have c2' : w3.cell? ⟨b8, 2, none⟩ = some (.slice oB lb cB) := cell_of hc3 rfl
          have HRC := Lib.hid (refSyncDir_b hm)
          have HO := Lib.hid ho
          clear ho hm hc3
          go_wp2_with fail
          refine (HRC.out).mono ?_
          rintro e w4 ho4
          obtain rfl := ho4.1
          have HIN := HFIN.out _ (by rw [HDT.out]; exact HI2.out.next HO.out ho4)
          clear ho4
          go_wp2_with fail
          exact ⟨⟨j + 1, by omega, by simp, HIN⟩, by simp [intOf]; omega⟩
        · have HDT : Hid (d.opT x = (d.remove x.name.data.toList).2) := Lib.hid (by unfold Dk.opT; rw [HX.out.2.2.1]; rfl)
          go_wp2_with fail
          refine (remove_b HI2.out.one x.name HOK.out.1).mono ?_
          rintro e w3 ho
          obtain rfl := ho.1
          have hm := HI2.out.mid ho
          have hc3 := (ho.2.2.block b8 HB8.out.2 (fun h => HB8.out.1 b8 h rfl)).trans HC2.out
          have c0' : w3.cell? ⟨b8, 0, none⟩ = some (.int .i64 5) := cell_of hc3 rfl
          have c1' : w3.cell? ⟨b8, 1, none⟩ = some (.string x.name) := cell_of hc3 rfl
          have c2' : w3.cell? ⟨b8, 2, none⟩ = some (.slice oB lb cB) := cell_of hc3 rfl
          have HRC := Lib.hid (refRemove_b hm x.name HOK.out.1)
          have HO := Lib.hid ho
          clear ho hm hc3
          go_wp2_with fail
          refine (HRC.out).mono ?_
          rintro e w4 ho4
          obtain rfl := ho4.1
          have HIN := HFIN.out _ (by rw [HDT.out]; exact HI2.out.next HO.out ho4)
          clear ho4
          go_wp2_with fail
          exact ⟨⟨j + 1, by omega, by simp, HIN⟩, by simp [intOf]; omega⟩
      · have e1 : (kd == 1) = false := by simp; omega
        have e2 : (kd == 2) = false := by simp; omega
        have e3 : (kd == 3) = false := by simp; omega
        have e4 : (kd == 4) = false := by simp; omega
        have e5 : (kd == 5) = false := by simp; omega
        have HDT : Hid (d.opT x = d) := Lib.hid (by unfold Dk.opT; rw [HX.out.2.2.1, if_neg (by omega), if_neg (by omega), if_neg (by omega), if_neg (by omega), if_neg (by omega)])
        clear hkk
        go_wp2_with fail
        have HIN := HFIN.out _ (by rw [HDT.out]; exact ⟨S1, S2, HI2.out⟩)
        exact ⟨⟨j + 1, by omega, by simp, HIN⟩, by simp [intOf]; omega⟩
    · obtain rfl : j = n := by omega
      have HE : Hid (TwoI w wr q p (Dk.opsT ⟨[], [], 0⟩ l)) := Lib.hid (by
        rw [List.take_of_length_le (by rw [HN.out]; exact Nat.le_refl _)] at hd
        rw [hd]; exact HI.out)
      clear hd
      go_wp2_with fail
      go_ret2
      exact ⟨q, p, rfl, HE.out⟩
end Go.Proofs.Ytmkjejngnahpeaa
/- stops: the unsure files, how they lie; in how many ways they may be. -/
namespace Go.Proofs.Ytmkjejngnahpeaa
open Go Go.Maps Go.RowKit

structure U0 where
  name : Bool
  more : Nat
def U0.cells (u : U0) : List Value := [.bool u.name, .int .i64 u.more]
def uCells (l : List U0) : List Value := l.flatMap U0.cells
theorem uCells_length : ∀ l : List U0, (uCells l).length = l.length * 2
  | [] => rfl
  | x :: r => by
    show (x.cells ++ uCells r).length = _
    simp only [List.length_append, List.length_cons, uCells_length r]
    show 2 + _ = _
    omega
theorem uCells_append (a b : List U0) : uCells (a ++ b) = uCells a ++ uCells b := by simp [uCells]
theorem uCells_get : ∀ {l : List U0} {j i : Nat} (hj : j < l.length), i < 2 → (uCells l)[j * 2 + i]? = (l[j].cells)[i]?
  | x :: r, 0, i, _, hi => by
    show (x.cells ++ uCells r)[0 * 2 + i]? = _
    rw [Nat.zero_mul, Nat.zero_add, List.getElem?_append_left (show i < 2 from hi)]
    rfl
  | x :: r, j + 1, i, hj, hi => by
    show (x.cells ++ uCells r)[(j + 1) * 2 + i]? = _
    have h : x.cells.length = 2 := rfl
    rw [List.getElem?_append_right (by rw [h]; omega), h]
    have e : (j + 1) * 2 + i - 2 = j * 2 + i := by omega
    rw [e, uCells_get (l := r) (by simpa using hj) hi]
    rfl
theorem uCells_one (l : List U0) : ∀ v ∈ uCells l, v.oneCell' = true := by
  intro v hv
  obtain ⟨f, _, h⟩ := List.mem_flatMap.1 hv
  simp only [U0.cells, List.mem_cons, List.not_mem_nil, or_false] at h
  rcases h with rfl | rfl <;> rfl
/-- v is a row of these unsure files -/
abbrev usAt (w : World) (v : Value) (l : List U0) : Prop := readAt w 2 v l.length (uCells l)
theorem us_cell {w : World} {g off N c i j : Nat} {l : List U0} (h : readAt w 2 (.slice (some ⟨g, off, none⟩) N c) N (uCells l)) (hj : j < l.length) (hi : i < 2) {u : Value} (hu : (l[j].cells)[i]? = some u) : w.cell? ⟨g, off + j * 2 + i, none⟩ = some u := by
  have := h.cellAt (i := j * 2 + i) (u := u) (by rw [uCells_get hj hi, hu])
  simpa [Nat.add_assoc] using this
def U0.ways (u : U0) : Nat := u.more + 1 + (if u.name = true then 1 else 0)
theorem U0.ways_pos (u : U0) : 1 ≤ u.ways := by unfold U0.ways; omega
theorem U0.ways_le {u : U0} (h : u.more ≤ 16777216) : u.ways ≤ 16777218 := by unfold U0.ways; split <;> omega
set_option maxRecDepth 100000 in
set_option maxHeartbeats 400000 in
theorem ways_b (b : Bool) (m : Nat) (hm : m ≤ 16777216) (w : World) : Calls Try.prog 138 #[.agg #[.bool b, .int .i64 m]] w fun e w' => e = .returned (.int .i64 ((U0.mk b m).ways)) ∧ Below w.heap.size w w' := by
  have hb1 : Below w.heap.size w (w.alloc (.cells #[.bool b, .int .i64 m] 213)) := (Below.refl _ _).alloc (Nat.le_refl _) _
  cases b
  · have he : ((U0.mk false m).ways : Int) = (m : Int) + 1 := by simp [U0.ways]
    rw [he]
    go_enter Try.func138, Try.ntmps138
    go_wp2_with fail
    go_ret
    exact ⟨rfl, hb1⟩
  · have he : ((U0.mk true m).ways : Int) = (m : Int) + 1 + 1 := by simp [U0.ways]
    rw [he]
    go_enter Try.func138, Try.ntmps138
    go_wp2_with fail
    go_ret
    exact ⟨rfl, hb1⟩
def most62 : Nat := 4611686018427387904
def countStep (a : Option Nat) (u : U0) : Option Nat := a.bind fun n => if most62 / u.ways < n then none else some (n * u.ways)
/-- in how many ways all may be, if they can be counted -/
def countT (l : List U0) : Option Nat := l.foldl countStep (some 1)
theorem countT_succ {l : List U0} {j : Nat} (hj : j < l.length) : countT (l.take (j + 1)) = countStep (countT (l.take j)) l[j] := by
  unfold countT
  rw [List.take_succ_eq_append_getElem hj, List.foldl_append]
  rfl
theorem count_none : ∀ (l : List U0), l.foldl countStep none = none
  | [] => rfl
  | _ :: r => count_none r
theorem countT_none {l : List U0} {j : Nat} (h : countT (l.take j) = none) : countT l = none := by
  rw [← List.take_append_drop j l]
  unfold countT at *
  rw [List.foldl_append, h, count_none]
theorem countT_le : ∀ (l : List U0) (a c : Nat), a ≤ most62 → l.foldl countStep (some a) = some c → c ≤ most62
  | [], a, c, ha, h => by
    simp only [List.foldl_nil, Option.some.injEq] at h
    omega
  | u :: r, a, c, ha, h => by
    rw [List.foldl_cons] at h
    unfold countStep at h
    rw [Option.bind_some] at h
    split at h
    · have := count_none r
      unfold countStep at this
      rw [this] at h
      cases h
    · rename_i hle
      have h1 : a ≤ most62 / u.ways := by omega
      have h2 : a * u.ways ≤ most62 := Nat.le_trans (Nat.mul_le_mul_right _ h1) (Nat.div_mul_le_self _ _)
      exact countT_le r (a * u.ways) c h2 h
theorem countT_most {l : List U0} {c : Nat} (h : countT l = some c) : c ≤ most62 := countT_le l 1 c (by unfold most62; omega) h
def cntV (r : Option Nat) : Value × Int := match r with
  | some c => (.int .i64 c, 0)
  | none => (.int .i64 0, 3)
set_option maxRecDepth 100000 in
set_option maxHeartbeats 1000000 in
theorem count_b {w : World} {oa : Option Addr} {n c : Nat} {l : List U0} (hn : l.length = n) (h : readAt w 2 (.slice oa n c) n (uCells l)) (hm : n ≤ 1000000) (hsm : ∀ u ∈ l, u.more ≤ 16777216) :
    Calls Try.prog 134 #[.slice oa n c] w fun e w' => e = .returned (.tuple #[(cntV (countT l)).1, .int .i64 (cntV (countT l)).2]) ∧ Below w.heap.size w w' := by
  have HR := Lib.hid h
  have HN := Lib.hid hn
  have HS := Lib.hid hsm
  clear h hn hsm
  go_enter Try.func134, Try.ntmps134
  go_wp2_with fail
  go_loopw [4, 9] (fun s i wr => ∃ (j k : Nat), j ≤ n ∧ i = .int .i64 j ∧ s = .int .i64 k ∧ Hid (countT (l.take j) = some k) ∧ Hid (Below w.heap.size w wr)) (fun _ i wr => n - (intOf i).toNat)
  case atStart => exact ⟨0, 1, Nat.zero_le _, rfl, rfl, Lib.hid (by simp [countT]), Lib.hid (Below.refl _ _)⟩
  case round =>
    obtain ⟨j, k, hj, rfl, rfl, HC, HB⟩ := hrel
    by_cases hlt : j < n
    · have hjl : j < l.length := by rw [HN.out]; exact hlt
      have hrw : readAt wr 2 (.slice oa n c) n (uCells l) := HR.out.kept (fun k hl _ _ => HB.out.block k hl)
      obtain ⟨g, off, rfl⟩ := hrw.addr (by omega)
      obtain ⟨u, hu⟩ : ∃ u, l[j] = u := ⟨_, rfl⟩
      have hum : u.more ≤ 16777216 := HS.out u (by rw [← hu]; exact List.getElem_mem _)
      obtain ⟨ub, hub⟩ : ∃ b, u.name = b := ⟨_, rfl⟩
      obtain ⟨um, humm⟩ : ∃ m, u.more = m := ⟨_, rfl⟩
      have k0 : wr.cell? ⟨g, off + j * 2, none⟩ = some (.bool ub) := us_cell (i := 0) hrw hjl (by omega) (by rw [hu, ← hub]; rfl)
      have k1 : wr.cell? ⟨g, off + j * 2 + 1, none⟩ = some (.int .i64 um) := us_cell (i := 1) hrw hjl (by omega) (by rw [hu, ← humm]; rfl)
      have hue : u = ⟨ub, um⟩ := by rw [← hub, ← humm]
      have HCS : Hid (countT (l.take (j + 1)) = countStep (some k) ⟨ub, um⟩) := Lib.hid (by rw [countT_succ hjl, HC.out, hu, hue])
      have HW := Lib.hid (fun W => ways_b ub um (by omega) W)
      obtain ⟨W, hW⟩ : ∃ W, (U0.mk ub um).ways = W := ⟨_, rfl⟩
      have hkm := countT_most HC.out
      have humm' := humm
      clear hrw hu hue hub humm
      go_upto_region 5 with fail
      obtain ⟨w2, hw2⟩ : ∃ W : World, W = wr.alloc (.cells #[.bool ub, .int .i64 um] 213) := ⟨_, rfl⟩
      obtain ⟨b6, hb6⟩ : ∃ b, b = wr.heap.size := ⟨_, rfl⟩
      have h2 : w2.heap[b6]? = some (.cells #[.bool ub, .int .i64 um] 213 (0, 0)) := by rw [hw2, hb6]; exact alloc_cells _ _ _
      have hb2 : Below wr.heap.size wr w2 := by rw [hw2]; exact (Below.refl _ _).alloc (Nat.le_refl _) _
      rw [← hw2, ← hb6]
      have HB2 := Lib.hid (HB.out.trans (hb2.mono HB.out.size))
      have H2 := Lib.hid h2
      have y0 : w2.cell? ⟨b6, 0, none⟩ = some (.bool ub) := cell_of h2 rfl
      have y1 : w2.cell? ⟨b6, 1, none⟩ = some (.int .i64 um) := cell_of h2 rfl
      clear hw2 hb6 h2 hb2 k0 k1
      go_wp2_with fail
      refine (HW.out w2).mono ?_
      rintro e w3 ⟨rfl, hb3⟩
      rw [hW]
      have h3 := (hb3.block b6 (Array.getElem?_eq_some_iff.1 H2.out).1).trans H2.out
      have y0' : w3.cell? ⟨b6, 0, none⟩ = some (.bool ub) := cell_of h3 rfl
      have y1' : w3.cell? ⟨b6, 1, none⟩ = some (.int .i64 um) := cell_of h3 rfl
      have HB3 := Lib.hid (HB2.out.trans (hb3.mono HB2.out.size))
      have hWp : 1 ≤ W := by rw [← hW]; exact U0.ways_pos _
      have hWm : W ≤ 16777218 := by rw [← hW]; exact U0.ways_le (by show um ≤ _; rw [← humm']; exact hum)
      have hq : (4611686018427387904 : Int) / (W : Int) = ((most62 / W : Nat) : Int) := by rw [Int.natCast_ediv]; rfl
      clear hb3 h3
      by_cases hbig : most62 / W < k
      · have hd : decide ((4611686018427387904 : Int) / (W : Int) < (k : Int)) = true := decide_eq_true (by rw [hq]; omega)
        have HE : Hid (countT l = none) := Lib.hid (countT_none (j := j + 1) (by
          rw [HCS.out]
          unfold countStep
          rw [Option.bind_some, hW, if_pos hbig]))
        clear hq
        go_wp2_with fail
        go_ret2
        exact ⟨by rw [HE.out]; rfl, HB3.out⟩
      · have hd : decide ((4611686018427387904 : Int) / (W : Int) < (k : Int)) = false := decide_eq_false (by rw [hq]; omega)
        have hkw : k * W ≤ most62 := Nat.le_trans (Nat.mul_le_mul_right _ (by omega)) (Nat.div_mul_le_self _ _)
        obtain ⟨kw, hkwe⟩ : ∃ m, k * W = m := ⟨_, rfl⟩
        have hmul : (k : Int) * (W : Int) = (kw : Int) := by rw [← hkwe]; exact (Int.natCast_mul k W).symm
        have HE : Hid (countT (l.take (j + 1)) = some kw) := Lib.hid (by
          rw [HCS.out]
          unfold countStep
          rw [Option.bind_some, hW, if_neg hbig, hkwe])
        rw [hkwe] at hkw
        unfold most62 at hkw
        clear hq hkwe hbig hkm
        go_wp2_with fail
        refine (HW.out w3).mono ?_
        rintro e w4 ⟨rfl, hb4⟩
        rw [hW]
        have HB4 := Lib.hid (HB3.out.trans (hb4.mono HB3.out.size))
        clear hb4
        go_wp2_with fail
        exact ⟨⟨j + 1, kw, by omega, by simp, by simp, HE, HB4⟩, by simp [intOf]; omega⟩
    · obtain rfl : j = n := by omega
      have HE : Hid (countT l = some k) := Lib.hid (by
        have h1 := HC.out
        rwa [List.take_of_length_le (by rw [HN.out]; exact Nat.le_refl _)] at h1)
      go_wp2_with fail
      go_ret2
      exact ⟨by rw [HE.out]; rfl, HB.out⟩
end Go.Proofs.Ytmkjejngnahpeaa
/- stops: the ways of files by their number: digits. -/
namespace Go.Proofs.Ytmkjejngnahpeaa
open Go

/-- in how many ways all may be -/
def prodW : List U0 → Nat
  | [] => 1
  | u :: r => u.ways * prodW r
/-- the k-th way of all: each file's -/
def digT : List U0 → Nat → List Nat
  | [], _ => []
  | u :: r, k => (k / prodW r % u.ways) :: digT r k
theorem prodW_pos : ∀ l : List U0, 0 < prodW l
  | [] => Nat.one_pos
  | u :: r => Nat.mul_pos u.ways_pos (prodW_pos r)
theorem prodW_append : ∀ A B : List U0, prodW (A ++ B) = prodW A * prodW B
  | [], B => (Nat.one_mul _).symm
  | u :: A, B => by
    show u.ways * prodW (A ++ B) = u.ways * prodW A * prodW B
    rw [prodW_append A B, Nat.mul_assoc]
theorem digT_len : ∀ (l : List U0) (k : Nat), (digT l k).length = l.length
  | [], _ => rfl
  | u :: r, k => by
    show (digT r k).length + 1 = r.length + 1
    rw [digT_len r k]
theorem digT_append : ∀ (A B : List U0) (k : Nat), digT (A ++ B) k = digT A (k / prodW B) ++ digT B k
  | [], B, k => rfl
  | u :: A, B, k => by
    show (k / prodW (A ++ B) % u.ways) :: digT (A ++ B) k = (k / prodW B / prodW A % u.ways) :: (digT A (k / prodW B) ++ digT B k)
    rw [digT_append A B k, prodW_append, Nat.div_div_eq_div_mul, Nat.mul_comm (prodW B)]
theorem digT_mul : ∀ (B : List U0) (c : Nat), digT B (c * prodW B) = List.replicate B.length 0
  | [], _ => rfl
  | u :: r, c => by
    show (c * (u.ways * prodW r) / prodW r % u.ways) :: digT r (c * (u.ways * prodW r)) = _
    rw [← Nat.mul_assoc, digT_mul r (c * u.ways), Nat.mul_div_cancel _ (prodW_pos r), Nat.mul_mod_left]
    rfl
theorem digT_zero (l : List U0) : digT l 0 = List.replicate l.length 0 := by
  have := digT_mul l 0
  rwa [Nat.zero_mul] at this
theorem digT_lt : ∀ (l : List U0) (k : Nat) (j : Nat) (h : j < l.length) (h2 : j < (digT l k).length), (digT l k)[j] < l[j].ways
  | u :: r, k, 0, _, _ => Nat.mod_lt _ u.ways_pos
  | u :: r, k, j + 1, h, h2 => digT_lt r k j (by simpa using h) (by simpa [digT] using h2)
/-- the ways while one is counted on: from place m on all stood at their ends -/
def rowM (l : List U0) (k m : Nat) : List Nat := digT (l.take m) (k / prodW (l.drop m)) ++ List.replicate (l.length - m) 0
theorem rowM_full (l : List U0) (k : Nat) : rowM l k l.length = digT l k := by
  unfold rowM
  rw [List.take_length, List.drop_length, Nat.sub_self]
  simp [prodW]
theorem rowM_len {l : List U0} {k m : Nat} (h : m ≤ l.length) : (rowM l k m).length = l.length := by
  unfold rowM
  rw [List.length_append, digT_len, List.length_take, List.length_replicate]
  omega
theorem drop_cons {l : List U0} {j : Nat} (hj : j < l.length) : prodW (l.drop j) = l[j].ways * prodW (l.drop (j + 1)) := by
  rw [List.drop_eq_getElem_cons hj]
  rfl
theorem digT_snoc (A : List U0) (u : U0) (k : Nat) : digT (A ++ [u]) k = digT A (k / u.ways) ++ [k % u.ways] := by
  rw [digT_append]
  simp [digT, prodW]
theorem rowM_split {l : List U0} {k j : Nat} (hj : j < l.length) : rowM l k (j + 1) = digT (l.take j) (k / prodW (l.drop j)) ++ (k / prodW (l.drop (j + 1)) % l[j].ways) :: List.replicate (l.length - (j + 1)) 0 := by
  unfold rowM
  rw [List.take_succ_eq_append_getElem hj, digT_snoc, Nat.div_div_eq_div_mul, drop_cons hj, Nat.mul_comm (prodW _)]
  simp
theorem rowM_get {l : List U0} {k j : Nat} (hj : j < l.length) : (rowM l k (j + 1))[j]? = some (k / prodW (l.drop (j + 1)) % l[j].ways) := by
  rw [rowM_split hj, List.getElem?_append_right (by rw [digT_len, List.length_take]; omega)]
  rw [digT_len, List.length_take, Nat.min_eq_left (Nat.le_of_lt hj), Nat.sub_self]
  rfl
/-- all from m on at their ends -/
def EndsFrom (l : List U0) (k m : Nat) : Prop := k % prodW (l.drop m) + 1 = prodW (l.drop m)
theorem ends_full (l : List U0) (k : Nat) : EndsFrom l k l.length := by
  unfold EndsFrom
  rw [List.drop_length]
  simp [prodW, Nat.mod_one]
theorem ends_step {l : List U0} {k j : Nat} (hj : j < l.length) (h : EndsFrom l k (j + 1)) (hd : k / prodW (l.drop (j + 1)) % l[j].ways + 1 = l[j].ways) : EndsFrom l k j := by
  unfold EndsFrom at *
  rw [drop_cons hj, Nat.mul_comm, Nat.mod_mul]
  obtain ⟨P, hP⟩ : ∃ P, prodW (l.drop (j + 1)) = P := ⟨_, rfl⟩
  obtain ⟨a, ha⟩ : ∃ a, k / P % l[j].ways = a := ⟨_, rfl⟩
  rw [hP] at h hd ⊢
  rw [ha] at hd ⊢
  rw [← hd, Nat.mul_add, Nat.mul_one]
  omega
theorem rowM_zero {l : List U0} {k j : Nat} (hj : j < l.length) : (rowM l k (j + 1)).set j 0 = rowM l k j := by
  rw [rowM_split hj]
  rw [List.set_append_right _ _ (by rw [digT_len, List.length_take]; omega), digT_len, List.length_take, Nat.min_eq_left (Nat.le_of_lt hj), Nat.sub_self]
  unfold rowM
  have e : l.length - j = (l.length - (j + 1)) + 1 := by omega
  rw [e, List.replicate_succ]
  rfl
theorem rowM_next {l : List U0} {k j : Nat} (hj : j < l.length) (h : EndsFrom l k (j + 1)) (hd : k / prodW (l.drop (j + 1)) % l[j].ways + 1 ≠ l[j].ways) : (rowM l k (j + 1)).set j (k / prodW (l.drop (j + 1)) % l[j].ways + 1) = digT l (k + 1) := by
  rw [rowM_split hj]
  rw [List.set_append_right _ _ (by rw [digT_len, List.length_take]; omega), digT_len, List.length_take, Nat.min_eq_left (Nat.le_of_lt hj), Nat.sub_self]
  unfold EndsFrom at h
  have hP := prodW_pos (l.drop (j + 1))
  have hW := l[j].ways_pos
  have hmod := Nat.mod_lt (k / prodW (l.drop (j + 1))) (show 0 < l[j].ways from hW)
  have hc : k + 1 = (k / prodW (l.drop (j + 1)) + 1) * prodW (l.drop (j + 1)) := by
    have := Nat.div_add_mod k (prodW (l.drop (j + 1)))
    rw [Nat.add_mul, Nat.one_mul, Nat.mul_comm]
    omega
  have hq : (k + 1) / prodW (l.drop (j + 1)) = k / prodW (l.drop (j + 1)) + 1 := by rw [hc, Nat.mul_div_cancel _ hP]
  have hdr : digT (l.drop (j + 1)) (k + 1) = List.replicate (l.length - (j + 1)) 0 := by
    rw [hc, digT_mul, List.length_drop]
  obtain ⟨P, hPe⟩ : ∃ P, prodW (l.drop (j + 1)) = P := ⟨_, rfl⟩
  obtain ⟨W, hWe⟩ : ∃ W, l[j].ways = W := ⟨_, rfl⟩
  obtain ⟨q, hqe⟩ : ∃ q, k / P = q := ⟨_, rfl⟩
  rw [hPe, hqe] at hq
  rw [hPe, hWe, hqe] at hd hmod
  have hq1 : q + 1 = W * (q / W) + (q % W + 1) := by
    have := Nat.div_add_mod q W
    omega
  have hlt : q % W + 1 < W := by omega
  have hW0 : 0 < W := by omega
  have hm : (q + 1) % W = q % W + 1 := by rw [hq1, Nat.mul_add_mod, Nat.mod_eq_of_lt hlt]
  have hv : (q + 1) / W = q / W := by rw [hq1, Nat.mul_add_div hW0, Nat.div_eq_of_lt hlt, Nat.add_zero]
  have hup : (k + 1) / prodW (l.drop j) = k / prodW (l.drop j) := by
    rw [drop_cons hj, hWe, hPe, Nat.mul_comm, ← Nat.div_div_eq_div_mul, ← Nat.div_div_eq_div_mul, hq, hqe, hv]
  have hrest : digT (l.drop j) (k + 1) = (q % W + 1) :: List.replicate (l.length - (j + 1)) 0 := by
    rw [List.drop_eq_getElem_cons hj]
    show ((k + 1) / prodW (l.drop (j + 1)) % l[j].ways) :: digT (l.drop (j + 1)) (k + 1) = _
    rw [hdr, hPe, hWe, hq, hm]
  rw [hPe, hWe, hqe]
  have hfull : digT l (k + 1) = digT (l.take j ++ l.drop j) (k + 1) := by rw [List.take_append_drop]
  rw [hfull, digT_append, hup, hrest]
  rfl
theorem last_digit0 {k A W P : Nat} (hA : 0 < A) (hW : 0 < W) (hP : 0 < P) (hk : k + 1 = A * (W * P)) : k / P % W + 1 = W := by
  obtain ⟨W', rfl⟩ : ∃ x, W = x + 1 := ⟨W - 1, by omega⟩
  obtain ⟨A', rfl⟩ : ∃ x, A = x + 1 := ⟨A - 1, by omega⟩
  obtain ⟨P', rfl⟩ : ∃ x, P = x + 1 := ⟨P - 1, by omega⟩
  have e2 : (A' + 1) * ((W' + 1) * (P' + 1)) = (P' + 1) * ((W' + 1) * A' + W') + (P' + 1) := by
    rw [← Nat.mul_add_one (P' + 1), Nat.add_assoc, ← Nat.mul_add_one (W' + 1) A', Nat.mul_comm (P' + 1), Nat.mul_comm (W' + 1) (A' + 1), Nat.mul_assoc]
  have e1 : k = (P' + 1) * ((W' + 1) * A' + W') + P' := by omega
  rw [e1, Nat.mul_add_div (by omega), Nat.div_eq_of_lt (show P' < P' + 1 by omega)]
  show ((W' + 1) * A' + W') % (W' + 1) + 1 = W' + 1
  rw [Nat.mul_add_mod, Nat.mod_eq_of_lt (by omega)]
/-- at the last number each file stands at its end -/
theorem last_digit {l : List U0} {k j : Nat} (hj : j < l.length) (hk : k + 1 = prodW l) : k / prodW (l.drop (j + 1)) % l[j].ways + 1 = l[j].ways := by
  have hl : prodW l = prodW (l.take j) * (l[j].ways * prodW (l.drop (j + 1))) := by rw [← drop_cons hj, ← prodW_append, List.take_append_drop]
  exact last_digit0 (prodW_pos _) l[j].ways_pos (prodW_pos _) (hk.trans hl)
end Go.Proofs.Ytmkjejngnahpeaa
/- Disk: going over what All tells, each file one of those told. -/
namespace Go.Proofs.Ytmkjejngnahpeaa
open Go Go.Maps Go.RowKit Go.Shelf
open Go.Proofs (encStr)
attribute [local go_sem] Oper.semAt_some

abbrev Of (fs : List F0) := { f : F0 // f ∈ fs }
def encOf (fs : List F0) (x : Of fs) : Array Value := #[fileV x.1]
set_option maxRecDepth 100000 in
set_option maxHeartbeats 1000000 in
theorem toldIn (F : Fence) (n : Nat) (h7 : F.fn 161) (hro : F.round = none) (hn : 1 ≤ n) (l vb : Nat) (w : World) (fs : List F0) (hsq : SeqAt w vb fs) (hfs : fs.length ≤ 1000000) (J Jx : Nat → World → Prop) (W : World) (hW : Below w.heap.size w W)
    (hJ : AbidesFrom W.heap.size J)
    (hY : ∀ j (hj : j < fs.length) W1, J j W1 → YieldAt F (n - 1) Try.prog l #[fileV fs[j]] W1 fun e W' =>
      (e = .returned (.bool true) ∧ J (j + 1) W' ∧ Below w.heap.size W1 W') ∨ (e = .returned (.bool false) ∧ Jx (j + 1) W')) (h0 : J 0 W) :
    CallsIn F n Try.prog 161 #[.func (.yield l) #[] #[], .pointer (some ⟨vb, 0, none⟩)] W fun e W' => (∃ v, e = .returned v) ∧ (J fs.length W' ∨ ∃ j, Jx j W') := by
  obtain ⟨v, hv, hrow⟩ := hsq
  obtain ⟨oa, c, rfl, hnc⟩ := hrow.shape
  obtain ⟨N, hN⟩ : ∃ N, fs.length = N := ⟨_, rfl⟩
  rw [hN] at hv hrow hnc hfs
  have cv : W.cell? ⟨vb, 0, none⟩ = some (.slice oa N c) := cell_of ((hW.block vb (Array.getElem?_eq_some_iff.1 hv).1).trans hv) rfl
  have HR := Lib.hid hrow
  have HN := Lib.hid hN
  have HY := Lib.hid hY
  have HJ := Lib.hid hJ
  have HW := Lib.hid hW
  clear hv hrow hN hY hJ hW
  refine callsIn_of_wp Try.func161 rfl h7 ?_ hro
  simp only [Try.ntmps161, List.size_toArray, List.length_cons, List.length_nil, Nat.reduceAdd, Nat.reduceSub, Array.replicate_succ, Array.replicate_zero, List.push_toArray, List.append_toArray, List.nil_append, List.cons_append]
  gi_wp2
  gi_loopw [7] (fun i wr => ∃ j : Nat, j ≤ N ∧ i = .int .i64 j ∧ J j wr ∧ Below w.heap.size w wr ∧ W.heap.size ≤ wr.heap.size) (fun i wr => N - (intOf i).toNat)
  case atStart => exact ⟨0, Nat.zero_le _, rfl, h0, HW.out, Nat.le_refl _⟩
  case round =>
    obtain ⟨j, hj, rfl, hJs, hbw, hWr⟩ := hrel
    by_cases hlt : j < N
    · have hjf : j < fs.length := by rw [HN.out]; exact hlt
      have hrw := HR.out.kept (fun k hk => hbw.block k (HR.out.lt k hk))
      obtain ⟨g, off, rfl⟩ := hrw.addr (by omega)
      obtain ⟨x, hx⟩ : ∃ x, fs[j] = x := ⟨_, rfl⟩
      have hcell : ∀ i, i < 5 → ∀ u, (fileCells x)[i]? = some u → wr.cell? ⟨g, off + (j * 5 + i), none⟩ = some u := fun i hi u hu => by
        have := hrw.cells (g := g) (off := off) rfl (j * 5 + i) u (by rw [filesCells_get hjf hi, hx, hu])
        simpa [Go.WideShapes.add_plain] using this
      have k0 : wr.cell? ⟨g, off + j * 5, none⟩ = some (encStr x.name) := hcell 0 (by omega) _ rfl
      have k1 : wr.cell? ⟨g, off + j * 5 + 1, none⟩ = some (.int .i64 x.bytes.length) := hcell 1 (by omega) _ rfl
      have k2 : wr.cell? ⟨g, off + j * 5 + 2, none⟩ = some (.int .i64 x.lasts) := hcell 2 (by omega) _ rfl
      have k3 : wr.cell? ⟨g, off + j * 5 + 3, none⟩ = some (.bool x.there) := hcell 3 (by omega) _ rfl
      have k4 : wr.cell? ⟨g, off + j * 5 + 4, none⟩ = some (.bool x.named) := hcell 4 (by omega) _ rfl
      obtain ⟨a0, ha0⟩ : ∃ a : ByteArray, encStr x.name = .string a := ⟨_, rfl⟩
      obtain ⟨a1, ha1⟩ : ∃ a : Int, (x.bytes.length : Int) = a := ⟨_, rfl⟩
      obtain ⟨a2, ha2⟩ : ∃ a : Int, (x.lasts : Int) = a := ⟨_, rfl⟩
      obtain ⟨a3, ha3⟩ : ∃ a, x.there = a := ⟨_, rfl⟩
      obtain ⟨a4, ha4⟩ : ∃ a, x.named = a := ⟨_, rfl⟩
      have HV : Hid (fileV x = .agg #[.string a0, .int .i64 a1, .int .i64 a2, .bool a3, .bool a4]) := Lib.hid (by unfold fileV; rw [ha0, ha1, ha2, ha3, ha4])
      rw [ha0] at k0; rw [ha1] at k1; rw [ha2] at k2; rw [ha3] at k3; rw [ha4] at k4
      have HX := Lib.hid hx
      have HJS := Lib.hid hJs
      have HBW := Lib.hid hbw
      obtain ⟨w2, hw2⟩ : ∃ w2 : World, w2 = wr.alloc (.cells #[.string a0, .int .i64 a1, .int .i64 a2, .bool a3, .bool a4] 78) := ⟨_, rfl⟩
      have hg2 : wr.grownBy w2 none := by rw [hw2]; exact World.grownBy_alloc _ _ _
      have hJ2 : J j w2 := HJ.out j wr w2 none hJs hg2 (fun r e => by cases e)
      obtain ⟨fn, tmps, assign, body, hy, hR⟩ := HY.out j hjf w2 hJ2
      rw [hx, HV.out] at hy
      have HRD := Lib.hid hR
      have HB2 : Hid (Below w.heap.size w w2 ∧ W.heap.size ≤ w2.heap.size) := Lib.hid ⟨hbw.trans ((below_grown hg2).mono hbw.size), Nat.le_trans hWr hg2.size⟩
      clear hcell hrw hx hJs hbw ha0 ha1 ha2 ha3 ha4 hJ2 hg2 hR HJS
      subst hw2
      gi_wp2
      refine HRD.out.mono ?_
      rintro e W3 (⟨rfl, hJ3, hk3⟩ | ⟨rfl, hJx3⟩)
      · have HJ3 : Hid (J (j + 1) W3) := Lib.hid hJ3
        have HB3 : Hid (Below w.heap.size w W3 ∧ W.heap.size ≤ W3.heap.size) := Lib.hid ⟨HB2.out.1.trans hk3, Nat.le_trans HB2.out.2 hk3.size⟩
        clear hJ3 hk3
        gi_wp2
        exact ⟨⟨j + 1, by omega, by simp, HJ3.out, HB3.out.1, HB3.out.2⟩, by simp [intOf]; omega⟩
      · have HX3 : Hid (Jx (j + 1) W3) := Lib.hid hJx3
        clear hJx3
        gi_wp2
        refine bodyPost_ret (results_none rfl _ _ _) rfl ?_
        exact ⟨⟨_, rfl⟩, .inr ⟨j + 1, HX3.out⟩⟩
    · obtain rfl : j = N := by omega
      have HE : Hid (J fs.length wr) := Lib.hid (by rw [HN.out]; exact hJs)
      clear hJs
      gi_wp2
      go_end0
      exact ⟨⟨_, rfl⟩, .inl HE.out⟩
/-- **going over what All tells** -/
theorem told_stops (F : Fence) (n : Nat) (h7 : F.fn 161) (hro : F.round = none) (hn : 1 ≤ n) (vb : Nat) (w : World) (fs : List F0) (hsq : SeqAt w vb fs) (hfs : fs.length ≤ 1000000) :
    SeqStopsK F n Try.prog 161 #[.pointer (some ⟨vb, 0, none⟩)] (encOf fs) (Below w.heap.size) (fun ys => ys.map (·.1) = fs) (fun _ => True) fs.length w := fun l J Jx W hW hJ _ hY h0 => by
  have hlen : fs.attach.length = fs.length := List.length_attach
  refine (toldIn F n h7 hro hn l vb w fs hsq hfs (fun j W => J (fs.attach.take j) W) (fun j W => Jx (fs.attach.take j) W) W hW (fun s A B row h hg hr => hJ _ A B row h hg hr) (fun j hj W1 h1 => ?_) (by simpa using h0)).mono ?_
  · have hj' : j < fs.attach.length := by rw [hlen]; exact hj
    have hx : (fs.attach[j]).1 = fs[j] := by simp
    have h2 := hY (fs.attach.take j) (fs.attach[j]) W1 h1 (by rw [List.length_take]; omega)
    rw [← List.take_succ_eq_append_getElem hj'] at h2
    have e : encOf fs fs.attach[j] = #[fileV fs[j]] := by unfold encOf; rw [hx]
    rw [e] at h2
    exact h2
  · rintro e W' ⟨he, h | ⟨j, h⟩⟩
    · refine ⟨he, .inl ⟨fs.attach, by simp, ?_⟩⟩
      rwa [← hlen, List.take_length] at h
    · exact ⟨he, .inr ⟨_, trivial, h⟩⟩
end Go.Proofs.Ytmkjejngnahpeaa
/- stops: is there a disk; a range over a function whose variable is boxed. -/
namespace Go.Proofs.Ytmkjejngnahpeaa
open Go Go.Maps Go.RowKit Go.Shelf

/-- all below n stands as it stood, but for one block -/
abbrev But (b n : Nat) (w w' : World) : Prop := Only (fun k => k = b ∨ n ≤ k) w w'
theorem But.join {b n : Nat} {A B C : World} (h : But b n A B) (k : But b n B C) : But b n A C := Only.trans h k (fun _ _ h => h)
theorem But.of {b n : Nat} {A B : World} (h : Below A.heap.size A B) : But b n A B := Only.of_below h (Nat.le_refl _) _
theorem But.put {b n : Nat} {w : World} (hn : n ≤ w.heap.size) (W : World) (l : Nat) (o o' : Obj) (hl : w.heap.size ≤ l) (_ : W.heap[l]? = some o) (_ : o.isCells = false) (_ : o.isWalk = false) : But b n W (W.putObj l o') :=
  Only.of_grown (grownBy_putObj' W l o') (fun k e => by cases e; exact .inr (by omega))
theorem keepsFrom_below2 {B : Nat} {W W' : World} (h : Below W.heap.size W W') : KeepsFrom B W W' := ⟨h.size, fun k _ _ hk _ => (h.block k (Array.getElem?_eq_some_iff.1 hk).1).trans hk⟩
/-- **A RANGE OVER A FUNCTION WHOSE VARIABLE IS BOXED ANEW IN EACH ROUND** -/
theorem wpIn_rangeFunc_fresh {F : Fence} {n : Nat} {P : Program} {α : Type} {g : Operand} {ps : Array Tmp} {assign body : Code} {Q : Exit → Act → World → Prop} {a : Act} {w : World}
    (hro : F.round = none) (h1 : 1 ≤ n) {gf : Nat} {lb : Array Value} (hg : a.eval g = .func (.func gf) #[] lb) (hFg : F.fn gf) (eg : ∀ args w, (callFunc gf args).run P w = .ok (.enter gf args) w)
    {encs : α → Array Value} {Kp : World → World → Prop} {S Sp : List α → Prop} {N : Nat} {w0 : World} (hseq : SeqStopsK F (n - 1) P gf lb encs Kp S Sp N w0)
    (hKt : ∀ {A B C : World}, Kp A B → Kp B C → Kp A C) (hKb : ∀ (W : World) (l : Nat) (o o' : Obj), w.heap.size ≤ l → W.heap[l]? = some o → o.isCells = false → o.isWalk = false → Kp W (W.putObj l o')) (hKa : ∀ (W : World) (o : Obj), w.heap.size ≤ W.heap.size → Kp W (W.alloc o)) (hb0 : Below w0.heap.size w0 w) (hps : ∀ x, (encs x).size = ps.size)
    (I : List α → World → Prop) (Ix : Code → List α → World → Prop) (hI : OwnFrom w.heap.size I) (hIx : ∀ c, OwnFrom w.heap.size (Ix c)) (h0 : I [] w) (hsz : ∀ pre W, I pre W → w.heap.size ≤ W.heap.size)
    (t : TypeId) (val : α → Array Value) (A : α → Nat → Act)
    (hassign : ∀ (l : Nat) (x : α) (W : World) (K : Act → World → Prop) (B : Nat), B = W.heap.size → K (A x B) (W.alloc (.cells (val x) t)) →
      assign.wpIn (F.inRound l) (n - 1 - 1) P (Exit.then K (fun _ _ _ => False)) { tmps := (ps.zip (encs x)).foldl (fun t (p, v) => t.setIfInBounds p v) a.tmps, defers := [] } W)
    (hbody : ∀ (l : Nat) (pre : List α) (x : α) (B : Nat) (W : World), w.heap.size ≤ l → (∃ r, W.heap[l]? = some (.loop r)) → I pre W → w.heap.size ≤ B → W.heap[B]? = some (.cells (val x) t (0, 0)) → pre.length < N → body.wpIn (F.inRound l) (n - 1 - 1) P (ownPostG w.heap.size Kp I Ix (pre ++ [x]) W) (A x B) W)
    (hdone : ∀ (D : Nat) (xs : List α) (W : World), w.heap.size ≤ D → S xs → I xs W → W.heap[D]? = some (.deferred (some [])) → Q .normal { a with defers := { target := .collected D, args := #[] } :: a.defers } W)
    (hstop : ∀ (D : Nat) (c : Code) (pre : List α) (W : World), w.heap.size ≤ D → Sp pre → Ix c pre W → W.heap[D]? = some (.deferred (some [])) → c.wpIn F n P Q { a with defers := { target := .collected D, args := #[] } :: a.defers } W) :
    (Code.rangeFunc g ps assign body).wpIn F n P Q a w :=
  wpIn_rangeFunc_ownH hro h1 hg hFg eg hseq hKt hKb hb0 hps I Ix hI hIx h0
    (fun x a' W => ∃ B, w.heap.size ≤ B ∧ W.heap[B]? = some (.cells (val x) t (0, 0)) ∧ a' = A x B)
    (fun x a' _ X Y row hs hg hr => by
      obtain ⟨B, e1, e2, e3⟩ := hs
      refine ⟨B, e1, (hg.block B (Array.getElem?_eq_some_iff.1 e2).1 (fun e => ?_)).trans e2, e3⟩
      obtain ⟨_, o, ho, hc⟩ := hr B e.symm
      rw [e2] at ho
      cases ho
      cases hc)
    (fun l pre x W K hi hK => hassign l x W K _ rfl (hK _ _ ((KeepsOthers.alloc _ _).from _) (hKa _ _ (hsz _ _ hi)) (hI.alloc _ hi) ⟨W.heap.size, hsz _ _ hi, alloc_cells _ _ _, rfl⟩))
    (fun l pre x a' W hl hr hi ⟨B, e1, e2, e3⟩ hlen => by subst e3; exact hbody l pre x B W hl hr hi e1 e2 hlen) hdone hstop
set_option maxRecDepth 100000 in
set_option maxHeartbeats 400000 in
theorem snone_b {w : World} {S : Nat → Prop} {q : Nat} {d : Dk} (h : DiskAt w S q d) (hfm : d.fates.length ≤ 1000000000) :
    Calls Try.prog 133 #[.pointer (some ⟨q, 0, none⟩)] w fun e w' => e = .returned (.bool false) ∧ Below w.heap.size w w' := by
  go_enter Try.func133, Try.ntmps133
  go_wp2_with fail
  refine (copy_b h hfm).mono ?_
  rintro e w1 ⟨qo, rfl, hd, hb⟩
  clear hd h
  go_wp2_with fail
  go_ret
  exact ⟨rfl, hb⟩
set_option maxRecDepth 100000 in
set_option maxHeartbeats 400000 in
theorem snone_nil {w : World} {pp : Option Addr} (h : IsNone w pp) : Calls Try.prog 133 #[.pointer pp] w fun e w' => e = .returned (.bool true) ∧ w' = w := by
  cases pp with
  | none =>
    go_enter Try.func133, Try.ntmps133
    go_wp2_with fail
    go_ret
    exact ⟨rfl, rfl⟩
  | some a =>
    go_enter Try.func133, Try.ntmps133
    go_wp2_with fail
    refine (copy_nil h).mono ?_
    rintro e w1 ⟨rfl, rfl⟩
    go_wp2_with fail
    go_ret
    exact ⟨rfl, rfl⟩
end Go.Proofs.Ytmkjejngnahpeaa
