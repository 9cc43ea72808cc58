/- The texts Ps, Fb, Fc, Pu, My, Kitf, Yf, Pz, Pza in one. -/
import Derived.Test.YtlgcoaeddeiegaaGreatV10
import Derived.Defers
import Derived.Recover
import Derived.Test.YtlgcoaeddeiegaaGreatV8
import Derived.ControlIn
import Derived.Scope
import Derived.WalkMore
import Derived.Shelf.Abstract
/- partlog: must, caught, dies. -/
namespace Go.Proofs.YtlgcoaeddeiegaaGreat
open Go Go.RowKit
attribute [local go_sem] Oper.semAt_some

/-- what a step that fails is given up with -/
def stopV (e : Int) : Value := .iface 241 (.agg #[.int .i64 e])
set_option maxHeartbeats 400000 in
theorem must_ok (w : World) : Calls Tryz.prog 65 #[.int .i64 0] w fun e w' => e = .returned (.tuple #[]) ∧ w' = w := by
  go_enter Tryz.func65, Tryz.ntmps65
  go_wp2_with fail
  go_end0
  exact ⟨rfl, rfl⟩
set_option maxHeartbeats 400000 in
theorem must_no {er : Int} (h : er ≠ 0) (w : World) : Calls Tryz.prog 65 #[.int .i64 er] w fun e w' => e = .panicked [{ v := stopV er, recovered := false }] ∧ w' = w := by
  have hc : (er == 0) = false := beq_eq_false_iff_ne.2 h
  have d1 : (er != 0) = true := by unfold bne; rw [hc]; rfl
  clear hc h
  go_enter Tryz.func65, Tryz.ntmps65
  go_wp2_with fail
  exact ⟨rfl, rfl, rfl⟩
set_option maxRecDepth 100000 in
set_option maxHeartbeats 1000000 in
/-- the frame returns: nothing is done -/
theorem caughtIdle_b {w : World} {a : Value} :
    CallsD Tryz.prog 62 #[a] .returning w fun e u' w' => e = .returned (.tuple #[]) ∧ u' = .returning ∧ w' = w := by
  refine callsD_of_wpS Tryz.func62 rfl fun c₀ cs hu => ?_
  apply wpS_seq
  apply wpS_region
  simp [wpOpsS, go_sem, recoverD, hu, Tryz.ntmps62, Exit.thenS]
  refine wpS_of_wp ?_
  go_wp2_with fail
  cases c₀
  simp_all [bodyPostS, results, Tryz.results62]
set_option maxRecDepth 100000 in
set_option maxHeartbeats 1000000 in
/-- the frame panics with a stop: its error is put into e -/
theorem caughtStop_b {w : World} {b : Nat} {x : Value} {er : Int} {older : List PanicEntry} (h : w.heap[b]? = some (.cells #[x] 28 (0, 0))) :
    CallsD Tryz.prog 62 #[.pointer (some ⟨b, 0, none⟩)] (.panicking ({ v := stopV er, recovered := false } :: older)) w fun e u' w' =>
      e = .returned (.tuple #[]) ∧ u' = .panicking ({ v := stopV er, recovered := true } :: older) ∧ w'.heap[b]? = some (.cells #[.int .i64 er] 28 (0, 0)) ∧ Only (fun k => k = b) w w' := by
  unfold stopV
  refine callsD_of_wpS Tryz.func62 rfl fun c₀ cs hu => ?_
  apply wpS_seq
  apply wpS_region
  simp [wpOpsS, go_sem, recoverD, hu, Tryz.ntmps62, Exit.thenS]
  refine wpS_of_wp ?_
  simp only [Array.replicate_succ, Array.replicate_zero, List.push_toArray, List.nil_append, List.cons_append]
  have hta : ∀ W : World, (Instr.typeAssert (.iface 241 (.agg #[.int .i64 er])) 20 241 true).run Tryz.prog W = .ok (.tuple #[.agg #[.int .i64 er], .bool true]) W := fun W => by kernel_rfl
  go_upto_region 7 with fail
  obtain ⟨w1, hw1⟩ : ∃ W : World, W = w.alloc (.cells #[.int .i64 er] 241) := ⟨_, rfl⟩
  obtain ⟨b5, hb5⟩ : ∃ b, b = w.heap.size := ⟨_, rfl⟩
  have h5 : w1.heap[b5]? = some (.cells #[.int .i64 er] 241 (0, 0)) := by rw [hw1, hb5]; exact alloc_cells _ _ _
  have hb1 : Below w.heap.size w w1 := by rw [hw1]; exact (Below.refl _ _).alloc (Nat.le_refl _) _
  have g2 := (hb1.block b (Array.getElem?_eq_some_iff.1 h).1).trans h
  have H := Lib.hid (And.intro g2 hb1)
  have HU := Lib.hid hu
  have k5 : w1.cell? ⟨b5, 0, none⟩ = some (.int .i64 er) := cell_of h5 rfl
  have k2 : w1.cell? ⟨b, 0, none⟩ = some x := cell_of g2 rfl
  have z2 : w1.frozen? ⟨b, 0, none⟩ = false := free_of g2 _
  have n5 : b5 ≠ b := by have := (Array.getElem?_eq_some_iff.1 h).1; omega
  have n6 := n5.symm
  rw [← hw1, ← hb5]
  clear hw1 hb5 h5 hb1 g2 h hta hu
  go_wp2_with fail
  refine ⟨rfl, _, rfl, _, results_none rfl _ _ _, rfl, rfl, heap_setCell_here _ H.out.1, ?_⟩
  exact (Only.of_below H.out.2 (Nat.le_refl _) (fun k => k = b)).trans (only_setCell (fun k => k = b) _ b 0 (.int .i64 er) rfl) (fun _ _ e => e)
set_option maxRecDepth 100000 in
set_option maxHeartbeats 1000000 in
/-- all went well: the log lives on -/
theorem diesOk_b {w : World} {lp b : Nat} {u : FrameMode} (h : w.heap[b]? = some (.cells #[.int .i64 0] 28 (0, 0))) :
    CallsD Tryz.prog 73 #[.pointer (some ⟨lp, 0, none⟩), .pointer (some ⟨b, 0, none⟩)] u w fun e u' w' => u' = u ∧ e = .returned (.tuple #[]) ∧ w' = w := by
  have k : w.cell? ⟨b, 0, none⟩ = some (.int .i64 0) := cell_of h rfl
  refine CallsD.mono (R := fun e u' w' => u' = u ∧ e = .returned (.tuple #[]) ∧ w' = w) ?_ (fun _ _ _ h => h)
  go_enter_d Tryz.func73, Tryz.ntmps73
  go_wp2_with fail
  go_end0
  exact ⟨rfl, rfl⟩
set_option maxRecDepth 100000 in
set_option maxHeartbeats 1000000 in
/-- a step failed: the log is dead -/
theorem diesNo_b {w : World} {lp b : Nat} {u : FrameMode} {er : Int} (he : er ≠ 0) (h : w.heap[b]? = some (.cells #[.int .i64 er] 28 (0, 0))) {cs : Array Value} {x : Value} (hl : w.heap[lp]? = some (.cells cs 82 (0, 0))) (hx : cs[4]? = some x) :
    CallsD Tryz.prog 73 #[.pointer (some ⟨lp, 0, none⟩), .pointer (some ⟨b, 0, none⟩)] u w fun e u' w' => u' = u ∧ e = .returned (.tuple #[]) ∧ w' = w.setCell ⟨lp, 4, none⟩ (.bool true) := by
  have k : w.cell? ⟨b, 0, none⟩ = some (.int .i64 er) := cell_of h rfl
  have k4 : w.cell? ⟨lp, 4, none⟩ = some x := cell_of hl hx
  have z4 : w.frozen? ⟨lp, 4, none⟩ = false := free_of hl _
  have hc : (er == 0) = false := beq_eq_false_iff_ne.2 he
  have d1 : (er != 0) = true := by unfold bne; rw [hc]; rfl
  clear hc he h hl hx
  refine CallsD.mono (R := fun e u' w' => u' = u ∧ e = .returned (.tuple #[]) ∧ w' = w.setCell ⟨lp, 4, none⟩ (.bool true)) ?_ (fun _ _ _ h => h)
  go_enter_d Tryz.func73, Tryz.ntmps73
  go_wp2_with fail
  go_end0
  exact ⟨rfl, rfl⟩
end Go.Proofs.YtlgcoaeddeiegaaGreat
/- Disk: SyncDir: what is gone is struck from the map. -/
namespace Go.Proofs.YtlgcoaeddeiegaaGreat
open Go Go.Maps Go.RowKit
open Go.Proofs (encStr)

set_option maxHeartbeats 400000 in
theorem gone_b {w : World} {x : Fl} (s : Value) {b : Bool} (hb : x.f.there = b) (h : FlAt w x) : Calls Tryz.prog 137 #[s, .pointer (some ⟨x.blk, 0, none⟩)] w fun e w' => e = .returned (.bool (!b)) ∧ w' = w := by
  have c2 : w.cell? ⟨x.blk, 2, none⟩ = some (.bool b) := by rw [← hb]; exact cell_of h.cells rfl
  clear h hb
  go_enter Tryz.func137, Tryz.ntmps137
  go_wp2_with fail
  go_ret
  exact ⟨rfl, rfl⟩
/-- the files that are there, or are still to come -/
def stayF (left : Lit → Bool) (L : List Fl) : List Fl := L.filter fun x => x.f.there || left (.string x.f.name)
theorem stayF_sub (left : Lit → Bool) (L : List Fl) : (stayF left L).Sublist L := List.filter_sublist
def pairsF (L : List Fl) : List (List UInt8 × Nat) := L.map fun x => (x.f.name, x.blk)
theorem mem_pairsF {L : List Fl} {s : List UInt8} {b : Nat} (h : (s, b) ∈ pairsF L) : ∃ x ∈ L, x.f.name = s ∧ x.blk = b := by
  obtain ⟨x, hx, he⟩ := List.mem_map.1 h
  simp only [Prod.mk.injEq] at he
  exact ⟨x, hx, he.1, he.2⟩
theorem eq_of_name {L : List Fl} (hnd : (L.map (·.f.name)).Nodup) {x y : Fl} (hx : x ∈ L) (hy : y ∈ L) (h : x.f.name = y.f.name) : x = y := by
  induction L with
  | nil => cases hx
  | cons a l ih =>
    rw [List.map_cons, List.nodup_cons] at hnd
    rcases List.mem_cons.1 hx with hx1 | hx1
    · rcases List.mem_cons.1 hy with hy1 | hy1
      · rw [hx1, hy1]
      · exact absurd (by rw [← hx1, h]; exact List.mem_map_of_mem (f := fun x : Fl => x.f.name) hy1) hnd.1
    · rcases List.mem_cons.1 hy with hy1 | hy1
      · exact absurd (by rw [← hy1, ← h]; exact List.mem_map_of_mem (f := fun x : Fl => x.f.name) hx1) hnd.1
      · exact ih hnd.2 hx1 hy1
theorem stay_there {L : List Fl} (hnd : (L.map (·.f.name)).Nodup) {left : Lit → Bool} {x : Fl} (hx : x ∈ L) (ht : x.f.there = true) : stayF (fun z => left z && !z.sameKey (.string x.f.name)) L = stayF left L := by
  refine List.filter_congr fun y hy => ?_
  by_cases he : y.f.name = x.f.name
  · rw [eq_of_name hnd hy hx he, ht]; rfl
  · show (y.f.there || (left _ && !_)) = _
    rw [sameKey_str, decide_eq_false he]; simp
theorem stay_gone {L : List Fl} (hnd : (L.map (·.f.name)).Nodup) {left : Lit → Bool} {x : Fl} (hx : x ∈ L) (ht : x.f.there = false) (f : List UInt8 × Nat) : f ∈ pairsF (stayF (fun z => left z && !z.sameKey (.string x.f.name)) L) ↔ f ∈ pairsF (stayF left L) ∧ f.1 ≠ x.f.name := by
  simp only [pairsF, stayF, List.mem_map, List.mem_filter]
  constructor
  · rintro ⟨y, ⟨hy, hk⟩, rfl⟩
    have hne : y.f.name ≠ x.f.name := fun he => by
      rw [eq_of_name hnd hy hx he, ht, sameKey_str] at hk
      simp at hk
    refine ⟨⟨y, ⟨hy, ?_⟩, rfl⟩, hne⟩
    rw [sameKey_str, decide_eq_false hne] at hk
    simpa using hk
  · rintro ⟨⟨y, ⟨hy, hk⟩, rfl⟩, hne⟩
    refine ⟨y, ⟨hy, ?_⟩, rfl⟩
    rw [sameKey_str, decide_eq_false hne]
    simpa using hk
set_option maxRecDepth 100000 in
set_option maxHeartbeats 1000000 in
theorem delGone_b {w : World} {S : Nat → Prop} {q mb : Nat} {fv : Value} {L : List Fl} {d : Dk} (h : DiskIs w S q mb fv L d) :
    Calls Tryz.prog 136 #[.map (some mb), .func (.func 137) #[] #[]] w fun e w' => e = .returned (.tuple #[]) ∧
      (∃ n' D, w'.ownsMap Tryz.prog 9 ptrElem mb n' D ∧ Dic D (pairsF (L.filter (·.f.there)))) ∧ Only (fun k => k = mb) w w' := by
  obtain ⟨D0, hown, hsz, hd⟩ := h.look
  have hnd := h.nodup
  have hmS : S mb := h.foot mb (by simp [diskBlocks])
  have hmb : mb < w.heap.size := h.low _ hmS
  have hxb : ∀ x ∈ L, ∀ k ∈ x.blocks, k < w.heap.size ∧ k ≠ mb := fun x hx k hk => by
    have hk' : k ∈ L.flatMap Fl.blocks := List.mem_flatMap.2 ⟨x, hx, hk⟩
    have h1 := h.apart
    simp only [diskBlocks, List.nodup_cons] at h1
    exact ⟨h.low k (h.foot k (by simp only [diskBlocks, List.mem_cons, List.mem_append]; exact .inr (.inr (.inr hk')))), fun e => h1.2.1 (by rw [← e]; exact List.mem_append_right _ hk')⟩
  have HX := Lib.hid hxb
  have HE := Lib.hid h.each
  have HND := Lib.hid hnd
  have HD : Hid (Dic D0 (pairsF L)) := Lib.hid hd
  clear h hd hnd hxb hmS hsz
  go_enter Tryz.func136, Tryz.ntmps136
  go_wp2_with (at_range; refine wpList_range_own _ rfl _ 118 rfl 9 175 (string_keyed Tryz.underlying9) Tryz.underlying118 ptrElem mb _ _ rfl hown ?_; intro w0 hrg0 hg0 hs0)
  go_frame
  go_loopw [8] (fun _ wr => ∃ (left : Lit → Bool) (cnt : Nat) (D : DataW Unit), wr.ranges Tryz.prog 9 ptrElem mb w.heap.size L.length D left cnt ∧ Hid (Dic D (pairsF (stayF left L))) ∧ Only (fun k => k = mb) w wr)
    (fun _ wr => wr.rangeLeft mb w.heap.size)
  case atStart =>
    refine ⟨_, _, _, hrg0, Lib.hid ?_, Only.of_grown (S := fun k => k = mb) (hg0.but (some mb)) (fun k hk => by simp at hk; exact hk.symm)⟩
    have e : stayF (has D0) L = L := List.filter_eq_self.2 fun x hx => by
      rw [(HD.out.has x.f.name).2 ⟨_, List.mem_map_of_mem (f := fun x : Fl => (x.f.name, x.blk)) hx, rfl⟩]
      simp
    rw [e]
    exact HD.out
  case round =>
    obtain ⟨left, cnt, D, hrg, HDC, ho⟩ := hrel
    go_wp2_with (at_next; refine wpList_next_dic _ rfl _ rfl HDC.out mb w.heap.size L.length left cnt rfl hrg ?_ ?_)
    · intro hl0
      go_wp2
      go_end0
      refine ⟨rfl, ⟨_, D, hrg.owns, ?_⟩, ho⟩
      have e : stayF left L = L.filter (·.f.there) := List.filter_congr fun x _ => by rw [hl0]; simp
      rw [← e]
      exact HDC.out
    · intro s b w1 cnt1 hmem hls hrg1 hlt hg1 hs1 hen HKEY
      obtain ⟨x, hx, rfl, rfl⟩ := mem_pairsF hmem
      have hxL : x ∈ L := (stayF_sub left L).subset hx
      have ho1 : Only (fun k => k = mb) w w1 := ho.trans (Only.of_grown (S := fun k => k = w.heap.size) hg1 (fun k hk => by simp at hk; exact hk.symm)) (fun i hi he => by omega)
      have HFX : Hid (FlAt w1 x) := Lib.hid ((HE.out x hxL).kept (fun k hk => ho1.block k (HX.out x hxL k hk).1 (HX.out x hxL k hk).2))
      obtain ⟨th, hth⟩ : ∃ th, x.f.there = th := ⟨_, rfl⟩
      cases th
      · have HT : Hid (Dic (D.del (.string x.f.name)) (pairsF (stayF (fun z => left z && !z.sameKey (.string x.f.name)) L))) := Lib.hid (HDC.out.del _ (stay_gone HND.out hxL hth))
        go_wp2_with (first
          | (go_at_call 137; refine (gone_b _ hth HFX.out).mono ?_; rintro e w2 ⟨rfl, rfl⟩)
          | (at_delete; refine wpList_delete_ranges _ rfl _ _ 118 9 rfl 175 (string_keyed Tryz.underlying9) Tryz.underlying118 ptrElem mb w.heap.size L.length _ _ _ rfl hrg1 _ _ rfl HKEY.out ?_; intro w3 cnt3 hrg3 hle hturn; go_frame))
        rw [strike_twice] at hrg3
        go_roundw
        case rel => exact ⟨_, cnt3, _, hrg3, HT, ho1.trans (Only.of_grown (S := fun k => k = mb) hturn.grown (fun k hk => by simp at hk; exact hk.symm)) (fun _ _ h => h)⟩
        case measure => rw [hrg3.left_eq, hrg.left_eq]; omega
      · have HT : Hid (Dic D (pairsF (stayF (fun z => left z && !z.sameKey (.string x.f.name)) L))) := Lib.hid (by rw [stay_there HND.out hxL hth]; exact HDC.out)
        go_wp2_with (go_at_call 137; refine (gone_b _ hth HFX.out).mono ?_; rintro e w2 ⟨rfl, rfl⟩)
        go_roundw
        case rel => exact ⟨_, cnt1, D, hrg1, HT, ho1⟩
        case measure => rw [hrg1.left_eq, hrg.left_eq]; exact hlt
end Go.Proofs.YtlgcoaeddeiegaaGreat
/- Disk: SyncDir. -/
namespace Go.Proofs.YtlgcoaeddeiegaaGreat
open Go Go.Maps Go.RowKit
open Go.Proofs (encStr)

def nameF (x : Fl) : Fl := { x with f := { x.f with named := true } }
/-- the files, as they stand while some are still to come -/
def namedF (left : Lit → Bool) (x : Fl) : Fl := if left (.string x.f.name) = true then x else nameF x
theorem namedF_name (left : Lit → Bool) (x : Fl) : (namedF left x).f.name = x.f.name ∧ (namedF left x).blk = x.blk := by
  unfold namedF
  split <;> exact ⟨rfl, rfl⟩
theorem pairs_named (left : Lit → Bool) (L : List Fl) : pairsF (L.map (namedF left)) = pairsF L := by
  unfold pairsF
  rw [List.map_map]
  exact List.map_congr_left fun x _ => by simp [(namedF_name left x).1, (namedF_name left x).2]
theorem named_split {L : List Fl} (hnd : (L.map (·.f.name)).Nodup) {left : Lit → Bool} {x : Fl} (hx : x ∈ L) (hl : left (.string x.f.name) = true) :
    ∃ A B, L.map (namedF left) = A ++ x :: B ∧ L.map (namedF fun z => left z && !z.sameKey (.string x.f.name)) = A ++ nameF x :: B := by
  obtain ⟨A, B, rfl⟩ := List.append_of_mem hx
  have hne : ∀ y, y ∈ A ∨ y ∈ B → y.f.name ≠ x.f.name := fun y hy he => by
    rw [List.map_append, List.map_cons] at hnd
    have h2 := List.nodup_append.1 hnd
    rcases hy with hy | hy
    · exact h2.2.2 y.f.name (List.mem_map_of_mem (f := fun x : Fl => x.f.name) hy) x.f.name (by simp) he
    · exact (List.nodup_cons.1 h2.2.1).1 (by rw [← he]; exact List.mem_map_of_mem (f := fun x : Fl => x.f.name) hy)
  have hc : ∀ l : List Fl, (∀ y ∈ l, y.f.name ≠ x.f.name) → l.map (namedF fun z => left z && !z.sameKey (.string x.f.name)) = l.map (namedF left) := fun l hl => List.map_congr_left fun y hy => by
    show (if (left (.string y.f.name) && !(Lit.string y.f.name).sameKey (.string x.f.name)) = true then y else nameF y) = if left (.string y.f.name) = true then y else nameF y
    rw [sameKey_str, decide_eq_false (hl y hy)]
    simp
  refine ⟨A.map (namedF left), B.map (namedF left), ?_, ?_⟩
  · rw [List.map_append, List.map_cons]
    congr 2
    unfold namedF
    rw [hl]
    rfl
  · rw [List.map_append, List.map_cons, hc A (fun y hy => hne y (.inl hy)), hc B (fun y hy => hne y (.inr hy))]
    congr 2
    show (if (left (.string x.f.name) && !(Lit.string x.f.name).sameKey (.string x.f.name)) = true then x else nameF x) = nameF x
    rw [sameKey_str]
    simp
theorem set_named {w : World} {S : Nat → Prop} {q mb : Nat} {fv : Value} {A B : List Fl} {x : Fl} {d : Dk} (h : DiskIs w S q mb fv (A ++ x :: B) d) :
    DiskIs (w.setCell ⟨x.blk, 3, none⟩ (.bool true)) S q mb fv (A ++ nameF x :: B) { d with files := (A ++ nameF x :: B).map (·.f) } := by
  have hx := h.each x (by simp)
  have hset : Only (fun k => k = x.blk) w (w.setCell ⟨x.blk, 3, none⟩ (.bool true)) := only_setCell (fun k => k = x.blk) w x.blk 3 _ rfl
  have h1 := h.file_turn (x' := nameF x) rfl rfl (hset.mono (fun i _ hi => by rw [hi]; simp [Fl.blocks])) ⟨heap_setCell_here (w := w) _ hx.cells, hx.row.kept (fun k hk => hset.block k (hx.row.lt k hk) (FlAt.own_ne h k hk)), hx.lasts, hx.size⟩ (fun k hk => .inl hk)
  have e : (A ++ nameF x :: B).map (·.f) = A.map (·.f) ++ (nameF x).f :: B.map (·.f) := by simp
  rw [e]
  refine h1.narrow (fun k hk => ?_) (fun k hk => ?_)
  · rcases hk with hk | hk
    · exact hk
    · have h2 : (w.setCell ⟨x.blk, 3, none⟩ (.bool true)).heap.size = w.heap.size := by simp [World.setCell]
      omega
  · have := h.low k hk
    simpa [World.setCell] using this
theorem syncdir_plain {L : List Fl} {d : Dk} {left : Lit → Bool} (hl : ∀ k, left k = false) (hf : d.fate.1 = 0) (hL : L.map (·.f) = d.files.filter (·.there)) :
    d.syncdir = (0, { d.next with files := (L.map (namedF left)).map (·.f) }) := by
  unfold Dk.syncdir
  rw [hf, if_neg (by simp), ← hL, List.map_map, List.map_map]
  have e : L.map ((fun f : F0 => { f with named := true }) ∘ fun x : Fl => x.f) = L.map ((fun x : Fl => x.f) ∘ namedF left) := List.map_congr_left fun x _ => by simp [namedF, hl, nameF]
  rw [e]
set_option maxRecDepth 100000 in
set_option maxHeartbeats 1000000 in
theorem syncdir_b {w : World} {S : Nat → Prop} {q : Nat} {d : Dk} (h : DiskAt w S q d) :
    Calls Tryz.prog 66 #[.pointer (some ⟨q, 0, none⟩)] w fun e w' => OpIs w S q d.syncdir e w' := by
  obtain ⟨mb, fv, L, h⟩ := h
  have H := Lib.hid h
  clear h
  go_enter Tryz.func66, Tryz.ntmps66
  go_wp2_with fail
  refine (none_b H.out).mono ?_
  rintro e w' ⟨rfl, rfl⟩
  go_wp2_with fail
  refine (step_b H.out).mono ?_
  rintro e w1 ⟨kd, kp, fv', rfl, hkp, h1, ho1⟩
  obtain ⟨er, her⟩ : ∃ er, d.fate.1 = er := ⟨_, rfl⟩
  rw [her]
  have H1 := Lib.hid h1
  have HO1 := Lib.hid ho1
  have HE := Lib.hid her
  clear h1 ho1 hkp her
  go_upto_region 4 with fail
  obtain ⟨w2, hw2⟩ : ∃ w2 : World, w2 = w1.alloc (.cells #[.int .i64 kd, .int .i64 kp] 98) := ⟨_, rfl⟩
  obtain ⟨r, hr⟩ : ∃ r, r = w1.heap.size := ⟨_, rfl⟩
  have h2 : DiskIs w2 S q mb fv' L d.next := by rw [hw2]; exact H1.out.below ((Below.refl _ _).alloc (Nat.le_refl _) _)
  have ho2 : Only (fun k => k = q) w' w2 := by rw [hw2]; exact HO1.out.trans (only_alloc (fun k => k = q) _ _) (fun _ _ h => h)
  rw [← hw2, ← hr]
  clear hw2 hr H1 HO1
  have H2 := Lib.hid h2
  have HO2 := Lib.hid ho2
  clear h2 ho2
  by_cases h0 : er = 0
  · subst h0
    have c0 : w2.cell? ⟨q, 0, none⟩ = some (.map (some mb)) := cell_of H2.out.head rfl
    go_wp2_with fail
    refine (delGone_b H2.out).mono ?_
    rintro e w3 ⟨rfl, ⟨n', D, hown, hdic⟩, ho3⟩
    have h3 := H2.out.files_sub (L' := L.filter (·.f.there)) List.filter_sublist ho3 hown hdic
    obtain ⟨Lt, hLt⟩ : ∃ Lt, Lt = L.filter (·.f.there) := ⟨_, rfl⟩
    rw [← hLt] at h3 hdic
    have c0 : w3.cell? ⟨q, 0, none⟩ = some (.map (some mb)) := cell_of h3.head rfl
    have hown3 := ownsMap_tight hown
    have hnd := h3.nodup
    rw [hdic.size hown (by unfold pairsF; rw [List.map_map]; exact hnd)] at hown3
    have HDIC := Lib.hid hdic
    have HND := Lib.hid hnd
    have H3 := Lib.hid h3
    have HO3 : Hid (Only S w' w3) := Lib.hid ((HO2.out.mono (fun i _ hi => by rw [hi]; exact H2.out.q_mem)).trans ho3 (fun i _ hi => by rw [hi]; exact H2.out.foot _ (by simp [diskBlocks])))
    have HLT : Hid (Lt.map (·.f) = d.files.filter (·.there)) := Lib.hid (by
      rw [hLt]
      have : d.files = L.map (·.f) := H2.out.files.symm
      rw [this, List.filter_map]
      rfl)
    have hmb3 : Hid (mb < w3.heap.size) := Lib.hid hown3.lt
    have HSS : Hid (∀ k, S k → k < w3.heap.size) := Lib.hid h3.low
    clear hown hdic ho3 h3 hnd hLt H2 HO2
    go_wp2_with (at_range; refine wpList_range_own _ rfl _ 118 rfl 9 175 (string_keyed Tryz.underlying9) Tryz.underlying118 ptrElem mb _ _ rfl hown3 ?_; intro w4 hrg4 hg4 hs4)
    go_frame
    go_loopw [27] (fun _ wr => ∃ (left : Lit → Bool) (cnt : Nat), wr.ranges Tryz.prog 9 ptrElem mb w3.heap.size (pairsF Lt).length D left cnt ∧ Hid (DiskIs wr S q mb fv' (Lt.map (namedF left)) { d.next with files := (Lt.map (namedF left)).map (·.f) }) ∧ Hid (Only S w' wr))
      (fun _ wr => wr.rangeLeft mb w3.heap.size)
    case atStart =>
      have ho4 : Only (fun _ => False) w3 w4 := Only.of_grown (S := fun _ => False) hg4 (fun k hk => by simp at hk)
      refine ⟨_, _, hrg4, Lib.hid ?_, Lib.hid (HO3.out.trans ho4 (fun i _ hi => hi.elim))⟩
      have e : Lt.map (namedF (has D)) = Lt := by
        refine (List.map_congr_left fun x hx => ?_).trans (List.map_id _)
        have : has D (.string x.f.name) = true := (HDIC.out.has x.f.name).2 ⟨_, List.mem_map_of_mem (f := fun x : Fl => (x.f.name, x.blk)) hx, rfl⟩
        simp [namedF, this]
      rw [e]
      exact H3.out.only ho4 (fun _ _ h => h)
    case round =>
      obtain ⟨left, cnt, hrg, HDI, HO⟩ := hrel
      go_wp2_with (at_next; refine wpList_next_dic _ rfl _ rfl HDIC.out mb w3.heap.size _ left cnt rfl hrg ?_ ?_)
      · intro hl0
        have HX : Hid (OpIs w' S q d.syncdir (.returned (.int .i64 0)) wr) := Lib.hid (by
          rw [syncdir_plain hl0 HE.out HLT.out]
          refine ⟨rfl, ⟨mb, fv', _, HDI.out.wider (fun k hk => .inl hk) (fun k hk => ?_)⟩, HO.out⟩
          rcases hk with hk | hk
          · exact HDI.out.low k hk
          · exact hk.2)
        go_wp2_with fail
        go_ret
        exact HX.out
      · intro s b w5 cnt5 hmem hls hrg5 hlt hg5 hs5 hen HKEY
        obtain ⟨x, hx, rfl, rfl⟩ := mem_pairsF hmem
        obtain ⟨A, B, hAB, hAB'⟩ := named_split HND.out hx hls
        have hdi := HDI.out
        rw [hAB] at hdi
        have ho5 : Only (fun k => k = w3.heap.size) wr w5 := Only.of_grown (S := fun k => k = w3.heap.size) hg5 (fun k hk => by simp at hk; exact hk.symm)
        have hd5 := hdi.only ho5 (fun k hk he => by have := HSS.out k hk; omega)
        have hxc := (hd5.each x (by simp)).cells
        have k3 : w5.cell? ⟨x.blk, 3, none⟩ = some (.bool x.f.named) := cell_of hxc rfl
        have z3 : w5.frozen? ⟨x.blk, 3, none⟩ = false := free_of hxc _
        have hdn := set_named hd5
        obtain ⟨w6, hw6⟩ : ∃ w6 : World, w6 = w5.setCell ⟨x.blk, 3, none⟩ (.bool true) := ⟨_, rfl⟩
        rw [← hw6] at hdn
        have hxS : S x.blk := hd5.x_mem x.blk (by simp [Fl.blocks])
        have hxne : x.blk ≠ mb := fun e => by
          have h1 := (blocks_perm q mb fv' A x B).nodup_iff.1 hd5.apart
          exact not_mem_of_nodup_append h1 (k := x.blk) (by simp [Fl.blocks]) (by rw [e]; simp [diskBlocks])
        have hrg6 : w6.ranges Tryz.prog 9 ptrElem mb w3.heap.size (pairsF Lt).length D (fun z => left z && !z.sameKey (.string x.f.name)) cnt5 := by
          rw [hw6]
          exact hrg5.kept (grown_setC w5 ⟨x.blk, 3, none⟩ _) (by simp; omega) (by have := HSS.out _ hxS; simp; omega)
        have HO6 : Hid (Only S w' w6) := Lib.hid (by
          rw [hw6]
          exact (HO.out.trans ho5 (fun i hi he => by have := HO3.out.size; omega)).trans (only_setCell S _ _ _ _ hxS) (fun _ _ h => h))
        have HDN : Hid (DiskIs w6 S q mb fv' (Lt.map (namedF fun z => left z && !z.sameKey (.string x.f.name))) { d.next with files := (Lt.map (namedF fun z => left z && !z.sameKey (.string x.f.name))).map (·.f) }) := Lib.hid (by rw [hAB']; exact hdn)
        clear hdi ho5 hd5 hdn hxc hAB hAB'
        go_wp2_with fail
        rw [← hw6]
        go_roundw
        case rel => exact ⟨_, _, hrg6, HDN, HO6⟩
        case measure => rw [hrg6.left_eq, hrg.left_eq]; exact hlt
  · have hb0 : (er != 0) = true := by simpa using h0
    have HO : Hid (OpIs w' S q d.syncdir (.returned (.int .i64 er)) w2) := Lib.hid (by
      rw [show d.syncdir = (er, d.next) by
        unfold Dk.syncdir
        rw [HE.out, if_pos h0]]
      exact OpIs.next HO2.out H2.out er)
    clear h0
    go_wp2_with fail
    go_ret
    exact HO.out
end Go.Proofs.YtlgcoaeddeiegaaGreat
/- partlog: right; a step of the log's last segment: Sync. -/
namespace Go.Proofs.YtlgcoaeddeiegaaGreat
open Go Go.RowKit
attribute [local go_sem] Oper.semAt_some

def rightT (roll step : Int) : Bool := decide (1 ≤ roll) && decide (roll ≤ 16711680) && decide (1 ≤ step) && decide (step ≤ 16777216)
set_option maxRecDepth 100000 in
set_option maxHeartbeats 2000000 in
theorem logRight_b {log : ByteArray} (hl : log.size ≤ 8) (hlog : loggedB log.data.toList = true) (roll step : Int) (w : World) :
    Calls Tryz.prog 60 #[.string log, .agg #[.int .i64 roll, .int .i64 step]] w fun e w' => e = .returned (.bool (rightT roll step)) ∧ Below w.heap.size w w' := by
  obtain ⟨w1, hw1⟩ : ∃ W : World, W = w.alloc (.cells #[.int .i64 roll, .int .i64 step] 23) := ⟨_, rfl⟩
  obtain ⟨b, hb⟩ : ∃ b, b = w.heap.size := ⟨_, rfl⟩
  have g1 : w1.heap[b]? = some (.cells #[.int .i64 roll, .int .i64 step] 23 (0, 0)) := by rw [hw1, hb]; exact alloc_cells _ _ _
  have hb1 : Below w.heap.size w w1 := by rw [hw1]; exact (Below.refl _ _).alloc (Nat.le_refl _) _
  have HN := Lib.hid (name_ok log 0 w1 hl hlog (by omega))
  have H1 := Lib.hid (And.intro g1 hb1)
  obtain ⟨nm, hnm⟩ : ∃ nm : ByteArray, nm = ⟨(log.data.toList ++ 45 :: hex 14 0).toArray⟩ := ⟨_, rfl⟩
  rw [← hnm] at HN
  clear g1 hb1 hnm
  go_enter Tryz.func60, Tryz.ntmps60
  go_upto_region 1 with fail
  rw [← hw1, ← hb]
  clear hw1 hb
  go_wp2_with fail
  refine HN.out.mono ?_
  rintro e w2 ⟨rfl, hb2⟩
  have g2 := (hb2.block b (Array.getElem?_eq_some_iff.1 H1.out.1).1).trans H1.out.1
  have k0 : w2.cell? ⟨b, 0, none⟩ = some (.int .i64 roll) := cell_of g2 rfl
  have k1 : w2.cell? ⟨b, 1, none⟩ = some (.int .i64 step) := cell_of g2 rfl
  have H2 := Lib.hid (H1.out.2.trans (hb2.mono H1.out.2.size))
  obtain ⟨z1, h1⟩ : ∃ z, decide (1 ≤ roll) = z := ⟨_, rfl⟩
  obtain ⟨z2, h2⟩ : ∃ z, decide (roll ≤ 16711680) = z := ⟨_, rfl⟩
  obtain ⟨z3, h3⟩ : ∃ z, decide (1 ≤ step) = z := ⟨_, rfl⟩
  obtain ⟨z4, h4⟩ : ∃ z, decide (step ≤ 16777216) = z := ⟨_, rfl⟩
  have HZ : Hid (rightT roll step = (z1 && z2 && z3 && z4)) := Lib.hid (by unfold rightT; rw [h1, h2, h3, h4])
  clear g2 hb2 HN
  cases z1
  · clear h2 h3 h4
    go_wp2_with fail
    go_ret
    exact ⟨by rw [HZ.out]; rfl, H2.out⟩
  cases z2
  · clear h3 h4
    go_wp2_with fail
    go_ret
    exact ⟨by rw [HZ.out]; rfl, H2.out⟩
  cases z3
  · clear h4
    go_wp2_with fail
    go_ret
    exact ⟨by rw [HZ.out]; rfl, H2.out⟩
  cases z4
  · go_wp2_with fail
    go_ret
    exact ⟨by rw [HZ.out]; rfl, H2.out⟩
  · go_wp2_with fail
    go_ret
    exact ⟨by rw [HZ.out]; rfl, H2.out⟩
end Go.Proofs.YtlgcoaeddeiegaaGreat
/- records in blocks of which P holds; a box that holds such a slice; append to it. -/
namespace Go.Proofs.YtlgcoaeddeiegaaGreat
open Go Go.RowKit
attribute [local go_sem] Oper.semAt_some

/-- records in blocks of which P holds -/
structure RowP (P : Nat → Prop) (W : World) (v : Value) (xs : List RcV) : Prop where
  row : rowAt W 150 3 v xs.length (recsCells xs)
  own : ∀ k, v.ownBlock = some k → P k
  each : ∀ x ∈ xs, rowAt W 5 1 x.kv x.r.key.length (byteCells x.r.key) ∧ rowAt W 5 1 x.vv x.r.val.length (byteCells x.r.val) ∧ (∀ k, x.kv.ownBlock = some k → P k) ∧ (∀ k, x.vv.ownBlock = some k → P k)
theorem RowP.nil (P : Nat → Prop) (W : World) : RowP P W (.slice none 0 0) [] := ⟨⟨rfl, .inl ⟨rfl, rfl⟩⟩, fun k hk => by simp [Value.ownBlock] at hk, fun x hx => (by cases hx)⟩
theorem RNew.rowP {n₀ : Nat} {W : World} {v : Value} {xs : List RcV} (h : RNew n₀ W v xs) : RowP (fun k => n₀ ≤ k) W v xs := ⟨h.row, h.own, h.each⟩
theorem NewR.rowP {w0 W : World} {v : Value} {xs : List RcV} (h : NewR w0 W v xs) : RowP (fun k => w0.heap.size ≤ k) W v xs := ⟨h.row, h.own, h.each⟩
section
variable {P Q : Nat → Prop} {W W' : World} {v : Value} {xs : List RcV}
theorem RowP.is (h : RowP P W v xs) : RecsIs W v xs := ⟨h.row.read, fun x hx => ⟨(h.each x hx).1.read, (h.each x hx).2.1.read⟩⟩
theorem RowP.mono (h : RowP P W v xs) (hP : ∀ k, k < W.heap.size → P k → Q k) : RowP Q W v xs :=
  ⟨h.row, fun k hk => hP k (h.row.lt k hk) (h.own k hk), fun x hx => by
    obtain ⟨h1, h2, h3, h4⟩ := h.each x hx
    exact ⟨h1, h2, fun k hk => hP k (h1.lt k hk) (h3 k hk), fun k hk => hP k (h2.lt k hk) (h4 k hk)⟩⟩
theorem RowP.kept (h : RowP P W v xs) (hk : ∀ k, k < W.heap.size → P k → W'.heap[k]? = W.heap[k]?) : RowP P W' v xs :=
  ⟨h.row.kept (fun k ho => hk k (h.row.lt k ho) (h.own k ho)), h.own, fun x hx => by
    obtain ⟨h1, h2, h3, h4⟩ := h.each x hx
    exact ⟨h1.kept (fun k ho => hk k (h1.lt k ho) (h3 k ho)), h2.kept (fun k ho => hk k (h2.lt k ho) (h4 k ho)), h3, h4⟩⟩
theorem RowP.only {X : Nat → Prop} (h : RowP P W v xs) (ho : Only X W W') (hX : ∀ k, X k → ¬ P k) : RowP P W' v xs :=
  h.kept (fun k hk hp => ho.block k hk (fun hx => hX k hx hp))
theorem RowP.later (h : RowP P W v xs) (hb : Below W.heap.size W W') : RowP P W' v xs := h.kept (fun k hk _ => hb.block k hk)
end
theorem recsCells_append (xs ys : List RcV) : recsCells (xs ++ ys) = recsCells xs ++ recsCells ys := by unfold recsCells; rw [List.flatMap_append]
/-- a box that holds records' slice -/
def OutI (V : World) (b : Nat) (P : Nat → Prop) (l : List Rc) : Prop :=
  ¬ P b ∧ ∃ oa n c xs, xs.map (·.r) = l ∧ xs.length = n ∧ V.heap[b]? = some (.cells #[.slice oa n c] 34 (0, 0)) ∧ RowP P V (.slice oa n c) xs
theorem OutI.kept {V V' : World} {b : Nat} {P X : Nat → Prop} {l : List Rc} (h : OutI V b P l) (ho : Only X V V') (hX : ∀ k, X k → ¬ P k ∧ k ≠ b) : OutI V' b P l := by
  obtain ⟨hn, oa, n, c, xs, h1, h2, h3, h4⟩ := h
  exact ⟨hn, oa, n, c, xs, h1, h2, (ho.block b (Array.getElem?_eq_some_iff.1 h3).1 (fun hx => (hX b hx).2 rfl)).trans h3, h4.only ho (fun k hx => (hX k hx).1)⟩
theorem OutI.later {V V' : World} {b : Nat} {P : Nat → Prop} {l : List Rc} (h : OutI V b P l) (hb : Below V.heap.size V V') : OutI V' b P l :=
  h.kept (Only.of_below hb (Nat.le_refl _) (fun _ => False)) (fun _ hf => hf.elim)
theorem OutI.mono {V : World} {b : Nat} {P Q : Nat → Prop} {l : List Rc} (h : OutI V b P l) (hP : ∀ k, k < V.heap.size → P k → Q k) (hb : ¬ Q b) : OutI V b Q l := by
  obtain ⟨hn, oa, n, c, xs, h1, h2, h3, h4⟩ := h
  exact ⟨hb, oa, n, c, xs, h1, h2, h3, h4.mono hP⟩
/-- more records are appended to a box' slice -/
theorem out_step {V V1 w3 : World} {b n c m c3 : Nat} {oa oa3 : Option Addr} {P : Nat → Prop} {xs ys : List RcV} (h : RowP P V (.slice oa n c) xs) (hn : xs.length = n) (hm : ys.length = m) (hbx : V.heap[b]? = some (.cells #[.slice oa n c] 34 (0, 0))) (hnb : ¬ P b)
    (hys : ∀ x ∈ ys, rowAt V 5 1 x.kv x.r.key.length (byteCells x.r.key) ∧ rowAt V 5 1 x.vv x.r.val.length (byteCells x.r.val) ∧ (∀ k, x.kv.ownBlock = some k → P k) ∧ (∀ k, x.vv.ownBlock = some k → P k))
    (hP : ∀ k, V.heap.size ≤ k → P k) (hV : Below V.heap.size V V1)
    (hr : rowAt w3 150 3 (.slice oa3 (n + m) c3) (n + m) (recsCells xs ++ recsCells ys)) (hg : V1.grownBy w3 (Value.slice oa n c).ownBlock) (ho : (Value.slice oa3 (n + m) c3).ownBlock = (Value.slice oa n c).ownBlock ∨ (Value.slice oa3 (n + m) c3).ownBlock = some V1.heap.size) :
    w3.heap[b]? = some (.cells #[.slice oa n c] 34 (0, 0)) ∧ Only P V w3 ∧ (w3.setCell ⟨b, 0, none⟩ (.slice oa3 (n + m) c3)).heap[b]? = some (.cells #[.slice oa3 (n + m) c3] 34 (0, 0)) ∧ RowP P (w3.setCell ⟨b, 0, none⟩ (.slice oa3 (n + m) c3)) (.slice oa3 (n + m) c3) (xs ++ ys) := by
  subst hn
  subst hm
  have hlt := (Array.getElem?_eq_some_iff.1 hbx).1
  have hov : Only (fun k => (Value.slice oa xs.length c).ownBlock = some k) V w3 := (Only.of_below hV (Nat.le_refl _) _).trans (Only.of_grown hg (fun k hk => hk)) (fun _ _ h => h)
  have hoP : Only P V w3 := hov.mono (fun k _ e => h.own k e)
  have hb3 := (hov.block b hlt (fun e => hnb (h.own b e))).trans hbx
  have keep : ∀ {u : Value} {k : Nat} {cs : List Value}, rowAt V 5 1 u k cs → rowAt w3 5 1 u k cs := fun {u k cs} hu => hu.kept (fun i hi => hov.block i (hu.lt i hi) (hu.types h.row (by decide) hi))
  have hset : ∀ k, k ≠ b → (w3.setCell ⟨b, 0, none⟩ (.slice oa3 (xs.length + ys.length) c3)).heap[k]? = w3.heap[k]? := fun k hk => Below.heap_setCell _ _ _ _ hk
  have h3 : RowP P w3 (.slice oa3 (xs.length + ys.length) c3) (xs ++ ys) := by
    refine ⟨?_, fun k hk => ?_, fun x hx => ?_⟩
    · rw [recsCells_append, List.length_append]
      exact hr
    · rcases ho with e | e
      · exact h.own k (by rw [← e]; exact hk)
      · rw [hk] at e
        simp only [Option.some.injEq] at e
        exact hP k (by have := hV.size; omega)
    · rcases List.mem_append.1 hx with hx | hx
      · obtain ⟨g1, g2, g3, g4⟩ := h.each x hx
        exact ⟨keep g1, keep g2, g3, g4⟩
      · obtain ⟨g1, g2, g3, g4⟩ := hys x hx
        exact ⟨keep g1, keep g2, g3, g4⟩
  exact ⟨hb3, hoP, heap_setCell_here _ hb3, h3.kept (fun k _ hp => hset k (fun e => hnb (e ▸ hp)))⟩
theorem one_rowR (w : World) (e : TypeId) (size : Nat) (ys : List Value) (hy : ys.length = size) : rowAt (w.alloc (.cells ys.toArray e)) e size (.slice (some ⟨w.heap.size, 0, none⟩) 1 1) 1 ys :=
  ⟨by simp [hy], .inr ⟨_, 0, 1, _, _, rfl, alloc_cells _ _ _, Nat.le_refl _, by unfold maxLen; omega, by simp [hy], freeRow_zero _, by subst hy; simp⟩⟩
theorem one_rec (y : RcV) : recsCells [y] = recCells y := by unfold recsCells; simp
theorem recsCells_len (ys : List RcV) : (recsCells ys).length = ys.length * 3 := by
  unfold recsCells
  induction ys with
  | nil => rfl
  | cons a t ih =>
    rw [List.flatMap_cons, List.length_append, ih, List.length_cons]
    show 3 + _ = _
    omega
theorem slice_one {w : World} {e : TypeId} {s n : Nat} {v : Value} {xs : List Value} (h : rowAt w e s v n xs) : v.oneCell' = true := by
  obtain ⟨oa, c, rfl, -⟩ := h.shape
  rfl
theorem slice_one' {w : World} {s n : Nat} {v : Value} {xs : List Value} (h : readAt w s v n xs) : v.oneCell' = true := by
  rcases h.2 with ⟨-, oa, cap, rfl, -⟩ | ⟨g, off, c, rfl, -⟩
  · rfl
  · rfl
/-- all records of a list are appended, in fenced words -/
theorem wpListIn_append_recs {F : Fence} {n : Nat} {w2 : World} {ops : Array Oper} {rest : List Oper} {o : Oper} {a : Act} {Q : Exit → Act → World → Prop} (hgd : o.guard = none) (s x : Operand)
    (ho : o.op = .call { callee := .builtin .append, args := #[s, x], argTypes := #[34, 34] })
    {oa ob : Option Addr} {m c k d : Nat} {xs ys : List RcV} {P : Nat → Prop} (h : RowP P w2 (.slice oa m c) xs) (hxm : xs.length = m) (hm : m ≤ 100000000) (hy : RecsIs w2 (.slice ob k d) ys) (hyk : ys.length = k) (hk : k ≤ 100000000)
    (hs : a.eval s = .slice oa m c) (hx : a.eval x = .slice ob k d)
    (hK : ∀ oa3 c3 w3, Hid (rowAt w3 150 3 (.slice oa3 (m + k) c3) (m + k) (recsCells xs ++ recsCells ys)) → Hid (w2.grownBy w3 (Value.slice oa m c).ownBlock) →
      Hid ((Value.slice oa3 (m + k) c3).ownBlock = (Value.slice oa m c).ownBlock ∨ (Value.slice oa3 (m + k) c3).ownBlock = some w2.heap.size) → wpListIn F n Tryz.prog ops Q rest (a.put o.dst (.slice oa3 (m + k) c3)) w3) :
    wpListIn F n Tryz.prog ops Q (o :: rest) a w2 := by
  subst hxm
  subst hyk
  have h1 : ∀ v ∈ recsCells ys, v.oneCell' = true := fun v hv => by
    unfold recsCells at hv
    obtain ⟨y, hym, hv⟩ := List.mem_flatMap.1 hv
    obtain ⟨e1, e2⟩ := hy.each y hym
    simp only [recCells, List.mem_cons, List.not_mem_nil, or_false] at hv
    rcases hv with rfl | rfl | rfl
    · rfl
    · exact slice_one' e1
    · exact slice_one' e2
  refine wpListIn_plain hgd fun K hK' => ?_
  obtain ⟨i, hi, hz, hsz, hbi⟩ := info_parts info_rc
  obtain ⟨v', w3, hrun, r1, r2, r3, r4⟩ := run_append_at (P := Tryz.prog) w2 34 34 o.type 150 i _ 3 56 Tryz.underlying34 hi hz hsz hbi rfl _ xs.length (recsCells xs) h.row _ ys.length (recsCells ys) (Src.of_read Tryz.underlying34 hy.row h1) (by unfold maxLen; omega) (by omega)
  obtain ⟨oa3, c3, rfl, _⟩ := r1.shape
  unfold Oper.wpIn
  refine ⟨?_, ?_⟩
  · simp [Oper.about, ho, resolve, Target.leads, Sem.run_pure]
  · rw [Oper.semAt_plain F _ _ (by rw [ho]; intro c hc'; cases hc')]
    simp [execOp, ho, resolve, invoke, builtin, hs, hx, hrun, Result.andThen]
    exact hK' _ _ (hK oa3 c3 w3 (Lib.hid r1) (Lib.hid r2) (Lib.hid (by simpa using r3)))
/-- what a round over a list of batches has, and keeps -/
structure GotI (w5 V : World) (b n7 : Nat) (T : Nat → Prop) (l : List Rc) : Prop where
  out : OutI V b (fun a => n7 + 2 ≤ a ∧ ¬ T a) l
  below : Below w5.heap.size w5 V
  low : ∀ a, T a → n7 + 2 ≤ a
  hb : w5.heap.size ≤ b ∧ b < n7
theorem GotI.kept {w5 A B : World} {b n7 : Nat} {T P : Nat → Prop} {l : List Rc} (h : GotI w5 A b n7 T l) (ho : Only P A B) (hP : ∀ i, P i → T i ∨ i = n7 ∨ i = n7 + 1) : GotI w5 B b n7 T l := by
  have hb := h.hb
  have no : ∀ i, P i → n7 ≤ i ∧ ¬ (n7 + 2 ≤ i ∧ ¬ T i) := fun i hi => by
    rcases hP i hi with e | e | e
    · exact ⟨by have := h.low i e; omega, fun hh => hh.2 e⟩
    · exact ⟨by omega, fun hh => by omega⟩
    · exact ⟨by omega, fun hh => by omega⟩
  exact ⟨h.out.kept ho (fun k hk => ⟨(no k hk).2, by have := (no k hk).1; omega⟩), h.below.trans (ho.below (fun i hi hp => by have := (no i hp).1; omega) h.below.size), h.low, hb⟩
theorem GotI.later {w5 A B : World} {b n7 : Nat} {T : Nat → Prop} {l : List Rc} (h : GotI w5 A b n7 T l) (hb : Below A.heap.size A B) : GotI w5 B b n7 T l :=
  h.kept (P := fun _ => False) (Only.of_below hb (Nat.le_refl _) _) (fun _ hf => hf.elim)
/-- what holds while a batch' records are gone over -/
structure InI (w5 W2 V : World) (b n7 lo hi : Nat) (T : Nat → Prop) (l : List Rc) (oa : Option Addr) (n c : Nat) (ys : List RcV) : Prop where
  rec' : ys.map (·.r) = l
  len : ys.length = n
  box : V.heap[b]? = some (.cells #[.slice oa n c] 34 (0, 0))
  row : RowP (fun a => n7 + 2 ≤ a ∧ ¬ T a) V (.slice oa n c) ys
  win : ∀ k, (Value.slice oa n c).ownBlock = some k → k < lo ∨ hi ≤ k
  below : Below w5.heap.size w5 V
  low : ∀ a, T a → n7 + 2 ≤ a
  hb : w5.heap.size ≤ b ∧ b < n7
  kept : Only (fun k => (k = b ∨ n7 ≤ k) ∧ ¬ (T k ∨ k = n7 ∨ k = n7 + 1)) W2 V
  old : ∀ k, k < hi → lo ≤ k → V.heap[k]? = W2.heap[k]?
theorem GotI.inI {w5 Wp W2 : World} {b n7 : Nat} {T P : Nat → Prop} {l : List Rc} (h : GotI w5 Wp b n7 T l) (ho : Only P Wp W2) (hP : ∀ i, P i → T i ∨ i = n7 ∨ i = n7 + 1) (hn : n7 + 2 ≤ Wp.heap.size) : ∃ oa n c ys, InI w5 W2 W2 b n7 Wp.heap.size W2.heap.size T l oa n c ys := by
  have h2 := h.kept ho hP
  obtain ⟨-, oa, n, c, ys, h3, h4, h5, h6⟩ := h.out
  have hb := h.hb
  have no : ∀ i, P i → n7 ≤ i ∧ ¬ (n7 + 2 ≤ i ∧ ¬ T i) := fun i hi => by
    rcases hP i hi with e | e | e
    · exact ⟨by have := h.low i e; omega, fun hh => hh.2 e⟩
    · exact ⟨by omega, fun hh => by omega⟩
    · exact ⟨by omega, fun hh => by omega⟩
  exact ⟨oa, n, c, ys, h3, h4, (ho.block b (by omega) (fun hp => by have := (no b hp).1; omega)).trans h5, h6.only ho (fun k hk => (no k hk).2), fun k hk => .inl (h6.row.lt k hk), h2.below, h2.low, hb, Only.refl _ _, fun k _ _ => rfl⟩
theorem InI.got {w5 W2 V : World} {b n7 lo hi : Nat} {T : Nat → Prop} {l : List Rc} {oa : Option Addr} {n c : Nat} {ys : List RcV} (h : InI w5 W2 V b n7 lo hi T l oa n c ys) : GotI w5 V b n7 T l :=
  ⟨⟨fun hh => by have := h.hb; have := hh.1; omega, oa, n, c, ys, h.rec', h.len, h.box, h.row⟩, h.below, h.low, h.hb⟩
theorem InI.size {w5 W2 V : World} {b n7 lo hi : Nat} {T : Nat → Prop} {l : List Rc} {oa : Option Addr} {n c : Nat} {ys : List RcV} (h : InI w5 W2 V b n7 lo hi T l oa n c ys) : n = l.length := by rw [← h.rec', List.length_map, h.len]
theorem InI.later {w5 W2 V V' : World} {b n7 lo hi : Nat} {T : Nat → Prop} {l : List Rc} {oa : Option Addr} {n c : Nat} {ys : List RcV} (h : InI w5 W2 V b n7 lo hi T l oa n c ys) (hb : Below V.heap.size V V') (hV : hi ≤ V.heap.size) : InI w5 W2 V' b n7 lo hi T l oa n c ys :=
  ⟨h.rec', h.len, (hb.block b (Array.getElem?_eq_some_iff.1 h.box).1).trans h.box, h.row.later hb, h.win, h.below.trans (hb.mono h.below.size), h.low, h.hb, h.kept.trans (Only.of_below hb (Nat.le_refl _) _) (fun _ _ h => h), fun k hk hl => (hb.block k (Nat.lt_of_lt_of_le hk hV)).trans (h.old k hk hl)⟩
/-- a record more is appended -/
theorem InI.step {w5 W2 V V1 w3 : World} {b n7 lo hi : Nat} {T : Nat → Prop} {l : List Rc} {oa oa3 : Option Addr} {n c c3 m : Nat} {ys zs : List RcV} (h : InI w5 W2 V b n7 lo hi T l oa n c ys) (hm : zs.length = m)
    (hzs : ∀ x ∈ zs, rowAt V 5 1 x.kv x.r.key.length (byteCells x.r.key) ∧ rowAt V 5 1 x.vv x.r.val.length (byteCells x.r.val) ∧ (∀ k, x.kv.ownBlock = some k → n7 + 2 ≤ k ∧ ¬ T k) ∧ (∀ k, x.vv.ownBlock = some k → n7 + 2 ≤ k ∧ ¬ T k))
    (hV : Below V.heap.size V V1) (hhi : hi ≤ V.heap.size) (hTV : ∀ a, T a → a < V.heap.size) (hn7 : n7 + 2 ≤ V.heap.size) (hlo : n7 ≤ lo)
    (hr : rowAt w3 150 3 (.slice oa3 (n + m) c3) (n + m) (recsCells ys ++ recsCells zs)) (hg : V1.grownBy w3 (Value.slice oa n c).ownBlock) (ho : (Value.slice oa3 (n + m) c3).ownBlock = (Value.slice oa n c).ownBlock ∨ (Value.slice oa3 (n + m) c3).ownBlock = some V1.heap.size) :
    w3.heap[b]? = some (.cells #[.slice oa n c] 34 (0, 0)) ∧ InI w5 W2 (w3.setCell ⟨b, 0, none⟩ (.slice oa3 (n + m) c3)) b n7 lo hi T (l ++ zs.map (·.r)) oa3 (n + m) c3 (ys ++ zs) := by
  have hb := h.hb
  have hnb : ¬ (n7 + 2 ≤ b ∧ ¬ T b) := fun hh => by have := hh.1; omega
  obtain ⟨g1, g2, g3, g4⟩ := out_step (P := fun a => n7 + 2 ≤ a ∧ ¬ T a) h.row h.len hm h.box hnb hzs (fun k hk => ⟨by omega, fun ht => by have := hTV k ht; omega⟩) hV hr hg ho
  have ho3 : Only (fun k => k = b) w3 (w3.setCell ⟨b, 0, none⟩ (.slice oa3 (n + m) c3)) := only_setCell (fun k => k = b) _ b 0 _ rfl
  have hov : Only (fun k => (Value.slice oa n c).ownBlock = some k) V w3 := (Only.of_below hV (Nat.le_refl _) _).trans (Only.of_grown hg (fun k hk => hk)) (fun _ _ h => h)
  refine ⟨g1, by rw [List.map_append, h.rec'], by rw [List.length_append, h.len, hm], g3, g4, fun k hk => ?_, ?_, h.low, hb, ?_, fun k hk hl => ?_⟩
  · rcases ho with e | e
    · exact h.win k (by rw [← e]; exact hk)
    · rw [hk] at e
      simp only [Option.some.injEq] at e
      have := hV.size
      exact .inr (by omega)
  · have h1 := h.below.trans (g2.below (fun i hi hh => by have := hh.1; omega) h.below.size)
    exact h1.setCell (p := ⟨b, 0, none⟩) hb.1 _
  · refine (h.kept.trans (g2.mono (fun k _ hh => ⟨.inr (by have := hh.1; omega), fun e => ?_⟩)) (fun _ _ h => h)).trans (ho3.mono (fun k _ e => ⟨.inl e, fun hh => ?_⟩)) (fun _ _ h => h)
    · rcases e with e | e | e
      · exact hh.2 e
      · have := hh.1; omega
      · have := hh.1; omega
    · rcases hh with hh | hh | hh
      · have := h.low k hh; omega
      · omega
      · omega
  · have hkb : k ≠ b := fun e => by omega
    exact (ho3.block k (Nat.lt_of_lt_of_le (Nat.lt_of_lt_of_le hk hhi) hov.size) hkb).trans ((hov.block k (Nat.lt_of_lt_of_le hk hhi) (fun e => by have := h.win k e; omega)).trans (h.old k hk hl))
end Go.Proofs.YtlgcoaeddeiegaaGreat
/- Kit: a scope through which the run goes without a goto, in fenced words. -/
namespace Go

section
variable {F : Fence} {n : Nat} {P : Program} {b : Frame} {a : Act} {k : List Item} {cs : List Frame} {w : World} {Q : Exit → Act → World → Prop}
theorem stepR_scope {c : Code} : step P (lone (b.atR a (.code (.scope c) :: k)) cs w) = .next (lone (b.atR a (.code c :: .inScope c :: k)) cs w) :=
  step_lone_go (by simp [stepG, stepG.exec, Frame.atR])
theorem stepR_inScope {c : Code} : step P (lone (b.atR a (.inScope c :: k)) cs w) = .next (lone (b.atR a k) cs w) :=
  step_lone_go (by simp [stepG, stepG.exec, Frame.atR])
theorem wpIn_scope {c : Code} (h : c.wpIn F n P (Exit.noGoto Q) a w) : (Code.scope c).wpIn F n P Q a w := by
  intro b k cs hro hb hr
  have h0 : (lone (b.atR a (.code (.scope c) :: k)) cs w).fenced P F := fenced_calm hb hr rfl
  obtain ⟨e, a₁, w₁, hq, harr⟩ := h b (.inScope c :: k) cs hro hb hr
  cases e with
  | normal => exact ⟨.normal, a₁, w₁, hq, .head h0 stepR_scope (StepsIn.trans harr (.one (fenced_calm hb hr rfl) stepR_inScope))⟩
  | exit id' =>
    have hx : exitTo id' (.inScope c :: k) = exitTo id' k := by simp [exitTo]
    exact ⟨.exit id', a₁, w₁, hq, fun k' hk => .head h0 stepR_scope (harr.1 k' (by rw [hx]; exact hk)),
      fun hr' hk => let ⟨k₁, h1, h2⟩ := harr.2 hr' (by rw [hx]; exact hk); ⟨k₁, h1, .head h0 stepR_scope h2⟩⟩
  | goto l => exact hq.elim
  | ret => exact ⟨_, a₁, w₁, hq, .of_steps (.one h0 stepR_scope) harr⟩
  | panic ch => exact ⟨_, a₁, w₁, hq, .of_steps (.one h0 stepR_scope) harr⟩
  | outgrown => exact ⟨_, a₁, w₁, hq, .of_steps (.one h0 stepR_scope) harr⟩
/-- a statement that is left at its end alone -/
theorem wp_onlyR {P : Program} {c : Code} {K : Act → World → Prop} {Q' : Exit → Act → World → Prop} {a : Act} {w : World} (h : c.wp P (Exit.then K (fun _ _ _ => False)) a w) : c.wp P (Exit.then K Q') a w :=
  (wpIn_wide (n := 1)).1 (wpIn_mono (wpIn_wide.2 h) (fun e _ _ hq => by
    cases e with
    | normal => exact hq
    | exit id => exact hq.elim
    | goto l => exact hq.elim
    | ret => exact hq.elim
    | panic ch => exact hq.elim
    | outgrown => exact hq.elim))
end
end Go
/- counts and worlds: small laws. -/
namespace Go.Proofs.YtlgcoaeddeiegaaGreat
open Go Go.RowKit Go.Shelf
attribute [local go_sem] Oper.semAt_some

theorem len_sum : ∀ l : List Rc, l.length ≤ (l.map Rc.size).sum
  | [] => by simp
  | r :: l => by
    have := len_sum l
    rw [List.map_cons, List.sum_cons, List.length_cons]
    have h2 : 12 ≤ r.size := by unfold Rc.size; omega
    omega
theorem cnt_long : ∀ bs : List Bat, cntT bs ≤ (batsT bs).length
  | [] => by simp [cntT]
  | b :: r => by
    have h1 := cnt_long r
    have e : batsT (b :: r) = batchT b.1 b.2 ++ batsT r := rfl
    have e2 : cntT (b :: r) = b.2.length + cntT r := by simp [cntT]
    have h2 := len_sum b.2
    rw [e, e2, List.length_append, batchT_len]
    unfold rcsSize
    omega
theorem bcell {W w1 : World} (hb : Below W.heap.size W w1) : (∀ b o, b < W.heap.size → w1.cell? ⟨b, o, none⟩ = W.cell? ⟨b, o, none⟩) ∧ (∀ b o, b < W.heap.size → w1.frozen? ⟨b, o, none⟩ = W.frozen? ⟨b, o, none⟩) :=
  ⟨fun b o h => hb.cell (p := ⟨b, o, none⟩) h, fun b o h => hb.frozen (p := ⟨b, o, none⟩) h⟩
theorem bdrew (w : World) : Below w.heap.size w w.drew := ⟨rfl, rfl, rfl, Nat.le_refl _, fun _ _ => rfl⟩
theorem bdrewa (w : World) (o : Obj) : Below w.heap.size w (w.drew.alloc o) := (bdrew w).alloc (Nat.le_refl _) o
end Go.Proofs.YtlgcoaeddeiegaaGreat
/- partlog: a log and its disk; Sync, State. -/
namespace Go.Proofs.YtlgcoaeddeiegaaGreat
open Go Go.RowKit
attribute [local go_sem] Oper.semAt_some

/-- a log and its disk lie there, apart from one another -/
structure LogD (w : World) (S T : Nat → Prop) (lp q : Nat) (log : ByteArray) (roll step : Nat) (g : Lg) (d : Dk) : Prop where
  disk : DiskAt w S q d
  log' : ∃ G a pv, LogM w T lp q log roll step g G a pv
  apart : ∀ k, S k → ¬ T k
/-- what a call makes of them -/
def LogTurn (w : World) (S T : Nat → Prop) (lp q : Nat) (log : ByteArray) (roll step : Nat) (g : Lg) (d : Dk) (w' : World) : Prop :=
  ∃ S' T', (∀ k, S' k → Wid S w w' k) ∧ (∀ k, T' k → Wid T w w' k) ∧ LogD w' S' T' lp q log roll step g d ∧ Only (fun k => S k ∨ T k) w w'
section
variable {w w1 w2 : World} {S T : Nat → Prop} {lp q : Nat} {log : ByteArray} {roll step : Nat} {g g' : Lg} {d d' : Dk}
theorem LogD.lowT (h : LogD w S T lp q log roll step g d) : ∀ k, T k → k < w.heap.size := by
  obtain ⟨G, a, pv, h1⟩ := h.log'
  exact h1.low
theorem LogD.later (h : LogD w S T lp q log roll step g d) (hb : Below w.heap.size w w1) : LogD w1 S T lp q log roll step g d := by
  obtain ⟨G, a, pv, h1⟩ := h.log'
  exact ⟨h.disk.belowS hb, ⟨G, a, pv, h1.later hb⟩, h.apart⟩
theorem LogD.turn (h : LogD w S T lp q log roll step g d) (hb : Below w.heap.size w w1) : LogTurn w S T lp q log roll step g d w1 :=
  ⟨S, T, fun _ hk => .inl hk, fun _ hk => .inl hk, h.later hb, Only.of_below hb (Nat.le_refl _) _⟩
theorem LogTurn.then (h : LogTurn w S T lp q log roll step g d w1) (hn : ∀ S' T', (∀ k, S' k → Wid S w w1 k) → (∀ k, T' k → Wid T w w1 k) → LogD w1 S' T' lp q log roll step g d → LogTurn w1 S' T' lp q log roll step g' d' w2) : LogTurn w S T lp q log roll step g' d' w2 := by
  obtain ⟨S', T', h1, h2, h3, h4⟩ := h
  obtain ⟨S2, T2, k1, k2, k3, k4⟩ := hn S' T' h1 h2 h3
  have e1 := h4.size
  have e2 := k4.size
  refine ⟨S2, T2, fun k hk => ?_, fun k hk => ?_, k3, h4.trans k4 (fun k hk hh => ?_)⟩
  · rcases k1 k hk with hh | hh
    · rcases h1 k hh with hh | hh
      · exact .inl hh
      · exact .inr ⟨hh.1, Nat.lt_of_lt_of_le hh.2 e2⟩
    · exact .inr ⟨Nat.le_trans e1 hh.1, hh.2⟩
  · rcases k2 k hk with hh | hh
    · rcases h2 k hh with hh | hh
      · exact .inl hh
      · exact .inr ⟨hh.1, Nat.lt_of_lt_of_le hh.2 e2⟩
    · exact .inr ⟨Nat.le_trans e1 hh.1, hh.2⟩
  · rcases hh with hh | hh
    · rcases h1 k hh with hh | hh
      · exact .inl hh
      · have := hh.1; omega
    · rcases h2 k hh with hh | hh
      · exact .inr hh
      · have := hh.1; omega
theorem LogTurn.join {S1 T1 : Nat → Prop} (h1 : ∀ k, S1 k → Wid S w w1 k) (h2 : ∀ k, T1 k → Wid T w w1 k) (h4 : Only (fun k => S k ∨ T k) w w1) (hn : LogTurn w1 S1 T1 lp q log roll step g' d' w2) : LogTurn w S T lp q log roll step g' d' w2 := by
  obtain ⟨S2, T2, k1, k2, k3, k4⟩ := hn
  have e1 := h4.size
  have e2 := k4.size
  refine ⟨S2, T2, fun k hk => ?_, fun k hk => ?_, k3, h4.trans k4 (fun k hk hh => ?_)⟩
  · rcases k1 k hk with hh | hh
    · rcases h1 k hh with hh | hh
      · exact .inl hh
      · exact .inr ⟨hh.1, Nat.lt_of_lt_of_le hh.2 e2⟩
    · exact .inr ⟨Nat.le_trans e1 hh.1, hh.2⟩
  · rcases k2 k hk with hh | hh
    · rcases h2 k hh with hh | hh
      · exact .inl hh
      · exact .inr ⟨hh.1, Nat.lt_of_lt_of_le hh.2 e2⟩
    · exact .inr ⟨Nat.le_trans e1 hh.1, hh.2⟩
  · rcases hh with hh | hh
    · rcases h1 k hh with hh | hh
      · exact .inl hh
      · have := hh.1; omega
    · rcases h2 k hh with hh | hh
      · exact .inr hh
      · have := hh.1; omega
/-- blocks that came since are none of the elder ones -/
theorem wid_apart {w0 w3 : World} {S S3 T : Nat → Prop} (h0 : ∀ k, T k → k < w0.heap.size) (hS : ∀ k, S3 k → Wid S w0 w3 k) (hap : ∀ k, S k → ¬ T k) : ∀ k, S3 k → ¬ T k := fun k hk hT => by
  rcases hS k hk with e | e
  · exact hap k e hT
  · have := h0 k hT
    have := e.1
    omega
/-- the log's head was written, behind steps of the disk and the log; other blocks of the call's own too -/
theorem LogM.turned {w0 w3 w4 : World} {S T S3 T3 X : Nat → Prop} {G : List Sg} {a : Sg} {pv : Value} (hm : LogM w3 T3 lp q log roll step g G a pv) (hT : ∀ k, T3 k → Wid T w0 w3 k) (hd : DiskAt w3 S3 q d') (hS : ∀ k, S3 k → Wid S w0 w3 k) (hap : ∀ k, S3 k → ¬ T3 k) (ho : Only (fun k => S k ∨ T k) w0 w3) (ho4 : Only X w3 w4) (hX : ∀ k, X k → k = lp ∨ (w0.heap.size ≤ k ∧ ¬ S3 k ∧ ¬ T3 k))
    (hh : logHead q lp log roll step g' (G.length + 1) pv w4) (e1 : g'.ini = g.ini) (e2 : g'.lb = g.lb) (e3 : g'.lbs = g.lbs) (hok : LgOk g') : LogTurn w0 S T lp q log roll step g' d' w4 := by
  have hlp := hm.rest.lp_mem
  have hsz := ho4.size
  refine ⟨S3, T3, fun k hk => ?_, fun k hk => ?_, ⟨hd.onlyS ho4 (fun k hk hx => ?_), ⟨G, a, pv, { hm with head := hh, rest := hm.rest.only ho4 (fun k hT hne hx => ?_), ini := e1.trans hm.ini, lb := e2.trans hm.lb, lbs := e3.trans hm.lbs, ok := hok }⟩, hap⟩, ho.trans ho4 (fun k hk hx => ?_)⟩
  · rcases hS k hk with e | e
    · exact .inl e
    · exact .inr ⟨e.1, Nat.lt_of_lt_of_le e.2 hsz⟩
  · rcases hT k hk with e | e
    · exact .inl e
    · exact .inr ⟨e.1, Nat.lt_of_lt_of_le e.2 hsz⟩
  · rcases hX k hx with e | e
    · exact hap k hk (e ▸ hlp)
    · exact e.2.1 hk
  · rcases hX k hx with e | e
    · exact hne e
    · exact e.2.2 hT
  · rcases hX k hx with e | e
    · rcases hT lp hlp with h1 | h1
      · exact .inr (e ▸ h1)
      · have := h1.1
        omega
    · omega
/-- the disk alone has turned -/
theorem LogD.diskTurn (h : LogD w S T lp q log roll step g d) (hd : DiskAt w1 (Wid S w w1) q d') (ho : Only S w w1) : LogTurn w S T lp q log roll step g d' w1 := by
  obtain ⟨G, a, pv, h1⟩ := h.log'
  refine ⟨Wid S w w1, T, fun _ hk => hk, fun _ hk => .inl hk, ⟨hd, ⟨G, a, pv, h1.only ho (fun k hT hS => h.apart k hS hT)⟩, fun k hk hT => ?_⟩, ho.mono (fun _ _ hk => .inl hk)⟩
  rcases hk with hk | hk
  · exact h.apart k hk hT
  · have := h1.low k hT
    have := hk.1
    omega
end
section
variable {w : World} {S : Nat → Prop} {s x q : Nat} {nm : ByteArray} {bn step : Nat} {sv : Value} {sp : List Sp} {bs : List Bat} {d : Dk}
set_option maxRecDepth 100000 in
set_option maxHeartbeats 2000000 in
theorem syncM_b (h : SegM w s x q nm bn step sv sp bs) (hdk : DiskAt w S q d) :
    Calls Tryz.prog 91 #[.pointer (some ⟨s, 0, none⟩)] w fun e w' => OpIs w S q (d.sync nm.data.toList) e w' := by
  have hbd := bdrew w
  have k4 : w.cell? ⟨s, 4, none⟩ = some (.pointer (some ⟨q, 0, none⟩)) := cell_of h.head rfl
  have k5 : w.cell? ⟨s, 5, none⟩ = some (.string nm) := cell_of h.head rfl
  have HN := Lib.hid (noneSeg_b k4)
  have HS := Lib.hid (sync_b (hdk.belowS hbd) nm (Nat.le_trans h.nms (by decide)))
  have HW := Lib.hid h
  clear h hbd hdk
  go_enter Tryz.func91, Tryz.ntmps91
  go_wp2_with fail
  refine HN.out.mono ?_
  rintro e w2 ⟨rfl, hw2⟩
  obtain rfl := hw2.symm
  clear hw2
  go_wp2_with fail
  go_region_law (go_simp; go_at_call 69; refine HS.out.mono ?_; rintro e w4 ⟨rfl, hd4, ho4⟩; have HD := Lib.hid (And.intro hd4 ho4); clear hd4 ho4)
  all_goals
    go_wp2_with fail
    go_ret
    exact ⟨rfl, HD.out.1, (Only.of_below (bdrew w) (Nat.le_refl _) S).trans HD.out.2 (fun _ _ h => h)⟩
end
end Go.Proofs.YtlgcoaeddeiegaaGreat
/- partlog: Sync. -/
namespace Go.Proofs.YtlgcoaeddeiegaaGreat
open Go Go.RowKit
attribute [local go_sem] Oper.semAt_some

set_option maxRecDepth 100000 in
set_option maxHeartbeats 4000000 in
theorem logSync_b {w : World} {S T : Nat → Prop} {lp q : Nat} {log : ByteArray} {roll step : Nat} {g : Lg} {d : Dk} (h : LogD w S T lp q log roll step g d) :
    Calls Tryz.prog 27 #[.pointer (some ⟨lp, 0, none⟩)] w fun e w' => e = .returned (.int .i64 (g.syncT log d).1) ∧ LogTurn w S T lp q log roll step (g.syncT log d).2.1 (g.syncT log d).2.2 w' := by
  obtain ⟨w1, hw1⟩ : ∃ W : World, W = w.alloc (.cells #[.int .i64 0] 28) := ⟨_, rfl⟩
  obtain ⟨b, hb⟩ : ∃ b, b = w.heap.size := ⟨_, rfl⟩
  have gb : w1.heap[b]? = some (.cells #[.int .i64 0] 28 (0, 0)) := by rw [hw1, hb]; exact alloc_cells _ _ _
  have hb1 : Below w.heap.size w w1 := by rw [hw1]; exact (Below.refl _ _).alloc (Nat.le_refl _) _
  have h1 := h.later hb1
  obtain ⟨G, a, pv, hm⟩ := h1.log'
  have HN := Lib.hid (noneLog_b hm)
  have k4 : w1.cell? ⟨lp, 4, none⟩ = some (.bool g.dead) := cell_of hm.head rfl
  have kb : w1.cell? ⟨b, 0, none⟩ = some (.int .i64 0) := cell_of gb rfl
  have zb : w1.frozen? ⟨b, 0, none⟩ = false := free_of gb _
  have HB := Lib.hid (And.intro gb (And.intro hb1 hb))
  have HM := Lib.hid hm
  have HD := Lib.hid h1.disk
  have H := Lib.hid h
  have HAP := Lib.hid h.apart
  obtain ⟨r, hr⟩ : ∃ r, r = d.sync (sname log g.lb) := ⟨_, rfl⟩
  have HR := Lib.hid hr
  clear gb hb1 h1 hm hr
  cases hdd : g.dead with
  | true =>
    have e1 : g.syncT log d = (9, g, d) := by unfold Lg.syncT; rw [if_pos hdd]
    rw [e1]
    rw [hdd] at k4
    clear h
    go_enter_defers Tryz.func27, Tryz.ntmps27
    go_upto_region 1 with fail
    rw [← hw1, ← hb]
    clear hw1 hb hdd e1
    go_wp2_with fail
    refine HN.out.mono ?_
    rintro e w2 ⟨rfl, hw2⟩
    obtain rfl := hw2.symm
    clear hw2
    go_wp2_with fail
    have g2 : (w1.setCell ⟨b, 0, none⟩ (.int .i64 9)).heap[b]? = some (.cells #[.int .i64 9] 28 (0, 0)) := heap_setCell_here _ HB.out.1
    have c2 := cell_of (i := 0) g2 rfl
    refine ⟨.int .i64 9, by simp [results, Tryz.results27, go_sem, c2], rfl, ?_⟩
    exact H.out.turn (HB.out.2.1.setCell (p := ⟨b, 0, none⟩) (by have := HB.out.2.2; show w.heap.size ≤ b; omega) _)
  | false =>
    rw [hdd] at k4
    have HDD := Lib.hid hdd
    clear h hdd
    go_enter_defers Tryz.func27, Tryz.ntmps27
    go_upto_region 1 with fail
    rw [← hw1, ← hb]
    clear hw1 hb
    go_wp2_with fail
    refine HN.out.mono ?_
    rintro e w2 ⟨rfl, hw2⟩
    obtain rfl := hw2.symm
    clear hw2
    have HA := Lib.hid (active_b HM.out)
    go_wp2_with fail
    refine HA.out.mono ?_
    rintro e w2 ⟨rfl, hb2⟩
    have hm2 := HM.out.later hb2
    have hd2 := HD.out.belowS hb2
    have hs := syncM_b hm2.last hd2
    rw [segName_data, ← hm2.lb, ← HR.out] at hs
    have HS := Lib.hid hs
    have H2 := Lib.hid (And.intro hm2 (And.intro hd2 hb2))
    clear hm2 hd2 hs hb2 HA HN kb zb k4
    go_wp2_with fail
    refine HS.out.mono ?_
    rintro e w3 ⟨rfl, hd3, ho3⟩
    have hm3 := H2.out.1.only ho3 (fun k hT hS => HAP.out k hS hT)
    have hnS : ¬ S b := fun hS => by have h1 := H.out.disk.lowS b hS; have := HB.out.2.2; omega
    have hg3 : w3.heap[b]? = some (.cells #[.int .i64 0] 28 (0, 0)) := (ho3.block b (Nat.lt_of_lt_of_le (Array.getElem?_eq_some_iff.1 HB.out.1).1 H2.out.2.2.size) hnS).trans ((H2.out.2.2.block b (Array.getElem?_eq_some_iff.1 HB.out.1).1).trans HB.out.1)
    have hb02 : Below w.heap.size w w2 := HB.out.2.1.trans (H2.out.2.2.mono HB.out.2.1.size)
    have ho03 : Only S w w3 := (Only.of_below hb02 (Nat.le_refl _) S).trans ho3 (fun _ _ h => h)
    have hw3 : ∀ k, Wid S w2 w3 k → Wid S w w3 k := fun k hk => by
      rcases hk with hk | hk
      · exact .inl hk
      · exact .inr ⟨Nat.le_trans hb02.size hk.1, hk.2⟩
    have HW3 := Lib.hid hw3
    have hnb : ¬ Wid S w2 w3 b := fun hk => by
      rcases hk with hk | hk
      · exact hnS hk
      · have h1 := (Array.getElem?_eq_some_iff.1 HB.out.1).1
        have h2 := H2.out.2.2.size
        have := hk.1
        omega
    have HNB := Lib.hid hnb
    have kb : w3.cell? ⟨b, 0, none⟩ = some (.int .i64 0) := cell_of hg3 rfl
    have zb : w3.frozen? ⟨b, 0, none⟩ = false := free_of hg3 _
    have k1 : w3.cell? ⟨lp, 1, none⟩ = some (.int .i64 (g.fin : Int)) := cell_of hm3.head rfl
    have k2 : w3.cell? ⟨lp, 2, none⟩ = some (.int .i64 (g.stands : Int)) := cell_of hm3.head rfl
    have z2 : w3.frozen? ⟨lp, 2, none⟩ = false := free_of hm3.head _
    have hlb : lp ≠ b := fun e => by have h1 := H.out.lowT lp (HM.out.rest.lp_mem); have := HB.out.2.2; omega
    have H3 := Lib.hid (And.intro hm3 (And.intro hg3 (And.intro ho03 hd3)))
    clear hd3 ho3 hm3 hg3 hw3 hnb HS
    obtain ⟨er, he⟩ : ∃ er, r.1 = er := ⟨_, rfl⟩
    rw [he]
    cases hc : (er == 0) with
    | false =>
      have hne : er ≠ 0 := beq_eq_false_iff_ne.1 hc
      have e1 : g.syncT log d = (er, { g with dead := true }, r.2) := by
        unfold Lg.syncT
        rw [if_neg (by rw [HDD.out]; simp), ← HR.out, he, if_pos hne]
      have HE := Lib.hid e1
      have d1 : (er != 0) = true := by unfold bne; rw [hc]; rfl
      clear hc e1
      have hne' := Lib.hid hne
      clear hne
      go_wp2_with fail
      have g4 : (w3.setCell ⟨b, 0, none⟩ (.int .i64 er)).heap[b]? = some (.cells #[.int .i64 er] 28 (0, 0)) := heap_setCell_here _ H3.out.2.1
      have gl : (w3.setCell ⟨b, 0, none⟩ (.int .i64 er)).heap[lp]? = w3.heap[lp]? := Below.heap_setCell _ _ _ _ hlb
      have hh4 := gl.trans H3.out.1.head
      refine leaves_cons (f := 73) (args := #[.pointer (some ⟨lp, 0, none⟩), .pointer (some ⟨b, 0, none⟩)]) (by simp) (by simp [go_sem]) ?_
      refine (diesNo_b hne'.out g4 hh4 rfl).mono ?_
      rintro e u' w5 ⟨rfl, rfl, hw5⟩
      have g5 : w5.heap[b]? = some (.cells #[.int .i64 er] 28 (0, 0)) := by
        rw [hw5]
        exact (Below.heap_setCell _ _ _ _ (fun e => hlb e.symm)).trans g4
      have c5 := cell_of (i := 0) g5 rfl
      have hh5 : logHead q lp log roll step { g with dead := true } (G.length + 1) pv w5 := by
        rw [hw5]
        exact heap_setCell_here _ hh4
      have ho5 : Only (fun k => k = lp ∨ k = b) w3 w5 := by
        rw [hw5]
        exact (only_setCell (fun k => k = lp ∨ k = b) _ b 0 _ (.inr rfl)).trans (only_setCell (fun k => k = lp ∨ k = b) _ lp 4 _ (.inl rfl)) (fun _ _ e => e)
      refine ⟨.int .i64 er, by simp [results, Tryz.results27, go_sem, c5], by rw [HE.out], ?_⟩
      rw [HE.out]
      exact H3.out.1.turned (fun k hk => .inl hk) H3.out.2.2.2 HW3.out (wid_apart H.out.lowT HW3.out HAP.out) (ho03.mono (fun _ _ h => .inl h)) ho5 (fun k hk => by
        rcases hk with hk | hk
        · exact .inl hk
        · exact .inr ⟨by have := HB.out.2.2; omega, by rw [hk]; exact HNB.out, fun hT => by have := H.out.lowT k hT; have := HB.out.2.2; omega⟩) hh5 rfl rfl rfl (HM.out.ok.died 1)
    | true =>
      have h0 : er = 0 := beq_iff_eq.1 hc
      have e1 : g.syncT log d = (0, { g with stands := g.fin }, r.2) := by
        unfold Lg.syncT
        rw [if_neg (by rw [HDD.out]; simp), ← HR.out, he, if_neg (by rw [h0]; simp)]
      subst h0
      have HE := Lib.hid e1
      clear hc e1
      go_wp2_with fail
      have gl : (w3.setCell ⟨lp, 2, none⟩ (.int .i64 (g.fin : Int))).heap[b]? = w3.heap[b]? := Below.heap_setCell _ _ _ _ (fun e => hlb e.symm)
      have g4 : ((w3.setCell ⟨lp, 2, none⟩ (.int .i64 (g.fin : Int))).setCell ⟨b, 0, none⟩ (.int .i64 0)).heap[b]? = some (.cells #[.int .i64 0] 28 (0, 0)) := heap_setCell_here _ (gl.trans H3.out.2.1)
      refine leaves_cons (f := 73) (args := #[.pointer (some ⟨lp, 0, none⟩), .pointer (some ⟨b, 0, none⟩)]) (by simp) (by simp [go_sem]) ?_
      refine (diesOk_b g4).mono ?_
      rintro e u' w5 ⟨rfl, rfl, hw5⟩
      rw [← hw5] at g4
      have c5 := cell_of (i := 0) g4 rfl
      have hh5 : logHead q lp log roll step { g with stands := g.fin } (G.length + 1) pv w5 := by
        rw [hw5]
        exact (Below.heap_setCell _ _ _ _ hlb).trans (heap_setCell_here _ H3.out.1.head)
      have ho5 : Only (fun k => k = lp ∨ k = b) w3 w5 := by
        rw [hw5]
        exact (only_setCell (fun k => k = lp ∨ k = b) _ lp 2 _ (.inl rfl)).trans (only_setCell (fun k => k = lp ∨ k = b) _ b 0 _ (.inr rfl)) (fun _ _ e => e)
      refine ⟨.int .i64 0, by simp [results, Tryz.results27, go_sem, c5], by rw [HE.out], ?_⟩
      rw [HE.out]
      exact H3.out.1.turned (fun k hk => .inl hk) H3.out.2.2.2 HW3.out (wid_apart H.out.lowT HW3.out HAP.out) (ho03.mono (fun _ _ h => .inl h)) ho5 (fun k hk => by
        rcases hk with hk | hk
        · exact .inl hk
        · exact .inr ⟨by have := HB.out.2.2; omega, by rw [hk]; exact HNB.out, fun hT => by have := H.out.lowT k hT; have := HB.out.2.2; omega⟩) hh5 rfl rfl rfl HM.out.ok.standsFin
end Go.Proofs.YtlgcoaeddeiegaaGreat
