/- Disk: SyncDir. -/
import Derived.Test.YtmkjejngnahpeaaFb
namespace Go.Proofs.Ytmkjejngnahpeaa
open Go Go.Maps Go.RowKit
open Go.Proofs (encStr)

def nameF (x : Fl) : Fl := { x with f := { x.f with named := true } }
/-- the files, as they stand while some are still to come -/
def namedF (left : Lit → Bool) (x : Fl) : Fl := if left (.string x.f.name) = true then x else nameF x
theorem namedF_name (left : Lit → Bool) (x : Fl) : (namedF left x).f.name = x.f.name ∧ (namedF left x).blk = x.blk := by
  unfold namedF
  split <;> exact ⟨rfl, rfl⟩
theorem pairs_named (left : Lit → Bool) (L : List Fl) : pairsF (L.map (namedF left)) = pairsF L := by
  unfold pairsF
  rw [List.map_map]
  exact List.map_congr_left fun x _ => by simp [(namedF_name left x).1, (namedF_name left x).2]
theorem named_split {L : List Fl} (hnd : (L.map (·.f.name)).Nodup) {left : Lit → Bool} {x : Fl} (hx : x ∈ L) (hl : left (.string x.f.name) = true) :
    ∃ A B, L.map (namedF left) = A ++ x :: B ∧ L.map (namedF fun z => left z && !z.sameKey (.string x.f.name)) = A ++ nameF x :: B := by
  obtain ⟨A, B, rfl⟩ := List.append_of_mem hx
  have hne : ∀ y, y ∈ A ∨ y ∈ B → y.f.name ≠ x.f.name := fun y hy he => by
    rw [List.map_append, List.map_cons] at hnd
    have h2 := List.nodup_append.1 hnd
    rcases hy with hy | hy
    · exact h2.2.2 y.f.name (List.mem_map_of_mem (f := fun x : Fl => x.f.name) hy) x.f.name (by simp) he
    · exact (List.nodup_cons.1 h2.2.1).1 (by rw [← he]; exact List.mem_map_of_mem (f := fun x : Fl => x.f.name) hy)
  have hc : ∀ l : List Fl, (∀ y ∈ l, y.f.name ≠ x.f.name) → l.map (namedF fun z => left z && !z.sameKey (.string x.f.name)) = l.map (namedF left) := fun l hl => List.map_congr_left fun y hy => by
    show (if (left (.string y.f.name) && !(Lit.string y.f.name).sameKey (.string x.f.name)) = true then y else nameF y) = if left (.string y.f.name) = true then y else nameF y
    rw [sameKey_str, decide_eq_false (hl y hy)]
    simp
  refine ⟨A.map (namedF left), B.map (namedF left), ?_, ?_⟩
  · rw [List.map_append, List.map_cons]
    congr 2
    unfold namedF
    rw [hl]
    rfl
  · rw [List.map_append, List.map_cons, hc A (fun y hy => hne y (.inl hy)), hc B (fun y hy => hne y (.inr hy))]
    congr 2
    show (if (left (.string x.f.name) && !(Lit.string x.f.name).sameKey (.string x.f.name)) = true then x else nameF x) = nameF x
    rw [sameKey_str]
    simp
theorem set_named {w : World} {S : Nat → Prop} {q mb : Nat} {fv : Value} {A B : List Fl} {x : Fl} {d : Dk} (h : DiskIs w S q mb fv (A ++ x :: B) d) :
    DiskIs (w.setCell ⟨x.blk, 3, none⟩ (.bool true)) S q mb fv (A ++ nameF x :: B) { d with files := (A ++ nameF x :: B).map (·.f) } := by
  have hx := h.each x (by simp)
  have hset : Only (fun k => k = x.blk) w (w.setCell ⟨x.blk, 3, none⟩ (.bool true)) := only_setCell (fun k => k = x.blk) w x.blk 3 _ rfl
  have h1 := h.file_turn (x' := nameF x) rfl rfl (hset.mono (fun i _ hi => by rw [hi]; simp [Fl.blocks])) ⟨heap_setCell_here (w := w) _ hx.cells, hx.row.kept (fun k hk => hset.block k (hx.row.lt k hk) (FlAt.own_ne h k hk)), hx.lasts, hx.size⟩ (fun k hk => .inl hk)
  have e : (A ++ nameF x :: B).map (·.f) = A.map (·.f) ++ (nameF x).f :: B.map (·.f) := by simp
  rw [e]
  refine h1.narrow (fun k hk => ?_) (fun k hk => ?_)
  · rcases hk with hk | hk
    · exact hk
    · have h2 : (w.setCell ⟨x.blk, 3, none⟩ (.bool true)).heap.size = w.heap.size := by simp [World.setCell]
      omega
  · have := h.low k hk
    simpa [World.setCell] using this
theorem syncdir_plain {L : List Fl} {d : Dk} {left : Lit → Bool} (hl : ∀ k, left k = false) (hf : d.fate.1 = 0) (hL : L.map (·.f) = d.files.filter (·.there)) :
    d.syncdir = (0, { d.next with files := (L.map (namedF left)).map (·.f) }) := by
  unfold Dk.syncdir
  rw [hf, if_neg (by simp), ← hL, List.map_map, List.map_map]
  have e : L.map ((fun f : F0 => { f with named := true }) ∘ fun x : Fl => x.f) = L.map ((fun x : Fl => x.f) ∘ namedF left) := List.map_congr_left fun x _ => by simp [namedF, hl, nameF]
  rw [e]
set_option maxRecDepth 100000 in
set_option maxHeartbeats 1000000 in
theorem syncdir_b {w : World} {S : Nat → Prop} {q : Nat} {d : Dk} (h : DiskAt w S q d) :
    Calls Try.prog 48 #[.pointer (some ⟨q, 0, none⟩)] w fun e w' => OpIs w S q d.syncdir e w' := by
  obtain ⟨mb, fv, L, h⟩ := h
  have H := Lib.hid h
  clear h
  go_enter Try.func48, Try.ntmps48
  go_wp2_with fail
  refine (none_b H.out).mono ?_
  rintro e w' ⟨rfl, rfl⟩
  go_wp2_with fail
  refine (step_b H.out).mono ?_
  rintro e w1 ⟨kd, kp, fv', rfl, hkp, h1, ho1⟩
  obtain ⟨er, her⟩ : ∃ er, d.fate.1 = er := ⟨_, rfl⟩
  rw [her]
  have H1 := Lib.hid h1
  have HO1 := Lib.hid ho1
  have HE := Lib.hid her
  clear h1 ho1 hkp her
  go_upto_region 4 with fail
  obtain ⟨w2, hw2⟩ : ∃ w2 : World, w2 = w1.alloc (.cells #[.int .i64 kd, .int .i64 kp] 99) := ⟨_, rfl⟩
  obtain ⟨r, hr⟩ : ∃ r, r = w1.heap.size := ⟨_, rfl⟩
  have h2 : DiskIs w2 S q mb fv' L d.next := by rw [hw2]; exact H1.out.below ((Below.refl _ _).alloc (Nat.le_refl _) _)
  have ho2 : Only (fun k => k = q) w' w2 := by rw [hw2]; exact HO1.out.trans (only_alloc (fun k => k = q) _ _) (fun _ _ h => h)
  rw [← hw2, ← hr]
  clear hw2 hr H1 HO1
  have H2 := Lib.hid h2
  have HO2 := Lib.hid ho2
  clear h2 ho2
  by_cases h0 : er = 0
  · subst h0
    have c0 : w2.cell? ⟨q, 0, none⟩ = some (.map (some mb)) := cell_of H2.out.head rfl
    go_wp2_with fail
    refine (delGone_b H2.out).mono ?_
    rintro e w3 ⟨rfl, ⟨n', D, hown, hdic⟩, ho3⟩
    have h3 := H2.out.files_sub (L' := L.filter (·.f.there)) List.filter_sublist ho3 hown hdic
    obtain ⟨Lt, hLt⟩ : ∃ Lt, Lt = L.filter (·.f.there) := ⟨_, rfl⟩
    rw [← hLt] at h3 hdic
    have c0 : w3.cell? ⟨q, 0, none⟩ = some (.map (some mb)) := cell_of h3.head rfl
    have hown3 := ownsMap_tight hown
    have hnd := h3.nodup
    rw [hdic.size hown (by unfold pairsF; rw [List.map_map]; exact hnd)] at hown3
    have HDIC := Lib.hid hdic
    have HND := Lib.hid hnd
    have H3 := Lib.hid h3
    have HO3 : Hid (Only S w' w3) := Lib.hid ((HO2.out.mono (fun i _ hi => by rw [hi]; exact H2.out.q_mem)).trans ho3 (fun i _ hi => by rw [hi]; exact H2.out.foot _ (by simp [diskBlocks])))
    have HLT : Hid (Lt.map (·.f) = d.files.filter (·.there)) := Lib.hid (by
      rw [hLt]
      have : d.files = L.map (·.f) := H2.out.files.symm
      rw [this, List.filter_map]
      rfl)
    have hmb3 : Hid (mb < w3.heap.size) := Lib.hid hown3.lt
    have HSS : Hid (∀ k, S k → k < w3.heap.size) := Lib.hid h3.low
    clear hown hdic ho3 h3 hnd hLt H2 HO2
    go_wp2_with (at_range; refine wpList_range_own _ rfl _ 120 rfl 9 176 (string_keyed Try.underlying9) Try.underlying120 ptrElem mb _ _ rfl hown3 ?_; intro w4 hrg4 hg4 hs4)
    go_frame
    go_loopw [27] (fun _ wr => ∃ (left : Lit → Bool) (cnt : Nat), wr.ranges Try.prog 9 ptrElem mb w3.heap.size (pairsF Lt).length D left cnt ∧ Hid (DiskIs wr S q mb fv' (Lt.map (namedF left)) { d.next with files := (Lt.map (namedF left)).map (·.f) }) ∧ Hid (Only S w' wr))
      (fun _ wr => wr.rangeLeft mb w3.heap.size)
    case atStart =>
      have ho4 : Only (fun _ => False) w3 w4 := Only.of_grown (S := fun _ => False) hg4 (fun k hk => by simp at hk)
      refine ⟨_, _, hrg4, Lib.hid ?_, Lib.hid (HO3.out.trans ho4 (fun i _ hi => hi.elim))⟩
      have e : Lt.map (namedF (has D)) = Lt := by
        refine (List.map_congr_left fun x hx => ?_).trans (List.map_id _)
        have : has D (.string x.f.name) = true := (HDIC.out.has x.f.name).2 ⟨_, List.mem_map_of_mem (f := fun x : Fl => (x.f.name, x.blk)) hx, rfl⟩
        simp [namedF, this]
      rw [e]
      exact H3.out.only ho4 (fun _ _ h => h)
    case round =>
      obtain ⟨left, cnt, hrg, HDI, HO⟩ := hrel
      go_wp2_with (at_next; refine wpList_next_dic _ rfl _ rfl HDIC.out mb w3.heap.size _ left cnt rfl hrg ?_ ?_)
      · intro hl0
        have HX : Hid (OpIs w' S q d.syncdir (.returned (.int .i64 0)) wr) := Lib.hid (by
          rw [syncdir_plain hl0 HE.out HLT.out]
          refine ⟨rfl, ⟨mb, fv', _, HDI.out.wider (fun k hk => .inl hk) (fun k hk => ?_)⟩, HO.out⟩
          rcases hk with hk | hk
          · exact HDI.out.low k hk
          · exact hk.2)
        go_wp2_with fail
        go_ret
        exact HX.out
      · intro s b w5 cnt5 hmem hls hrg5 hlt hg5 hs5 hen HKEY
        obtain ⟨x, hx, rfl, rfl⟩ := mem_pairsF hmem
        obtain ⟨A, B, hAB, hAB'⟩ := named_split HND.out hx hls
        have hdi := HDI.out
        rw [hAB] at hdi
        have ho5 : Only (fun k => k = w3.heap.size) wr w5 := Only.of_grown (S := fun k => k = w3.heap.size) hg5 (fun k hk => by simp at hk; exact hk.symm)
        have hd5 := hdi.only ho5 (fun k hk he => by have := HSS.out k hk; omega)
        have hxc := (hd5.each x (by simp)).cells
        have k3 : w5.cell? ⟨x.blk, 3, none⟩ = some (.bool x.f.named) := cell_of hxc rfl
        have z3 : w5.frozen? ⟨x.blk, 3, none⟩ = false := free_of hxc _
        have hdn := set_named hd5
        obtain ⟨w6, hw6⟩ : ∃ w6 : World, w6 = w5.setCell ⟨x.blk, 3, none⟩ (.bool true) := ⟨_, rfl⟩
        rw [← hw6] at hdn
        have hxS : S x.blk := hd5.x_mem x.blk (by simp [Fl.blocks])
        have hxne : x.blk ≠ mb := fun e => by
          have h1 := (blocks_perm q mb fv' A x B).nodup_iff.1 hd5.apart
          exact not_mem_of_nodup_append h1 (k := x.blk) (by simp [Fl.blocks]) (by rw [e]; simp [diskBlocks])
        have hrg6 : w6.ranges Try.prog 9 ptrElem mb w3.heap.size (pairsF Lt).length D (fun z => left z && !z.sameKey (.string x.f.name)) cnt5 := by
          rw [hw6]
          exact hrg5.kept (grown_setC w5 ⟨x.blk, 3, none⟩ _) (by simp; omega) (by have := HSS.out _ hxS; simp; omega)
        have HO6 : Hid (Only S w' w6) := Lib.hid (by
          rw [hw6]
          exact (HO.out.trans ho5 (fun i hi he => by have := HO3.out.size; omega)).trans (only_setCell S _ _ _ _ hxS) (fun _ _ h => h))
        have HDN : Hid (DiskIs w6 S q mb fv' (Lt.map (namedF fun z => left z && !z.sameKey (.string x.f.name))) { d.next with files := (Lt.map (namedF fun z => left z && !z.sameKey (.string x.f.name))).map (·.f) }) := Lib.hid (by rw [hAB']; exact hdn)
        clear hdi ho5 hd5 hdn hxc hAB hAB'
        go_wp2_with fail
        rw [← hw6]
        go_roundw
        case rel => exact ⟨_, _, hrg6, HDN, HO6⟩
        case measure => rw [hrg6.left_eq, hrg.left_eq]; exact hlt
  · have hb0 : (er != 0) = true := by simpa using h0
    have HO : Hid (OpIs w' S q d.syncdir (.returned (.int .i64 er)) w2) := Lib.hid (by
      rw [show d.syncdir = (er, d.next) by
        unfold Dk.syncdir
        rw [HE.out, if_pos h0]]
      exact OpIs.next HO2.out H2.out er)
    clear h0
    go_wp2_with fail
    go_ret
    exact HO.out
end Go.Proofs.Ytmkjejngnahpeaa
