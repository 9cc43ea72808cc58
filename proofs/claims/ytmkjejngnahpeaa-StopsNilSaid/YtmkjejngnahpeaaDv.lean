/- Disk: Sync. -/
import Derived.Test.YtmkjejngnahpeaaDu
namespace Go.Proofs.Ytmkjejngnahpeaa
open Go Go.Maps Go.RowKit

/-- S and what is new -/
def Wid (S : Nat → Prop) (w w' : World) : Nat → Prop := fun k => S k ∨ (w.heap.size ≤ k ∧ k < w'.heap.size)
/-- what a call leaves: its error, the disk as it stands then; what is not the disk's has not turned -/
def OpIs (w : World) (S : Nat → Prop) (q : Nat) (r : Int × Dk) (e : Ending) (w' : World) : Prop :=
  e = .returned (.int .i64 r.1) ∧ DiskAt w' (Wid S w w') q r.2 ∧ Only S w w'
section
variable {w : World} {S : Nat → Prop} {q mb : Nat} {fv : Value} {L : List Fl} {d : Dk}
theorem DiskIs.q_mem (h : DiskIs w S q mb fv L d) : S q := h.foot q (by simp [diskBlocks])
theorem DiskIs.x_mem {A B : List Fl} {x : Fl} (h : DiskIs w S q mb fv (A ++ x :: B) d) : ∀ k ∈ x.blocks, S k := fun k hk =>
  h.foot k ((blocks_perm q mb fv A x B).mem_iff.2 (List.mem_append_left _ hk))
theorem DiskIs.x_ne {A B : List Fl} {x : Fl} (h : DiskIs w S q mb fv (A ++ x :: B) d) : ∀ k ∈ x.blocks, k ≠ q := fun k hk he => by
  have hp := (blocks_perm q mb fv A x B).nodup_iff.1 h.apart
  exact not_mem_of_nodup_append hp hk (by rw [he]; simp [diskBlocks])
theorem OpIs.same (h : DiskIs w S q mb fv L d) (n : Int) : OpIs w S q (n, d) (.returned (.int .i64 n)) w :=
  ⟨rfl, ⟨mb, fv, L, h.wider (fun k hk => .inl hk) (fun k hk => by
    rcases hk with hk | hk
    · exact h.low k hk
    · omega)⟩, Only.refl _ _⟩
theorem turn_list {A B : List Fl} {x x' : Fl} {d : Dk} {s : List UInt8} (t : F0 → F0) (hf : (A ++ x :: B).map (·.f) = d.files) (hs : (d.files.map (·.name)).Pairwise (· < ·)) (hx : x.f.name = s) (ht : x'.f = t x.f) :
    (d.turn s t).files = A.map (·.f) ++ x'.f :: B.map (·.f) := by
  have hnd : (d.files.map (·.name)).Nodup := hs.imp (fun {a b} hab he => by rw [he] at hab; exact List.lt_irrefl _ hab)
  rw [← hf, List.map_append, List.map_cons, List.map_append, List.map_cons] at hnd
  have h2 := List.nodup_append.1 hnd
  have hA : ∀ y ∈ A, y.f.name ≠ s := fun y hy he => h2.2.2 y.f.name (List.mem_map_of_mem (List.mem_map_of_mem hy)) x.f.name (by simp) (by rw [he, hx])
  have hB : ∀ y ∈ B, y.f.name ≠ s := fun y hy he => (List.nodup_cons.1 h2.2.1).1 (by rw [hx, ← he]; exact List.mem_map_of_mem (List.mem_map_of_mem hy))
  show d.files.map _ = _
  rw [← hf, List.map_append, List.map_cons, List.map_append, List.map_cons, List.map_map, List.map_map, if_pos hx, ht]
  congr 1
  · exact List.map_congr_left fun y hy => by simp [hA y hy]
  · congr 1
    exact List.map_congr_left fun y hy => by simp [hB y hy]
end
theorem file_done {w w2 W : World} {S : Nat → Prop} {q mb : Nat} {fv' : Value} {A B : List Fl} {x x' : Fl} {d1 : Dk} (ho : Only (fun k => k = q) w w2) (h2 : DiskIs w2 S q mb fv' (A ++ x :: B) d1) (hw : Only (fun k => k ∈ x.blocks) w2 W)
    (hb : x'.blk = x.blk) (hn : x'.f.name = x.f.name) (hx : FlAt W x') (hv : ∀ k, x'.bv.ownBlock = some k → x.bv.ownBlock = some k ∨ (w2.heap.size ≤ k ∧ k < W.heap.size)) {s : List UInt8} {t : F0 → F0} (hs : x.f.name = s) (ht : x'.f = t x.f) (n : Int) :
    OpIs w S q (n, d1.turn s t) (.returned (.int .i64 n)) W := by
  have h3 := h2.file_turn hb hn hw hx hv
  have e : ({ d1 with files := A.map (·.f) ++ x'.f :: B.map (·.f) } : Dk) = d1.turn s t := by
    rw [← turn_list t h2.files h2.sorted hs ht]
    rfl
  rw [e] at h3
  refine ⟨rfl, ⟨mb, fv', _, h3.wider (fun k hk => ?_) (fun k hk => ?_)⟩, ?_⟩
  · rcases hk with hk | hk
    · exact .inl hk
    · exact .inr ⟨Nat.le_trans ho.size hk.1, hk.2⟩
  · rcases hk with hk | hk
    · exact Nat.lt_of_lt_of_le (h2.low k hk) hw.size
    · exact hk.2
  · exact (ho.mono (fun i _ hi => by rw [hi]; exact h2.q_mem)).trans hw (fun i _ hi => h2.x_mem i hi)
theorem FlAt.own_ne {w : World} {S : Nat → Prop} {q mb : Nat} {fv : Value} {A B : List Fl} {x : Fl} {d : Dk} (h : DiskIs w S q mb fv (A ++ x :: B) d) : ∀ k, x.bv.ownBlock = some k → k ≠ x.blk := fun k hk he => by
  have hp := (List.nodup_append.1 ((blocks_perm q mb fv A x B).nodup_iff.1 h.apart)).1
  simp only [Fl.blocks, hk, Option.toList_some, List.nodup_cons, List.mem_singleton] at hp
  exact hp.1 he.symm
/-- a file's lasting part is set -/
theorem set_lasts {w w2 : World} {S : Nat → Prop} {q mb : Nat} {fv' : Value} {A B : List Fl} {x : Fl} {d1 : Dk} (ho : Only (fun k => k = q) w w2) (h2 : DiskIs w2 S q mb fv' (A ++ x :: B) d1) {l' : Nat} (hl : l' ≤ x.f.bytes.length) {v : Int} (hv : v = (l' : Int))
    {s : List UInt8} {t : F0 → F0} (hs : x.f.name = s) (ht : t x.f = { x.f with lasts := l' }) (n : Int) :
    OpIs w S q (n, d1.turn s t) (.returned (.int .i64 n)) ((w2.setCell ⟨x.blk, 1, none⟩ (.int .i64 v)).drew) := by
  subst hv
  have hx := h2.each x (by simp)
  have hset : Only (fun k => k = x.blk) w2 (w2.setCell ⟨x.blk, 1, none⟩ (.int .i64 l')).drew := only_drew (only_setCell (fun k => k = x.blk) w2 x.blk 1 _ rfl)
  refine file_done (x' := ⟨{ x.f with lasts := l' }, x.blk, x.bv⟩) ho h2 (hset.mono (fun i _ hi => by rw [hi]; simp [Fl.blocks])) rfl rfl ⟨?_, ?_, hl, hx.size⟩ (fun k hk => .inl hk) hs ht.symm n
  · exact heap_setCell_here (w := w2) _ hx.cells
  · exact hx.row.kept (fun k hk => hset.block k (hx.row.lt k hk) (FlAt.own_ne h2 k hk))
set_option maxRecDepth 100000 in
set_option maxHeartbeats 1000000 in
theorem sync_b {w : World} {S : Nat → Prop} {q : Nat} {d : Dk} (h : DiskAt w S q d) (nm : ByteArray) (hs : nm.size ≤ maxLen) :
    Calls Try.prog 47 #[.pointer (some ⟨q, 0, none⟩), .string nm] w fun e w' => OpIs w S q (d.sync nm.data.toList) e w' := by
  obtain ⟨mb, fv, L, h⟩ := h
  go_enter Try.func47, Try.ntmps47
  go_wp2_with fail
  refine (find_b h nm hs).mono ?_
  rintro e w' ⟨hF, rfl⟩
  rcases hF with ⟨hn, rfl⟩ | ⟨hn, hf, rfl⟩ | ⟨hn, A, x, B, rfl, hxn, hxt, hf, rfl⟩
  · have HO : Hid (OpIs w' S q (d.sync nm.data.toList) (.returned (.int .i64 2)) w') := Lib.hid (by
      rw [show d.sync nm.data.toList = (2, d) by simp [Dk.sync, hn]]
      exact OpIs.same h 2)
    clear h hn
    go_wp2_with fail
    go_ret
    exact HO.out
  · have HO : Hid (OpIs w' S q (d.sync nm.data.toList) (.returned (.int .i64 171)) w') := Lib.hid (by
      rw [show d.sync nm.data.toList = (171, d) by simp [Dk.sync, hn, hf]]
      exact OpIs.same h 171)
    clear h hn hf
    go_wp2_with fail
    go_ret
    exact HO.out
  · have H := Lib.hid h
    have HN := Lib.hid (And.intro hn hf)
    clear h hn hf
    go_wp2_with fail
    refine (step_b H.out).mono ?_
    rintro e w1 ⟨kd, kp, fv', rfl, hkp, h1, ho1⟩
    obtain ⟨er, her⟩ : ∃ er, d.fate.1 = er := ⟨_, rfl⟩
    rw [her]
    have H1 := Lib.hid h1
    have HO1 := Lib.hid ho1
    have HE := Lib.hid (And.intro hkp her)
    clear h1 ho1 hkp her
    go_upto_region 5 with fail
    obtain ⟨w2, hw2⟩ : ∃ w2 : World, w2 = w1.alloc (.cells #[.int .i64 kd, .int .i64 kp] 99) := ⟨_, rfl⟩
    obtain ⟨r, hr⟩ : ∃ r, r = w1.heap.size := ⟨_, rfl⟩
    have hr2 : w2.heap[r]? = some (.cells #[.int .i64 kd, .int .i64 kp] 99 (0, 0)) := by rw [hw2, hr]; exact alloc_cells _ _ _
    have h2 : DiskIs w2 S q mb fv' (A ++ x :: B) d.next := by rw [hw2]; exact H1.out.below ((Below.refl _ _).alloc (Nat.le_refl _) _)
    have ho2 : Only (fun k => k = q) w' w2 := by rw [hw2]; exact HO1.out.trans (only_alloc (fun k => k = q) _ _) (fun _ _ h => h)
    rw [← hw2, ← hr]
    clear hw2 hr H1 HO1
    have hx := h2.each x (by simp)
    obtain ⟨oa, c, hbv, hnc⟩ := hx.row.shape
    have hxc := hx.cells
    obtain ⟨n, hn⟩ : ∃ n, x.f.bytes.length = n := ⟨_, rfl⟩
    obtain ⟨l, hl⟩ : ∃ l, x.f.lasts = l := ⟨_, rfl⟩
    have hln : l ≤ n ∧ n ≤ 16777216 := by
      have h3 := hx.lasts
      have h4 := hx.size
      omega
    rw [hbv, hn, hl] at hxc
    have k0 : w2.drew.cell? ⟨x.blk, 0, none⟩ = some (.slice oa n c) := cell_of (w := w2) hxc rfl
    have k1 : w2.drew.cell? ⟨x.blk, 1, none⟩ = some (.int .i64 l) := cell_of (w := w2) hxc rfl
    have z1 : w2.drew.frozen? ⟨x.blk, 1, none⟩ = false := free_of (w := w2) hxc _
    have y1 : w2.drew.cell? ⟨r, 1, none⟩ = some (.int .i64 kp) := cell_of (w := w2) hr2 rfl
    obtain ⟨m, hm⟩ : ∃ m, m = n - l := ⟨_, rfl⟩
    have hsub : wrap64 ((n : Int) - (l : Int)) = (m : Int) := by unfold wrap64; omega
    have H2 := Lib.hid h2
    have HO2 := Lib.hid ho2
    have HX := Lib.hid hxc
    have HBV := Lib.hid (And.intro hbv (And.intro hn hl))
    have HXR := Lib.hid hx
    have HM := Lib.hid hm
    clear h2 ho2 hxc hbv hx hm hn hl hr2
    go_region
    by_cases h0 : er = 0
    · subst h0
      have HO : Hid (∀ v : Int, v = (n : Int) → OpIs w' S q (d.sync nm.data.toList) (.returned (.int .i64 0)) (w2.setCell ⟨x.blk, 1, none⟩ (.int .i64 v)).drew) := Lib.hid (fun v hv => by
        have := set_lasts HO2.out H2.out (l' := n) (by rw [HBV.out.2.1]; exact Nat.le_refl _) hv (s := nm.data.toList) (t := fun f => { f with lasts := f.bytes.length }) hxn (by rw [HBV.out.2.1]) 0
        simpa [Dk.sync, HN.out.1, HN.out.2, HE.out.2] using this)
      clear hsub
      go_wp2_with fail
      go_ret
      exact HO.out _ (by omega)
    · have hb0 : (er != 0) = true := by simpa using h0
      have HO : Hid (∀ v : Int, v = ((l + min (n - l) d.fate.2 : Nat) : Int) → OpIs w' S q (d.sync nm.data.toList) (.returned (.int .i64 er)) (w2.setCell ⟨x.blk, 1, none⟩ (.int .i64 v)).drew) := Lib.hid (fun v hv => by
        have := set_lasts HO2.out H2.out (l' := l + min (n - l) d.fate.2) (by rw [HBV.out.2.1]; omega) hv (s := nm.data.toList) (t := fun f => { f with lasts := f.lasts + min (f.bytes.length - f.lasts) d.fate.2 }) hxn (by simp only [HBV.out.2.1, HBV.out.2.2]) er
        simpa [Dk.sync, HN.out.1, HN.out.2, HE.out.2, h0] using this)
      have HK := Lib.hid HE.out.1
      clear hsub h0
      go_wp2_with fail
      all_goals (go_ret; refine HO.out _ ?_; have := HK.out; omega)
end Go.Proofs.Ytmkjejngnahpeaa
