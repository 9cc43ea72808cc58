/- The texts Dv, Dw, Dx in one. -/
import Derived.Test.YtmkjejngnahpeaaA2
import Derived.Deep.CutRange
/- Disk: Sync. -/
namespace Go.Proofs.Ytmkjejngnahpeaa
open Go Go.Maps Go.RowKit

/-- S and what is new -/
def Wid (S : Nat → Prop) (w w' : World) : Nat → Prop := fun k => S k ∨ (w.heap.size ≤ k ∧ k < w'.heap.size)
/-- what a call leaves: its error, the disk as it stands then; what is not the disk's has not turned -/
def OpIs (w : World) (S : Nat → Prop) (q : Nat) (r : Int × Dk) (e : Ending) (w' : World) : Prop :=
  e = .returned (.int .i64 r.1) ∧ DiskAt w' (Wid S w w') q r.2 ∧ Only S w w'
section
variable {w : World} {S : Nat → Prop} {q mb : Nat} {fv : Value} {L : List Fl} {d : Dk}
theorem DiskIs.q_mem (h : DiskIs w S q mb fv L d) : S q := h.foot q (by simp [diskBlocks])
theorem DiskIs.x_mem {A B : List Fl} {x : Fl} (h : DiskIs w S q mb fv (A ++ x :: B) d) : ∀ k ∈ x.blocks, S k := fun k hk =>
  h.foot k ((blocks_perm q mb fv A x B).mem_iff.2 (List.mem_append_left _ hk))
theorem DiskIs.x_ne {A B : List Fl} {x : Fl} (h : DiskIs w S q mb fv (A ++ x :: B) d) : ∀ k ∈ x.blocks, k ≠ q := fun k hk he => by
  have hp := (blocks_perm q mb fv A x B).nodup_iff.1 h.apart
  exact not_mem_of_nodup_append hp hk (by rw [he]; simp [diskBlocks])
theorem OpIs.same (h : DiskIs w S q mb fv L d) (n : Int) : OpIs w S q (n, d) (.returned (.int .i64 n)) w :=
  ⟨rfl, ⟨mb, fv, L, h.wider (fun k hk => .inl hk) (fun k hk => by
    rcases hk with hk | hk
    · exact h.low k hk
    · omega)⟩, Only.refl _ _⟩
theorem turn_list {A B : List Fl} {x x' : Fl} {d : Dk} {s : List UInt8} (t : F0 → F0) (hf : (A ++ x :: B).map (·.f) = d.files) (hs : (d.files.map (·.name)).Pairwise (· < ·)) (hx : x.f.name = s) (ht : x'.f = t x.f) :
    (d.turn s t).files = A.map (·.f) ++ x'.f :: B.map (·.f) := by
  have hnd : (d.files.map (·.name)).Nodup := hs.imp (fun {a b} hab he => by rw [he] at hab; exact List.lt_irrefl _ hab)
  rw [← hf, List.map_append, List.map_cons, List.map_append, List.map_cons] at hnd
  have h2 := List.nodup_append.1 hnd
  have hA : ∀ y ∈ A, y.f.name ≠ s := fun y hy he => h2.2.2 y.f.name (List.mem_map_of_mem (List.mem_map_of_mem hy)) x.f.name (by simp) (by rw [he, hx])
  have hB : ∀ y ∈ B, y.f.name ≠ s := fun y hy he => (List.nodup_cons.1 h2.2.1).1 (by rw [hx, ← he]; exact List.mem_map_of_mem (List.mem_map_of_mem hy))
  show d.files.map _ = _
  rw [← hf, List.map_append, List.map_cons, List.map_append, List.map_cons, List.map_map, List.map_map, if_pos hx, ht]
  congr 1
  · exact List.map_congr_left fun y hy => by simp [hA y hy]
  · congr 1
    exact List.map_congr_left fun y hy => by simp [hB y hy]
end
theorem file_done {w w2 W : World} {S : Nat → Prop} {q mb : Nat} {fv' : Value} {A B : List Fl} {x x' : Fl} {d1 : Dk} (ho : Only (fun k => k = q) w w2) (h2 : DiskIs w2 S q mb fv' (A ++ x :: B) d1) (hw : Only (fun k => k ∈ x.blocks) w2 W)
    (hb : x'.blk = x.blk) (hn : x'.f.name = x.f.name) (hx : FlAt W x') (hv : ∀ k, x'.bv.ownBlock = some k → x.bv.ownBlock = some k ∨ (w2.heap.size ≤ k ∧ k < W.heap.size)) {s : List UInt8} {t : F0 → F0} (hs : x.f.name = s) (ht : x'.f = t x.f) (n : Int) :
    OpIs w S q (n, d1.turn s t) (.returned (.int .i64 n)) W := by
  have h3 := h2.file_turn hb hn hw hx hv
  have e : ({ d1 with files := A.map (·.f) ++ x'.f :: B.map (·.f) } : Dk) = d1.turn s t := by
    rw [← turn_list t h2.files h2.sorted hs ht]
    rfl
  rw [e] at h3
  refine ⟨rfl, ⟨mb, fv', _, h3.wider (fun k hk => ?_) (fun k hk => ?_)⟩, ?_⟩
  · rcases hk with hk | hk
    · exact .inl hk
    · exact .inr ⟨Nat.le_trans ho.size hk.1, hk.2⟩
  · rcases hk with hk | hk
    · exact Nat.lt_of_lt_of_le (h2.low k hk) hw.size
    · exact hk.2
  · exact (ho.mono (fun i _ hi => by rw [hi]; exact h2.q_mem)).trans hw (fun i _ hi => h2.x_mem i hi)
theorem FlAt.own_ne {w : World} {S : Nat → Prop} {q mb : Nat} {fv : Value} {A B : List Fl} {x : Fl} {d : Dk} (h : DiskIs w S q mb fv (A ++ x :: B) d) : ∀ k, x.bv.ownBlock = some k → k ≠ x.blk := fun k hk he => by
  have hp := (List.nodup_append.1 ((blocks_perm q mb fv A x B).nodup_iff.1 h.apart)).1
  simp only [Fl.blocks, hk, Option.toList_some, List.nodup_cons, List.mem_singleton] at hp
  exact hp.1 he.symm
/-- a file's lasting part is set -/
theorem set_lasts {w w2 : World} {S : Nat → Prop} {q mb : Nat} {fv' : Value} {A B : List Fl} {x : Fl} {d1 : Dk} (ho : Only (fun k => k = q) w w2) (h2 : DiskIs w2 S q mb fv' (A ++ x :: B) d1) {l' : Nat} (hl : l' ≤ x.f.bytes.length) {v : Int} (hv : v = (l' : Int))
    {s : List UInt8} {t : F0 → F0} (hs : x.f.name = s) (ht : t x.f = { x.f with lasts := l' }) (n : Int) :
    OpIs w S q (n, d1.turn s t) (.returned (.int .i64 n)) ((w2.setCell ⟨x.blk, 1, none⟩ (.int .i64 v)).drew) := by
  subst hv
  have hx := h2.each x (by simp)
  have hset : Only (fun k => k = x.blk) w2 (w2.setCell ⟨x.blk, 1, none⟩ (.int .i64 l')).drew := only_drew (only_setCell (fun k => k = x.blk) w2 x.blk 1 _ rfl)
  refine file_done (x' := ⟨{ x.f with lasts := l' }, x.blk, x.bv⟩) ho h2 (hset.mono (fun i _ hi => by rw [hi]; simp [Fl.blocks])) rfl rfl ⟨?_, ?_, hl, hx.size⟩ (fun k hk => .inl hk) hs ht.symm n
  · exact heap_setCell_here (w := w2) _ hx.cells
  · exact hx.row.kept (fun k hk => hset.block k (hx.row.lt k hk) (FlAt.own_ne h2 k hk))
set_option maxRecDepth 100000 in
set_option maxHeartbeats 1000000 in
theorem sync_b {w : World} {S : Nat → Prop} {q : Nat} {d : Dk} (h : DiskAt w S q d) (nm : ByteArray) (hs : nm.size ≤ maxLen) :
    Calls Try.prog 47 #[.pointer (some ⟨q, 0, none⟩), .string nm] w fun e w' => OpIs w S q (d.sync nm.data.toList) e w' := by
  obtain ⟨mb, fv, L, h⟩ := h
  go_enter Try.func47, Try.ntmps47
  go_wp2_with fail
  refine (find_b h nm hs).mono ?_
  rintro e w' ⟨hF, rfl⟩
  rcases hF with ⟨hn, rfl⟩ | ⟨hn, hf, rfl⟩ | ⟨hn, A, x, B, rfl, hxn, hxt, hf, rfl⟩
  · have HO : Hid (OpIs w' S q (d.sync nm.data.toList) (.returned (.int .i64 2)) w') := Lib.hid (by
      rw [show d.sync nm.data.toList = (2, d) by simp [Dk.sync, hn]]
      exact OpIs.same h 2)
    clear h hn
    go_wp2_with fail
    go_ret
    exact HO.out
  · have HO : Hid (OpIs w' S q (d.sync nm.data.toList) (.returned (.int .i64 171)) w') := Lib.hid (by
      rw [show d.sync nm.data.toList = (171, d) by simp [Dk.sync, hn, hf]]
      exact OpIs.same h 171)
    clear h hn hf
    go_wp2_with fail
    go_ret
    exact HO.out
  · have H := Lib.hid h
    have HN := Lib.hid (And.intro hn hf)
    clear h hn hf
    go_wp2_with fail
    refine (step_b H.out).mono ?_
    rintro e w1 ⟨kd, kp, fv', rfl, hkp, h1, ho1⟩
    obtain ⟨er, her⟩ : ∃ er, d.fate.1 = er := ⟨_, rfl⟩
    rw [her]
    have H1 := Lib.hid h1
    have HO1 := Lib.hid ho1
    have HE := Lib.hid (And.intro hkp her)
    clear h1 ho1 hkp her
    go_upto_region 5 with fail
    obtain ⟨w2, hw2⟩ : ∃ w2 : World, w2 = w1.alloc (.cells #[.int .i64 kd, .int .i64 kp] 99) := ⟨_, rfl⟩
    obtain ⟨r, hr⟩ : ∃ r, r = w1.heap.size := ⟨_, rfl⟩
    have hr2 : w2.heap[r]? = some (.cells #[.int .i64 kd, .int .i64 kp] 99 (0, 0)) := by rw [hw2, hr]; exact alloc_cells _ _ _
    have h2 : DiskIs w2 S q mb fv' (A ++ x :: B) d.next := by rw [hw2]; exact H1.out.below ((Below.refl _ _).alloc (Nat.le_refl _) _)
    have ho2 : Only (fun k => k = q) w' w2 := by rw [hw2]; exact HO1.out.trans (only_alloc (fun k => k = q) _ _) (fun _ _ h => h)
    rw [← hw2, ← hr]
    clear hw2 hr H1 HO1
    have hx := h2.each x (by simp)
    obtain ⟨oa, c, hbv, hnc⟩ := hx.row.shape
    have hxc := hx.cells
    obtain ⟨n, hn⟩ : ∃ n, x.f.bytes.length = n := ⟨_, rfl⟩
    obtain ⟨l, hl⟩ : ∃ l, x.f.lasts = l := ⟨_, rfl⟩
    have hln : l ≤ n ∧ n ≤ 16777216 := by
      have h3 := hx.lasts
      have h4 := hx.size
      omega
    rw [hbv, hn, hl] at hxc
    have k0 : w2.drew.cell? ⟨x.blk, 0, none⟩ = some (.slice oa n c) := cell_of (w := w2) hxc rfl
    have k1 : w2.drew.cell? ⟨x.blk, 1, none⟩ = some (.int .i64 l) := cell_of (w := w2) hxc rfl
    have z1 : w2.drew.frozen? ⟨x.blk, 1, none⟩ = false := free_of (w := w2) hxc _
    have y1 : w2.drew.cell? ⟨r, 1, none⟩ = some (.int .i64 kp) := cell_of (w := w2) hr2 rfl
    obtain ⟨m, hm⟩ : ∃ m, m = n - l := ⟨_, rfl⟩
    have hsub : wrap64 ((n : Int) - (l : Int)) = (m : Int) := by unfold wrap64; omega
    have H2 := Lib.hid h2
    have HO2 := Lib.hid ho2
    have HX := Lib.hid hxc
    have HBV := Lib.hid (And.intro hbv (And.intro hn hl))
    have HXR := Lib.hid hx
    have HM := Lib.hid hm
    clear h2 ho2 hxc hbv hx hm hn hl hr2
    go_region
    by_cases h0 : er = 0
    · subst h0
      have HO : Hid (∀ v : Int, v = (n : Int) → OpIs w' S q (d.sync nm.data.toList) (.returned (.int .i64 0)) (w2.setCell ⟨x.blk, 1, none⟩ (.int .i64 v)).drew) := Lib.hid (fun v hv => by
        have := set_lasts HO2.out H2.out (l' := n) (by rw [HBV.out.2.1]; exact Nat.le_refl _) hv (s := nm.data.toList) (t := fun f => { f with lasts := f.bytes.length }) hxn (by rw [HBV.out.2.1]) 0
        simpa [Dk.sync, HN.out.1, HN.out.2, HE.out.2] using this)
      clear hsub
      go_wp2_with fail
      go_ret
      exact HO.out _ (by omega)
    · have hb0 : (er != 0) = true := by simpa using h0
      have HO : Hid (∀ v : Int, v = ((l + min (n - l) d.fate.2 : Nat) : Int) → OpIs w' S q (d.sync nm.data.toList) (.returned (.int .i64 er)) (w2.setCell ⟨x.blk, 1, none⟩ (.int .i64 v)).drew) := Lib.hid (fun v hv => by
        have := set_lasts HO2.out H2.out (l' := l + min (n - l) d.fate.2) (by rw [HBV.out.2.1]; omega) hv (s := nm.data.toList) (t := fun f => { f with lasts := f.lasts + min (f.bytes.length - f.lasts) d.fate.2 }) hxn (by simp only [HBV.out.2.1, HBV.out.2.2]) er
        simpa [Dk.sync, HN.out.1, HN.out.2, HE.out.2, h0] using this)
      have HK := Lib.hid HE.out.1
      clear hsub h0
      go_wp2_with fail
      all_goals (go_ret; refine HO.out _ ?_; have := HK.out; omega)
end Go.Proofs.Ytmkjejngnahpeaa
/- Disk: Append. -/
namespace Go.Proofs.Ytmkjejngnahpeaa
open Go Go.Maps Go.RowKit

theorem info_u8 : (Try.prog.info? 5).map (fun i => (i.zero, i.size, i.bytes)) = some (some (.int .u8 0), 1, 1) := by kernel_rfl
/-- v holds the bytes l -/
abbrev bytesAt (w : World) (v : Value) (l : List UInt8) : Prop := rowAt w 5 1 v l.length (byteCells l)
theorem rowAt.take {w : World} {e : TypeId} {size : Nat} {oa : Option Addr} {n cap : Nat} {xs : List Value} (h : rowAt w e size (.slice oa n cap) n xs) (k : Nat) (hk : k ≤ n) : rowAt w e size (.slice oa k cap) k (xs.take (k * size)) := by
  refine ⟨by rw [List.length_take, h.1]; exact Nat.min_eq_left (Nat.mul_le_mul_right _ hk), ?_⟩
  rcases h.2 with ⟨hv, h0⟩ | ⟨g, off, c, cur, fr, hv, hg, hnc, hcm, hcs, hfr, ht⟩
  · simp only [Value.slice.injEq] at hv
    obtain ⟨rfl, -, rfl⟩ := hv
    obtain rfl : k = 0 := by omega
    exact .inl ⟨rfl, rfl⟩
  · simp only [Value.slice.injEq] at hv
    obtain ⟨rfl, -, rfl⟩ := hv
    refine .inr ⟨g, off, cap, cur, fr, rfl, hg, by omega, hcm, hcs, hfr, ?_⟩
    rw [← ht, List.take_take, Nat.min_eq_left (Nat.mul_le_mul_right _ hk)]
theorem rowAt.map0 {w : World} {e : TypeId} {size : Nat} {oa : Option Addr} {n cap : Nat} {xs : List Value} (h : rowAt w e size (.slice oa n cap) n xs) : oa.map (fun x => x.add 0) = oa ∧ n ≤ cap := by
  rcases h.2 with ⟨hv, h0⟩ | ⟨g, off, c, cur, fr, hv, _, hn, _⟩
  · simp only [Value.slice.injEq] at hv
    rw [hv.1]
    exact ⟨rfl, by omega⟩
  · simp only [Value.slice.injEq] at hv
    rw [hv.1, hv.2.2]
    exact ⟨by simp [Go.WideShapes.add_plain], hn⟩
theorem Src.of_row {P : Program} {w : World} {size : Nat} {u e e2 : TypeId} (hu : P.underlying u = some (.slice e)) {v : Value} {n : Nat} {xs : List Value} (h : rowAt w e2 size v n xs) (h1 : ∀ v ∈ xs, v.oneCell' = true) : Src P w size u v n xs := by
  obtain ⟨oa, cap, rfl, _⟩ := h.shape
  cases oa with
  | none =>
    rcases h.2 with ⟨hv, h0⟩ | ⟨g, off, c, cur, fr, hv, _⟩
    · subst h0
      have hx : xs = [] := List.eq_nil_of_length_eq_zero (by simpa using h.1)
      subst hx
      exact Src.none hu _
    · simp at hv
  | some ad =>
    rcases h.2 with ⟨hv, h0⟩ | ⟨g, off, c, cur, fr, hv, _⟩
    · simp at hv
    · simp only [Value.slice.injEq, Option.some.injEq] at hv
      obtain ⟨rfl, -, -⟩ := hv
      exact Src.slice hu _ n cap xs h.1 (fun j u hj => h.cells rfl j u hj) h1
/-- v holds the bytes l, to be read -/
abbrev bytesRd (w : World) (v : Value) (l : List UInt8) : Prop := readAt w 1 v l.length (byteCells l)
theorem byteCells_take (l : List UInt8) (k : Nat) : (byteCells l).take k = byteCells (l.take k) := by simp [byteCells, List.map_take]
theorem byteCells_append (a b : List UInt8) : byteCells a ++ byteCells b = byteCells (a ++ b) := by simp [byteCells]
theorem bytesAt.take {w : World} {oa : Option Addr} {c : Nat} {l : List UInt8} (h : bytesAt w (.slice oa l.length c) l) (k : Nat) (hk : k ≤ l.length) : bytesAt w (.slice oa k c) (l.take k) := by
  have := rowAt.take h k hk
  rw [Nat.mul_one, byteCells_take] at this
  have e : (l.take k).length = k := by rw [List.length_take]; omega
  show rowAt w _ 1 _ (l.take k).length _
  rw [e]
  exact this
theorem bytesRd.take {w : World} {oa : Option Addr} {c : Nat} {l : List UInt8} (h : bytesRd w (.slice oa l.length c) l) (k : Nat) (hk : k ≤ l.length) : bytesRd w (.slice oa k c) (l.take k) := by
  have := readAt.take h k hk
  rw [Nat.mul_one, byteCells_take] at this
  have e : (l.take k).length = k := by rw [List.length_take]; omega
  show readAt w 1 _ (l.take k).length _
  rw [e]
  exact this
/-- bytes are appended to a file -/
theorem set_bytes {w w2 w3 : World} {S : Nat → Prop} {q mb : Nat} {fv' v' : Value} {A B : List Fl} {x : Fl} {d1 : Dk} {l b : List UInt8} (ho : Only (fun k => k = q) w w2) (h2 : DiskIs w2 S q mb fv' (A ++ x :: B) d1)
    (hg : w2.grownBy w3 x.bv.ownBlock) (hr : rowAt w3 5 1 v' l.length (byteCells l)) (hown : v'.ownBlock = x.bv.ownBlock ∨ v'.ownBlock = some w2.heap.size) (hl : x.f.bytes ++ b = l) (hsz : l.length ≤ 16777216)
    {s : List UInt8} {t : F0 → F0} (hs : x.f.name = s) (ht : t x.f = { x.f with bytes := l }) (n : Int) :
    OpIs w S q (n, d1.turn s t) (.returned (.int .i64 n)) (w3.setCell ⟨x.blk, 0, none⟩ v') := by
  have hx := h2.each x (by simp)
  have hne := FlAt.own_ne h2
  have hblk : x.blk < w2.heap.size := h2.low _ (h2.x_mem _ (by simp [Fl.blocks]))
  have hc3 : w3.heap[x.blk]? = w2.heap[x.blk]? := hg.block _ hblk (fun e => hne x.blk e.symm rfl)
  have h3 : Only (fun k => k ∈ x.blocks) w2 w3 := Only.of_grown hg (fun k hk => by simp [Fl.blocks, hk])
  have hset : Only (fun k => k = x.blk) w3 (w3.setCell ⟨x.blk, 0, none⟩ v') := only_setCell (fun k => k = x.blk) w3 x.blk 0 _ rfl
  have hvne : ∀ k, v'.ownBlock = some k → k ≠ x.blk := fun k hk => by
    rcases hown with h | h
    · exact hne k (by rw [← h]; exact hk)
    · rw [h] at hk
      simp only [Option.some.injEq] at hk
      omega
  refine file_done (x' := ⟨{ x.f with bytes := l }, x.blk, v'⟩) ho h2 (h3.trans hset (fun i _ hi => by rw [hi]; simp [Fl.blocks])) rfl rfl ⟨?_, ?_, ?_, hsz⟩ (fun k hk => ?_) hs ht.symm n
  · exact heap_setCell_here (w := w3) _ (hc3.trans hx.cells)
  · exact hr.kept (fun k hk => hset.block k (hr.lt k hk) (hvne k hk))
  · have := hx.lasts
    rw [← hl]
    simp only [List.length_append]
    omega
  · rcases hown with h | h
    · exact .inl (by rw [← h]; exact hk)
    · have h4 := hr.lt k hk
      have hk2 : v'.ownBlock = some k := hk
      rw [h] at hk2
      simp only [Option.some.injEq] at hk2
      have h5 := hset.size
      exact .inr ⟨by omega, by omega⟩
theorem cell_kept_at {w w3 : World} {k i : Nat} (h : w3.heap[k]? = w.heap[k]?) : w3.cell? ⟨k, i, none⟩ = w.cell? ⟨k, i, none⟩ := by simp [World.cell?, h]
theorem frozen_kept_at {w w3 : World} {k i : Nat} (h : w3.heap[k]? = w.heap[k]?) : w3.frozen? ⟨k, i, none⟩ = w.frozen? ⟨k, i, none⟩ := by simp [World.frozen?, h]
set_option maxRecDepth 100000 in
set_option maxHeartbeats 1000000 in
theorem append_b {w : World} {S : Nat → Prop} {q : Nat} {d : Dk} (h : DiskAt w S q d) (nm : ByteArray) (hs : nm.size ≤ maxLen) (oa : Option Addr) (c : Nat) (b : List UInt8) (hb : bytesRd w (.slice oa b.length c) b) (hbS : ∀ k, (Value.slice oa b.length c).ownBlock = some k → 0 < b.length → ¬ S k) (hbl : b.length ≤ 1000000000) :
    Calls Try.prog 46 #[.pointer (some ⟨q, 0, none⟩), .string nm, .slice oa b.length c] w fun e w' => OpIs w S q (d.append nm.data.toList b) e w' := by
  obtain ⟨mb, fv, L, h⟩ := h
  obtain ⟨lb, hlb⟩ : ∃ lb, lb = b.length := ⟨_, rfl⟩
  rw [← hlb] at hb hbS hbl ⊢
  have HBW := Lib.hid (And.intro hb hbS)
  have HLB := Lib.hid hlb
  clear hb hbS hlb
  go_enter Try.func46, Try.ntmps46
  go_wp2_with fail
  refine (find_b h nm hs).mono ?_
  rintro e w' ⟨hF, rfl⟩
  rcases hF with ⟨hn, rfl⟩ | ⟨hn, hf, rfl⟩ | ⟨hn, A, x, B, rfl, hxn, hxt, hf, rfl⟩
  · have HO : Hid (OpIs w' S q (d.append nm.data.toList b) (.returned (.int .i64 2)) w') := Lib.hid (by
      rw [show d.append nm.data.toList b = (2, d) by simp [Dk.append, hn]]
      exact OpIs.same h 2)
    clear h hn
    go_wp2_with fail
    go_ret
    exact HO.out
  · have HO : Hid (OpIs w' S q (d.append nm.data.toList b) (.returned (.int .i64 171)) w') := Lib.hid (by
      rw [show d.append nm.data.toList b = (171, d) by simp [Dk.append, hn, hf]]
      exact OpIs.same h 171)
    clear h hn hf
    go_wp2_with fail
    go_ret
    exact HO.out
  · have hx0 := h.each x (by simp)
    obtain ⟨oaf, cf, hbv, hnc⟩ := hx0.row.shape
    obtain ⟨n, hnn⟩ : ∃ n, x.f.bytes.length = n := ⟨_, rfl⟩
    have hsz : n ≤ 16777216 := by rw [← hnn]; exact hx0.size
    have hxc := hx0.cells
    rw [hbv, hnn] at hxc
    have k0 : w'.cell? ⟨x.blk, 0, none⟩ = some (.slice oaf n cf) := cell_of hxc rfl
    have HBV := Lib.hid (And.intro hbv hnn)
    have H := Lib.hid h
    have HN := Lib.hid (And.intro hn hf)
    clear h hn hf hxc hx0 hbv hnn hnc
    by_cases hfull : 16777216 < lb + n
    · have HO : Hid (OpIs w' S q (d.append nm.data.toList b) (.returned (.int .i64 6)) w') := Lib.hid (by
        rw [show d.append nm.data.toList b = (6, d) by simp [Dk.append, HN.out.1, HN.out.2]; rw [← HLB.out, HBV.out.2]; intro h; omega]
        exact OpIs.same H.out 6)
      have hd : decide ((16777216 : Int) - (n : Int) < (lb : Int)) = true := by simp; omega
      go_wp2_with fail
      go_ret
      exact HO.out
    · have hd : decide ((16777216 : Int) - (n : Int) < (lb : Int)) = false := by simp; omega
      go_wp2_with fail
      refine (step_b H.out).mono ?_
      rintro e w1 ⟨kd, kp, fv', rfl, hkp, h1, ho1⟩
      obtain ⟨er, her⟩ : ∃ er, d.fate.1 = er := ⟨_, rfl⟩
      rw [her]
      have H1 := Lib.hid h1
      have HO1 := Lib.hid ho1
      have HE := Lib.hid (And.intro hkp her)
      clear h1 ho1 hkp her k0 hd
      go_upto_region 7 with fail
      obtain ⟨w2, hw2⟩ : ∃ w2 : World, w2 = w1.alloc (.cells #[.int .i64 kd, .int .i64 kp] 99) := ⟨_, rfl⟩
      obtain ⟨r, hr⟩ : ∃ r, r = w1.heap.size := ⟨_, rfl⟩
      have hr2 : w2.heap[r]? = some (.cells #[.int .i64 kd, .int .i64 kp] 99 (0, 0)) := by rw [hw2, hr]; exact alloc_cells _ _ _
      have h2 : DiskIs w2 S q mb fv' (A ++ x :: B) d.next := by rw [hw2]; exact H1.out.below ((Below.refl _ _).alloc (Nat.le_refl _) _)
      have ho2 : Only (fun k => k = q) w' w2 := by rw [hw2]; exact HO1.out.trans (only_alloc (fun k => k = q) _ _) (fun _ _ h => h)
      rw [← hw2, ← hr]
      clear hw2 hr H1 HO1
      have hx := h2.each x (by simp)
      have hxc := hx.cells
      have hxr := hx.row
      rw [HBV.out.1, HBV.out.2] at hxc hxr
      have hk0 : w2.cell? ⟨x.blk, 0, none⟩ = some (.slice oaf n cf) := cell_of hxc rfl
      have hz0 : w2.frozen? ⟨x.blk, 0, none⟩ = false := free_of hxc _
      have y1 : w2.cell? ⟨r, 1, none⟩ = some (.int .i64 kp) := cell_of hr2 rfl
      have HG : Hid (∀ w3 : World, w2.grownBy w3 (Value.slice oaf n cf).ownBlock → w3.heap[x.blk]? = w2.heap[x.blk]?) := Lib.hid fun w3 hg => hg.block _ (h2.low _ (h2.x_mem _ (by simp [Fl.blocks]))) (fun e => FlAt.own_ne h2 x.blk (by rw [HBV.out.1, HBV.out.2]; exact e.symm) rfl)
      have HROW : Hid (rowAt w2 5 1 (.slice oaf n cf) n (byteCells x.f.bytes)) := Lib.hid hxr
      have hb2 : bytesRd w2 (.slice oa b.length c) b := by
        rw [← HLB.out]
        show readAt w2 1 _ b.length _
        rw [← HLB.out]
        have h3 := HBW.out.1
        have h4 : readAt w' 1 (.slice oa lb c) b.length (byteCells b) := h3
        rw [← HLB.out] at h4
        exact h4.kept (fun k hl hk h0 => ho2.block k hl (fun e => HBW.out.2 k hk h0 (by rw [e]; exact h2.q_mem)))
      have H2 := Lib.hid h2
      have HO2 := Lib.hid ho2
      have HB2 := Lib.hid hb2
      clear h2 ho2 hb2 hx hxc hxr hr2 H
      by_cases h0 : er = 0
      · subst h0
        have HS : Hid (Src Try.prog w2 1 79 (.slice oa lb c) lb (byteCells b)) := Lib.hid (by
          have := Src.of_read Try.underlying79 HB2.out (byteCells_one _)
          rw [← HLB.out] at this
          exact this)
        go_wp2_with (at_builtin; refine wpList_append_at _ rfl (.tmp 47) (.tmp 48) 79 79 rfl 5 (.int .u8 0) 1 1 Try.underlying79 info_u8 rfl _ n _ rfl HROW.out _ lb _ rfl (HS.out) (by unfold maxLen; omega) (by omega) ?_; intro v' w3 hr hg hown _; obtain ⟨oa', c', rfl, _⟩ := hr.shape; have hc3 : w3.cell? ⟨x.blk, 0, none⟩ = some (.slice oaf n cf) := (by rw [← hk0]; exact cell_kept_at (HG.out w3 hg)); have hz3 : w3.frozen? ⟨x.blk, 0, none⟩ = false := (by rw [← hz0]; exact frozen_kept_at (HG.out w3 hg)); have HR := Lib.hid hr; have HGG := Lib.hid hg; have HOWN := Lib.hid hown; clear hr hg hown)
        go_ret
        have hrr := HR.out
        rw [byteCells_append] at hrr
        have hl : (x.f.bytes ++ b).length = n + lb := by rw [List.length_append, HBV.out.2, ← HLB.out]
        have := set_bytes (v' := .slice oa' (n + lb) c') (s := nm.data.toList) (t := fun f => { f with bytes := f.bytes ++ b }) HO2.out H2.out (by rw [HBV.out.1, HBV.out.2]; exact HGG.out) (by rw [hl]; exact hrr) (by rw [HBV.out.1, HBV.out.2]; exact HOWN.out) rfl (by rw [hl]; omega) hxn rfl 0
        simpa [Dk.append, HN.out.1, HN.out.2, HE.out.2, ← HLB.out, HBV.out.2, hfull] using this
      · have hb0 : (er != 0) = true := by simpa using h0
        go_upto_region 8 with fail
        go_cut [2] from 35 to 42 (fun s2 wx => ∃ k : Nat, s2 = .slice oa k c ∧ k = min lb d.fate.2 ∧ wx = w2)
        case first =>
          have HK := Lib.hid HE.out.1
          have hrb : readAt w' 1 (.slice oa lb c) lb (byteCells b) := by
            have h4 : readAt w' 1 (.slice oa lb c) b.length (byteCells b) := HBW.out.1
            rwa [← HLB.out] at h4
          obtain ⟨hm0, hlc⟩ := hrb.map0
          clear hrb
          go_wp2_with fail
          all_goals go_meet
          all_goals (refine ⟨_, rfl, ?_, rfl⟩; have := HK.out; omega)
        case rest =>
          obtain ⟨k, rfl, hkk, rfl⟩ := hcut
          have hkl : k ≤ lb := by omega
          have HKK := Lib.hid hkk
          clear hkk
          have HS : Hid (Src Try.prog wc 1 79 (.slice oa k c) k (byteCells (b.take k))) := Lib.hid (by
            have h4 := HB2.out.take k (by rw [← HLB.out]; exact hkl)
            have := Src.of_read Try.underlying79 h4 (byteCells_one _)
            rwa [show (b.take k).length = k by rw [List.length_take, ← HLB.out]; omega] at this)
          go_wp2_with (at_builtin; refine wpList_append_at _ rfl (.tmp 47) (.tmp 48) 79 79 rfl 5 (.int .u8 0) 1 1 Try.underlying79 info_u8 rfl _ n _ rfl HROW.out _ k _ rfl (HS.out) (by unfold maxLen; omega) (by omega) ?_; intro v' w3 hr hg hown _; obtain ⟨oa', c', rfl, _⟩ := hr.shape; have hc3 : w3.cell? ⟨x.blk, 0, none⟩ = some (.slice oaf n cf) := (by rw [← hk0]; exact cell_kept_at (HG.out w3 hg)); have hz3 : w3.frozen? ⟨x.blk, 0, none⟩ = false := (by rw [← hz0]; exact frozen_kept_at (HG.out w3 hg)); have HR := Lib.hid hr; have HGG := Lib.hid hg; have HOWN := Lib.hid hown; clear hr hg hown)
          go_ret
          have hrr := HR.out
          rw [byteCells_append] at hrr
          have hl : (x.f.bytes ++ b.take k).length = n + k := by rw [List.length_append, HBV.out.2, List.length_take, ← HLB.out]; omega
          have := set_bytes (v' := .slice oa' (n + k) c') (s := nm.data.toList) (t := fun f => { f with bytes := f.bytes ++ b.take k }) HO2.out H2.out (by rw [HBV.out.1, HBV.out.2]; exact HGG.out) (by rw [hl]; exact hrr) (by rw [HBV.out.1, HBV.out.2]; exact HOWN.out) rfl (by rw [hl]; omega) hxn rfl er
          have e : b.take k = b.take d.fate.2 := by
            rw [HKK.out, HLB.out]
            rcases Nat.le_total b.length d.fate.2 with h5 | h5
            · rw [Nat.min_eq_left h5, List.take_of_length_le (Nat.le_refl _), List.take_of_length_le h5]
            · rw [Nat.min_eq_right h5]
          simpa [Dk.append, HN.out.1, HN.out.2, HE.out.2, ← HLB.out, HBV.out.2, hfull, h0, e] using this
end Go.Proofs.Ytmkjejngnahpeaa
/- Disk: Create. -/
namespace Go.Proofs.Ytmkjejngnahpeaa
open Go Go.Maps Go.RowKit

theorem OpIs.next {w w2 : World} {S : Nat → Prop} {q mb : Nat} {fv' : Value} {L : List Fl} {d1 : Dk} (ho : Only (fun k => k = q) w w2) (h2 : DiskIs w2 S q mb fv' L d1) (n : Int) : OpIs w S q (n, d1) (.returned (.int .i64 n)) w2 :=
  ⟨rfl, ⟨mb, fv', L, h2.wider (fun k hk => .inl hk) (fun k hk => by
    rcases hk with hk | hk
    · exact h2.low k hk
    · exact hk.2)⟩, ho.mono (fun i _ hi => by rw [hi]; exact h2.q_mem)⟩
def newF (s : List UInt8) : F0 := ⟨s, [], 0, true, false⟩
set_option maxRecDepth 100000 in
/-- a new file is put into the map -/
theorem set_new {w w2 w3 w4 : World} {S : Nat → Prop} {q mb n' : Nat} {fv' : Value} {L : List Fl} {d d1 : Dk} {D : DataW Unit} {s : List UInt8} (ho : Only (fun k => k = q) w w2) (h2 : DiskIs w2 S q mb fv' L d1) (hd : Dic D (L.map fun x => (x.f.name, x.blk)))
    (hw3 : w3 = w2.alloc (.cells #[.slice none 0 0, .int .i64 0, .bool true, .bool false] 178)) (hg : w3.grownBy w4 (some mb))
    (hm : w4.ownsMap Try.prog 9 ptrElem mb n' (D.put (.string s) (.lit (.int .i64 w2.heap.size)))) (hne : ∀ x ∈ L, x.f.name ≠ s) (hnm : nameOk s = true) (hfew : d1.files.length < 4096) (hf : d.files = d1.files) :
    OpIs w S q (0, { d1 with files := insF (newF s) d.files }) (.returned (.int .i64 0)) w4 := by
  obtain ⟨A, B, rfl, hi⟩ := insF_split (newF s) L
  have hi' : insF (newF s) d.files = A.map (·.f) ++ newF s :: B.map (·.f) := by rw [hf, ← h2.files]; exact hi
  have hmb : mb < w2.heap.size := h2.low _ (h2.foot _ (by simp [diskBlocks]))
  have hb3 : w3.heap[w2.heap.size]? = some (.cells #[.slice none 0 0, .int .i64 0, .bool true, .bool false] 178 (0, 0)) := by rw [hw3]; exact alloc_cells _ _ _
  have hs3 : w2.heap.size < w3.heap.size := by rw [hw3]; simp
  have ho4 : Only (fun k => k = mb) w2 w4 := by
    have h5 : Only (fun k => k = mb) w2 w3 := by rw [hw3]; exact only_alloc _ _ _
    exact h5.trans (Only.of_grown (S := fun k => k = mb) hg (fun k hk => by simp at hk; exact hk.symm)) (fun _ _ h => h)
  have hb4 : w4.heap[w2.heap.size]? = w3.heap[w2.heap.size]? := hg.block _ hs3 (by simp; omega)
  have h6 := h2.file_add (x' := ⟨newF s, w2.heap.size, .slice none 0 0⟩) (fs := insF (newF s) d.files) ho4
    ⟨hb4.trans hb3, ⟨by simp [byteCells, newF], .inl ⟨rfl, by simp [newF]⟩⟩, by simp [newF], by simp [newF]⟩ hm
    (hd.put s w2.heap.size (fun f => by
      simp only [List.map_append, List.map_cons, List.mem_append, List.mem_cons, newF]
      constructor
      · rintro (h | h | h) <;> simp [h]
      · rintro (h | h | h) <;> simp [h]) (fun f hf' => by
      obtain ⟨x, hx, rfl⟩ := List.mem_map.1 hf'
      exact hne x hx))
    (fun k hk => by
      simp only [Fl.blocks, Value.ownBlock, Option.toList_none, List.mem_singleton] at hk
      have := hg.size
      rw [hk]
      exact ⟨Nat.le_refl _, by omega⟩) (by simp [Fl.blocks, Value.ownBlock]) hi' (insF_sorted _ _ (by rw [hf]; exact h2.sorted) (fun g hg' => by
      have : g ∈ (A ++ B).map (·.f) := by rw [h2.files, ← hf]; exact hg'
      obtain ⟨x, hx, rfl⟩ := List.mem_map.1 this
      exact hne x hx)) hnm hfew
  refine ⟨rfl, ⟨mb, fv', _, h6.wider (fun k hk => ?_) (fun k hk => ?_)⟩, ?_⟩
  · rcases hk with hk | hk
    · exact .inl hk
    · exact .inr ⟨Nat.le_trans ho.size hk.1, hk.2⟩
  · rcases hk with hk | hk
    · exact Nat.lt_of_lt_of_le (h2.low k hk) ho4.size
    · exact hk.2
  · exact (ho.mono (fun i _ hi => by rw [hi]; exact h2.q_mem)).trans ho4 (fun i _ hi => by rw [hi]; exact h2.foot _ (by simp [diskBlocks]))
set_option maxRecDepth 100000 in
set_option maxHeartbeats 1000000 in
theorem create_b {w : World} {S : Nat → Prop} {q : Nat} {d : Dk} (h : DiskAt w S q d) (nm : ByteArray) (hs : nm.size ≤ maxLen) :
    Calls Try.prog 45 #[.pointer (some ⟨q, 0, none⟩), .string nm] w fun e w' => OpIs w S q (d.create nm.data.toList) e w' := by
  obtain ⟨mb, fv, L, h⟩ := h
  have c0 : w.cell? ⟨q, 0, none⟩ = some (.map (some mb)) := cell_of h.head rfl
  go_enter Try.func45, Try.ntmps45
  go_wp2_with fail
  refine (asked_b h nm hs).mono ?_
  rintro e w' ⟨rfl, rfl⟩
  cases hn : nameOk nm.data.toList with
  | false =>
    have HO : Hid (OpIs w' S q (d.create nm.data.toList) (.returned (.int .i64 2)) w') := Lib.hid (by
      rw [show d.create nm.data.toList = (2, d) by simp [Dk.create, hn]]
      exact OpIs.same h 2)
    rw [show askE nm.data.toList = 2 by simp [askE, hn]]
    clear h hn
    go_wp2_with fail
    go_ret
    exact HO.out
  | true =>
    rw [show askE nm.data.toList = 0 by simp [askE, hn]]
    cases ha : d.at nm.data.toList with
    | some f =>
      obtain ⟨A, x, B, hL, rfl, hxn⟩ := h.at_some ha
      have hl := h.lookup_some (x := x) (by rw [hL]; simp) hs hxn
      have HO : Hid (OpIs w' S q (d.create nm.data.toList) (.returned (.int .i64 170)) w') := Lib.hid (by
        rw [show d.create nm.data.toList = (170, d) by simp [Dk.create, hn, ha]]
        exact OpIs.same h 170)
      clear h hn ha hL hxn
      go_wp2_with fail
      go_ret
      exact HO.out
    | none =>
      have hne := h.at_none ha
      have hl := h.lookup_none hs hne
      obtain ⟨D, hown, hsz, hd⟩ := h.look
      have hlen : (Builtin.len_ #[120] 3 #[.map (some mb)]).run Try.prog w' = .ok (.int .i64 (L.length : Int)) w' := by
        have := hown.len (t := 120) Try.underlying120 3
        rw [hsz] at this
        exact this
      have hfl : d.files.length = L.length := by rw [← h.files, List.length_map]
      obtain ⟨n, hln⟩ : ∃ n, L.length = n := ⟨_, rfl⟩
      rw [hln] at hlen hfl
      have HC : Hid (nameOk nm.data.toList = true ∧ d.at nm.data.toList = none ∧ d.files.length = n) := Lib.hid ⟨hn, ha, hfl⟩
      have HNE := Lib.hid hne
      have H := Lib.hid h
      have HD := Lib.hid hd
      clear h hn ha hne hfl hd hsz hown
      by_cases hf : 4096 ≤ n
      · have hb : decide ((4096 : Int) ≤ (n : Int)) = true := by simp; omega
        have HO : Hid (OpIs w' S q (d.create nm.data.toList) (.returned (.int .i64 6)) w') := Lib.hid (by
          rw [show d.create nm.data.toList = (6, d) by simp [Dk.create, HC.out.1, HC.out.2.1, HC.out.2.2, hf]]
          exact OpIs.same H.out 6)
        go_wp2_with fail
        go_ret
        exact HO.out
      · have hb : decide ((4096 : Int) ≤ (n : Int)) = false := by simp; omega
        go_wp2_with fail
        refine (step_b H.out).mono ?_
        rintro e w1 ⟨kd, kp, fv', rfl, hkp, h1, ho1⟩
        obtain ⟨er, her⟩ : ∃ er, d.fate.1 = er := ⟨_, rfl⟩
        rw [her]
        have H1 := Lib.hid h1
        have HO1 := Lib.hid ho1
        have HE := Lib.hid her
        clear h1 ho1 hkp her hl hlen hb H HD c0
        go_upto_region 10 with fail
        obtain ⟨w2, hw2⟩ : ∃ w2 : World, w2 = w1.alloc (.cells #[.int .i64 kd, .int .i64 kp] 99) := ⟨_, rfl⟩
        obtain ⟨r, hr⟩ : ∃ r, r = w1.heap.size := ⟨_, rfl⟩
        have h2 : DiskIs w2 S q mb fv' L d.next := by rw [hw2]; exact H1.out.below ((Below.refl _ _).alloc (Nat.le_refl _) _)
        have ho2 : Only (fun k => k = q) w' w2 := by rw [hw2]; exact HO1.out.trans (only_alloc (fun k => k = q) _ _) (fun _ _ h => h)
        rw [← hw2, ← hr]
        clear hw2 hr H1 HO1
        have c0 : w2.cell? ⟨q, 0, none⟩ = some (.map (some mb)) := cell_of h2.head rfl
        have H2 := Lib.hid h2
        have HO2 := Lib.hid ho2
        clear h2 ho2
        by_cases h0 : er = 0
        · subst h0
          obtain ⟨D2, hown, hsz, hd⟩ := H2.out.look
          obtain ⟨w3, hw3⟩ : ∃ w3 : World, w3 = w2.alloc (.cells #[.slice none 0 0, .int .i64 0, .bool true, .bool false] 178) := ⟨_, rfl⟩
          have HOWN : Hid (w3.ownsMap Try.prog 9 ptrElem mb n D2) := Lib.hid (by rw [hw3, ← hln]; exact hown.alloc _)
          have HW3 := Lib.hid hw3
          have HD2 := Lib.hid hd
          clear hown hsz hd
          have hkey : keyOf Try.prog 9 (.string nm) = some (.string nm.data.toList) := WideMaps.keyOf_string_mk (P := Try.prog) Try.underlying9 hs
          have HKEY := Lib.hid hkey
          clear hkey
          go_wp2_with (at_mapUpdate; rw [← hw3]; refine wpList_mapUpdate_own _ rfl _ _ _ 120 rfl 9 176 (string_keyed Try.underlying9) Try.underlying120 ptrElem mb n D2 rfl HOWN.out (by unfold maxLen; omega) _ _ _ rfl rfl HKEY.out _ [] (ptrElem_mk _) ?_; intro w4 hown4 hg4; have HOWN4 := Lib.hid hown4; have HG4 := Lib.hid hg4; clear hown4 hg4)
          go_ret
          have := set_new HO2.out H2.out HD2.out HW3.out HG4.out HOWN4.out HNE.out HC.out.1 (by show d.files.length < 4096; rw [HC.out.2.2]; omega) (d := d) rfl
          simpa [Dk.create, HC.out.1, HC.out.2.1, HC.out.2.2, hf, HE.out, newF] using this
        · have hb0 : (er != 0) = true := by simpa using h0
          have HO : Hid (OpIs w' S q (d.create nm.data.toList) (.returned (.int .i64 er)) w2) := Lib.hid (by
            rw [show d.create nm.data.toList = (er, d.next) by simp [Dk.create, HC.out.1, HC.out.2.1, HC.out.2.2, hf, HE.out, h0]]
            exact OpIs.next HO2.out H2.out er)
          clear h0
          go_wp2_with fail
          go_ret
          exact HO.out
end Go.Proofs.Ytmkjejngnahpeaa
