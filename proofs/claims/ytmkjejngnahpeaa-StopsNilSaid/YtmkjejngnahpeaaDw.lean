/- Disk: Append. -/
import Derived.Test.YtmkjejngnahpeaaDv
import Derived.Deep.CutRange
namespace Go.Proofs.Ytmkjejngnahpeaa
open Go Go.Maps Go.RowKit

theorem info_u8 : (Try.prog.info? 5).map (fun i => (i.zero, i.size, i.bytes)) = some (some (.int .u8 0), 1, 1) := by kernel_rfl
/-- v holds the bytes l -/
abbrev bytesAt (w : World) (v : Value) (l : List UInt8) : Prop := rowAt w 5 1 v l.length (byteCells l)
theorem rowAt.take {w : World} {e : TypeId} {size : Nat} {oa : Option Addr} {n cap : Nat} {xs : List Value} (h : rowAt w e size (.slice oa n cap) n xs) (k : Nat) (hk : k ≤ n) : rowAt w e size (.slice oa k cap) k (xs.take (k * size)) := by
  refine ⟨by rw [List.length_take, h.1]; exact Nat.min_eq_left (Nat.mul_le_mul_right _ hk), ?_⟩
  rcases h.2 with ⟨hv, h0⟩ | ⟨g, off, c, cur, fr, hv, hg, hnc, hcm, hcs, hfr, ht⟩
  · simp only [Value.slice.injEq] at hv
    obtain ⟨rfl, -, rfl⟩ := hv
    obtain rfl : k = 0 := by omega
    exact .inl ⟨rfl, rfl⟩
  · simp only [Value.slice.injEq] at hv
    obtain ⟨rfl, -, rfl⟩ := hv
    refine .inr ⟨g, off, cap, cur, fr, rfl, hg, by omega, hcm, hcs, hfr, ?_⟩
    rw [← ht, List.take_take, Nat.min_eq_left (Nat.mul_le_mul_right _ hk)]
theorem rowAt.map0 {w : World} {e : TypeId} {size : Nat} {oa : Option Addr} {n cap : Nat} {xs : List Value} (h : rowAt w e size (.slice oa n cap) n xs) : oa.map (fun x => x.add 0) = oa ∧ n ≤ cap := by
  rcases h.2 with ⟨hv, h0⟩ | ⟨g, off, c, cur, fr, hv, _, hn, _⟩
  · simp only [Value.slice.injEq] at hv
    rw [hv.1]
    exact ⟨rfl, by omega⟩
  · simp only [Value.slice.injEq] at hv
    rw [hv.1, hv.2.2]
    exact ⟨by simp [Go.WideShapes.add_plain], hn⟩
theorem Src.of_row {P : Program} {w : World} {size : Nat} {u e e2 : TypeId} (hu : P.underlying u = some (.slice e)) {v : Value} {n : Nat} {xs : List Value} (h : rowAt w e2 size v n xs) (h1 : ∀ v ∈ xs, v.oneCell' = true) : Src P w size u v n xs := by
  obtain ⟨oa, cap, rfl, _⟩ := h.shape
  cases oa with
  | none =>
    rcases h.2 with ⟨hv, h0⟩ | ⟨g, off, c, cur, fr, hv, _⟩
    · subst h0
      have hx : xs = [] := List.eq_nil_of_length_eq_zero (by simpa using h.1)
      subst hx
      exact Src.none hu _
    · simp at hv
  | some ad =>
    rcases h.2 with ⟨hv, h0⟩ | ⟨g, off, c, cur, fr, hv, _⟩
    · simp at hv
    · simp only [Value.slice.injEq, Option.some.injEq] at hv
      obtain ⟨rfl, -, -⟩ := hv
      exact Src.slice hu _ n cap xs h.1 (fun j u hj => h.cells rfl j u hj) h1
/-- v holds the bytes l, to be read -/
abbrev bytesRd (w : World) (v : Value) (l : List UInt8) : Prop := readAt w 1 v l.length (byteCells l)
theorem byteCells_take (l : List UInt8) (k : Nat) : (byteCells l).take k = byteCells (l.take k) := by simp [byteCells, List.map_take]
theorem byteCells_append (a b : List UInt8) : byteCells a ++ byteCells b = byteCells (a ++ b) := by simp [byteCells]
theorem bytesAt.take {w : World} {oa : Option Addr} {c : Nat} {l : List UInt8} (h : bytesAt w (.slice oa l.length c) l) (k : Nat) (hk : k ≤ l.length) : bytesAt w (.slice oa k c) (l.take k) := by
  have := rowAt.take h k hk
  rw [Nat.mul_one, byteCells_take] at this
  have e : (l.take k).length = k := by rw [List.length_take]; omega
  show rowAt w _ 1 _ (l.take k).length _
  rw [e]
  exact this
theorem bytesRd.take {w : World} {oa : Option Addr} {c : Nat} {l : List UInt8} (h : bytesRd w (.slice oa l.length c) l) (k : Nat) (hk : k ≤ l.length) : bytesRd w (.slice oa k c) (l.take k) := by
  have := readAt.take h k hk
  rw [Nat.mul_one, byteCells_take] at this
  have e : (l.take k).length = k := by rw [List.length_take]; omega
  show readAt w 1 _ (l.take k).length _
  rw [e]
  exact this
/-- bytes are appended to a file -/
theorem set_bytes {w w2 w3 : World} {S : Nat → Prop} {q mb : Nat} {fv' v' : Value} {A B : List Fl} {x : Fl} {d1 : Dk} {l b : List UInt8} (ho : Only (fun k => k = q) w w2) (h2 : DiskIs w2 S q mb fv' (A ++ x :: B) d1)
    (hg : w2.grownBy w3 x.bv.ownBlock) (hr : rowAt w3 5 1 v' l.length (byteCells l)) (hown : v'.ownBlock = x.bv.ownBlock ∨ v'.ownBlock = some w2.heap.size) (hl : x.f.bytes ++ b = l) (hsz : l.length ≤ 16777216)
    {s : List UInt8} {t : F0 → F0} (hs : x.f.name = s) (ht : t x.f = { x.f with bytes := l }) (n : Int) :
    OpIs w S q (n, d1.turn s t) (.returned (.int .i64 n)) (w3.setCell ⟨x.blk, 0, none⟩ v') := by
  have hx := h2.each x (by simp)
  have hne := FlAt.own_ne h2
  have hblk : x.blk < w2.heap.size := h2.low _ (h2.x_mem _ (by simp [Fl.blocks]))
  have hc3 : w3.heap[x.blk]? = w2.heap[x.blk]? := hg.block _ hblk (fun e => hne x.blk e.symm rfl)
  have h3 : Only (fun k => k ∈ x.blocks) w2 w3 := Only.of_grown hg (fun k hk => by simp [Fl.blocks, hk])
  have hset : Only (fun k => k = x.blk) w3 (w3.setCell ⟨x.blk, 0, none⟩ v') := only_setCell (fun k => k = x.blk) w3 x.blk 0 _ rfl
  have hvne : ∀ k, v'.ownBlock = some k → k ≠ x.blk := fun k hk => by
    rcases hown with h | h
    · exact hne k (by rw [← h]; exact hk)
    · rw [h] at hk
      simp only [Option.some.injEq] at hk
      omega
  refine file_done (x' := ⟨{ x.f with bytes := l }, x.blk, v'⟩) ho h2 (h3.trans hset (fun i _ hi => by rw [hi]; simp [Fl.blocks])) rfl rfl ⟨?_, ?_, ?_, hsz⟩ (fun k hk => ?_) hs ht.symm n
  · exact heap_setCell_here (w := w3) _ (hc3.trans hx.cells)
  · exact hr.kept (fun k hk => hset.block k (hr.lt k hk) (hvne k hk))
  · have := hx.lasts
    rw [← hl]
    simp only [List.length_append]
    omega
  · rcases hown with h | h
    · exact .inl (by rw [← h]; exact hk)
    · have h4 := hr.lt k hk
      have hk2 : v'.ownBlock = some k := hk
      rw [h] at hk2
      simp only [Option.some.injEq] at hk2
      have h5 := hset.size
      exact .inr ⟨by omega, by omega⟩
theorem cell_kept_at {w w3 : World} {k i : Nat} (h : w3.heap[k]? = w.heap[k]?) : w3.cell? ⟨k, i, none⟩ = w.cell? ⟨k, i, none⟩ := by simp [World.cell?, h]
theorem frozen_kept_at {w w3 : World} {k i : Nat} (h : w3.heap[k]? = w.heap[k]?) : w3.frozen? ⟨k, i, none⟩ = w.frozen? ⟨k, i, none⟩ := by simp [World.frozen?, h]
set_option maxRecDepth 100000 in
set_option maxHeartbeats 1000000 in
theorem append_b {w : World} {S : Nat → Prop} {q : Nat} {d : Dk} (h : DiskAt w S q d) (nm : ByteArray) (hs : nm.size ≤ maxLen) (oa : Option Addr) (c : Nat) (b : List UInt8) (hb : bytesRd w (.slice oa b.length c) b) (hbS : ∀ k, (Value.slice oa b.length c).ownBlock = some k → 0 < b.length → ¬ S k) (hbl : b.length ≤ 1000000000) :
    Calls Try.prog 46 #[.pointer (some ⟨q, 0, none⟩), .string nm, .slice oa b.length c] w fun e w' => OpIs w S q (d.append nm.data.toList b) e w' := by
  obtain ⟨mb, fv, L, h⟩ := h
  obtain ⟨lb, hlb⟩ : ∃ lb, lb = b.length := ⟨_, rfl⟩
  rw [← hlb] at hb hbS hbl ⊢
  have HBW := Lib.hid (And.intro hb hbS)
  have HLB := Lib.hid hlb
  clear hb hbS hlb
  go_enter Try.func46, Try.ntmps46
  go_wp2_with fail
  refine (find_b h nm hs).mono ?_
  rintro e w' ⟨hF, rfl⟩
  rcases hF with ⟨hn, rfl⟩ | ⟨hn, hf, rfl⟩ | ⟨hn, A, x, B, rfl, hxn, hxt, hf, rfl⟩
  · have HO : Hid (OpIs w' S q (d.append nm.data.toList b) (.returned (.int .i64 2)) w') := Lib.hid (by
      rw [show d.append nm.data.toList b = (2, d) by simp [Dk.append, hn]]
      exact OpIs.same h 2)
    clear h hn
    go_wp2_with fail
    go_ret
    exact HO.out
  · have HO : Hid (OpIs w' S q (d.append nm.data.toList b) (.returned (.int .i64 171)) w') := Lib.hid (by
      rw [show d.append nm.data.toList b = (171, d) by simp [Dk.append, hn, hf]]
      exact OpIs.same h 171)
    clear h hn hf
    go_wp2_with fail
    go_ret
    exact HO.out
  · have hx0 := h.each x (by simp)
    obtain ⟨oaf, cf, hbv, hnc⟩ := hx0.row.shape
    obtain ⟨n, hnn⟩ : ∃ n, x.f.bytes.length = n := ⟨_, rfl⟩
    have hsz : n ≤ 16777216 := by rw [← hnn]; exact hx0.size
    have hxc := hx0.cells
    rw [hbv, hnn] at hxc
    have k0 : w'.cell? ⟨x.blk, 0, none⟩ = some (.slice oaf n cf) := cell_of hxc rfl
    have HBV := Lib.hid (And.intro hbv hnn)
    have H := Lib.hid h
    have HN := Lib.hid (And.intro hn hf)
    clear h hn hf hxc hx0 hbv hnn hnc
    by_cases hfull : 16777216 < lb + n
    · have HO : Hid (OpIs w' S q (d.append nm.data.toList b) (.returned (.int .i64 6)) w') := Lib.hid (by
        rw [show d.append nm.data.toList b = (6, d) by simp [Dk.append, HN.out.1, HN.out.2]; rw [← HLB.out, HBV.out.2]; intro h; omega]
        exact OpIs.same H.out 6)
      have hd : decide ((16777216 : Int) - (n : Int) < (lb : Int)) = true := by simp; omega
      go_wp2_with fail
      go_ret
      exact HO.out
    · have hd : decide ((16777216 : Int) - (n : Int) < (lb : Int)) = false := by simp; omega
      go_wp2_with fail
      refine (step_b H.out).mono ?_
      rintro e w1 ⟨kd, kp, fv', rfl, hkp, h1, ho1⟩
      obtain ⟨er, her⟩ : ∃ er, d.fate.1 = er := ⟨_, rfl⟩
      rw [her]
      have H1 := Lib.hid h1
      have HO1 := Lib.hid ho1
      have HE := Lib.hid (And.intro hkp her)
      clear h1 ho1 hkp her k0 hd
      go_upto_region 7 with fail
      obtain ⟨w2, hw2⟩ : ∃ w2 : World, w2 = w1.alloc (.cells #[.int .i64 kd, .int .i64 kp] 99) := ⟨_, rfl⟩
      obtain ⟨r, hr⟩ : ∃ r, r = w1.heap.size := ⟨_, rfl⟩
      have hr2 : w2.heap[r]? = some (.cells #[.int .i64 kd, .int .i64 kp] 99 (0, 0)) := by rw [hw2, hr]; exact alloc_cells _ _ _
      have h2 : DiskIs w2 S q mb fv' (A ++ x :: B) d.next := by rw [hw2]; exact H1.out.below ((Below.refl _ _).alloc (Nat.le_refl _) _)
      have ho2 : Only (fun k => k = q) w' w2 := by rw [hw2]; exact HO1.out.trans (only_alloc (fun k => k = q) _ _) (fun _ _ h => h)
      rw [← hw2, ← hr]
      clear hw2 hr H1 HO1
      have hx := h2.each x (by simp)
      have hxc := hx.cells
      have hxr := hx.row
      rw [HBV.out.1, HBV.out.2] at hxc hxr
      have hk0 : w2.cell? ⟨x.blk, 0, none⟩ = some (.slice oaf n cf) := cell_of hxc rfl
      have hz0 : w2.frozen? ⟨x.blk, 0, none⟩ = false := free_of hxc _
      have y1 : w2.cell? ⟨r, 1, none⟩ = some (.int .i64 kp) := cell_of hr2 rfl
      have HG : Hid (∀ w3 : World, w2.grownBy w3 (Value.slice oaf n cf).ownBlock → w3.heap[x.blk]? = w2.heap[x.blk]?) := Lib.hid fun w3 hg => hg.block _ (h2.low _ (h2.x_mem _ (by simp [Fl.blocks]))) (fun e => FlAt.own_ne h2 x.blk (by rw [HBV.out.1, HBV.out.2]; exact e.symm) rfl)
      have HROW : Hid (rowAt w2 5 1 (.slice oaf n cf) n (byteCells x.f.bytes)) := Lib.hid hxr
      have hb2 : bytesRd w2 (.slice oa b.length c) b := by
        rw [← HLB.out]
        show readAt w2 1 _ b.length _
        rw [← HLB.out]
        have h3 := HBW.out.1
        have h4 : readAt w' 1 (.slice oa lb c) b.length (byteCells b) := h3
        rw [← HLB.out] at h4
        exact h4.kept (fun k hl hk h0 => ho2.block k hl (fun e => HBW.out.2 k hk h0 (by rw [e]; exact h2.q_mem)))
      have H2 := Lib.hid h2
      have HO2 := Lib.hid ho2
      have HB2 := Lib.hid hb2
      clear h2 ho2 hb2 hx hxc hxr hr2 H
      by_cases h0 : er = 0
      · subst h0
        have HS : Hid (Src Try.prog w2 1 79 (.slice oa lb c) lb (byteCells b)) := Lib.hid (by
          have := Src.of_read Try.underlying79 HB2.out (byteCells_one _)
          rw [← HLB.out] at this
          exact this)
        go_wp2_with (at_builtin; refine wpList_append_at _ rfl (.tmp 47) (.tmp 48) 79 79 rfl 5 (.int .u8 0) 1 1 Try.underlying79 info_u8 rfl _ n _ rfl HROW.out _ lb _ rfl (HS.out) (by unfold maxLen; omega) (by omega) ?_; intro v' w3 hr hg hown _; obtain ⟨oa', c', rfl, _⟩ := hr.shape; have hc3 : w3.cell? ⟨x.blk, 0, none⟩ = some (.slice oaf n cf) := (by rw [← hk0]; exact cell_kept_at (HG.out w3 hg)); have hz3 : w3.frozen? ⟨x.blk, 0, none⟩ = false := (by rw [← hz0]; exact frozen_kept_at (HG.out w3 hg)); have HR := Lib.hid hr; have HGG := Lib.hid hg; have HOWN := Lib.hid hown; clear hr hg hown)
        go_ret
        have hrr := HR.out
        rw [byteCells_append] at hrr
        have hl : (x.f.bytes ++ b).length = n + lb := by rw [List.length_append, HBV.out.2, ← HLB.out]
        have := set_bytes (v' := .slice oa' (n + lb) c') (s := nm.data.toList) (t := fun f => { f with bytes := f.bytes ++ b }) HO2.out H2.out (by rw [HBV.out.1, HBV.out.2]; exact HGG.out) (by rw [hl]; exact hrr) (by rw [HBV.out.1, HBV.out.2]; exact HOWN.out) rfl (by rw [hl]; omega) hxn rfl 0
        simpa [Dk.append, HN.out.1, HN.out.2, HE.out.2, ← HLB.out, HBV.out.2, hfull] using this
      · have hb0 : (er != 0) = true := by simpa using h0
        go_upto_region 8 with fail
        go_cut [2] from 35 to 42 (fun s2 wx => ∃ k : Nat, s2 = .slice oa k c ∧ k = min lb d.fate.2 ∧ wx = w2)
        case first =>
          have HK := Lib.hid HE.out.1
          have hrb : readAt w' 1 (.slice oa lb c) lb (byteCells b) := by
            have h4 : readAt w' 1 (.slice oa lb c) b.length (byteCells b) := HBW.out.1
            rwa [← HLB.out] at h4
          obtain ⟨hm0, hlc⟩ := hrb.map0
          clear hrb
          go_wp2_with fail
          all_goals go_meet
          all_goals (refine ⟨_, rfl, ?_, rfl⟩; have := HK.out; omega)
        case rest =>
          obtain ⟨k, rfl, hkk, rfl⟩ := hcut
          have hkl : k ≤ lb := by omega
          have HKK := Lib.hid hkk
          clear hkk
          have HS : Hid (Src Try.prog wc 1 79 (.slice oa k c) k (byteCells (b.take k))) := Lib.hid (by
            have h4 := HB2.out.take k (by rw [← HLB.out]; exact hkl)
            have := Src.of_read Try.underlying79 h4 (byteCells_one _)
            rwa [show (b.take k).length = k by rw [List.length_take, ← HLB.out]; omega] at this)
          go_wp2_with (at_builtin; refine wpList_append_at _ rfl (.tmp 47) (.tmp 48) 79 79 rfl 5 (.int .u8 0) 1 1 Try.underlying79 info_u8 rfl _ n _ rfl HROW.out _ k _ rfl (HS.out) (by unfold maxLen; omega) (by omega) ?_; intro v' w3 hr hg hown _; obtain ⟨oa', c', rfl, _⟩ := hr.shape; have hc3 : w3.cell? ⟨x.blk, 0, none⟩ = some (.slice oaf n cf) := (by rw [← hk0]; exact cell_kept_at (HG.out w3 hg)); have hz3 : w3.frozen? ⟨x.blk, 0, none⟩ = false := (by rw [← hz0]; exact frozen_kept_at (HG.out w3 hg)); have HR := Lib.hid hr; have HGG := Lib.hid hg; have HOWN := Lib.hid hown; clear hr hg hown)
          go_ret
          have hrr := HR.out
          rw [byteCells_append] at hrr
          have hl : (x.f.bytes ++ b.take k).length = n + k := by rw [List.length_append, HBV.out.2, List.length_take, ← HLB.out]; omega
          have := set_bytes (v' := .slice oa' (n + k) c') (s := nm.data.toList) (t := fun f => { f with bytes := f.bytes ++ b.take k }) HO2.out H2.out (by rw [HBV.out.1, HBV.out.2]; exact HGG.out) (by rw [hl]; exact hrr) (by rw [HBV.out.1, HBV.out.2]; exact HOWN.out) rfl (by rw [hl]; omega) hxn rfl er
          have e : b.take k = b.take d.fate.2 := by
            rw [HKK.out, HLB.out]
            rcases Nat.le_total b.length d.fate.2 with h5 | h5
            · rw [Nat.min_eq_left h5, List.take_of_length_le (Nat.le_refl _), List.take_of_length_le h5]
            · rw [Nat.min_eq_right h5]
          simpa [Dk.append, HN.out.1, HN.out.2, HE.out.2, ← HLB.out, HBV.out.2, hfull, h0, e] using this
end Go.Proofs.Ytmkjejngnahpeaa
