/- The texts Ff, Fg, Fh, Fi, Pv, Str, Px, Py, SegG0, Pt in one. -/
import Derived.Test.YtlgcoaeddeiegaaGreatV16
import Derived.Test.YtlgcoaeddeiegaaGreatV11
import Derived.Test.YtlgcoaeddeiegaaGreatV17
import Derived.Test.YtlgcoaeddeiegaaGreatV7
import Derived.Test.YtlgcoaeddeiegaaGreatV3
import Derived.RangeFuncCalls
import Derived.RangeFuncLeaves
import Derived.RangeFuncFrom
import Derived.Shelf.Abstract
import Derived.Shelf.RegionOpen
import Derived.OwnWalkIn
import Derived.TacticsInMore
import Derived.LoopNIn
import Derived.LoopIn
import Derived.Test.YtlgcoaeddeiegaaGreatV12
import Derived.Test.YtlgcoaeddeiegaaGreatV8
import Derived.Test.YtlgcoaeddeiegaaGreatV10
/- Disk: rows that are written; the names of files that are there: looked through. -/
namespace Go.Proofs.YtlgcoaeddeiegaaGreat
open Go Go.Maps Go.RowKit
open Go.Proofs (encStr)

section
variable {w : World} {e : TypeId} {n cap g off : Nat} {xs : List Value}
theorem rowAt.parts (h : rowAt w e 1 (.slice (some ⟨g, off, none⟩) n cap) n xs) : ∃ cur fr, w.heap[g]? = some (.cells cur e fr) ∧ n ≤ cap ∧ cap ≤ maxLen ∧ off + cap ≤ cur.size ∧ freeRow fr cur.size ∧ (cur.toList.drop off).take n = xs := by
  rcases h.2 with ⟨hv, _⟩ | ⟨g', o', c', cur, fr, hv, hg, hn, hm, hs, hf, ht⟩
  · cases hv
  · simp only [Value.slice.injEq, Option.some.injEq, Addr.mk.injEq] at hv
    obtain ⟨⟨rfl, rfl, -⟩, -, rfl⟩ := hv
    exact ⟨cur, fr, hg, hn, hm, by simpa using hs, hf, by simpa using ht⟩
theorem rowAt.mk' {cur : Array Value} {fr : Nat × Nat} (hg : w.heap[g]? = some (.cells cur e fr)) (hn : n ≤ cap) (hm : cap ≤ maxLen) (hs : off + cap ≤ cur.size) (hf : freeRow fr cur.size) (ht : (cur.toList.drop off).take n = xs) : rowAt w e 1 (.slice (some ⟨g, off, none⟩) n cap) n xs := by
  refine ⟨?_, .inr ⟨g, off, cap, cur, fr, rfl, hg, hn, hm, by simpa using hs, hf, by simpa using ht⟩⟩
  rw [← ht, List.length_take, List.length_drop, Array.length_toList]
  omega
theorem rowAt.free (h : rowAt w e 1 (.slice (some ⟨g, off, none⟩) n cap) n xs) {i : Nat} (hi : i < n) : w.frozen? ⟨g, off + i, none⟩ = false := by
  obtain ⟨cur, fr, hg, hn, _, hs, hf, _⟩ := h.parts
  simp only [World.frozen?, hg]
  exact hf _ (by omega)
theorem rowAt.cell1 (h : rowAt w e 1 (.slice (some ⟨g, off, none⟩) n cap) n xs) {i : Nat} {u : Value} (hu : xs[i]? = some u) : w.cell? ⟨g, off + i, none⟩ = some u := by
  have := h.cells (g := g) (off := off) rfl i u hu
  simpa [Go.WideShapes.add_plain] using this
theorem rowAt.set (h : rowAt w e 1 (.slice (some ⟨g, off, none⟩) n cap) n xs) {i : Nat} (u : Value) : rowAt (w.setCell ⟨g, off + i, none⟩ u) e 1 (.slice (some ⟨g, off, none⟩) n cap) n (xs.set i u) := by
  obtain ⟨cur, fr, hg, hn, hm, hs, hf, ht⟩ := h.parts
  refine rowAt.mk' (heap_setCell_here u hg) hn hm (by simpa using hs) (by simpa using hf) ?_
  rw [Array.toList_setIfInBounds, ← ht, List.drop_set, if_neg (by omega), ← List.take_set]
  congr 2
  omega
theorem rowAt.short (h : rowAt w e 1 (.slice (some ⟨g, off, none⟩) n cap) n xs) {i : Nat} (hi : i ≤ n) : rowAt w e 1 (.slice (some ⟨g, off, none⟩) i cap) i (xs.take i) := by
  obtain ⟨cur, fr, hg, hn, hm, hs, hf, ht⟩ := h.parts
  refine rowAt.mk' hg (by omega) hm hs hf ?_
  rw [← ht, List.take_take]
  congr 1
  omega
end
theorem zeroString (W : World) : (zeroValue 9).run Tryz.prog W = .ok (.string ⟨#[]⟩) W := by kernel_rfl
/-- the row's end is cleared -/
theorem run_clear_at {w : World} {n cap g off : Nat} {xs : List Value} (h : rowAt w 9 1 (.slice (some ⟨g, off, none⟩) n cap) n xs) {i : Nat} (hi : i ≤ n) :
    ∃ w', (Builtin.clear_ #[43] 0 #[.slice (if cap = i then some ⟨g, off, none⟩ else some ⟨g, off + i, none⟩) (n - i) (cap - i)]).run Tryz.prog w = .ok (.tuple #[]) w' ∧
      rowAt w' 9 1 (.slice (some ⟨g, off, none⟩) i cap) i (xs.take i) ∧ w.grownBy w' (some g) := by
  obtain ⟨cur, fr, hg, hn, hm, hs, hf, ht⟩ := h.parts
  by_cases hin : n = i
  · subst hin
    refine ⟨w, ?_, h.short (Nat.le_refl _), World.grownBy.refl _ _⟩
    rw [Nat.sub_self]
    split <;> simp [Builtin.clear_, run_underlying Tryz.underlying43]
  · have hne : ¬ cap = i := by omega
    rw [if_neg hne]
    obtain ⟨m, hmm⟩ : ∃ m, n - i = m + 1 := ⟨n - i - 1, by omega⟩
    rw [hmm]
    have hz := zeroString
    have hfit : off + i + (List.replicate (m + 1) (Value.string ⟨#[]⟩)).length ≤ cur.size := by rw [List.length_replicate]; omega
    have hst := run_storeCells_fr Tryz.prog g (off + i) 9 fr (List.replicate (m + 1) (Value.string ⟨#[]⟩)) 0 cur w hg hf (by simpa using hfit) (fun v hv => by rw [List.eq_of_mem_replicate hv]; rfl)
    simp only [Nat.add_zero] at hst
    obtain ⟨C, hC⟩ : ∃ C, C = (cur.toList.take (off + i) ++ List.replicate (m + 1) (Value.string ⟨#[]⟩) ++ cur.toList.drop (off + i + (List.replicate (m + 1) (Value.string ⟨#[]⟩)).length)).toArray := ⟨_, rfl⟩
    rw [← hC] at hst
    have hCs : C.size = cur.size := by
      rw [hC]
      simp only [List.size_toArray, List.length_append, List.length_take, List.length_drop, Array.length_toList]
      omega
    have hzc : (Builtin.zeroCells (Value.string ⟨#[]⟩).cells (m + 1)).toList = List.replicate (m + 1) (Value.string ⟨#[]⟩) := by
      show (Builtin.zeroCells #[Value.string ⟨#[]⟩] (m + 1)).toList = _
      simp only [Builtin.zeroCells]
      apply List.ext_getElem
      · simp
      · intro i h1 h2
        simp [Nat.mod_one]
    refine ⟨w.setRow g C, ?_, rowAt.mk' (setRow_heap w g cur C _ fr hg) (by omega) hm (by rw [hCs]; exact hs) (by rw [hCs]; exact hf) ?_, ⟨rfl, rfl, rfl, by simp, fun k _ hk => setRow_other w g k _ (fun e => hk (by simp [e]))⟩⟩
    · simp [Builtin.clear_, run_underlying Tryz.underlying43, hz, hzc, hst]
    · rw [hC, ← ht]
      simp only [List.append_assoc]
      rw [List.drop_append_of_le_length (by rw [List.length_take, Array.length_toList]; omega), List.take_append_of_le_length (by rw [List.length_drop, List.length_take, Array.length_toList]; omega), List.drop_take, List.take_take, List.take_take]
      congr 1
      omega
set_option maxHeartbeats 400000 in
theorem name1_b {w : World} {S : Nat → Prop} {q mb : Nat} {fv : Value} {L : List Fl} {d : Dk} (h : DiskIs w S q mb fv L d) {x : Fl} (hx : x ∈ L) {b : Nat} (hb : w.cell? ⟨b, 0, none⟩ = some (.pointer (some ⟨q, 0, none⟩))) :
    Calls Tryz.prog 181 #[encStr x.f.name, .pointer (some ⟨b, 0, none⟩)] w fun e w' => e = .returned (.bool (!x.f.there)) ∧ w' = w := by
  obtain ⟨nm, hnm⟩ : ∃ nm : ByteArray, nm = ⟨x.f.name.toArray⟩ := ⟨_, rfl⟩
  have hnmd : nm.data.toList = x.f.name := by rw [hnm]
  have hsz : nm.size ≤ maxLen := by
    have h3 := h.names x.f (by rw [← h.files]; exact List.mem_map_of_mem hx)
    simp only [nameOk, Bool.and_eq_true, decide_eq_true_eq] at h3
    have h4 : nm.size = x.f.name.length := by rw [← hnmd]; exact Array.length_toList.symm
    unfold maxLen
    omega
  have henc : encStr x.f.name = .string nm := by rw [hnm]
  rw [henc]
  have hlk := h.lookup1_some hx hsz hnmd.symm
  have c0 : w.cell? ⟨q, 0, none⟩ = some (.map (some mb)) := cell_of h.head rfl
  obtain ⟨th, hth⟩ : ∃ th, x.f.there = th := ⟨_, rfl⟩
  have c2 : w.cell? ⟨x.blk, 2, none⟩ = some (.bool th) := by rw [← hth]; exact cell_of (h.each x hx).cells rfl
  rw [hth]
  clear h hnm hnmd hsz henc hth
  go_enter Tryz.func181, Tryz.ntmps181
  go_wp2_with fail
  go_ret
  exact ⟨rfl, rfl⟩
end Go.Proofs.YtlgcoaeddeiegaaGreat
/- Disk: Names. -/
namespace Go.Proofs.YtlgcoaeddeiegaaGreat
open Go Go.Maps Go.RowKit
open Go.Proofs (encStr)

def encN (L : List Fl) : List Value := L.map fun x => encStr x.f.name
def AllThere (L : List Fl) : Prop := ∀ x ∈ L, x.f.there = true
theorem AllThere.snoc {L : List Fl} {k : Nat} (h : k < L.length) (ha : AllThere (L.take k)) (hc : L[k].f.there = true) : AllThere (L.take (k + 1)) := by
  intro x hx
  rw [List.take_succ_eq_append_getElem h, List.mem_append, List.mem_singleton] at hx
  rcases hx with hx | rfl
  · exact ha x hx
  · exact hc
set_option maxRecDepth 100000 in
set_option maxHeartbeats 400000 in
theorem indexGone_b {w : World} {S : Nat → Prop} {q mb : Nat} {fv : Value} {L : List Fl} {d : Dk} (h : DiskIs w S q mb fv L d) {b : Nat} (hb : w.cell? ⟨b, 0, none⟩ = some (.pointer (some ⟨q, 0, none⟩)))
    {oa : Option Addr} {n c : Nat} (hn : L.length = n) (hr : rowAt w 9 1 (.slice oa n c) n (encN L)) (hm : n ≤ 1000000000) :
    Calls Tryz.prog 208 #[.slice oa n c, .func (.func 181) #[] #[.pointer (some ⟨b, 0, none⟩)]] w fun e w' => ∃ i : Int, e = .returned (.int .i64 i) ∧ ((i = -1 ∧ AllThere L) ∨ ∃ k : Nat, ∃ h : k < L.length, i = (k : Int) ∧ AllThere (L.take k) ∧ L[k].f.there = false) ∧ w' = w := by
  have H := Lib.hid h
  have HR := Lib.hid hr
  have HB := Lib.hid hb
  clear h hr hb
  go_enter Tryz.func208, Tryz.ntmps208
  go_wp2_with fail
  go_loop [8] (fun i => ∃ k : Nat, k ≤ n ∧ i = .int .i64 k ∧ AllThere (L.take k)) (fun i => n - (intOf i).toNat)
  case atStart => exact ⟨0, Nat.zero_le _, rfl, fun x hx => by simp at hx⟩
  case round =>
    obtain ⟨k, hk, rfl, hge⟩ := hrel
    by_cases hlt : k < n
    · obtain ⟨g, off, rfl⟩ := HR.out.addr (by omega)
      have hkL : k < L.length := by omega
      obtain ⟨x, hx⟩ : ∃ x, L[k] = x := ⟨_, rfl⟩
      have hxm : x ∈ L := by rw [← hx]; exact List.getElem_mem _
      have hcx : w.cell? ⟨g, off + k, none⟩ = some (encStr x.f.name) := HR.out.cell1 (by simp [encN, hkL, hx])
      have HXM := Lib.hid hxm
      obtain ⟨th, hth⟩ : ∃ th, x.f.there = th := ⟨_, rfl⟩
      have HC : Hid (Calls Tryz.prog 181 #[encStr x.f.name, .pointer (some ⟨b, 0, none⟩)] w fun e w' => e = .returned (.bool (!th)) ∧ w' = w) := Lib.hid (by rw [← hth]; exact name1_b H.out hxm HB.out)
      obtain ⟨sv, hsv⟩ : ∃ sv : ByteArray, encStr x.f.name = .string sv := ⟨_, rfl⟩
      rw [hsv] at hcx HC
      cases th
      · have HX : Hid (∃ h : k < L.length, AllThere (L.take k) ∧ L[k].f.there = false) := Lib.hid ⟨hkL, hge, by rw [hx]; exact hth⟩
        clear hge hx hxm hth hsv
        go_wp2_with (go_at_call 181; refine HC.out.mono ?_; rintro e w' ⟨rfl, rfl⟩)
        go_ret
        exact ⟨_, rfl, .inr ⟨k, HX.out.1, rfl, HX.out.2⟩, rfl⟩
      · have HX : Hid (AllThere (L.take (k + 1))) := Lib.hid (AllThere.snoc hkL hge (by rw [hx]; exact hth))
        clear hge hx hxm hth hsv
        go_wp2_with (go_at_call 181; refine HC.out.mono ?_; rintro e w' ⟨rfl, rfl⟩)
        exact ⟨⟨k + 1, by omega, by simp, HX.out⟩, by simp [intOf]; omega⟩
    · obtain rfl : k = n := by omega
      have HA : Hid (AllThere L) := Lib.hid (by rwa [List.take_of_length_le (by omega)] at hge)
      clear hge
      go_wp2_with fail
      go_ret
      exact ⟨_, rfl, .inl ⟨rfl, HA.out⟩, rfl⟩
/-- the row while the names are parted: the first k are those kept of the first m -/
structure Parted (L : List Fl) (m k : Nat) (xs : List Value) : Prop where
  len : xs.length = L.length
  kept : xs.take k = encN ((L.take m).filter (·.f.there))
  k : k = ((L.take m).filter (·.f.there)).length
  rest : ∀ j, m ≤ j → xs[j]? = (encN L)[j]?
theorem Parted.start {L : List Fl} {k : Nat} (hk : k < L.length) (ha : AllThere (L.take k)) (hc : L[k].f.there = false) : Parted L (k + 1) k (encN L) := by
  have e : (L.take (k + 1)).filter (·.f.there) = L.take k := by
    rw [List.take_succ_eq_append_getElem hk, List.filter_append, List.filter_eq_self.2 (fun x hx => ha x hx)]
    simp [hc]
  exact ⟨by simp [encN], by rw [e]; simp [encN, List.map_take], by rw [e, List.length_take]; omega, fun _ _ => rfl⟩
theorem Parted.skip {L : List Fl} {m k : Nat} {xs : List Value} (h : Parted L m k xs) (hm : m < L.length) (hc : L[m].f.there = false) : Parted L (m + 1) k xs := by
  have e : (L.take (m + 1)).filter (·.f.there) = (L.take m).filter (·.f.there) := by
    rw [List.take_succ_eq_append_getElem hm, List.filter_append]
    simp [hc]
  exact ⟨h.len, by rw [e]; exact h.kept, by rw [e]; exact h.k, fun j hj => h.rest j (by omega)⟩
theorem Parted.lt {L : List Fl} {m k : Nat} {xs : List Value} (h : Parted L m k xs) : k ≤ m := by
  have h1 := h.k
  have h2 := List.length_filter_le (fun x : Fl => x.f.there) (L.take m)
  rw [List.length_take] at h2
  omega
theorem Parted.keep {L : List Fl} {m k : Nat} {xs : List Value} (h : Parted L m k xs) (hm : m < L.length) (hc : L[m].f.there = true) : Parted L (m + 1) (k + 1) (xs.set k (encStr L[m].f.name)) := by
  have e : (L.take (m + 1)).filter (·.f.there) = (L.take m).filter (·.f.there) ++ [L[m]] := by
    rw [List.take_succ_eq_append_getElem hm, List.filter_append]
    simp [hc]
  have hkm := h.lt
  have hkx : k < xs.length := by rw [h.len]; omega
  refine ⟨by simp [h.len], ?_, by rw [e, List.length_append, ← h.k]; rfl, fun j hj => ?_⟩
  · rw [e, List.take_succ_eq_append_getElem (by simpa using hkx)]
    simp only [List.getElem_set_self, List.take_set_of_le (Nat.le_refl k)]
    rw [h.kept]
    simp [encN]
  · rw [List.getElem?_set_ne (by omega)]
    exact h.rest j (by omega)
theorem take_run {oa : Option Addr} {n c : Nat} (i : Nat) (hi : i ≤ c) (h0 : oa.map (fun x => x.add 0) = oa) (W : World) : (Instr.slice 43 (.slice oa n c) none (some (.int .i64 (i : Int))) none).run Tryz.prog W = .ok (.slice oa i c) W := by
  have hs : (sizeOf 9).run Tryz.prog W = .ok 1 W := by kernel_rfl
  have he : Tryz.prog.elem 43 = 9 := by kernel_rfl
  rw [run_slice_h (P := Tryz.prog) (w := W) 43 oa n c (by rw [he]; exact Tryz.underlying43) .i64 i (by omega) (by omega), he, hs]
  simp [Result.andThen, sliced, h0]
theorem drop_run (g off n c i : Nat) (hi : i ≤ n) (W : World) : (Instr.slice 43 (.slice (some ⟨g, off, none⟩) n c) (some (.int .i64 (i : Int))) none none).run Tryz.prog W = .ok (.slice (if c = i then some ⟨g, off, none⟩ else some ⟨g, off + i, none⟩) (n - i) (c - i)) W := by
  have hs : (sizeOf 9).run Tryz.prog W = .ok 1 W := by kernel_rfl
  have he : Tryz.prog.elem 43 = 9 := by kernel_rfl
  rw [run_slice_l (P := Tryz.prog) (w := W) 43 (some ⟨g, off, none⟩) n c (by rw [he]; exact Tryz.underlying43) .i64 i (by omega) (by omega), he, hs]
  simp [Result.andThen, sliced, Go.WideShapes.add_plain]
end Go.Proofs.YtlgcoaeddeiegaaGreat
/- Disk: Names, the walk. -/
namespace Go.Proofs.YtlgcoaeddeiegaaGreat
open Go Go.Maps Go.RowKit
open Go.Proofs (encStr)

theorem encN_take_filter {L : List Fl} {m k : Nat} {xs : List Value} (h : Parted L m k xs) (hm : L.length ≤ m) : xs.take k = encN (L.filter (·.f.there)) ∧ k = (L.filter (·.f.there)).length := by
  have h1 := h.kept
  have h2 := h.k
  rw [List.take_of_length_le hm] at h1 h2
  exact ⟨h1, h2⟩
set_option maxRecDepth 100000 in
set_option maxHeartbeats 1000000 in
theorem deleteGone_b {w : World} {S : Nat → Prop} {q mb : Nat} {fv : Value} {L : List Fl} {d : Dk} (h : DiskIs w S q mb fv L d) {b : Nat} (hb : w.cell? ⟨b, 0, none⟩ = some (.pointer (some ⟨q, 0, none⟩)))
    {v : Value} {n : Nat} (hn : L.length = n) (hr : rowAt w 9 1 v n (encN L)) (hm : n ≤ 1000000000) (hv : ∀ k, v.ownBlock = some k → ¬ S k ∧ k ≠ b) :
    Calls Tryz.prog 180 #[v, .func (.func 181) #[] #[.pointer (some ⟨b, 0, none⟩)]] w fun e w' => ∃ v', e = .returned v' ∧ rowAt w' 9 1 v' (L.filter (·.f.there)).length (encN (L.filter (·.f.there))) ∧ v'.ownBlock = v.ownBlock ∧ w.grownBy w' v.ownBlock := by
  obtain ⟨oa, c, rfl, hnc⟩ := hr.shape
  have H := Lib.hid h
  have HR := Lib.hid hr
  have HB := Lib.hid hb
  have HV := Lib.hid hv
  have HN := Lib.hid hn
  have hbl : b < w.heap.size := World.block_lt_of_cell? w _ hb
  have hm0 := hr.map0.1
  clear h hr hb hv hn
  go_enter Tryz.func180, Tryz.ntmps180
  go_wp2_with fail
  refine (indexGone_b H.out HB.out HN.out HR.out hm).mono ?_
  rintro e w' ⟨i, rfl, hi, rfl⟩
  rcases hi with ⟨rfl, ha⟩ | ⟨k, hk, rfl, ha, hc⟩
  · have e : L.filter (·.f.there) = L := List.filter_eq_self.2 ha
    have HE := Lib.hid e
    clear ha e
    go_wp2_with fail
    go_ret
    exact ⟨_, rfl, by rw [HE.out, HN.out]; exact HR.out, rfl, World.grownBy.refl _ _⟩
  · have hkn : k < n := by rw [← HN.out]; exact hk
    obtain ⟨g, off, rfl⟩ := HR.out.addr (by omega)
    have hgS := HV.out g rfl
    have hgl : g < w'.heap.size := HR.out.lt g rfl
    have HP := Lib.hid (Parted.start hk ha hc)
    have hk1 : ¬ ((k : Int) = -1) := by omega
    have hk2 : (((k : Nat) : Int) == -1) = false := by simp
    clear ha hc hk
    go_wp2_with fail
    go_loopw [5, 6] (fun i j wr => ∃ (m k : Nat) (xs : List Value), i = .int .i64 k ∧ j = .int .i64 m ∧ m ≤ n ∧ k < m ∧ Hid (Parted L m k xs) ∧ Hid (rowAt wr 9 1 (.slice (some ⟨g, off, none⟩) n c) n xs) ∧ Hid (Only (fun x => x = g) w' wr))
      (fun i j wr => n - (intOf j).toNat)
    case atStart => exact ⟨k + 1, k, _, rfl, by simp, by omega, by omega, HP, HR, Lib.hid (Only.refl _ _)⟩
    case round =>
      obtain ⟨m, k', xs, rfl, rfl, hmn, hkm, HPA, HRO, HO⟩ := hrel
      by_cases hlt : m < n
      · have hmL : m < L.length := by rw [HN.out]; exact hlt
        obtain ⟨x, hx⟩ : ∃ x, L[m] = x := ⟨_, rfl⟩
        have hxm : x ∈ L := by rw [← hx]; exact List.getElem_mem _
        have hcx : wr.cell? ⟨g, off + m, none⟩ = some (encStr x.f.name) := HRO.out.cell1 (by rw [HPA.out.rest m (Nat.le_refl _)]; simp [encN, hmL, hx])
        have hkx : k' < xs.length := by rw [HPA.out.len]; omega
        have hck : wr.cell? ⟨g, off + k', none⟩ = some (xs[k']) := HRO.out.cell1 (by simp [hkx])
        have hfk : wr.frozen? ⟨g, off + k', none⟩ = false := HRO.out.free (by omega)
        obtain ⟨th, hth⟩ : ∃ th, x.f.there = th := ⟨_, rfl⟩
        have hdw := H.out.only HO.out (fun j hj he => hgS.1 (he ▸ hj))
        have hbw : wr.cell? ⟨b, 0, none⟩ = some (.pointer (some ⟨q, 0, none⟩)) := by rw [← HB.out]; exact cell_kept_at (HO.out.block b hbl (fun he => hgS.2 he.symm))
        have HC : Hid (Calls Tryz.prog 181 #[encStr x.f.name, .pointer (some ⟨b, 0, none⟩)] wr fun e w' => e = .returned (.bool (!th)) ∧ w' = wr) := Lib.hid (by rw [← hth]; exact name1_b hdw hxm hbw)
        have HXE : Hid (L[m].f.there = th ∧ encStr L[m].f.name = encStr x.f.name) := Lib.hid ⟨by rw [hx]; exact hth, by rw [hx]⟩
        obtain ⟨sv, hsv⟩ : ∃ sv : ByteArray, encStr x.f.name = .string sv := ⟨_, rfl⟩
        rw [hsv] at hcx HC HXE
        clear hx hxm hth hdw hbw hsv
        cases th
        · have HPN := Lib.hid (HPA.out.skip hmL HXE.out.1)
          go_wp2_with (go_at_call 181; refine HC.out.mono ?_; rintro e w' ⟨rfl, rfl⟩)
          exact ⟨⟨m + 1, k', xs, rfl, by simp, by omega, by omega, HPN, HRO, HO⟩, by simp [intOf]; omega⟩
        · have HPN := Lib.hid (HPA.out.keep hmL HXE.out.1)
          have HRN : Hid (rowAt (wr.setCell ⟨g, off + k', none⟩ (.string sv)) 9 1 (.slice (some ⟨g, off, none⟩) n c) n (xs.set k' (encStr L[m].f.name))) := Lib.hid (by rw [HXE.out.2]; exact HRO.out.set _)
          have HON : Hid (Only (fun x => x = g) w' (wr.setCell ⟨g, off + k', none⟩ (.string sv))) := Lib.hid (HO.out.trans (only_setCell (fun x => x = g) _ _ _ _ rfl) (fun _ _ h => h))
          go_wp2_with (go_at_call 181; refine HC.out.mono ?_; rintro e w' ⟨rfl, rfl⟩)
          exact ⟨⟨m + 1, k' + 1, _, by simp, by simp, by omega, by omega, HPN, HRN, HON⟩, by simp [intOf]; omega⟩
      · obtain rfl : m = n := by omega
        obtain ⟨w9, hclr, hr9, hg9⟩ := run_clear_at HRO.out (i := k') (by omega)
        obtain ⟨hx1, hx2⟩ := encN_take_filter HPA.out (by rw [HN.out]; exact Nat.le_refl _)
        have hdrop := fun W => drop_run g off m c k' (by omega) W
        rw [if_neg (show ¬ c = k' by omega)] at hclr
        simp only [if_neg (show ¬ c = k' by omega)] at hdrop
        have htake := fun W => take_run (oa := some ⟨g, off, none⟩) (n := m) (c := c) k' (by omega) rfl W
        have HX : Hid (rowAt w9 9 1 (.slice (some ⟨g, off, none⟩) k' c) k' (encN (L.filter (·.f.there))) ∧ k' = (L.filter (·.f.there)).length) := Lib.hid ⟨by rw [← hx1]; exact hr9, hx2⟩
        have HG9 : Hid (w'.grownBy w9 (some g)) := Lib.hid ((Only.grown HO.out (fun k _ hk => by rw [hk])).andThen hg9 (fun j hj => by cases hj; exact Or.inr rfl))
        clear hx1 hx2 hr9 hg9
        go_wp2_with fail
        go_ret
        exact ⟨_, rfl, by rw [← HX.out.2]; exact HX.out.1, rfl, HG9.out⟩
end Go.Proofs.YtlgcoaeddeiegaaGreat
/- Disk: Names. -/
namespace Go.Proofs.YtlgcoaeddeiegaaGreat
open Go Go.Maps Go.RowKit
open Go.Proofs (encStr)

/-- the names of the files that are there -/
def Dk.names (d : Dk) : List (List UInt8) := (d.files.filter (·.there)).map (·.name)
theorem encN_names {L : List Fl} {d : Dk} (h : L.map (·.f) = d.files) : encN (L.filter (·.f.there)) = d.names.map encStr ∧ (L.filter (·.f.there)).length = d.names.length := by
  have e : d.names = (L.filter (·.f.there)).map (·.f.name) := by
    unfold Dk.names
    rw [← h, List.filter_map, List.map_map]
    rfl
  rw [e]
  exact ⟨by simp [encN, List.map_map, Function.comp_def], by simp⟩
set_option maxRecDepth 100000 in
set_option maxHeartbeats 1000000 in
theorem Names_b {w : World} {S : Nat → Prop} {q : Nat} {d : Dk} (h : DiskAt w S q d) :
    Calls Tryz.prog 130 #[.pointer (some ⟨q, 0, none⟩)] w fun e w' => ∃ v, e = .returned v ∧ rowAt w' 9 1 v d.names.length (d.names.map encStr) ∧ (∀ k, v.ownBlock = some k → w.heap.size ≤ k) ∧ Below w.heap.size w w' := by
  obtain ⟨mb, fv, L, h⟩ := h
  obtain ⟨hE1, hE2⟩ := encN_names h.files
  have HE := Lib.hid (And.intro hE1 hE2)
  have hlen : L.length ≤ 4096 := by
    have h1 := h.few
    rw [← h.files, List.length_map] at h1
    exact h1
  have HLN := Lib.hid hlen
  clear hE1 hE2 hlen
  go_enter Tryz.func130, Tryz.ntmps130
  go_upto_region 1 with fail
  obtain ⟨w1, hw1⟩ : ∃ w1 : World, w1 = w.alloc (.cells #[.pointer (some ⟨q, 0, none⟩)] 27) := ⟨_, rfl⟩
  obtain ⟨b, hb⟩ : ∃ b, b = w.heap.size := ⟨_, rfl⟩
  have hc1 : w1.heap[b]? = some (.cells #[.pointer (some ⟨q, 0, none⟩)] 27 (0, 0)) := by rw [hw1, hb]; exact alloc_cells _ _ _
  have hb1 : Below w.heap.size w w1 := by rw [hw1]; exact (Below.refl _ _).alloc (Nat.le_refl _) _
  rw [← hb, ← hw1]
  have HB1 := Lib.hid hb1
  have H1 := Lib.hid (h.below hb1)
  have HBB := Lib.hid hb
  clear hw1 hb hb1 h
  have c0 : w1.cell? ⟨b, 0, none⟩ = some (.pointer (some ⟨q, 0, none⟩)) := cell_of hc1 rfl
  have HC1 := Lib.hid hc1
  clear hc1
  go_wp2_with fail
  refine (names_b H1.out).mono ?_
  rintro e w2 ⟨v, rfl, hrow, hnil, hb2⟩
  have hr2 := rowAt.of_row (hasRow.of_own hrow)
  have hlow := (hasRow.of_own hrow).lt
  have hbl : b < w1.heap.size := (Array.getElem?_eq_some_iff.1 HC1.out).1
  have hc2 : w2.cell? ⟨b, 0, none⟩ = some (.pointer (some ⟨q, 0, none⟩)) := cell_of ((hb2.block b hbl).trans HC1.out) rfl
  have HD : Hid (Calls Tryz.prog 180 #[v, .func (.func 181) #[] #[.pointer (some ⟨b, 0, none⟩)]] w2 fun e w' => ∃ v', e = .returned v' ∧ rowAt w' 9 1 v' (L.filter (·.f.there)).length (encN (L.filter (·.f.there))) ∧ v'.ownBlock = v.ownBlock ∧ w2.grownBy w' v.ownBlock) := Lib.hid
    (deleteGone_b (H1.out.below hb2) hc2 rfl hr2 (by have := HLN.out; omega) (fun k hk => ⟨fun hs => by
      have h1 := H1.out.low k hs
      have h2 := (hlow k hk).1
      omega, fun e => by have h2 := (hlow k hk).1; omega⟩))
  have HB2 : Hid (Below w.heap.size w w2 ∧ w1.heap.size ≤ w2.heap.size) := Lib.hid ⟨HB1.out.trans (hb2.mono HB1.out.size), hb2.size⟩
  have HLOW := Lib.hid hlow
  clear hrow hnil hb2 hr2 hlow hc2 c0 hbl
  go_wp2_with fail
  refine HD.out.mono ?_
  rintro e w3 ⟨v', rfl, hr3, hv3, hg3⟩
  have hb3 : Below w.heap.size w w3 := HB2.out.1.grown hg3 HB2.out.1.size (fun k hk => by
    have h1 := (HLOW.out k hk).1
    have h2 := HB1.out.size
    omega)
  have HR : Hid (rowAt w3 9 1 v' d.names.length (d.names.map encStr)) := Lib.hid (by rw [← HE.out.1, ← HE.out.2]; exact hr3)
  have HV : Hid (∀ k, v'.ownBlock = some k → w.heap.size ≤ k) := Lib.hid (fun k hk => by
    rw [hv3] at hk
    have h1 := (HLOW.out k hk).1
    have h2 := HB1.out.size
    omega)
  have HB3 := Lib.hid hb3
  clear hr3 hv3 hg3 hb3
  go_wp2_with fail
  go_ret
  exact ⟨_, rfl, HR.out, HV.out, HB3.out⟩
end Go.Proofs.YtlgcoaeddeiegaaGreat
/- slices.Values at elements of one cell: the iterator tells a row, in order. -/
namespace Go.Proofs.YtlgcoaeddeiegaaGreat
open Go Go.RowKit Go.Shelf
attribute [local go_sem] Oper.semAt_some

/-- a boxed slice at vb, with its elements -/
def ValsAt (w : World) (T e : TypeId) (vb : Nat) (xs : List Value) : Prop := ∃ v, w.heap[vb]? = some (.cells #[v] T (0, 0)) ∧ rowAt w e 1 v xs.length xs
theorem ValsAt.later {w w' : World} {T e : TypeId} {vb : Nat} {xs : List Value} (h : ValsAt w T e vb xs) (hb : Below w.heap.size w w') : ValsAt w' T e vb xs := by
  obtain ⟨v, h1, h2⟩ := h
  exact ⟨v, (hb.block vb (Array.getElem?_eq_some_iff.1 h1).1).trans h1, h2.kept (fun k hk => hb.block k (h2.lt k hk))⟩
def encOne (x : Value) : Array Value := #[x]
set_option maxHeartbeats 400000 in
theorem valuesStrs_b (w : World) (oa : Option Addr) (n c : Nat) : Calls Tryz.prog 132 #[.slice oa n c] w fun e w' => e = .returned (.func (.func 184) #[] #[.pointer (some ⟨w.heap.size, 0, none⟩)]) ∧ w' = w.alloc (.cells #[.slice oa n c] 43) := by
  go_enter Tryz.func132, Tryz.ntmps132
  go_wp2_with fail
  go_ret
  exact ⟨rfl, rfl⟩
theorem valuesStrs_at {w : World} {v : Value} {xs : List Value} (h : rowAt w 9 1 v xs.length xs) : ValsAt (w.alloc (.cells #[v] 43)) 43 9 w.heap.size xs :=
  ⟨v, alloc_cells _ _ _, h.kept (fun k hk => Below.heap_alloc _ _ k (h.lt k hk))⟩
set_option maxRecDepth 100000 in
set_option maxHeartbeats 1000000 in
theorem valsStrs_in (n : Nat) (hn : 1 ≤ n) (l vb : Nat) (w : World) (xs : List Value) (hsq : ValsAt w 43 9 vb xs) (hfs : xs.length ≤ 1000000000) (J Jx : Nat → World → Prop) (W : World) (hW : Below w.heap.size w W)
    (hJ : ∀ j A B, J j A → Below A.heap.size A B → J j B)
    (hY : ∀ j (hj : j < xs.length) W1, J j W1 → YieldAt Fence.wide (n - 1) Tryz.prog l #[xs[j]] W1 fun e W' =>
      (e = .returned (.bool true) ∧ J (j + 1) W' ∧ Below w.heap.size W1 W') ∨ (e = .returned (.bool false) ∧ Jx (j + 1) W')) (h0 : J 0 W) :
    CallsIn Fence.wide n Tryz.prog 184 #[.func (.yield l) #[] #[], .pointer (some ⟨vb, 0, none⟩)] W fun e W' => (∃ v, e = .returned v) ∧ (J xs.length W' ∨ ∃ j, j ≤ xs.length ∧ Jx j W') := by
  obtain ⟨v, hv, hrow⟩ := hsq
  obtain ⟨oa, c, rfl, hnc⟩ := hrow.shape
  obtain ⟨N, hN⟩ : ∃ N, xs.length = N := ⟨_, rfl⟩
  rw [hN] at hv hrow hnc hfs
  have cv : W.cell? ⟨vb, 0, none⟩ = some (.slice oa N c) := cell_of ((hW.block vb (Array.getElem?_eq_some_iff.1 hv).1).trans hv) rfl
  have HR := Lib.hid hrow
  have HN := Lib.hid hN
  have HY := Lib.hid hY
  have HJ := Lib.hid hJ
  have HW := Lib.hid hW
  clear hv hrow hN hY hJ hW
  refine callsIn_of_wp Tryz.func184 rfl trivial ?_ rfl
  simp only [Tryz.ntmps184, List.size_toArray, List.length_cons, List.length_nil, Nat.reduceAdd, Nat.reduceSub, Array.replicate_succ, Array.replicate_zero, List.push_toArray, List.append_toArray, List.nil_append, List.cons_append]
  gi_wp2
  gi_loopw [7] (fun i wr => ∃ j : Nat, j ≤ N ∧ i = .int .i64 j ∧ J j wr ∧ Below w.heap.size w wr ∧ W.heap.size ≤ wr.heap.size) (fun i wr => N - (intOf i).toNat)
  case atStart => exact ⟨0, Nat.zero_le _, rfl, h0, HW.out, Nat.le_refl _⟩
  case round =>
    obtain ⟨j, hj, rfl, hJs, hbw, hWr⟩ := hrel
    by_cases hlt : j < N
    · have hjf : j < xs.length := by rw [HN.out]; exact hlt
      have hrw := HR.out.kept (fun k hk => hbw.block k (HR.out.lt k hk))
      obtain ⟨g, off, rfl⟩ := hrw.addr (by omega)
      obtain ⟨x, hx⟩ : ∃ x, xs[j] = x := ⟨_, rfl⟩
      have k0 : wr.cell? ⟨g, off + j, none⟩ = some x := by
        have := hrw.cells (g := g) (off := off) rfl j x (by rw [← hx]; exact List.getElem?_eq_getElem hjf)
        simpa [Go.WideShapes.add_plain] using this
      obtain ⟨fn, tmps, assign, body, hy, hR⟩ := HY.out j hjf wr hJs
      rw [hx] at hy
      have HRD := Lib.hid hR
      have HB2 : Hid (Below w.heap.size w wr ∧ W.heap.size ≤ wr.heap.size) := Lib.hid ⟨hbw, hWr⟩
      clear hrw hx hJs hbw hR
      gi_wp2
      refine HRD.out.mono ?_
      rintro e W3 (⟨rfl, hJ3, hk3⟩ | ⟨rfl, hJx3⟩)
      · have HJ3 : Hid (J (j + 1) W3) := Lib.hid hJ3
        have HB3 : Hid (Below w.heap.size w W3 ∧ W.heap.size ≤ W3.heap.size) := Lib.hid ⟨HB2.out.1.trans hk3, Nat.le_trans HB2.out.2 hk3.size⟩
        clear hJ3 hk3
        gi_wp2
        exact ⟨⟨j + 1, by omega, by simp, HJ3.out, HB3.out.1, HB3.out.2⟩, by simp [intOf]; omega⟩
      · have HX3 : Hid (Jx (j + 1) W3) := Lib.hid hJx3
        clear hJx3
        gi_wp2
        refine bodyPost_ret (results_none rfl _ _ _) rfl ?_
        exact ⟨⟨_, rfl⟩, .inr ⟨j + 1, by rw [HN.out]; omega, HX3.out⟩⟩
    · obtain rfl : j = N := by omega
      have HE : Hid (J xs.length wr) := Lib.hid (by rw [HN.out]; exact hJs)
      clear hJs
      gi_wp2
      go_end0
      exact ⟨⟨_, rfl⟩, .inl HE.out⟩
/-- **going over a row: the next one is the next element** -/
theorem valsStrs_told (n : Nat) (hn : 1 ≤ n) (vb : Nat) (w : World) (xs : List Value) (hsq : ValsAt w 43 9 vb xs) (hfs : xs.length ≤ 1000000000) :
    SeqTold Fence.wide n Tryz.prog 184 #[.pointer (some ⟨vb, 0, none⟩)] encOne (fun _ _ pre x _ => xs[pre.length]? = some x ∧ pre = xs.take pre.length) (fun ys => ys = xs) (fun pre => pre.length ≤ xs.length) xs.length w := fun l J Jx W hW hs hJ hJx hY => by
  refine (valsStrs_in n hn l vb w xs hsq hfs (fun j V => J (fun _ => False) (xs.take j) V ∧ W.heap.size ≤ V.heap.size) (fun j V => Jx (fun _ => False) (xs.take j) V ∧ j ≤ xs.length) W hW (fun j A B h hb => ⟨hJ _ _ A B h.1 (Only.of_below hb (Nat.le_refl _) _), Nat.le_trans h.2 hb.size⟩) (fun j hj W1 h1 => ?_) ⟨by
    have := hs (fun _ => False) W (Below.refl _ _) (fun _ hf => hf.elim)
    rwa [List.take_zero], Nat.le_refl _⟩).mono ?_
  · have htl : (xs.take j).length = j := by rw [List.length_take]; omega
    have ht1 : xs.take j ++ [xs[j]] = xs.take (j + 1) := (List.take_succ_eq_append_getElem hj).symm
    refine (hY (fun _ => False) (xs.take j) xs[j] W1 W1 (fun _ hf => hf.elim) h1.1 (Only.refl _ _) h1.2 ⟨by rw [htl]; exact List.getElem?_eq_getElem hj, by rw [htl]⟩ (by rw [htl]; exact hj)).mono (fun e W' hr => ?_)
    rcases hr with ⟨h3, h4, h5⟩ | ⟨h3, h4, h5⟩
    · exact .inl ⟨h3, ⟨by rw [ht1] at h4; exact h4, Nat.le_trans h1.2 h5.size⟩, h5.below (fun i hi hc => by have := hc.1; omega) (Nat.le_trans hW.size h1.2)⟩
    · exact .inr ⟨h3, by rw [ht1] at h4; exact h4, hj⟩
  · rintro e W' ⟨he, h⟩
    refine ⟨he, ?_⟩
    rcases h with h | ⟨j, hj, h⟩
    · exact .inl ⟨fun _ => False, xs, rfl, by have := h.1; rwa [List.take_length] at this⟩
    · exact .inr ⟨fun _ => False, xs.take j, by show (xs.take j).length ≤ xs.length; rw [List.length_take]; omega, h.1⟩
end Go.Proofs.YtlgcoaeddeiegaaGreat
/- Rows of strings: one is appended. -/
namespace Go.Proofs.YtlgcoaeddeiegaaGreat
open Go Go.RowKit

theorem info_strR : (Tryz.prog.info? 9).map (fun i => (i.zero, i.size, i.bytes)) = some (some (.string ⟨#[]⟩), 1, 16) := by kernel_rfl
theorem str_row (w : World) (a : Value) : rowAt (w.alloc (.cells #[a] 9)) 9 1 (.slice (some ⟨w.heap.size, 0, none⟩) 1 1) 1 [a] :=
  ⟨rfl, .inr ⟨_, 0, 1, _, _, rfl, alloc_cells _ _ _, Nat.le_refl _, by unfold maxLen; omega, by simp, freeRow_zero _, rfl⟩⟩
theorem wpList_append_str {w2 : World} {ops : Array Oper} {rest : List Oper} {o : Oper} {a : Act} {Q : Exit → Act → World → Prop} (hgd : o.guard = none) (s x : Operand)
    (ho : o.op = .call { callee := .builtin .append, args := #[s, x], argTypes := #[43, 43] })
    {oa : Option Addr} {m c : Nat} {xs : List Value} {nm : ByteArray} (h : rowAt w2 9 1 (.slice oa m c) m xs) (hm : m ≤ 1000000)
    (hs : a.eval s = .slice oa m c) (hx : a.eval x = .slice (some ⟨w2.heap.size, 0, none⟩) 1 1)
    (hK : ∀ oa3 c3 w3, Hid (rowAt w3 9 1 (.slice oa3 (m + 1) c3) (m + 1) (xs ++ [.string nm])) → Hid ((w2.alloc (.cells #[.string nm] 9)).grownBy w3 (Value.slice oa m c).ownBlock) →
      Hid ((Value.slice oa3 (m + 1) c3).ownBlock = (Value.slice oa m c).ownBlock ∨ (Value.slice oa3 (m + 1) c3).ownBlock = some (w2.heap.size + 1)) → wpList Tryz.prog ops Q rest (a.put o.dst (.slice oa3 (m + 1) c3)) w3) :
    wpList Tryz.prog ops Q (o :: rest) a (w2.alloc (.cells #[.string nm] 9)) := by
  refine wpList_append_at _ hgd s x 43 43 ho 9 (.string ⟨#[]⟩) 1 16 Tryz.underlying43 info_strR rfl _ m xs hs (h.kept (fun k hk => Below.heap_alloc _ _ k (h.lt k hk))) _ 1 _ hx (Src.of_row Tryz.underlying43 (str_row w2 (.string nm)) (fun v hv => by rw [List.mem_singleton] at hv; subst hv; rfl)) (by unfold maxLen; omega) (by omega) ?_
  intro v' w3 hr hg hown _
  obtain ⟨oa3, c3, rfl, _⟩ := hr.shape
  exact hK oa3 c3 w3 (Lib.hid hr) (Lib.hid hg) (Lib.hid (by simpa using hown))
end Go.Proofs.YtlgcoaeddeiegaaGreat
/- slices.AppendSeq, Collect, Sorted at strings, of a row that is told. -/
namespace Go.Proofs.YtlgcoaeddeiegaaGreat
open Go Go.Maps Go.RowKit Go.Shelf Go.Sort
open Go.Proofs (encStr)
attribute [local go_sem] Oper.semAt_some

/-- what stands at a round's head: the box holds what came, in a block that is new -/
structure CollI (w4 W : World) (b : Nat) (T : Nat → Prop) (xs : List Value) : Prop where
  below : Below w4.heap.size w4 W
  box : ∃ oa c, W.heap[b]? = some (.cells #[.slice oa xs.length c] 43 (0, 0)) ∧ rowAt W 9 1 (.slice oa xs.length c) xs.length xs ∧ (∀ k, (Value.slice oa xs.length c).ownBlock = some k → b + 3 ≤ k ∧ ¬ T k)
  low : ∀ k, T k → b + 3 ≤ k
  at' : b = w4.heap.size
theorem CollI.kept {w4 A B : World} {b : Nat} {T X : Nat → Prop} {xs : List Value} (h : CollI w4 A b T xs) (ho : Only X A B) (hX : ∀ k, X k → T k ∨ k = b + 1 ∨ k = b + 2) : CollI w4 B b T xs := by
  obtain ⟨oa, c, h1, h2, h3⟩ := h.box
  refine ⟨h.below.trans (ho.below (fun i hi e => ?_) h.below.size), ⟨oa, c, (ho.block _ (Array.getElem?_eq_some_iff.1 h1).1 (fun e => ?_)).trans h1, h2.kept (fun k hk => ho.block k (h2.lt k hk) (fun e => ?_)), h3⟩, h.low, h.at'⟩
  · have := h.at'
    rcases hX i e with e | e | e
    · have := h.low i e; omega
    · omega
    · omega
  · rcases hX _ e with e | e | e
    · have := h.low _ e; omega
    · omega
    · omega
  · have := h3 k hk
    rcases hX k e with e | e | e
    · exact this.2 e
    · omega
    · omega
set_option maxRecDepth 100000 in
set_option maxHeartbeats 8000000 in
theorem appendSeq_b {w : World} {gf : Nat} {lb : Array Value} {l : List Value} {w0 : World} (hFg : Fence.wide.fn gf) (eg : ∀ args w, (callFunc gf args).run Tryz.prog w = .ok (.enter gf args) w) (hs : ∀ v ∈ l, ∃ s : ByteArray, v = .string s) (hl : l.length ≤ 1000000)
    (hst : SeqTold Fence.wide 7 Tryz.prog gf lb encOne (fun _ _ pre x _ => l[pre.length]? = some x ∧ pre = l.take pre.length) (fun ys => ys = l) (fun pre => pre.length ≤ l.length) l.length w0) (hb0 : Below w0.heap.size w0 w) :
    Calls Tryz.prog 209 #[.slice none 0 0, .func (.func gf) #[] lb] w fun e w' => ∃ v, e = .returned v ∧ rowAt w' 9 1 v l.length l ∧ (∀ k, v.ownBlock = some k → w.heap.size ≤ k) ∧ Below w.heap.size w w' := by
  obtain ⟨w1, hw1⟩ : ∃ V : World, V = w.alloc (.cells #[.slice none 0 0] 43) := ⟨_, rfl⟩
  obtain ⟨b2, hb2⟩ : ∃ b, b = w.heap.size := ⟨_, rfl⟩
  have hbl : Below w.heap.size w w1 := by rw [hw1]; exact (Below.refl _ _).alloc (Nat.le_refl _) _
  have h2 : w1.heap[b2]? = some (.cells #[.slice none 0 0] 43 (0, 0)) := by rw [hw1, hb2]; exact alloc_cells _ _ _
  have hs1 : w1.heap.size = b2 + 1 := by rw [hw1, hb2]; simp
  have H := Lib.hid (And.intro hbl (And.intro h2 (And.intro hs1 (And.intro hb2 (And.intro hs (And.intro hl hb0))))))
  clear hs hbl h2 hs1
  refine (callsIn_wide (n := 8)).1 ?_
  refine callsIn_of_wp_marks Tryz.func209 rfl trivial ?_ rfl
  simp only [Tryz.ntmps209, List.size_toArray, List.length_cons, List.length_nil, Nat.reduceAdd, Nat.reduceSub, Array.replicate_succ, Array.replicate_zero, List.push_toArray, List.append_toArray, List.nil_append, List.cons_append]
  gi_upto_region 1 with fail
  rw [← hw1, ← hb2]
  clear hw1 hb2
  gi_wp2_with fail
  refine wpIn_rangeFunc_told (n := 8) (α := Value) rfl (by omega) (gf := gf) (lb := lb) rfl hFg eg hst (hb0.trans (H.out.1.mono hb0.size)) (fun _ => rfl)
    (fun T pre V => CollI w V b2 T pre) (fun _ _ _ _ => False) ?I ?Ix ?h0 ?round ?done ?stop
  case I =>
    rintro T pre A B hi ho
    rw [H.out.2.2.1] at ho
    exact hi.kept ho (fun k hk => hk)
  case Ix =>
    rintro c T pre A B hf ho
    exact hf
  case h0 =>
    intro T W1 hb hsz hT
    rw [H.out.2.2.1] at hT
    exact ⟨H.out.1.trans (hb.mono H.out.1.size), ⟨none, 0, (hb.block b2 (Array.getElem?_eq_some_iff.1 H.out.2.1).1).trans H.out.2.1, ⟨rfl, .inl ⟨rfl, rfl⟩⟩, fun k hk => by simp [Value.ownBlock] at hk⟩, fun k hk => by have := (hT k hk).1; omega, H.out.2.2.2.1⟩
  case stop =>
    rintro T c0 pre V hS hf hD
    exact hf.elim
  case done =>
    rintro T xs V hS hi hD
    have hS' : xs = l := hS
    subst hS'
    obtain ⟨oa, c, h1, h2, h3⟩ := hi.box
    rw [H.out.2.2.1] at hD ⊢
    have k2 : V.cell? ⟨b2, 0, none⟩ = some (.slice oa xs.length c) := cell_of h1 rfl
    have HI := Lib.hid (And.intro hi (And.intro h1 (And.intro h2 (And.intro h3 hD))))
    obtain ⟨n, hn⟩ : ∃ n, n = xs.length := ⟨_, rfl⟩
    rw [← hn] at k2
    have HN := Lib.hid hn
    clear hS hi h1 h2 h3 hD hst hn
    gi_wp2_with fail
    have hm := HI.out.2.2.2.2
    have hg := grownBy_putObj' V (b2 + 1) (.deferred none)
    refine ⟨by simp, .inl ⟨_, _, rfl, run_takeDeferred hm, ?_⟩⟩
    refine ⟨.slice oa n c, by simp [results, Tryz.results209, go_sem], ?_⟩
    rw [HN.out]
    refine ⟨_, rfl, HI.out.2.2.1.kept (fun k hk => hg.block k (HI.out.2.2.1.lt k hk) (fun e => by
      simp only [Option.some.injEq] at e
      have := (HI.out.2.2.2.1 k hk).1; omega)), fun k hk => by have := (HI.out.2.2.2.1 k hk).1; have := H.out.2.2.2.1; omega, HI.out.1.below.grown hg HI.out.1.below.size (fun k e => by
      simp only [Option.some.injEq] at e
      have := H.out.2.2.2.1; omega)⟩
  case round =>
    rintro T pre x Wp V hT hrec hdef hip hop hszp hgv hlt K hK
    rw [H.out.2.2.1] at hT hrec hdef hK hszp
    obtain ⟨hgx, -⟩ := hgv
    obtain ⟨nm, rfl⟩ := H.out.2.2.2.2.1 x (List.mem_of_getElem? hgx)
    rw [show encOne (Value.string nm) = #[.string nm] from rfl]
    obtain ⟨n, hn⟩ : ∃ n, pre.length = n := ⟨_, rfl⟩
    have hVl : b2 + 2 < V.heap.size := by
      obtain ⟨r, hr⟩ := hrec
      exact (Array.getElem?_eq_some_iff.1 hr).1
    have HK := Lib.hid hK
    have HI := Lib.hid (And.intro hip (And.intro hop (And.intro hn hVl)))
    have HT := Lib.hid (fun k hk => (hT k hk).2)
    have hn6 : n < 1000000 := by have := H.out.2.2.2.2.2.1; omega
    clear hT hrec hdef hip hop hgx hlt hK hszp hVl hn hst
    gi_wp2_with fail
    refine HK.out _ _ (Only.refl _ _) ?_
    intro W2 ho hr2
    have hop2 : Only (fun k => T k ∨ k = b2 + 2) Wp W2 := (HI.out.2.1.mono (fun _ _ h => .inl h)).trans (ho.mono (fun k _ h => .inr h)) (fun _ _ h => h)
    have hi2 : CollI w W2 b2 T pre := HI.out.1.kept hop2 (fun k hk => by
      rcases hk with hk | hk
      · exact .inl hk
      · exact .inr (.inr hk))
    obtain ⟨oa, c, g1, g2, g3⟩ := hi2.box
    rw [HI.out.2.2.1] at g1 g2 g3
    have k2 : W2.cell? ⟨b2, 0, none⟩ = some (.slice oa n c) := cell_of g1 rfl
    have f2 : W2.frozen? ⟨b2, 0, none⟩ = false := free_of g1 _
    have hone : ∀ v ∈ ([.string nm] : List Value), v.oneCell' = true := by
      intro v hv
      simp only [List.mem_cons, List.not_mem_nil, or_false] at hv
      rcases hv with rfl
      rfl
    generalize hQ : toldPost _ _ _ _ _ = Q
    have HQ := Lib.hid hQ
    have HVW := Lib.hid ho.size
    have H2 := Lib.hid (And.intro hi2 (And.intro g1 (And.intro g2 (And.intro g3 (show b2 + 2 < W2.heap.size from Nat.lt_of_lt_of_le HI.out.2.2.2 ho.size)))))
    clear hop2 hi2 g1 g2 g3 hQ ho hr2
    gi_wp2_with (gi_at_builtin; refine wpListIn_append_one rfl (.tmp 8) (.tmp 10) 43 9 rfl Tryz.underlying43 info_strR rfl (by omega) H2.out.2.2.1 (by omega) [.string nm] rfl hone rfl rfl ?_; intro oa3 c3 w3 HR3 HG3 HO3; have hb3 := (HG3.out.block b2 (by have := H2.out.2.2.2.2; simp; omega) (fun e => by have := H2.out.2.2.2.1 b2 e.symm; omega)).trans ((Below.heap_alloc _ _ _ (by have := H2.out.2.2.2.2; omega)).trans H2.out.2.1); have kb : w3.cell? ⟨b2, 0, none⟩ = some (.slice oa n c) := cell_of hb3 rfl; have fb : w3.frozen? ⟨b2, 0, none⟩ = false := free_of hb3 _; have HB3 := Lib.hid hb3; clear hb3)
    rw [← HQ.out]
    have hg4 : Only (fun k => (Value.slice oa n c).ownBlock = some k) W2 w3 := (Only.of_below ((Below.refl _ W2).alloc (Nat.le_refl _) (.cells #[.string nm] 9)) (Nat.le_refl _) _).trans (Only.of_grown HG3.out (fun k e => e)) (fun _ _ e => e)
    have hs4 : Only (fun k => k = b2) w3 (w3.setCell ⟨b2, 0, none⟩ (.slice oa3 (n + 1) c3)) := only_setCell (fun k => k = b2) _ b2 0 _ rfl
    have hown3 : ∀ k, (Value.slice oa3 (n + 1) c3).ownBlock = some k → (Value.slice oa n c).ownBlock = some k ∨ k = W2.heap.size + 1 := fun k hk => by
      rcases HO3.out with e | e
      · exact .inl (by rw [← e]; exact hk)
      · rw [hk] at e
        simp only [Option.some.injEq] at e
        exact .inr e
    have e0 := H.out.2.2.2.1
    have e1 := H.out.2.2.2.2.2.2.size
    have hbig := H2.out.2.2.2.2
    have e5 := H.out.2.2.1
    have ho4 : Only (fun k => (Value.slice oa n c).ownBlock = some k ∨ k = b2) W2 (w3.setCell ⟨b2, 0, none⟩ (.slice oa3 (n + 1) c3)) := (hg4.mono (fun _ _ e => .inl e)).trans hs4 (fun _ _ e => .inr e)
    have hl1 : (pre ++ [Value.string nm]).length = n + 1 := by rw [List.length_append, HI.out.2.2.1]; rfl
    refine ⟨ho4.mono (fun k _ hk => ?_), ?_, ?_, ?_, ?_⟩
    · rcases hk with hk | hk
      · have := H2.out.2.2.2.1 k hk
        refine ⟨by omega, fun e => ?_⟩
        rcases e with e | e | e
        · exact this.2 e
        · omega
        · omega
      · subst hk
        refine ⟨by omega, fun e => ?_⟩
        rcases e with e | e | e
        · have := H2.out.1.low k e; omega
        · omega
        · omega
    · exact H2.out.1.below.trans (ho4.below (fun i hi e => by
        rcases e with e | e
        · have := H2.out.2.2.2.1 i e; omega
        · omega) H2.out.1.below.size)
    · rw [hl1]
      refine ⟨oa3, c3, heap_setCell_here _ HB3.out, HR3.out.kept (fun k hk => Below.heap_setCell _ _ _ _ (fun e => by
        have e : k = b2 := e
        rcases hown3 k hk with e2 | e2
        · have := H2.out.2.2.2.1 k e2; omega
        · omega)), fun k hk => ?_⟩
      rcases hown3 k hk with e2 | e2
      · exact H2.out.2.2.2.1 k e2
      · refine ⟨by omega, fun e => ?_⟩
        have := HT.out k e
        have := HVW.out
        omega
    · exact H2.out.1.low
    · exact H2.out.1.at'
end Go.Proofs.YtlgcoaeddeiegaaGreat
/- slices.Sorted at strings, of a row that is told and sorted already. -/
namespace Go.Proofs.YtlgcoaeddeiegaaGreat
open Go Go.Maps Go.RowKit Go.Shelf Go.Sort
open Go.Proofs (encStr)
attribute [local go_sem] Oper.semAt_some

theorem rowAt.holds {w : World} {e : TypeId} {g off c : Nat} {l : List (List UInt8)} (h : rowAt w e 1 (.slice (some ⟨g, off, none⟩) l.length c) l.length (l.map encStr)) : Holds encStr w g off l.toArray := by
  intro j hj
  have hj' : j < l.length := by simpa using hj
  have h1 := h.cells rfl j (encStr l[j]) (by rw [List.getElem?_map, List.getElem?_eq_getElem hj']; rfl)
  have e1 : (l.toArray)[j]! = l[j] := by rw [getElem!_pos _ j hj]; simp
  rw [e1]
  refine ⟨by simpa [Go.WideShapes.add_plain] using h1, ?_⟩
  rcases h.2 with ⟨hn, -⟩ | ⟨g', off', cap, cur, fr, hv, hg, h1, h2, h3, hf, -⟩
  · cases hn
  · simp only [Value.slice.injEq, Option.some.injEq, Addr.mk.injEq] at hv
    obtain ⟨⟨rfl, rfl, -⟩, -, rfl⟩ := hv
    have hfr := hf (off + j) (by omega)
    unfold World.frozen?
    rw [hg]
    simpa using hfr
theorem below_sorted (w : World) (n : Nat) (os : Array Obj) : Below w.heap.size w (grow (Sort.ahead w n) os) :=
  ⟨rfl, rfl, rfl, by simp [grow, Sort.ahead], fun k hk => by simp [grow, Sort.ahead, Array.getElem?_append_left hk]⟩
/-- what is sorted stays -/
theorem sort_b {w : World} {oa : Option Addr} {n c : Nat} {l : List (List UInt8)} (hn : l.length = n) (h : rowAt w 9 1 (.slice oa n c) n (l.map encStr)) (hs : l.Pairwise (fun a b => leB a b = true)) (hl : n ≤ 1000000) :
    Calls Tryz.prog 183 #[.slice oa n c] w fun e w' => e = .returned (.tuple #[]) ∧ Below w.heap.size w w' := by
  subst hn
  by_cases h0 : l.length = 0
  · rw [h0]
    refine (AnyM.slices_Sort_string_none sortL oa c w).mono ?_
    rintro e w' ⟨rfl, rfl⟩
    exact ⟨rfl, Below.refl _ _⟩
  · obtain ⟨g, off, rfl⟩ := h.read.addr (by omega)
    have hH := h.holds
    have hgl : g < w.heap.size := h.lt g rfl
    refine (AnyM.slices_Sort_string sortL g off c l w hH hgl (by omega)).mono ?_
    rintro e w' ⟨rfl, k, os, rfl⟩
    refine ⟨rfl, ?_⟩
    have e1 : (l.mergeSort fun x y => decide (x ≤ y)) = l := mergeSort_self hs
    rw [e1, putRow_self encStr (Sort.ahead w k) g off l.toArray (fun j hj => hH j hj)]
    exact below_sorted w k os
set_option maxRecDepth 100000 in
set_option maxHeartbeats 1000000 in
theorem collect_b {w : World} {gf : Nat} {lb : Array Value} {l : List Value} {w0 : World} (hFg : Fence.wide.fn gf) (eg : ∀ args w, (callFunc gf args).run Tryz.prog w = .ok (.enter gf args) w) (hs : ∀ v ∈ l, ∃ s : ByteArray, v = .string s) (hl : l.length ≤ 1000000)
    (hst : SeqTold Fence.wide 7 Tryz.prog gf lb encOne (fun _ _ pre x _ => l[pre.length]? = some x ∧ pre = l.take pre.length) (fun ys => ys = l) (fun pre => pre.length ≤ l.length) l.length w0) (hb0 : Below w0.heap.size w0 w) :
    Calls Tryz.prog 182 #[.func (.func gf) #[] lb] w fun e w' => ∃ v, e = .returned v ∧ rowAt w' 9 1 v l.length l ∧ (∀ k, v.ownBlock = some k → w.heap.size ≤ k) ∧ Below w.heap.size w w' := by
  have HA := Lib.hid (appendSeq_b hFg eg hs hl hst hb0)
  clear hst
  go_enter Tryz.func182, Tryz.ntmps182
  go_wp2_with fail
  refine HA.out.mono ?_
  rintro e w1 ⟨v, rfl, h1, h2, h3⟩
  have H := Lib.hid (And.intro h1 (And.intro h2 h3))
  clear h1 h2 h3
  go_wp2_with fail
  go_ret
  exact ⟨v, rfl, H.out⟩
set_option maxRecDepth 100000 in
set_option maxHeartbeats 1000000 in
theorem sorted_b {w : World} {gf : Nat} {lb : Array Value} {l : List (List UInt8)} {w0 : World} (hFg : Fence.wide.fn gf) (eg : ∀ args w, (callFunc gf args).run Tryz.prog w = .ok (.enter gf args) w) (hl : l.length ≤ 1000000) (hs : l.Pairwise (fun a b => leB a b = true))
    (hst : SeqTold Fence.wide 7 Tryz.prog gf lb encOne (fun _ _ pre x _ => (l.map encStr)[pre.length]? = some x ∧ pre = (l.map encStr).take pre.length) (fun ys => ys = l.map encStr) (fun pre => pre.length ≤ (l.map encStr).length) (l.map encStr).length w0) (hb0 : Below w0.heap.size w0 w) :
    Calls Tryz.prog 131 #[.func (.func gf) #[] lb] w fun e w' => ∃ v, e = .returned v ∧ rowAt w' 9 1 v l.length (l.map encStr) ∧ (∀ k, v.ownBlock = some k → w.heap.size ≤ k) ∧ Below w.heap.size w w' := by
  have HA := Lib.hid (collect_b hFg eg (l := l.map encStr) (fun v hv => by
    obtain ⟨s, -, rfl⟩ := List.mem_map.1 hv
    exact ⟨_, rfl⟩) (by rw [List.length_map]; exact hl) hst hb0)
  have HS := Lib.hid hs
  clear hst hs
  go_enter Tryz.func131, Tryz.ntmps131
  go_wp2_with fail
  refine HA.out.mono ?_
  rintro e w1 ⟨v, rfl, h1, h2, h3⟩
  rw [List.length_map] at h1
  obtain ⟨oa, c, rfl, -⟩ := h1.shape
  obtain ⟨n, hn⟩ : ∃ n, l.length = n := ⟨_, rfl⟩
  rw [hn] at h1 h2 hl ⊢
  have hst := sort_b hn h1 HS.out hl
  have HC := Lib.hid hst
  have H := Lib.hid (And.intro h1 (And.intro h2 h3))
  have HN := Lib.hid hn
  clear h1 h2 h3 hn hst
  go_wp2_with fail
  refine HC.out.mono ?_
  rintro e w2 ⟨rfl, hb2⟩
  have HB := Lib.hid hb2
  clear hb2
  go_wp2_with fail
  go_ret
  rw [HN.out]
  exact ⟨.slice oa n c, rfl, H.out.1.kept (fun k hk => HB.out.block k (H.out.1.lt k hk)), H.out.2.1, H.out.2.2.trans (HB.out.mono H.out.2.2.size)⟩
end Go.Proofs.YtlgcoaeddeiegaaGreat
/- Segment names: known, and the law. -/
namespace Go.Proofs.YtlgcoaeddeiegaaGreat
open Go.RowKit

theorem parse_true (s a : ByteArray) (b : Int) (w : World) (hs : s.size ≤ maxLen) (h : okName s.data.toList = true) (ha : s.extract 0 (s.size - 15) = a) (hb : ((hnum (digs s.data.toList) : Nat) : Int) = b) :
    Calls Tryz.prog 19 #[.string s] w fun e w' => e = .returned (.tuple #[.string a, .int .i64 b, .bool true]) ∧ Below w.heap.size w w' :=
  (parse_any s w hs).mono fun _ _ ⟨hp, hbl⟩ => ⟨by rw [← ha, ← hb]; exact hp.1 h, hbl⟩
theorem parse_false (s : ByteArray) (w : World) (hs : s.size ≤ maxLen) (h : okName s.data.toList = false) :
    Calls Tryz.prog 19 #[.string s] w fun e w' => e = .returned (.tuple #[.string ⟨#[]⟩, .int .i64 0, .bool false]) ∧ Below w.heap.size w w' :=
  (parse_any s w hs).mono fun _ _ ⟨hp, hbl⟩ => ⟨hp.2 h, hbl⟩
theorem create_nilS (s : ByteArray) (b st : Int) (w : World) :
    Calls Tryz.prog 64 #[.pointer none, .string s, .int .i64 b, .int .i64 st] w fun e w' => e = .returned (.tuple #[.pointer none, .int .i64 1]) ∧ w = w' := by
  go_enter Tryz.func64, Tryz.ntmps64
  go_wp2
  go_ret2
  exact ⟨rfl, rfl⟩
end Go.Proofs.YtlgcoaeddeiegaaGreat
/- partlog: the names of a log's files. -/
namespace Go.Proofs.YtlgcoaeddeiegaaGreat
open Go Go.Maps Go.RowKit
open Go.Proofs (encStr)
attribute [local go_sem] Oper.semAt_some

/-- the names of the log's files that are there -/
def Dk.namesOf (d : Dk) (log : ByteArray) : List (List UInt8) := d.names.filter (ofLog log)
def namesUp (log : ByteArray) (l : List (List UInt8)) (t : Nat) : List Value := ((l.take t).filter (ofLog log)).map encStr
theorem namesUp_succ {log : ByteArray} {l : List (List UInt8)} {t : Nat} (h : t < l.length) : namesUp log l (t + 1) = if ofLog log l[t] then namesUp log l t ++ [encStr l[t]] else namesUp log l t := by
  unfold namesUp
  rw [List.take_succ_eq_append_getElem h, List.filter_append, List.map_append]
  cases hb : ofLog log l[t] <;> simp [hb]
/-- does a name parse, and is its log that one? -/
theorem parse_of (s log : ByteArray) (w : World) (hs : s.size ≤ maxLen) : Calls Tryz.prog 19 #[.string s] w fun e w' => ∃ (a : ByteArray) (b : Int) (o : Bool), e = .returned (.tuple #[.string a, .int .i64 b, .bool o]) ∧ ((o && (a.toList == log.toList)) = ofLog log s.data.toList) ∧ Below w.heap.size w w' := by
  have he : (s.extract 0 (s.size - 15)).toList = s.data.toList.take (s.data.toList.length - 15) := by
    rw [ByteArray.toList_eq]
    simp
  cases hk : okName s.data.toList with
  | true =>
    refine (parse_true s _ _ w hs hk rfl rfl).mono ?_
    rintro e w' ⟨rfl, hb⟩
    refine ⟨_, _, _, rfl, ?_, hb⟩
    unfold ofLog
    rw [hk, he, ByteArray.toList_eq]
  | false =>
    refine (parse_false s w hs hk).mono ?_
    rintro e w' ⟨rfl, hb⟩
    refine ⟨_, _, _, rfl, ?_, hb⟩
    unfold ofLog
    rw [hk]
    rfl
theorem name_max {s : List UInt8} (h : nameOk s = true) : s.length ≤ 32 := by
  unfold nameOk at h
  simp only [Bool.and_eq_true, decide_eq_true_eq] at h
  exact h.2
set_option maxRecDepth 100000 in
set_option maxHeartbeats 2000000 in
theorem logNames_b {w : World} {S : Nat → Prop} {q : Nat} {d : Dk} (h : DiskAt w S q d) (log : ByteArray) :
    Calls Tryz.prog 63 #[.pointer (some ⟨q, 0, none⟩), .string log] w fun e w' => ∃ v, e = .returned v ∧ rowAt w' 9 1 v (d.namesOf log).length ((d.namesOf log).map encStr) ∧ (∀ k, v.ownBlock = some k → w.heap.size ≤ k) ∧ Below w.heap.size w w' := by
  have hnm : ∀ x ∈ d.names, x.length ≤ 32 := fun x hx => by
    obtain ⟨mb, fv, L, h⟩ := h
    unfold Dk.names at hx
    obtain ⟨f, hf, rfl⟩ := List.mem_map.1 hx
    exact name_max (h.names f (List.mem_filter.1 hf).1)
  have hso : (d.namesOf log).Pairwise (fun a b => leB a b = true) := by
    obtain ⟨mb, fv, L, h⟩ := h
    have h1 : (d.namesOf log).Sublist (d.files.map (·.name)) := (List.filter_sublist).trans (show d.names.Sublist _ from (List.filter_sublist (p := fun f : F0 => f.there) (l := d.files)).map (fun f : F0 => f.name))
    exact (h.sorted.sublist h1).imp (fun {a b} hab => by simpa [leB] using List.le_of_lt hab)
  have hfw : d.names.length ≤ 4096 := by
    obtain ⟨mb, fv, L, h⟩ := h
    unfold Dk.names
    rw [List.length_map]
    exact Nat.le_trans (List.length_filter_le _ _) h.few
  obtain ⟨N, hN⟩ : ∃ N, d.names.length = N := ⟨_, rfl⟩
  rw [hN] at hfw
  have HN := Lib.hid (And.intro hnm (And.intro hso hN))
  have HNM := Lib.hid (Names_b h)
  clear h hnm hso hN
  go_enter Tryz.func63, Tryz.ntmps63
  go_wp2_with fail
  refine HNM.out.mono ?_
  rintro e w1 ⟨v, rfl, hr, hown, hb⟩
  obtain ⟨oa, c, rfl, -⟩ := hr.shape
  rw [HN.out.2.2] at hr hown ⊢
  have H1 := Lib.hid (And.intro hr (And.intro hown hb))
  clear hr hown hb HNM
  go_wp2_with fail
  go_loopw [5, 14] (fun s5 s14 wr => ∃ (t k : Nat) (oz : Option Addr) (cz : Nat), s14 = .int .i64 (t : Int) ∧ s5 = .slice oz k cz ∧ t ≤ N ∧ k ≤ t ∧ Hid (rowAt wr 9 1 (.slice oz k cz) k (namesUp log d.names t) ∧ (∀ j, (Value.slice oz k cz).ownBlock = some j → w1.heap.size ≤ j) ∧ Below w1.heap.size w1 wr)) (fun _ s14 _ => N - (intOf s14).toNat)
  case atStart => exact ⟨0, 0, none, 0, rfl, rfl, Nat.zero_le _, Nat.le_refl _, Lib.hid ⟨⟨rfl, .inl ⟨rfl, rfl⟩⟩, fun j hj => by simp [Value.ownBlock] at hj, Below.refl _ _⟩⟩
  case round =>
    obtain ⟨t, k, oz, cz, rfl, rfl, ht, hkt, HR⟩ := hrel
    by_cases hlt : t < N
    · have hi : t < d.names.length := by rw [HN.out.2.2]; exact hlt
      have hrw := H1.out.1.kept (fun k hk => HR.out.2.2.block k (H1.out.1.lt k hk))
      obtain ⟨g, off, rfl⟩ := hrw.read.addr (by omega)
      obtain ⟨nm, hnm⟩ : ∃ a : ByteArray, a = ⟨(d.names[t]).toArray⟩ := ⟨_, rfl⟩
      have hnd : nm.data.toList = d.names[t] := by rw [hnm]
      have k0 : wr.cell? ⟨g, off + t, none⟩ = some (.string nm) := by
        have := hrw.cells rfl t (encStr d.names[t]) (by rw [List.getElem?_map, List.getElem?_eq_getElem hi]; rfl)
        rw [hnm]
        simpa [Go.WideShapes.add_plain] using this
      have hsz : nm.size ≤ maxLen := by
        have h1 := HN.out.1 _ (List.getElem_mem hi)
        rw [← hnd] at h1
        have : nm.data.toList.length = nm.size := by simp
        unfold maxLen
        omega
      have hs := namesUp_succ (log := log) hi
      rw [← hnd, show encStr nm.data.toList = .string nm from rfl] at hs
      have HS := Lib.hid hs
      have HP := Lib.hid (parse_of nm log wr hsz)
      clear hrw hnm hnd hsz hs hi
      go_wp2_with fail
      refine HP.out.mono ?_
      rintro e w2 ⟨a, b, o, rfl, hof, hb2⟩
      have hrow2 := HR.out.1.kept (fun k hk => hb2.block k (HR.out.1.lt k hk))
      have H2 := Lib.hid (And.intro hrow2 (And.intro hb2 hof))
      clear hrow2 hb2 HP
      cases ho : ofLog log nm.data.toList with
      | false =>
        rw [ho] at hof
        have hst : Hid (rowAt w2 9 1 (.slice oz k cz) k (namesUp log d.names (t + 1)) ∧ (∀ j, (Value.slice oz k cz).ownBlock = some j → w1.heap.size ≤ j) ∧ Below w1.heap.size w1 w2) := Lib.hid ⟨by rw [HS.out, ho]; exact H2.out.1, HR.out.2.1, HR.out.2.2.trans (H2.out.2.1.mono HR.out.2.2.size)⟩
        clear ho
        cases o
        · clear hof
          go_wp2_with fail
          exact ⟨⟨t + 1, k, oz, cz, by simp, rfl, by omega, by omega, hst⟩, by simp [intOf]; omega⟩
        · have ha : (a.toList == log.toList) = false := hof
          clear hof
          go_wp2_with fail
          exact ⟨⟨t + 1, k, oz, cz, by simp, rfl, by omega, by omega, hst⟩, by simp [intOf]; omega⟩
      | true =>
        rw [ho] at hof
        have HO := Lib.hid ho
        clear ho
        cases o
        · cases hof
        · have ha : (a.toList == log.toList) = true := hof
          clear hof
          go_wp2_with (at_builtin; refine wpList_append_str rfl (.tmp 30) (.tmp 32) rfl H2.out.1 (by omega) (by rfl) (by rfl) ?_; intro oa3 c3 w3 HR3 HG3 HO3)
          have hb0 : Below w1.heap.size w1 w2 := HR.out.2.2.trans (H2.out.2.1.mono HR.out.2.2.size)
          refine ⟨⟨t + 1, k + 1, oa3, c3, by simp, rfl, by omega, by omega, Lib.hid ⟨by rw [HS.out, HO.out]; exact HR3.out, fun j hj => ?_, ?_⟩⟩, by simp [intOf]; omega⟩
          · have := hb0.size
            rcases HO3.out with e | e
            · exact HR.out.2.1 j (by rw [← e]; exact hj)
            · rw [hj] at e
              simp only [Option.some.injEq] at e
              omega
          · exact (hb0.alloc hb0.size _).grown HG3.out (by have := hb0.size; simp; omega) (fun j hj => HR.out.2.1 j hj)
    · obtain rfl : N = t := by omega
      have e : namesUp log d.names N = (d.namesOf log).map encStr := by
        unfold namesUp Dk.namesOf
        rw [← HN.out.2.2, List.take_length]
      have hk : k = (d.namesOf log).length := by
        have := HR.out.1.1
        rw [e, List.length_map] at this
        omega
      have hrow := HR.out.1
      rw [e] at hrow
      have HROW := Lib.hid hrow
      have HK := Lib.hid hk
      clear e hrow hk
      go_wp2_with fail
      refine (valuesStrs_b wr oz k cz).mono ?_
      rintro e w2 ⟨rfl, hw2⟩
      have hat : ValsAt w2 43 9 wr.heap.size ((d.namesOf log).map encStr) := by
        rw [hw2]
        exact valuesStrs_at (by rw [List.length_map, ← HK.out]; exact HROW.out)
      have hb2 : Below wr.heap.size wr w2 := by rw [hw2]; exact (Below.refl _ _).alloc (Nat.le_refl _) _
      have hst := valsStrs_told 7 (by omega) wr.heap.size w2 ((d.namesOf log).map encStr) hat (by rw [List.length_map, ← HK.out]; omega)
      have HSO := Lib.hid (sorted_b (w := w2) (gf := 184) (lb := #[.pointer (some ⟨wr.heap.size, 0, none⟩)]) trivial (enters_of Tryz.func184 (by kernel_rfl) rfl) (by rw [← HK.out]; omega) HN.out.2.1 hst (Below.refl _ _))
      have HB2 := Lib.hid hb2
      clear hat hb2 hst hw2
      go_wp2_with fail
      refine HSO.out.mono ?_
      rintro e w3 ⟨v, rfl, h1, h2, h3⟩
      have H3 := Lib.hid (And.intro h1 (And.intro h2 h3))
      clear h1 h2 h3
      go_wp2_with fail
      go_ret
      have b1 := H1.out.2.2
      have b2 := b1.trans (HR.out.2.2.mono b1.size)
      have b3 := b2.trans (HB2.out.mono b2.size)
      exact ⟨v, rfl, H3.out.1, fun k hk => Nat.le_trans b3.size (H3.out.2.1 k hk), b3.trans (H3.out.2.2.mono b3.size)⟩
end Go.Proofs.YtlgcoaeddeiegaaGreat
