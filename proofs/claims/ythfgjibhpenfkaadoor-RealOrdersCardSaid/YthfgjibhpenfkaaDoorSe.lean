/- Stats: Clone, real.Sort, Nth, Quantile. -/
import Derived.Test.YthfgjibhpenfkaaDoorSd
import Derived.Test.YthfgjibhpenfkaaDoorKit
import Derived.OwnWalk
namespace Go.Proofs.YthfgjibhpenfkaaDoor
open Go.RowKit Fl Go.Shelf

theorem info_fl : (Tryd.prog.info? 26).map (fun i => (i.zero, i.size, i.bytes)) = some (some (.float .f64 0), 1, 8) := by kernel_rfl
theorem emptyRowS (w : World) (T : TypeId) (size : Nat) : hasRow (w.alloc (.cells #[] T)) w.heap.size T size (.slice (some ⟨w.heap.size, 0, none⟩) 0 0) 0 [] :=
  ⟨by simp, .inr ⟨_, 0, #[], (0, 0), rfl, Nat.le_refl _, heap_alloc_new _ _, Nat.le_refl _, Nat.zero_le _, by simp, fun j hj => by simp at hj, by simp⟩⟩
/-- the floats as cells -/
def flC (d : Array W64) : List Value := d.toList.map encW
theorem flC_len (d : Array W64) : (flC d).length = d.size := by simp [flC]
theorem flC_one (d : Array W64) : ∀ v ∈ flC d, v.oneCell' = true := by
  intro v hv
  obtain ⟨x, _, rfl⟩ := List.mem_map.1 hv
  rfl
/-- a row of floats, in order or not: d -/
structure RowF (w : World) (ad : Addr) (d : Array W64) : Prop where
  cells : ∀ (j : Nat) (v : Value), (flC d)[j]? = some v → w.cell? (ad.add j) = some v

set_option maxRecDepth 100000 in
set_option maxHeartbeats 400000 in
/-- a copy of floats, in memory of its own -/
theorem clone_b (ad : Addr) (c : Nat) (d : Array W64) (w : World) (h : RowF w ad d) (hn : 1 ≤ d.size) (hm : d.size ≤ 1000000) :
    Calls Tryd.prog 31 #[.slice (some ad) d.size c] w fun e w' => ∃ g cap, w.heap.size ≤ g ∧ e = .returned (.slice (some ⟨g, 0, none⟩) d.size cap) ∧ Sort.Holds encW w' g 0 d ∧ g < w'.heap.size ∧ Below w.heap.size w w' := by
  have hnil : ∀ W : World, Sem.run Tryd.prog (binOp .eql 22 (.slice (some ad) d.size c) (.slice none 0 0)) W = .ok (.bool false) W := fun W => by kernel_rfl
  have H := Lib.hid h
  clear h
  go_enter Tryd.func31, Tryd.ntmps31
  go_wp2_with (at_builtin; refine wpList_append_row _ rfl (.tmp 5) (.tmp 6) 22 22 rfl w.heap.size 26 (.float .f64 0) 1 8 Tryd.underlying22 info_fl rfl _ 0 _ rfl (emptyRowS w _ _) _ d.size (flC d) rfl (Src.slice Tryd.underlying22 ad d.size c _ (by rw [flC_len]; omega) (fun j v hv => by rw [(Below.refl w.heap.size w |>.alloc (Nat.le_refl _) _).cell (World.block_lt_of_cell? w _ (H.out.cells j v hv))]; exact H.out.cells j v hv) (flC_one d)) ?_ ?_ ?_ ?_)
  · unfold maxLen; omega
  · omega
  · simp
  · intro vv w5 hr5 hg5 _
    obtain ⟨_, ⟨_, h0⟩ | ⟨g, cap, cur, fr, rfl, hb, hg, hc, _, hs, hfree, ht⟩⟩ := hr5
    · omega
    · go_wp2_with fail
      go_ret
      refine ⟨g, cap, hb, rfl, fun j hj => ?_, (Array.getElem?_eq_some_iff.1 hg).1, ?_⟩
      · rw [Nat.mul_one] at hs ht
        have hj2 : j < cur.size := by omega
        refine ⟨?_, ?_⟩
        · rw [Nat.zero_add, cell_of_row w5 g j _ _ _ hg]
          have : (cur.toList.take d.size)[j]? = (flC d)[j]? := by rw [ht]
          rw [List.getElem?_take, if_pos hj, Array.getElem?_toList] at this
          rw [this, flC, List.getElem?_map, Array.getElem?_toList, Array.getElem?_eq_getElem hj, getElem!_pos d j hj]
          rfl
        · have := hfree j hj2
          simp only [World.frozen?, hg, Nat.zero_add]
          simpa using this
      · exact ((Below.refl _ _).alloc (Nat.le_refl _) _).grown hg5 (by simp) (fun k hk => by simp [Value.ownBlock] at hk; omega)

/-- sorted floats: what Sort hands back -/
def SortOf (d d' : Array W64) : Prop := Sort.PermIn 0 d.size d d' ∧ Sort.SortedIn (ltOf cmpW) 0 d.size d' ∧ d' = Sort.pdq (ltOf cmpW) d 0 d.size (Lib.bitLen d.size) true true
theorem sort_b (ad : Addr) (c : Nat) (d : Array W64) (w : World) (h : RowF w ad d) (hn : 1 ≤ d.size) (hm : d.size ≤ 65536) :
    Calls Tryd.prog 8 #[.slice (some ad) d.size c] w fun e w' => ∃ g cap d', w.heap.size ≤ g ∧ e = .returned (.tuple #[.slice (some ⟨g, 0, none⟩) d.size cap, .int .i64 0]) ∧ SortOf d d' ∧ Sort.Holds encW w' g 0 d' ∧ g < w'.heap.size ∧ Below w.heap.size w w' := by
  have H := Lib.hid h
  have hd : decide ((65536 : Int) < (d.size : Int)) = false := by simp; omega
  have HN := Lib.hid (And.intro hn hm)
  clear h hn hm
  go_enter Tryd.func8, Tryd.ntmps8
  go_wp2_with fail
  refine (clone_b ad c d _ H.out HN.out.1 (by have := HN.out.2; omega)).mono ?_
  rintro e w1 ⟨g, cap, hg, rfl, hh, hlt, hb⟩
  have HH := Lib.hid hh
  have HL := Lib.hid hlt
  have HB := Lib.hid hb
  have HG := Lib.hid hg
  clear hh hlt hb hg
  go_wp2_with fail
  refine (sortfunc_b g cap d _ HH.out HL.out (by have := HN.out.2; omega)).mono ?_
  rintro e w2 ⟨rfl, d', p1, p2, p3, hh2, hg2⟩
  have HS : Hid (SortOf d d') := Lib.hid ⟨p1, p2, p3⟩
  have HH2 := Lib.hid hh2
  have HG2 := Lib.hid hg2
  clear p1 p2 p3 hh2 hg2
  go_wp2_with fail
  go_ret2
  exact ⟨g, cap, d', HG.out, rfl, HS.out, HH2.out, Nat.lt_of_lt_of_le HL.out HG2.out.size, HB.out.grown HG2.out HB.out.size (fun k hk => by simp at hk; have := HG.out; omega)⟩
theorem nth_b (k : Nat) (ad : Addr) (c : Nat) (d : Array W64) (w : World) (h : RowF w ad d) (hn : k < d.size) (hm : d.size ≤ 65536) :
    Calls Tryd.prog 9 #[.int .i64 k, .slice (some ad) d.size c] w fun e w' => ∃ d', e = .returned (.tuple #[.float .f64 (d'[k]!).1, .int .i64 0]) ∧ SortOf d d' ∧ Below w.heap.size w w' := by
  have H := Lib.hid h
  have hd1 : decide ((k : Int) < 0) = false := by simp
  have hd2 : decide ((d.size : Int) ≤ (k : Int)) = false := by simp; omega
  have HN := Lib.hid (And.intro hn hm)
  have hk : (k : Int) < (d.size : Int) := by omega
  clear h hn hm
  go_enter Tryd.func9, Tryd.ntmps9
  go_wp2_with fail
  refine (sort_b ad c d _ H.out (by have := HN.out.1; omega) HN.out.2).mono ?_
  rintro e w1 ⟨g, cap, d', hg, rfl, hs, hh, hlt, hb⟩
  have hk2 : k < d'.size := by rw [hs.1.1]; exact HN.out.1
  have hc := (hh k hk2).1
  rw [Nat.zero_add] at hc
  have HS := Lib.hid hs
  have HB := Lib.hid hb
  have hc2 : w1.cell? ⟨g, k, none⟩ = some (.float .f64 (d'[k]!).1) := hc
  obtain ⟨xv, hxv⟩ : ∃ xv, xv = (d'[k]!).1 := ⟨_, rfl⟩
  rw [← hxv] at hc2
  have HX := Lib.hid hxv
  clear hs hb hh hg hc hlt hk2 hxv
  go_wp2_with fail
  go_ret2
  exact ⟨d', by rw [← HX.out]; rfl, HS.out, HB.out⟩
end Go.Proofs.YthfgjibhpenfkaaDoor
