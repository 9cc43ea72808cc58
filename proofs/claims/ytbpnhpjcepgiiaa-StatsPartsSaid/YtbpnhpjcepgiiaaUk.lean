/- Stats: Copy, Reset, the law's lent and kept, likeness of what is told. -/
import Derived.Test.YtbpnhpjcepgiiaaUh
import Derived.Test.YtbpnhpjcepgiiaaSg
import Derived.Test.YtbpnhpjcepgiiaaKitc
import Derived.OwnWalk
import Derived.Test.YtbpnhpjcepgiiaaUi0
import Derived.Deep.LoopGhost
namespace Go.Proofs.Ytbpnhpjcepgiiaa
open Go.RowKit Fl

theorem copy_nil (w : World) : Calls Try.prog 37 #[.pointer none] w fun e w' => e = .returned (.pointer none) ∧ w = w' := by
  go_enter Try.func37, Try.ntmps37
  go_wp2_with fail
  go_ret
  exact ⟨rfl, rfl⟩
theorem reset_nil (w : World) : Calls Try.prog 44 #[.pointer none] w fun e w' => e = .returned (.int .i64 1) ∧ w = w' := by
  go_enter Try.func44, Try.ntmps44
  go_wp2_with fail
  go_ret
  exact ⟨rfl, rfl⟩
theorem add_nil (w : World) : Calls Try.prog 41 #[.pointer none, .slice none 0 0] w fun e w' => e = .returned (.int .i64 1) ∧ w = w' := by
  go_enter Try.func41, Try.ntmps41
  go_wp2_with fail
  go_ret
  exact ⟨rfl, rfl⟩
theorem copy_any (q : Nat) (t : Ta) (w : World) (h : TaAt w q t) :
    Calls Try.prog 37 #[.pointer (some ⟨q, 0, none⟩)] w fun e w' => e = .returned (.pointer (some ⟨w.heap.size, 0, none⟩)) ∧ TaAt w' w.heap.size t ∧ Below w.heap.size w w' := by
  obtain ⟨c0, c1, c2, c3, c4, c5, -⟩ := h.cells
  have hsf := run_store_float
  clear h
  go_enter Try.func37, Try.ntmps37
  go_wp2_with fail
  go_ret
  refine ⟨rfl, ⟨?_⟩, ?_⟩
  · exact heap_alloc_new w _
  · exact (Below.refl w.heap.size w).alloc (Nat.le_refl _) _
theorem reset_any (q : Nat) (t : Ta) (w : World) (h : TaAt w q t) :
    Calls Try.prog 44 #[.pointer (some ⟨q, 0, none⟩)] w fun e w' => e = .returned (.int .i64 0) ∧ TaAt w' q ⟨0, 0, 0, 0, 0, 0⟩ ∧ w.grownBy w' (some q) := by
  obtain ⟨c0, c1, c2, c3, c4, c5, hfr⟩ := h.cells
  have H := Lib.hid h
  have hsf := run_store_float
  clear h
  go_enter Try.func44, Try.ntmps44
  go_wp2_with fail
  go_ret
  exact ⟨rfl, (((((H.out.set0 0).set1 0).set2 0).set3 0).set4 0).set5 0, grown_trans (grown_setCell _ _ _ _) (grown_trans (grown_setCell _ _ _ _) (grown_trans (grown_setCell _ _ _ _) (grown_trans (grown_setCell _ _ _ _) (grown_trans (grown_setCell _ _ _ _) (grown_setCell _ _ _ _)))))⟩

/-- the floats of a slice, as values -/
def fl (f : Nat → Nat) (n : Nat) : List Value := (List.range n).map fun i => .float .f64 (f i)
theorem fl_get (f : Nat → Nat) (n j : Nat) (v : Value) (h : (fl f n)[j]? = some v) : j < n ∧ v = .float .f64 (f j) := by
  unfold fl at h
  rw [List.getElem?_map] at h
  obtain ⟨i, hi, rfl⟩ := Option.map_eq_some_iff.1 h
  obtain ⟨hj, hv⟩ := List.getElem?_eq_some_iff.1 hi
  rw [List.getElem_range] at hv
  subst hv
  exact ⟨by simpa using hj, rfl⟩
theorem fl_len (f : Nat → Nat) (n : Nat) : (fl f n).length = n := by simp [fl]
theorem fl_one (f : Nat → Nat) (n : Nat) : ∀ v ∈ fl f n, v.oneCell' = true := by
  intro v hv
  obtain ⟨i, _, rfl⟩ := List.mem_map.1 hv
  rfl
theorem fl_src {w : World} {oa : Option Addr} {n c : Nat} {f : Nat → Nat} (h : FloatsAt w oa n f) : Src Try.prog w 1 25 (.slice oa n c) n (fl f n) := by
  cases oa with
  | none =>
    have h0 : n = 0 := by
      rcases Nat.eq_zero_or_pos n with h0 | h0
      · exact h0
      · obtain ⟨_, h1, _⟩ := h 0 h0; cases h1
    subst h0
    exact Src.none Try.underlying25 c
  | some ad =>
    exact Src.slice Try.underlying25 ad n c _ (by rw [fl_len]; omega) (fun j v hj => by
      obtain ⟨h1, rfl⟩ := fl_get f n j v hj
      obtain ⟨_, h2, h3, _⟩ := h j h1
      obtain rfl := Option.some.inj h2
      exact h3) (fl_one f n)
theorem info_f64 : (Try.prog.info? 22).map (fun i => (i.zero, i.size, i.bytes)) = some (some (.float .f64 0), 1, 8) := by kernel_rfl

/-- floats in memory of their own, with a mark behind -/
structure LentAt (w : World) (g n : Nat) (f : Nat → Nat) : Prop where
  fl : FloatsAt w (some ⟨g, 0, none⟩) n f
  mark : w.cell? ⟨g, n, none⟩ = some (.float .f64 4631107791820423168)
theorem addg (g i : Nat) : (⟨g, 0, none⟩ : Addr).add i = ⟨g, i, none⟩ := by unfold Addr.add; split <;> simp_all
theorem LentAt.of {w w' : World} {g n : Nat} {f : Nat → Nat} (h : LentAt w g n f) (e : w'.heap[g]? = w.heap[g]?) (hs : w.heap.size ≤ w'.heap.size) : LentAt w' g n f where
  fl := fun i hi => by
    obtain ⟨ad, h1, h2, h3, h4⟩ := h.fl i hi
    obtain rfl := Option.some.inj h1
    refine ⟨_, rfl, ?_, Nat.lt_of_lt_of_le h3 hs, h4⟩
    rw [addg] at h2 ⊢
    rw [World.cell?_of_block (w := w) e]
    exact h2
  mark := by rw [World.cell?_of_block (w := w) e]; exact h.mark

theorem llike_quiet (x y : Nat) (w : World) (hx : x < 18446744073709551616) (hy : y < 18446744073709551616) (h : placeW x = placeW y) : Calls Try.prog 34 #[.float .f64 x, .float .f64 y] w fun e w' => e = .returned (.bool true) ∧ w' = w := (llike_any x y w hx hy).mono fun _ _ ⟨h1, h2⟩ => ⟨by rw [h1]; simp [h], h2.symm⟩
set_option maxRecDepth 100000 in
set_option maxHeartbeats 400000 in
theorem lent_b (oa : Option Addr) (n c : Nat) (f : Nat → Nat) (w : World) (hf : FloatsAt w oa n f) (hn : n ≤ 200) :
    Calls Try.prog 69 #[.slice oa n c] w fun e w' => ∃ g cap, e = .returned (.slice (some ⟨g, 0, none⟩) n cap) ∧ LentAt w' g n f ∧ w.heap.size ≤ g ∧ n + 1 ≤ cap ∧ cap ≤ maxLen ∧ Below w.heap.size w w' := by
  have HF := Lib.hid hf
  have HN := Lib.hid hn
  clear hf hn
  go_enter Try.func69, Try.ntmps69
  go_wp2_with (at_builtin; refine wpList_append_row _ rfl (.tmp 3) (.tmp 4) 25 25 rfl w.heap.size 22 (.float .f64 0) 1 8 Try.underlying25 info_f64 rfl _ 0 [] rfl (emptyRow w _ 1) _ n (fl f n) rfl (fl_src (HF.out.below ((Below.refl _ _).alloc (Nat.le_refl _) _))) ?_ ?_ ?_ ?_)
  · have := HN.out; unfold maxLen; omega
  · have := HN.out; omega
  · simp
  · intro v1 w1 hr1 hg1 _
    have HR1 : Hid (hasRow w1 w.heap.size 22 1 v1 n (fl f n)) := Lib.hid (by simpa using hr1)
    have HG1 := Lib.hid hg1
    clear hr1 hg1
    go_wp2_with (at_builtin; refine wpList_append_row _ rfl (.tmp 5) (.tmp 6) 25 25 rfl w.heap.size 22 (.float .f64 0) 1 8 Try.underlying25 info_f64 rfl _ n (fl f n) rfl (HR1.out.alloc _) _ 1 [.float .f64 4631107791820423168] rfl (Src.slice Try.underlying25 ⟨w1.heap.size, 0, none⟩ 1 1 _ rfl (cell_one_new _ _ _) (by simp [Value.oneCell'])) ?_ ?_ ?_ ?_)
    · have := HN.out; unfold maxLen; omega
    · have := HN.out; omega
    · have := HG1.out.size; simp at this ⊢; omega
    · intro v2 w2 hr2 hg2 _
      have HR2 := Lib.hid hr2
      have HG2 := Lib.hid hg2
      clear hr2 hg2
      have hh : ∃ g cap, v2 = .slice (some ⟨g, 0, none⟩) (n + 1) cap ∧ Hid (w.heap.size ≤ g ∧ g < w2.heap.size) ∧ n + 1 ≤ cap ∧ cap ≤ maxLen := by
        obtain ⟨_, ⟨_, h0⟩ | ⟨g, cap, cu, fr, rfl, hb, hg, h1, h2, _⟩⟩ := HR2.out
        · omega
        · exact ⟨g, cap, rfl, Lib.hid ⟨hb, (Array.getElem?_eq_some_iff.1 hg).1⟩, h1, h2⟩
      obtain ⟨g, cap, rfl, HB, hcap, hcap2⟩ := hh
      go_wp2_with fail
      go_ret
      refine ⟨g, cap, rfl, ⟨fun i hi => ⟨_, rfl, ?_, HB.out.2, by obtain ⟨_, _, _, _, h⟩ := HF.out i hi; exact h⟩, ?_⟩, HB.out.1, hcap, hcap2, ?_⟩
      · refine HR2.out.cells (g := g) rfl i _ ?_
        rw [List.getElem?_append_left (by rw [fl_len]; exact hi)]
        unfold fl
        rw [List.getElem?_map, List.getElem?_range hi]
        rfl
      · have := HR2.out.cells (g := g) rfl n (.float .f64 4631107791820423168) (by rw [List.getElem?_append_right (by rw [fl_len]; exact Nat.le_refl _), fl_len, Nat.sub_self]; rfl)
        rwa [addg] at this
      · have b1 := ((Below.refl w.heap.size w).alloc (Nat.le_refl _) (.cells #[] 22)).grown HG1.out (by simp) (fun k hk => by have : w.heap.size = k := Option.some.inj hk; omega)
        exact (b1.alloc b1.size (.cells #[.float .f64 4631107791820423168] 22)).grown HG2.out (by have := b1.size; simp; omega) (fun k hk => (HR1.out.lt k hk).1)

set_option maxRecDepth 100000 in
set_option maxHeartbeats 400000 in
theorem kept_b (g cap : Nat) (oa : Option Addr) (n c : Nat) (f : Nat → Nat) (w : World) (hm : LentAt w g n f) (hf : FloatsAt w oa n f) (hn : n ≤ 200) (hc : n + 1 ≤ cap) :
    Calls Try.prog 72 #[.slice (some ⟨g, 0, none⟩) n cap, .slice oa n c] w fun e w' => e = .returned (.bool true) ∧ Below w.heap.size w w' := by
  have HF := Lib.hid hf
  have HM := Lib.hid hm
  have HN := Lib.hid hn
  clear hf hm
  go_enter Try.func72, Try.ntmps72
  go_wp2_with fail
  go_loopg [5] n (fun k0 s5 wr => ∃ k : Nat, s5 = .int .i64 k ∧ k0 = n - k ∧ k ≤ n ∧ Hid (Below w.heap.size w wr))
  case atStart => exact ⟨0, rfl, rfl, Nat.zero_le _, Lib.hid (Below.refl _ _)⟩
  case round =>
    obtain ⟨k, rfl, hg, hk, HI⟩ := hrel
    by_cases hlt : k < n
    · have hdk : decide ((k : Int) < (n : Int)) = true := by simp; omega
      obtain ⟨ad, ha, c1, hb1, hfl⟩ := (HF.out.below HI.out) k hlt
      subst ha
      obtain ⟨ad2, ha2, c2, hb2, -⟩ := (HM.out.fl.below HI.out) k hlt
      obtain rfl := Option.some.inj ha2
      have HFL := Lib.hid hfl
      rw [addg] at c2
      clear hb1 hb2 hfl ha2
      go_upto_region 4 with fail
      go_quiet (first | (go_at_call 34; refine Calls.quiet_of_same (llike_quiet (f k) (f k) _ HFL.out HFL.out rfl)))
      go_wp2_with fail
      go_roundg (n - (k + 1))
      case measure => omega
      case rel => exact ⟨k + 1, by go_num, rfl, by omega, Lib.hid ⟨HI.out.os, HI.out.tape, HI.out.output, HI.out.size, HI.out.block⟩⟩
    · obtain rfl : k = n := by omega
      have hdk : decide ((k : Int) < (k : Int)) = false := by simp
      have cm : wr.cell? ⟨g, k, none⟩ = some (.float .f64 4631107791820423168) := by
        rw [HI.out.cell (p := ⟨g, k, none⟩) (World.block_lt_of_cell? w _ HM.out.mark)]
        exact HM.out.mark
      have heq : ∀ W : World, Sem.run Try.prog (Op.equalIn 9999 22 (.float .f64 4631107791820423168) (.float .f64 4631107791820423168)) W = .ok true W := fun W => by kernel_rfl
      go_wp2_with fail
      go_ret
      exact ⟨rfl, HI.out⟩
end Go.Proofs.Ytbpnhpjcepgiiaa
