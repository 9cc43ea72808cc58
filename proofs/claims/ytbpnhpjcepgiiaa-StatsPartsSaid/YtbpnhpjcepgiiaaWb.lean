/- Stats: a window that is not full. -/
import Derived.Test.YtbpnhpjcepgiiaaWa
import Derived.Test.YtbpnhpjcepgiiaaVe
import Derived.Deep.LoopGhost
import Derived.OwnWalk
import Derived.BigQuiet
namespace Go.Proofs.Ytbpnhpjcepgiiaa
open Go.RowKit Fl Go.Shelf

/-- a window: its row, its width; it has not turned -/
structure WinAt (w : World) (q : Nat) (v : Value) (n : Nat) : Prop where
  at_ : w.heap[q]? = some (.cells #[v, .int .i64 n, .int .i64 0] 142 (0, 0))
theorem WinAt.lt {w : World} {q n : Nat} {v : Value} (h : WinAt w q v n) : q < w.heap.size := (Array.getElem?_eq_some_iff.1 h.at_).1
theorem WinAt.cells {w : World} {q n : Nat} {v : Value} (h : WinAt w q v n) : w.cell? ⟨q, 0, none⟩ = some v ∧ w.cell? ⟨q, 1, none⟩ = some (.int .i64 n) ∧ w.cell? ⟨q, 2, none⟩ = some (.int .i64 0) ∧ ∀ k, w.frozen? ⟨q, k, none⟩ = false := by
  have h1 := h.at_
  refine ⟨?_, ?_, ?_, fun k => ?_⟩ <;> simp [World.cell?, World.frozen?, h1]
theorem WinAt.of {w w' : World} {q n : Nat} {v : Value} (h : WinAt w q v n) (e : w'.heap[q]? = w.heap[q]?) : WinAt w' q v n := ⟨by rw [e]; exact h.at_⟩
theorem WinAt.set {w : World} {q n : Nat} {v : Value} (h : WinAt w q v n) (v' : Value) : WinAt (w.setCell ⟨q, 0, none⟩ v') q v' n := ⟨by
  show (w.heap.modify q _)[q]? = _
  rw [Array.getElem?_modify, if_pos rfl, h.at_]
  rfl⟩
/-- all stays below B, but one block -/
structure Stay (w w' : World) (B q : Nat) : Prop where
  os : w'.os = w.os
  tape : w'.tape = w.tape
  output : w'.output = w.output
  size : w.heap.size ≤ w'.heap.size
  block : ∀ i, i < B → i ≠ q → w'.heap[i]? = w.heap[i]?
theorem Stay.refl (w : World) (B q : Nat) : Stay w w B q := ⟨rfl, rfl, rfl, Nat.le_refl _, fun _ _ _ => rfl⟩
theorem Stay.trans {w w1 w2 : World} {B q : Nat} (h : Stay w w1 B q) (g : Stay w1 w2 B q) : Stay w w2 B q :=
  ⟨g.os.trans h.os, g.tape.trans h.tape, g.output.trans h.output, Nat.le_trans h.size g.size, fun i hi hq => (g.block i hi hq).trans (h.block i hi hq)⟩
theorem Stay.ofBelow {w w' : World} {B q n : Nat} (h : Below n w w') (hB : B ≤ n) : Stay w w' B q := ⟨h.os, h.tape, h.output, h.size, fun i hi _ => h.block i (by omega)⟩
theorem Stay.below {w0 w w' : World} {B q n : Nat} (h : Stay w w' B q) (b : Below n w0 w) (hB : n ≤ B) (hq : n ≤ q) : Below n w0 w' :=
  ⟨h.os.trans b.os, h.tape.trans b.tape, h.output.trans b.output, Nat.le_trans b.size h.size, fun i hi => (h.block i (by omega) (by omega)).trans (b.block i hi)⟩

theorem wnew_b (n : Nat) (w : World) (h1 : 1 ≤ n) (hn : n ≤ 300) :
    Calls Try.prog 49 #[.int .i64 n] w fun e w' => e = .returned (.tuple #[.pointer (some ⟨w.heap.size, 0, none⟩), .int .i64 0]) ∧ WinAt w' w.heap.size (.slice none 0 0) n ∧ Below w.heap.size w w' := by
  have hd1 : decide ((n : Int) < 1) = false := by simp; omega
  have hd2 : decide ((65536 : Int) < (n : Int)) = false := by simp; omega
  clear h1 hn
  go_enter Try.func49, Try.ntmps49
  go_wp2_with fail
  go_ret2
  exact ⟨rfl, ⟨heap_alloc_new _ _⟩, (Below.refl _ _).alloc (Nat.le_refl _) _⟩
theorem wnone_b (q n : Nat) (v : Value) (w : World) (h : WinAt w q v n) (h1 : 1 ≤ n) :
    Calls Try.prog 81 #[.pointer (some ⟨q, 0, none⟩)] w fun e w' => e = .returned (.bool false) ∧ w = w' := by
  obtain ⟨-, c1, -, -⟩ := h.cells
  have hd : ((n : Int) == 0) = false := by simp; omega
  clear h h1
  go_enter Try.func81, Try.ntmps81
  go_wp2_with fail
  go_ret
  exact ⟨rfl, rfl⟩
theorem win_types : (22 : TypeId) ≠ 142 := by decide
set_option maxRecDepth 100000 in
set_option maxHeartbeats 400000 in
theorem wadd_b (q n k x B : Nat) (v : Value) (F : Nat → Nat) (w : World) (h : WinAt w q v n) (hr : hasRow w B 22 1 v k (fl F k)) (hk : k < n) (hn : n ≤ 300) (hB : B ≤ w.heap.size) :
    Calls Try.prog 50 #[.pointer (some ⟨q, 0, none⟩), .float .f64 x] w fun e w' => e = .returned (.int .i64 0) ∧ ∃ v', WinAt w' q v' n ∧ hasRow w' B 22 1 v' (k + 1) (fl F k ++ [.float .f64 x]) ∧ Stay w w' B q := by
  have H := Lib.hid h
  have HR := Lib.hid hr
  have hd : decide ((k : Int) < (n : Int)) = true := by simp; omega
  obtain ⟨oa, c, rfl⟩ := row_any hr
  obtain ⟨c0, c1, c2, cfr⟩ := h.cells
  clear h hr
  go_enter Try.func50, Try.ntmps50
  go_wp2_with fail
  refine (wnone_b q n _ _ H.out (by omega)).mono ?_
  rintro e w' ⟨rfl, rfl⟩
  go_upto_region 3 with fail
  go_quiet (fail)
  obtain ⟨w1, hw1⟩ : ∃ w1, w1 = w.drewN nq := ⟨_, rfl⟩
  have e0 : w1.cell? ⟨q, 0, none⟩ = some (.slice oa k c) := by rw [hw1]; exact c0
  have H1 : Hid (WinAt w1 q (.slice oa k c) n) := Lib.hid ⟨by rw [hw1]; exact H.out.at_⟩
  have HR1 : Hid (hasRow w1 B 22 1 (.slice oa k c) k (fl F k)) := Lib.hid (by rw [hw1]; exact HR.out)
  have S1 : Hid (Stay w w1 B q) := Lib.hid (by rw [hw1]; exact ⟨rfl, rfl, rfl, Nat.le_refl _, fun _ _ _ => rfl⟩)
  rw [← hw1]
  have HSZ : Hid (w1.heap.size = w.heap.size) := Lib.hid (by rw [hw1]; rfl)
  clear hw1 c0 c1 c2 cfr
  go_wp2_with (at_builtin; refine wpList_append_row _ rfl (.tmp 23) (.tmp 25) 25 25 rfl B 22 (.float .f64 0) 1 8 Try.underlying25 info_f64 rfl _ k (fl F k) rfl (HR1.out.alloc _) _ 1 [.float .f64 x] rfl (Src.slice Try.underlying25 ⟨w1.heap.size, 0, none⟩ 1 1 _ rfl (cell_one_new _ _ _) (by simp [Value.oneCell'])) ?_ ?_ ?_ ?_)
  · unfold maxLen; omega
  · omega
  · have := HSZ.out; simp; omega
  · intro v' w2 hr2 hg2 _
    have hsz := HSZ.out
    obtain ⟨oa', c', rfl⟩ := row_any hr2
    have h2 : WinAt w2 q (.slice oa k c) n := (H1.out.of (Below.heap_alloc w1 (.cells #[.float .f64 x] 22) q H1.out.lt)).of (hg2.block q (by simp; have := H1.out.lt; omega) (fun e => HR1.out.neT H1.out.at_ win_types e.symm))
    obtain ⟨e0', e1', e2', efr⟩ := h2.cells
    have H2 := Lib.hid h2
    have HR2 := Lib.hid hr2
    have S2 : Hid (Stay w w2 B q) := Lib.hid (S1.out.trans ⟨hg2.os, hg2.tape, hg2.output, by have := hg2.size; simp at this; omega, fun i hi hq => (hg2.block i (by simp; omega) (fun e => by have := (HR1.out.lt i e.symm).1; omega)).trans (Below.heap_alloc w1 _ i (by omega))⟩)
    clear h2 hr2 hg2 e0 hsz
    go_wp2_with fail
    go_ret
    refine ⟨rfl, _, H2.out.set _, ?_, S2.out.trans ⟨rfl, rfl, rfl, by simp [World.setCell], fun i hi hq => ?_⟩⟩
    · exact HR2.out.kept (grown_setCell _ _ _ _) (.inr (HR2.out.neT H2.out.at_ win_types))
    · show (w2.heap.modify q _)[i]? = _
      rw [Array.getElem?_modify, if_neg (fun e => hq e.symm)]
theorem wlen_b (q n : Nat) (oa : Option Addr) (k c : Nat) (w : World) (h : WinAt w q (.slice oa k c) n) (h1 : 1 ≤ n) :
    Calls Try.prog 53 #[.pointer (some ⟨q, 0, none⟩)] w fun e w' => e = .returned (.int .i64 k) ∧ w' = w := by
  have H := Lib.hid h
  obtain ⟨c0, -, -, -⟩ := h.cells
  clear h
  go_enter Try.func53, Try.ntmps53
  go_wp2_with fail
  refine (wnone_b q n _ _ H.out h1).mono ?_
  rintro e w' ⟨rfl, rfl⟩
  go_wp2_with fail
  go_ret
  exact ⟨rfl, rfl⟩
set_option maxRecDepth 100000 in
set_option maxHeartbeats 400000 in
theorem wsorted_b (q n c g : Nat) (F : Nat → Nat) (w : World) (h : WinAt w q (.slice (some ⟨g, 0, none⟩) n c) n) (hf : FloatsAt w (some ⟨g, 0, none⟩) n F) (h1 : 1 ≤ n) (hn : n ≤ 300) :
    Calls Try.prog 52 #[.pointer (some ⟨q, 0, none⟩)] w fun e w' => ∃ g' c', w.heap.size ≤ g' ∧ e = .returned (.slice (some ⟨g', 0, none⟩) n c') ∧ (∀ i, i < n → w'.cell? ⟨g', i, none⟩ = some (.float .f64 ((sF F n)[i]!).1)) ∧ g' < w'.heap.size ∧ Below w.heap.size w w' := by
  have H := Lib.hid h
  have HF := Lib.hid hf
  obtain ⟨c0, -, -, -⟩ := h.cells
  clear h hf
  go_enter Try.func52, Try.ntmps52
  go_wp2_with fail
  refine (wnone_b q n _ _ H.out h1).mono ?_
  rintro e w' ⟨rfl, rfl⟩
  go_wp2_with fail
  have hs := sort_b ⟨g, 0, none⟩ c (dF F n) w (dF_row HF.out) (by rw [dF_size]; exact h1) (by rw [dF_size]; omega)
  rw [dF_size] at hs
  refine hs.mono ?_
  rintro e w1 ⟨g', c', d', hg', rfl, hso, hh, hlt, hb⟩
  have HSO := Lib.hid hso
  have HH := Lib.hid hh
  have HB := Lib.hid (And.intro hg' (And.intro hlt hb))
  clear hs hso hh hg' hlt hb
  go_wp2_with fail
  go_ret
  refine ⟨g', c', HB.out.1, rfl, fun i hi => ?_, HB.out.2.1, HB.out.2.2⟩
  have hd : d' = sF F n := HSO.out.2.2
  have := (HH.out i (by rw [hd, sF_size]; exact hi)).1
  rw [hd, Nat.zero_add] at this
  exact this
set_option maxRecDepth 100000 in
set_option maxHeartbeats 1000000 in
theorem wmean_b (q n c g z : Nat) (F : Nat → Nat) (m : Nat → Int) (w : World) (h : WinAt w q (.slice (some ⟨g, 0, none⟩) n c) n) (hf : FloatsAt w (some ⟨g, 0, none⟩) n F) (hF : ∀ i, i < n → F i = fi (m i) ∧ (m i).natAbs < 1048576) (h1 : 1 ≤ n) (hn : n ≤ 300)
    (hz : Ieee.double.div (fi (sumI m n)) (i2r n) = some z) :
    Calls Try.prog 51 #[.pointer (some ⟨q, 0, none⟩)] w fun e w' => e = .returned (.tuple #[.float .f64 z, .int .i64 0]) ∧ Below w.heap.size w w' := by
  have H := Lib.hid h
  have HF := Lib.hid hf
  have HFF := Lib.hid hF
  have hd0 : ((n : Int) == 0) = false := by simp; omega
  obtain ⟨c0, -, -, -⟩ := h.cells
  clear h hf hF
  go_enter Try.func51, Try.ntmps51
  go_wp2_with fail
  refine (wnone_b q n _ _ H.out h1).mono ?_
  rintro e w' ⟨rfl, rfl⟩
  go_wp2_with fail
  go_loopg [4, 21] n (fun k0 s4 s21 wr => ∃ i : Nat, s4 = .float .f64 (fi (sumI m i)) ∧ s21 = .int .i64 i ∧ k0 = n - i ∧ i ≤ n ∧ ∃ j, wr = w.drewN j)
  case atStart => exact ⟨0, rfl, rfl, rfl, Nat.zero_le _, 0, rfl⟩
  case round =>
    obtain ⟨i, rfl, rfl, hgi, hi, j, rfl⟩ := hrel
    have H1 : Hid (WinAt (w.drewN j) q (.slice (some ⟨g, 0, none⟩) n c) n) := Lib.hid ⟨H.out.at_⟩
    by_cases hlt : i < n
    · have hdi : decide ((i : Int) < (n : Int)) = true := by simp; omega
      have hmod : (i : Int).tmod (n : Int) = (i : Int) := by rw [Int.tmod_eq_of_lt (by omega) (by omega)]
      obtain ⟨ad, ha, cx, _, _⟩ := HF.out i hlt
      obtain rfl := Option.some.inj ha
      rw [addg, (HFF.out i hlt).1] at cx
      have hb := sumI_bound m i fun t ht => (HFF.out t (by omega)).2
      have q1 := add_fi (sumI m i) (m i) (by omega) (by have := (HFF.out i hlt).2; omega)
      have c2 : w.cell? ⟨q, 2, none⟩ = some (.int .i64 0) := H.out.cells.2.2.1
      obtain ⟨a, ha'⟩ : ∃ a, a = fi (sumI m i) := ⟨_, rfl⟩
      obtain ⟨b, hb'⟩ : ∃ b, b = fi (m i) := ⟨_, rfl⟩
      obtain ⟨d, hd'⟩ : ∃ d, d = fi (sumI m i + m i) := ⟨_, rfl⟩
      rw [← ha', ← hb', ← hd'] at q1
      rw [← hb'] at cx
      rw [← ha']
      have HD : Hid (d = fi (sumI m (i + 1))) := Lib.hid hd'
      have r1 := fun (T : TypeId) (W : World) => run_float_arith (P := Try.prog) W .add T .f64 a b d q1
      clear ha ha' hb' hd' hb q1
      go_upto_region 9 with fail
      go_quiet (fail)
      go_wp2_with fail
      go_roundg (n - (i + 1))
      case measure => omega
      case rel => exact ⟨i + 1, by rw [HD.out], by go_num, rfl, by omega, _, rfl⟩
    · obtain rfl : i = n := by omega
      have hdi : decide ((i : Int) < (i : Int)) = false := by simp
      obtain ⟨c0', -, -, -⟩ := H1.out.cells
      obtain ⟨y, hy⟩ : ∃ y, y = i2r i := ⟨_, rfl⟩
      obtain ⟨a, ha'⟩ : ∃ a, a = fi (sumI m i) := ⟨_, rfl⟩
      rw [← hy, ← ha'] at hz
      rw [← ha']
      have hcv : floatOfInt .f64 (i : Int) = y := by rw [hy, floatOfInt_nat]
      have r1 := fun (T : TypeId) (W : World) => run_float_arith (P := Try.prog) W .quo T .f64 a y z hz
      clear hy ha' hz c0
      go_wp2_with fail
      try rw [Exit.noGoto_ret]
      go_ret2
      exact ⟨rfl, below_drewN j⟩
end Go.Proofs.Ytbpnhpjcepgiiaa
