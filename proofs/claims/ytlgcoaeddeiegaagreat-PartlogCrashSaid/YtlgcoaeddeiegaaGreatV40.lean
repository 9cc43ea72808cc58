/- The texts Pzo, Pzy, Xt in one. -/
import Derived.Test.YtlgcoaeddeiegaaGreatV30
import Derived.Deep.Slices
import Derived.Deep.FieldsWide
import Derived.ChangeArms
import Derived.WideShapes
import Derived.ProofKit
import Derived.OpenShut
import Derived.Lib.SmallJoins
import Derived.Test.YtlgcoaeddeiegaaGreatV36
import Derived.Test.YtlgcoaeddeiegaaGreatV39
/- law11: arguments opened: a Nothing. -/
namespace Go.Proofs.YtlgcoaeddeiegaaGreat
open Go Go.Maps Go.RowKit
section
open Go.ChangeShapes Go.WideShapes Go.ChangeAt Go.Joins
variable {H : Type} {enc : TypeId × Value → H} {w : World} {base b1 : Nat} {spare : Nat → Bool} {held : Bool} {rc : Reach} {v : Value} {d : DataW H} {p : List MemPlace} {fuel : Nat} {y : DataW H × List MemPlace}
theorem cells_intN : Tryz.prog.cellsOf 3 = 1 := by kernel_rfl
theorem cells_cfgN : Tryz.prog.cellsOf 23 = 2 := by kernel_rfl
theorem min_i64N : IntKind.i64.min = -9223372036854775808 := by decide +kernel
theorem max_i64N : IntKind.i64.max = 9223372036854775807 := by decide +kernel
theorem wf_i64N {k : Int} (h : (Lit.int .i64 k).wf = true) : -9223372036854775808 ≤ k ∧ k ≤ 9223372036854775807 := by
  simp only [Lit.wf, min_i64N, max_i64N, Bool.and_eq_true, decide_eq_true_eq] at h
  exact h
theorem cfg_in {cs : List Value} (hcs : cs.length = 2) (hf : DataW.trod enc Tryz.prog w base spare held fuel 23 cs = some y) :
    ∃ roll step : Int, cs = [.int .i64 roll, .int .i64 step] ∧ (-9223372036854775808 ≤ roll ∧ roll ≤ 9223372036854775807) ∧ (-9223372036854775808 ≤ step ∧ step ≤ 9223372036854775807) := by
  match cs, hcs with
  | [c0, c1], _ =>
    obtain ⟨xs, m, _, _, _, hlen, hg⟩ := DataW.trod_struct Tryz.underlying23 hf
    match xs, hlen with
    | [y0, y1], _ =>
      have g0 := hg 0 { name := "Roll", type := 3, offset := 0, embedded := false, tag := "", pkgPath := "", byteOffset := 0 } rfl
      have g1 := hg 1 { name := "Step", type := 3, offset := 1, embedded := false, tag := "", pkgPath := "", byteOffset := 8 } rfl
      simp only [cells_intN, List.drop_zero, List.take_succ_cons, List.take_zero, List.drop_succ_cons, List.getElem?_cons_zero, List.getElem?_cons_succ] at g0 g1
      obtain ⟨k, hk, _, hkw⟩ := DataW.trod_int Tryz.underlying3 g0
      obtain ⟨s, hs, _, hsw⟩ := DataW.trod_int Tryz.underlying3 g1
      simp only [List.cons.injEq, and_true] at hk hs
      subst hk
      subst hs
      exact ⟨k, s, rfl, wf_i64N hkw, wf_i64N hsw⟩
end
end Go.Proofs.YtlgcoaeddeiegaaGreat
/- law11: arguments opened: records, scripts. -/
namespace Go.Proofs.YtlgcoaeddeiegaaGreat
open Go Go.Maps Go.RowKit

theorem cells_getR {w : World} {base : Nat} {a : Addr} {n : Nat} {cs : List Value} (h : w.cells? base a n = some cs) : cs.length = n ∧ ∀ i, i < n → w.cell? (a.add i) = cs[i]? := by
  unfold World.cells? at h
  split at h
  · refine ⟨by rw [mapM_some_length h, List.length_range], fun i hi => ?_⟩
    exact mapM_some_get h i i (by rw [List.getElem?_range hi])
  · cases h
theorem flatMap_getR {α : Type} (enc : α → List Value) (size : Nat) (hs : ∀ x, (enc x).length = size) : ∀ (l : List α) (i k : Nat) (hi : i < l.length) (_ : k < size), (l.flatMap enc)[i * size + k]? = (enc l[i])[k]?
  | x :: r, 0, k, _, hk => by
    rw [List.flatMap_cons, List.getElem?_append_left (by rw [hs]; omega)]
    simp
  | x :: r, i + 1, k, hi, hk => by
    rw [List.flatMap_cons, List.getElem?_append_right (by rw [hs, Nat.add_mul]; omega), hs, show (i + 1) * size + k - size = i * size + k by rw [Nat.add_mul]; omega, flatMap_getR enc size hs r i k (by simpa using hi) hk]
    simp
theorem flatMap_lenR {α : Type} (enc : α → List Value) (size : Nat) (hs : ∀ x, (enc x).length = size) : ∀ l : List α, (l.flatMap enc).length = l.length * size
  | [] => by simp
  | x :: r => by
    rw [List.flatMap_cons, List.length_append, hs, flatMap_lenR enc size hs r, List.length_cons, Nat.add_mul]
    omega
theorem readAt_rowsR {α : Type} {w : World} {base : Nat} {a : Addr} {n cap size : Nat} (enc : α → List Value) (hs : ∀ x, (enc x).length = size) (h0 : 0 < size) (l : List α) (hl : l.length = n) (hc : n ≤ cap)
    (each : ∀ i (hi : i < l.length), w.cells? base (a.add (i * size)) size = some (enc l[i])) : readAt w size (.slice (some a) n cap) n (l.flatMap enc) := by
  refine ⟨by rw [flatMap_lenR enc size hs, hl], ?_⟩
  by_cases hn : n = 0
  · exact .inl ⟨hn, some a, cap, by rw [hn], fun h => by cases h⟩
  obtain ⟨b, off, spot⟩ := a
  obtain ⟨hl0, hg0⟩ := cells_getR (each 0 (by omega))
  have g0 := hg0 0 h0
  have hv : ∃ u, (enc (l[0]'(by omega)))[0]? = some u := ⟨_, List.getElem?_eq_getElem (by rw [hs]; exact h0)⟩
  obtain ⟨u, hu⟩ := hv
  rw [hu] at g0
  have hspot : spot = none := by simpa [Addr.add] using World.cell?_spot g0
  subst hspot
  have hcl : ∀ i k (hi : i < l.length), k < size → w.cell? ⟨b, off + i * size + k, none⟩ = (enc l[i])[k]? := fun i k hi hk => by
    have := (cells_getR (each i hi)).2 k hk
    rwa [Go.WideShapes.add_plain, Go.WideShapes.add_plain] at this
  refine .inr ⟨b, off, cap, rfl, by omega, ?_, hc, fun j u hj => ?_⟩
  · have := hcl 0 0 (by omega) h0
    rw [hu] at this
    exact World.block_lt_of_cell? w _ this
  · have hj1 : j < n * size := by
      have := (List.getElem?_eq_some_iff.1 hj).1
      rwa [flatMap_lenR enc size hs, hl] at this
    have hi : j / size < n := (Nat.div_lt_iff_lt_mul h0).2 hj1
    have hk : j % size < size := Nat.mod_lt _ h0
    have hjj : j / size * size + j % size = j := by rw [Nat.mul_comm]; exact Nat.div_add_mod j size
    rw [← hjj, flatMap_getR enc size hs l _ _ (by omega) hk] at hj
    have := hcl (j / size) (j % size) (by omega) hk
    rw [hj, Nat.add_assoc, hjj] at this
    exact this
section
open Go.ChangeShapes Go.WideShapes Go.ChangeAt Go.Joins
variable {H : Type} {enc : TypeId × Value → H} {w : World} {base b1 : Nat} {spare : Nat → Bool} {held : Bool} {rc : Reach} {v : Value} {d : DataW H} {p : List MemPlace} {fuel : Nat} {y : DataW H × List MemPlace}
theorem cells_u8R : Tryz.prog.cellsOf 5 = 1 := by kernel_rfl
theorem cells_intR : Tryz.prog.cellsOf 3 = 1 := by kernel_rfl
theorem cells_sl1R : Tryz.prog.cellsOf 39 = 1 := by kernel_rfl
theorem cells_sl3R : Tryz.prog.cellsOf 38 = 1 := by kernel_rfl
theorem min_u8R : IntKind.u8.min = 0 := by decide +kernel
theorem max_u8R : IntKind.u8.max = 255 := by decide +kernel
theorem min_i64R : IntKind.i64.min = -9223372036854775808 := by decide +kernel
theorem max_i64R : IntKind.i64.max = 9223372036854775807 := by decide +kernel
theorem wf_u8R {k : Int} (h : (Lit.int .u8 k).wf = true) : 0 ≤ k ∧ k < 256 := by
  simp only [Lit.wf, min_u8R, max_u8R, Bool.and_eq_true, decide_eq_true_eq] at h
  omega
theorem wf_i64R {k : Int} (h : (Lit.int .i64 k).wf = true) : -9223372036854775808 ≤ k ∧ k ≤ 9223372036854775807 := by
  simp only [Lit.wf, min_i64R, max_i64R, Bool.and_eq_true, decide_eq_true_eq] at h
  exact h
theorem open_rowR {α : Type} [Inhabited α] {t e : TypeId} (size : Nat) (hsz : Tryz.prog.cellsOf e = size) (h0 : 0 < size) (ht : Tryz.prog.underlying t = some (.slice e)) (en : α → List Value) (hs : ∀ x, (en x).length = size) (ok : α → Prop)
    (hel : ∀ (n : Nat) (cs : List Value) (y : DataW H × List MemPlace), cs.length = size → DataW.trod enc Tryz.prog w base spare held n e cs = some y → ∃ x, cs = en x ∧ ok x)
    (h : DataW.trod enc Tryz.prog w base spare held fuel t [v] = some y) : ∃ l : List α, readAt w size v l.length (l.flatMap en) ∧ (∀ x ∈ l, ok x) ∧ l.length ≤ 9223372036854775807 ∧ ∃ oa c, v = .slice oa l.length c := by
  rcases Deep.open_slice ht h with ⟨hc, _⟩ | ⟨a, len, cap, m, k, D, Pl, hc, _, hl, hm, hmm, hx, hall⟩
  · simp only [List.cons.injEq, and_true] at hc
    subst hc
    exact ⟨[], ⟨by simp, .inl ⟨rfl, none, 0, rfl, fun _ => rfl⟩⟩, (fun x hx => by cases hx), by simp, none, 0, rfl⟩
  · simp only [List.cons.injEq, and_true] at hc
    subst hc
    have hlm : len ≤ m := by rw [hmm]; split <;> omega
    rw [hsz] at hall
    obtain ⟨f, hF⟩ := Deep.choose_lt (n := len) (p := fun i x => w.cells? base (a.add (i * size)) size = some (en x) ∧ ok x) fun i hi => by
      obtain ⟨cs, h1, h2⟩ := hall i (by omega)
      obtain ⟨x, rfl, hx⟩ := hel _ cs _ (cells_getR h1).1 h2
      exact ⟨x, h1, hx⟩
    have hlen : ((List.range len).map f).length = len := by simp
    refine ⟨(List.range len).map f, ?_, fun x hx => ?_, by rw [hlen]; unfold maxLen at hm; omega, some a, cap, by rw [hlen]⟩
    · have := readAt_rowsR (w := w) (base := base) (a := a) (cap := cap) en hs h0 ((List.range len).map f) hlen hl (fun i hi => by
        rw [hlen] at hi
        simpa using (hF i hi).1)
      rw [hlen]
      exact this
    · obtain ⟨i, hi, rfl⟩ := List.mem_map.1 hx
      exact (hF i (List.mem_range.1 hi)).2
theorem flat_bytesR : ∀ l : List UInt8, (l.flatMap fun b => [Value.int .u8 (b.toNat : Int)]) = byteCells l
  | [] => rfl
  | b :: r => by
    rw [List.flatMap_cons, flat_bytesR r]
    rfl
theorem flat_intsR : ∀ l : List Int, (l.flatMap fun b => [Value.int .i64 b]) = intCells l
  | [] => rfl
  | b :: r => by
    rw [List.flatMap_cons, flat_intsR r]
    rfl
theorem open_bytesR (h : DataW.trod enc Tryz.prog w base spare held fuel 39 [v] = some y) : ∃ l : List UInt8, readAt w 1 v l.length (byteCells l) := by
  obtain ⟨l, hl, _, hlm, hv⟩ := open_rowR 1 cells_u8R (by omega) Tryz.underlying39 (fun b : UInt8 => [Value.int .u8 (b.toNat : Int)]) (fun _ => rfl) (fun _ => True) (fun n cs y hcs hy => by
    obtain ⟨k, hk, _, hw⟩ := DataW.trod_int Tryz.underlying5 hy
    have hr := wf_u8R hw
    refine ⟨UInt8.ofNat k.toNat, ?_, trivial⟩
    rw [hk]
    have : ((UInt8.ofNat k.toNat).toNat : Int) = k := by
      rw [UInt8.toNat_ofNat']
      omega
    rw [this]) h
  rw [flat_bytesR] at hl
  exact ⟨l, hl⟩
theorem open_intsR (h : DataW.trod enc Tryz.prog w base spare held fuel 38 [v] = some y) : ∃ l : List Int, readAt w 1 v l.length (intCells l) ∧ (∀ x ∈ l, -9223372036854775808 ≤ x ∧ x ≤ 9223372036854775807) ∧ l.length ≤ 9223372036854775807 ∧ ∃ oa c, v = .slice oa l.length c := by
  obtain ⟨l, hl, hok, hlm, hv⟩ := open_rowR 1 cells_intR (by omega) Tryz.underlying38 (fun b : Int => [Value.int .i64 b]) (fun _ => rfl) (fun x => -9223372036854775808 ≤ x ∧ x ≤ 9223372036854775807) (fun n cs y hcs hy => by
    obtain ⟨k, hk, _, hw⟩ := DataW.trod_int Tryz.underlying3 hy
    exact ⟨k, hk, wf_i64R hw⟩) h
  rw [flat_intsR] at hl
  exact ⟨l, hl, hok, hlm, hv⟩
theorem cells_tmR : Tryz.prog.cellsOf 2 = 1 := by kernel_rfl
theorem cells_rcR : Tryz.prog.cellsOf 150 = 3 := by kernel_rfl
theorem cells_rcsR : Tryz.prog.cellsOf 34 = 1 := by kernel_rfl
instance : Inhabited RcV := ⟨⟨⟨0, [], []⟩, .slice none 0 0, .slice none 0 0⟩⟩
set_option maxHeartbeats 1000000 in
theorem open_rec {cs : List Value} (hcs : cs.length = 3) (h : DataW.trod enc Tryz.prog w base spare held fuel 150 cs = some y) : ∃ x : RcV, cs = recCells x ∧ bytesRd w x.kv x.r.key ∧ bytesRd w x.vv x.r.val := by
  match cs, hcs with
  | [c0, c1, c2], _ =>
    obtain ⟨xs, m, _, _, _, hlen, hg⟩ := DataW.trod_struct Tryz.underlying150 h
    match xs, hlen with
    | [y0, y1, y2], _ =>
      have g0 := hg 0 { name := "Time", type := 2, offset := 0, embedded := false, tag := "", pkgPath := "", byteOffset := 0 } rfl
      have g1 := hg 1 { name := "Key", type := 39, offset := 1, embedded := false, tag := "", pkgPath := "", byteOffset := 8 } rfl
      have g2 := hg 2 { name := "Value", type := 39, offset := 2, embedded := false, tag := "", pkgPath := "", byteOffset := 32 } rfl
      simp only [cells_tmR, cells_sl1R, List.drop_zero, List.take_succ_cons, List.take_zero, List.drop_succ_cons, List.getElem?_cons_zero, List.getElem?_cons_succ] at g0 g1 g2
      obtain ⟨k, hk, _, _⟩ := DataW.trod_int Tryz.underlying2 g0
      obtain ⟨ks, hks⟩ := open_bytesR g1
      obtain ⟨vs, hvs⟩ := open_bytesR g2
      simp only [List.cons.injEq, and_true] at hk
      exact ⟨⟨⟨k, ks, vs⟩, c1, c2⟩, by rw [hk]; rfl, hks, hvs⟩
theorem open_recs (h : DataW.trod enc Tryz.prog w base spare held fuel 34 [v] = some y) : ∃ l : List Rc, RecsAt w v l ∧ l.length ≤ 9223372036854775807 ∧ ∃ oa c, v = .slice oa l.length c := by
  obtain ⟨l, hl, hok, hlm, oa, c, hv⟩ := open_rowR 3 cells_rcR (by omega) Tryz.underlying34 recCells (fun _ => rfl) (fun x => bytesRd w x.kv x.r.key ∧ bytesRd w x.vv x.r.val) (fun n cs y hcs hy => open_rec hcs hy) h
  exact ⟨l.map (·.r), ⟨l, rfl, hl, hok⟩, by rw [List.length_map]; exact hlm, oa, c, by rw [List.length_map]; exact hv⟩

theorem cells_stpR : Tryz.prog.cellsOf 41 = 9 := by kernel_rfl
theorem cells_fatR : Tryz.prog.cellsOf 37 = 1 := by kernel_rfl
theorem cells_strR2 : Tryz.prog.cellsOf 9 = 1 := by kernel_rfl
instance : Inhabited StpV := ⟨⟨0, 0, 0, 0, .slice none 0 0, [], .slice none 0 0, .slice none 0 0, ⟨#[]⟩, .slice none 0 0, 0, 0, 0⟩⟩
theorem open_slN {t e : TypeId} (ht : Tryz.prog.underlying t = some (.slice e)) (h : DataW.trod enc Tryz.prog w base spare held fuel t [v] = some y) : ∃ oa n c, v = .slice oa n c ∧ n ≤ 9223372036854775807 := by
  rcases Deep.open_slice ht h with ⟨hc, _⟩ | ⟨a, len, cap, m, k, D, Pl, hc, _, hl, hm, hmm, hx, hall⟩
  · simp only [List.cons.injEq, and_true] at hc
    exact ⟨none, 0, 0, hc, by omega⟩
  · simp only [List.cons.injEq, and_true] at hc
    have hlm : len ≤ m := by rw [hmm]; split <;> omega
    exact ⟨some a, len, cap, hc, by unfold maxLen at hm; omega⟩
set_option maxHeartbeats 1000000 in
theorem open_step {cs : List Value} (hcs : cs.length = 9) (h : DataW.trod enc Tryz.prog w base spare held fuel 41 cs = some y) : ∃ x : StpV, cs = x.cells ∧ StpOk w x := by
  match cs, hcs with
  | [c0, c1, c2, c3, c4, c5, c6, c7, c8], _ =>
    obtain ⟨xs, m, _, _, _, hlen, hg⟩ := DataW.trod_struct Tryz.underlying41 h
    match xs, hlen with
    | [y0, y1, y2, y3, y4, y5, y6, y7, y8], _ =>
      have g0 := hg 0 { name := "Kind", type := 3, offset := 0, embedded := false, tag := "", pkgPath := "", byteOffset := 0 } rfl
      have g1 := hg 1 { name := "Most", type := 3, offset := 1, embedded := false, tag := "", pkgPath := "", byteOffset := 8 } rfl
      have g2 := hg 2 { name := "From", type := 2, offset := 2, embedded := false, tag := "", pkgPath := "", byteOffset := 16 } rfl
      have g3 := hg 3 { name := "Until", type := 2, offset := 3, embedded := false, tag := "", pkgPath := "", byteOffset := 24 } rfl
      have g4 := hg 4 { name := "Records", type := 34, offset := 4, embedded := false, tag := "", pkgPath := "", byteOffset := 32 } rfl
      have g5 := hg 5 { name := "Fates", type := 37, offset := 5, embedded := false, tag := "", pkgPath := "", byteOffset := 56 } rfl
      have g6 := hg 6 { name := "Picks", type := 38, offset := 6, embedded := false, tag := "", pkgPath := "", byteOffset := 80 } rfl
      have g7 := hg 7 { name := "Name", type := 9, offset := 7, embedded := false, tag := "", pkgPath := "", byteOffset := 104 } rfl
      have g8 := hg 8 { name := "Bytes", type := 39, offset := 8, embedded := false, tag := "", pkgPath := "", byteOffset := 120 } rfl
      simp only [cells_tmR, cells_intR, cells_rcsR, cells_fatR, cells_sl3R, cells_strR2, cells_sl1R, List.drop_zero, List.take_succ_cons, List.take_zero, List.drop_succ_cons, List.getElem?_cons_zero, List.getElem?_cons_succ] at g0 g1 g2 g3 g4 g5 g6 g7 g8
      obtain ⟨a0, e0, _, _⟩ := DataW.trod_int Tryz.underlying3 g0
      obtain ⟨a1, e1, _, _⟩ := DataW.trod_int Tryz.underlying3 g1
      obtain ⟨a2, e2, _, _⟩ := DataW.trod_int Tryz.underlying2 g2
      obtain ⟨a3, e3, _, _⟩ := DataW.trod_int Tryz.underlying2 g3
      obtain ⟨l, hl, hll, o4, k4, e4⟩ := open_recs g4
      obtain ⟨o5, n5, k5, e5, h5⟩ := open_slN Tryz.underlying37 g5
      obtain ⟨o6, n6, k6, e6, h6⟩ := open_slN Tryz.underlying38 g6
      obtain ⟨s7, e7, -, -⟩ := DataW.trod_string Tryz.underlying9 g7
      obtain ⟨o8, n8, k8, e8, h8⟩ := open_slN Tryz.underlying39 g8
      simp only [List.cons.injEq, and_true] at e0 e1 e2 e3 e7
      exact ⟨⟨a0, a1, a2, a3, c4, l, c5, c6, s7, c8, n5, n6, n8⟩, by rw [e0, e1, e2, e3, e7]; rfl, ⟨hl, ⟨o4, k4, e4⟩, ⟨o5, k5, e5⟩, ⟨o6, k6, e6⟩, ⟨o8, k8, e8⟩, ⟨hll, h5, h6, h8⟩⟩⟩
end
end Go.Proofs.YtlgcoaeddeiegaaGreat
/- law11: arguments opened: a Crash. -/
namespace Go.Proofs.YtlgcoaeddeiegaaGreat
open Go Go.Maps Go.RowKit
section
open Go.ChangeShapes Go.WideShapes Go.ChangeAt Go.Joins
variable {H : Type} {enc : TypeId × Value → H} {w : World} {base b1 : Nat} {spare : Nat → Bool} {held : Bool} {rc : Reach} {v : Value} {d : DataW H} {p : List MemPlace} {fuel : Nat} {y : DataW H × List MemPlace}
theorem cells_fkC : Tryz.prog.cellsOf 96 = 1 := by kernel_rfl
theorem cells_fateC : Tryz.prog.cellsOf 98 = 2 := by kernel_rfl
theorem cells_crashC : Tryz.prog.cellsOf 64 = 6 := by kernel_rfl
theorem cells_scrC : Tryz.prog.cellsOf 24 = 1 := by kernel_rfl
theorem open_fateC {c0 c1 : Value} (h : DataW.trod enc Tryz.prog w base spare held fuel 98 [c0, c1] = some y) : ∃ k n : Int, c0 = .int .i64 k ∧ c1 = .int .i64 n := by
  obtain ⟨xs, m, _, _, _, hlen, hg⟩ := DataW.trod_struct Tryz.underlying98 h
  match xs, hlen with
  | [y0, y1], _ =>
    have g0 := hg 0 { name := "Kind", type := 96, offset := 0, embedded := false, tag := "", pkgPath := "", byteOffset := 0 } rfl
    have g1 := hg 1 { name := "Keep", type := 3, offset := 1, embedded := false, tag := "", pkgPath := "", byteOffset := 8 } rfl
    simp only [cells_fkC, cells_intR, List.drop_zero, List.take_succ_cons, List.take_zero, List.drop_succ_cons, List.getElem?_cons_zero, List.getElem?_cons_succ] at g0 g1
    obtain ⟨k, hk, _, _⟩ := DataW.trod_int Tryz.underlying96 g0
    obtain ⟨n, hn, _, _⟩ := DataW.trod_int Tryz.underlying3 g1
    simp only [List.cons.injEq, and_true] at hk hn
    exact ⟨k, n, hk, hn⟩
theorem open_fatesC (h : DataW.trod enc Tryz.prog w base spare held fuel 37 [v] = some y) : ∃ l : List (Int × Int), readAt w 2 v l.length (fateCells l) ∧ l.length ≤ 9223372036854775807 ∧ ∃ oa c, v = .slice oa l.length c := by
  obtain ⟨l, hl, _, hlm, hv⟩ := open_rowR 2 cells_fateC (by omega) Tryz.underlying37 (fun x : Int × Int => [Value.int .i64 x.1, .int .i64 x.2]) (fun _ => rfl) (fun _ => True) (fun n cs y hcs hy => by
    match cs, hcs with
    | [c0, c1], _ =>
      obtain ⟨k, m, rfl, rfl⟩ := open_fateC hy
      exact ⟨(k, m), rfl, trivial⟩) h
  exact ⟨l, hl, hlm, hv⟩
theorem open_stepsC (h : DataW.trod enc Tryz.prog w base spare held fuel 24 [v] = some y) : ∃ (oa : Option Addr) (c : Nat) (L : List StpV), v = .slice oa L.length c ∧ StepsAt w (.slice oa L.length c) L := by
  obtain ⟨l, hl, hok, hlm, oa, c', hv'⟩ := open_rowR 9 cells_stpR (by omega) Tryz.underlying24 StpV.cells (fun _ => rfl) (fun x => StpOk w x) (fun n cs y hcs hy => open_step hcs hy) h
  rw [hv'] at hl
  exact ⟨oa, c', l, hv', ⟨hl, hok, ⟨oa, c', rfl⟩, hlm⟩⟩
set_option maxRecDepth 100000 in
set_option maxHeartbeats 1000000 in
theorem crashArg_in (hv : Value.okWide Tryz.prog w rc b1 64 v) (h : DataW.Trod enc Tryz.prog w base spare held 64 v d p) :
    ∃ (roll step : Int) (of os op oa : Option Addr) (nf cf ns cs np cp na ca : Nat) (fs : List (Int × Int)) (L : List StpV) (p1 p2 : List Int), v = .agg #[.int .i64 roll, .int .i64 step, .slice of nf cf, .slice os ns cs, .slice op np cp, .slice oa na ca] ∧ CrArgs w of os op oa nf cf ns cs np cp na ca fs L p1 p2 := by
  obtain ⟨cs, rfl, hsz⟩ := okWide_struct Tryz.underlying64 hv
  obtain ⟨fuel, hf⟩ := h
  obtain ⟨l⟩ := cs
  rw [cells_crashC] at hsz
  match l, hsz with
  | [c0, c1, c2, c3, c4, c5], _ =>
    obtain ⟨xs, m, _, _, _, hlen, hg⟩ := DataW.trod_struct Tryz.underlying64 hf
    match xs, hlen with
    | [y0, y1, y2, y3, y4], _ =>
      have g0 := hg 0 { name := "Config", type := 23, offset := 0, embedded := false, tag := "", pkgPath := "", byteOffset := 0 } rfl
      have g1 := hg 1 { name := "Fates", type := 37, offset := 2, embedded := false, tag := "", pkgPath := "", byteOffset := 16 } rfl
      have g2 := hg 2 { name := "Script", type := 24, offset := 3, embedded := false, tag := "", pkgPath := "", byteOffset := 40 } rfl
      have g3 := hg 3 { name := "Picks", type := 38, offset := 4, embedded := false, tag := "", pkgPath := "", byteOffset := 64 } rfl
      have g4 := hg 4 { name := "Again", type := 38, offset := 5, embedded := false, tag := "", pkgPath := "", byteOffset := 88 } rfl
      simp only [Value.cells, cells_cfgN, cells_fatR, cells_scrC, cells_sl3R, List.drop_zero, List.take_succ_cons, List.take_zero, List.drop_succ_cons, List.getElem?_cons_zero, List.getElem?_cons_succ] at g0 g1 g2 g3 g4
      obtain ⟨roll, step, hc, -, -⟩ := cfg_in rfl g0
      obtain ⟨fs, hfs, hfl, of, cf, e2⟩ := open_fatesC g1
      obtain ⟨os, cs, L, e3, hS⟩ := open_stepsC g2
      obtain ⟨p1, hp1, hb1, hl1, op, cp, e4⟩ := open_intsR g3
      obtain ⟨p2, hp2, hb2, hl2, oa, ca, e5⟩ := open_intsR g4
      simp only [List.cons.injEq, and_true] at hc
      obtain ⟨hc1, hc2⟩ := hc
      rw [e2] at hfs
      rw [e4] at hp1
      rw [e5] at hp2
      exact ⟨roll, step, of, os, op, oa, fs.length, cf, L.length, cs, p1.length, cp, p2.length, ca, fs, L, p1, p2, by rw [hc1, hc2, e2, e3, e4, e5], ⟨hfs, hS, hp1, hp2, rfl, rfl, rfl, rfl, fun x hx => (hb1 x hx).2, fun x hx => (hb2 x hx).2, ⟨hfl, hl1, hl2⟩⟩⟩
end
end Go.Proofs.YtlgcoaeddeiegaaGreat
