/- The texts Fs, Zya in one. -/
import Derived.Test.YtmkjejngnahpeaaV14
import Derived.Deep.Slices
import Derived.Deep.FieldsWide
import Derived.ChangeArms
import Derived.WideShapes
import Derived.ProofKit
import Derived.OpenShut
import Derived.Lib.SmallJoins
/- Disk: arguments opened: bytes, numbers, fates, scripts. -/
namespace Go.Proofs.Ytmkjejngnahpeaa
open Go Go.Maps Go.RowKit

theorem cells_get {w : World} {base : Nat} {a : Addr} {n : Nat} {cs : List Value} (h : w.cells? base a n = some cs) : cs.length = n ∧ ∀ i, i < n → w.cell? (a.add i) = cs[i]? := by
  unfold World.cells? at h
  split at h
  · refine ⟨by rw [mapM_some_length h, List.length_range], fun i hi => ?_⟩
    exact mapM_some_get h i i (by rw [List.getElem?_range hi])
  · cases h
theorem flatMap_get {α : Type} (enc : α → List Value) (size : Nat) (hs : ∀ x, (enc x).length = size) : ∀ (l : List α) (i k : Nat) (hi : i < l.length) (_ : k < size), (l.flatMap enc)[i * size + k]? = (enc l[i])[k]?
  | x :: r, 0, k, _, hk => by
    rw [List.flatMap_cons, List.getElem?_append_left (by rw [hs]; omega)]
    simp
  | x :: r, i + 1, k, hi, hk => by
    rw [List.flatMap_cons, List.getElem?_append_right (by rw [hs, Nat.add_mul]; omega), hs, show (i + 1) * size + k - size = i * size + k by rw [Nat.add_mul]; omega, flatMap_get enc size hs r i k (by simpa using hi) hk]
    simp
theorem flatMap_len {α : Type} (enc : α → List Value) (size : Nat) (hs : ∀ x, (enc x).length = size) : ∀ l : List α, (l.flatMap enc).length = l.length * size
  | [] => by simp
  | x :: r => by
    rw [List.flatMap_cons, List.length_append, hs, flatMap_len enc size hs r, List.length_cons, Nat.add_mul]
    omega
/-- rows of cells that read one by one -/
theorem readAt_rows {α : Type} {w : World} {base : Nat} {a : Addr} {n cap size : Nat} (enc : α → List Value) (hs : ∀ x, (enc x).length = size) (h0 : 0 < size) (l : List α) (hl : l.length = n) (hc : n ≤ cap)
    (each : ∀ i (hi : i < l.length), w.cells? base (a.add (i * size)) size = some (enc l[i])) : readAt w size (.slice (some a) n cap) n (l.flatMap enc) := by
  refine ⟨by rw [flatMap_len enc size hs, hl], ?_⟩
  by_cases hn : n = 0
  · exact .inl ⟨hn, some a, cap, by rw [hn], fun h => by cases h⟩
  obtain ⟨b, off, spot⟩ := a
  obtain ⟨hl0, hg0⟩ := cells_get (each 0 (by omega))
  have g0 := hg0 0 h0
  have hv : ∃ u, (enc (l[0]'(by omega)))[0]? = some u := ⟨_, List.getElem?_eq_getElem (by rw [hs]; exact h0)⟩
  obtain ⟨u, hu⟩ := hv
  rw [hu] at g0
  have hspot : spot = none := by simpa [Addr.add] using World.cell?_spot g0
  subst hspot
  have hcl : ∀ i k (hi : i < l.length), k < size → w.cell? ⟨b, off + i * size + k, none⟩ = (enc l[i])[k]? := fun i k hi hk => by
    have := (cells_get (each i hi)).2 k hk
    rwa [Go.WideShapes.add_plain, Go.WideShapes.add_plain] at this
  refine .inr ⟨b, off, cap, rfl, by omega, ?_, hc, fun j u hj => ?_⟩
  · have := hcl 0 0 (by omega) h0
    rw [hu] at this
    exact World.block_lt_of_cell? w _ this
  · have hj1 : j < n * size := by
      have := (List.getElem?_eq_some_iff.1 hj).1
      rwa [flatMap_len enc size hs, hl] at this
    have hi : j / size < n := (Nat.div_lt_iff_lt_mul h0).2 hj1
    have hk : j % size < size := Nat.mod_lt _ h0
    have hjj : j / size * size + j % size = j := by rw [Nat.mul_comm]; exact Nat.div_add_mod j size
    rw [← hjj, flatMap_get enc size hs l _ _ (by omega) hk] at hj
    have := hcl (j / size) (j % size) (by omega) hk
    rw [hj, Nat.add_assoc, hjj] at this
    exact this
section
open Go.ChangeShapes Go.WideShapes Go.ChangeAt Go.Joins
variable {H : Type} {enc : TypeId × Value → H} {w : World} {base b1 : Nat} {spare : Nat → Bool} {held : Bool} {rc : Reach} {v : Value} {d : DataW H} {p : List MemPlace} {fuel : Nat} {y : DataW H × List MemPlace}
theorem cells_u8 : Try.prog.cellsOf 5 = 1 := by kernel_rfl
theorem cells_int : Try.prog.cellsOf 3 = 1 := by kernel_rfl
theorem cells_str : Try.prog.cellsOf 9 = 1 := by kernel_rfl
theorem cells_fk : Try.prog.cellsOf 97 = 1 := by kernel_rfl
theorem cells_fate : Try.prog.cellsOf 99 = 2 := by kernel_rfl
theorem cells_step : Try.prog.cellsOf 84 = 7 := by kernel_rfl
theorem cells_sl1 : Try.prog.cellsOf 79 = 1 := by kernel_rfl
theorem cells_sl2 : Try.prog.cellsOf 65 = 1 := by kernel_rfl
theorem cells_sl3 : Try.prog.cellsOf 32 = 1 := by kernel_rfl
theorem min_u8 : IntKind.u8.min = 0 := by decide +kernel
theorem max_u8 : IntKind.u8.max = 255 := by decide +kernel
theorem min_i64 : IntKind.i64.min = -9223372036854775808 := by decide +kernel
theorem max_i64 : IntKind.i64.max = 9223372036854775807 := by decide +kernel
theorem wf_u8 {k : Int} (h : (Lit.int .u8 k).wf = true) : 0 ≤ k ∧ k < 256 := by
  simp only [Lit.wf, min_u8, max_u8, Bool.and_eq_true, decide_eq_true_eq] at h
  omega
theorem wf_i64 {k : Int} (h : (Lit.int .i64 k).wf = true) : -9223372036854775808 ≤ k ∧ k ≤ 9223372036854775807 := by
  simp only [Lit.wf, min_i64, max_i64, Bool.and_eq_true, decide_eq_true_eq] at h
  exact h
/-- a slice that reads, element by element -/
theorem open_row {α : Type} [Inhabited α] {t e : TypeId} (size : Nat) (hsz : Try.prog.cellsOf e = size) (h0 : 0 < size) (ht : Try.prog.underlying t = some (.slice e)) (en : α → List Value) (hs : ∀ x, (en x).length = size) (ok : α → Prop)
    (hel : ∀ (n : Nat) (cs : List Value) (y : DataW H × List MemPlace), cs.length = size → DataW.trod enc Try.prog w base spare held n e cs = some y → ∃ x, cs = en x ∧ ok x)
    (h : DataW.trod enc Try.prog w base spare held fuel t [v] = some y) : ∃ l : List α, readAt w size v l.length (l.flatMap en) ∧ ∀ x ∈ l, ok x := by
  rcases Deep.open_slice ht h with ⟨hc, _⟩ | ⟨a, len, cap, m, k, D, Pl, hc, _, hl, hm, hmm, hx, hall⟩
  · simp only [List.cons.injEq, and_true] at hc
    subst hc
    exact ⟨[], ⟨by simp, .inl ⟨rfl, none, 0, rfl, fun _ => rfl⟩⟩, fun x hx => by cases hx⟩
  · simp only [List.cons.injEq, and_true] at hc
    subst hc
    have hlm : len ≤ m := by rw [hmm]; split <;> omega
    rw [hsz] at hall
    obtain ⟨f, hF⟩ := Deep.choose_lt (n := len) (p := fun i x => w.cells? base (a.add (i * size)) size = some (en x) ∧ ok x) fun i hi => by
      obtain ⟨cs, h1, h2⟩ := hall i (by omega)
      obtain ⟨x, rfl, hx⟩ := hel _ cs _ (cells_get h1).1 h2
      exact ⟨x, h1, hx⟩
    have hlen : ((List.range len).map f).length = len := by simp
    refine ⟨(List.range len).map f, ?_, fun x hx => ?_⟩
    · have := readAt_rows (w := w) (base := base) (a := a) (cap := cap) en hs h0 ((List.range len).map f) hlen hl (fun i hi => by
        rw [hlen] at hi
        simpa using (hF i hi).1)
      rw [hlen]
      exact this
    · obtain ⟨i, hi, rfl⟩ := List.mem_map.1 hx
      exact (hF i (List.mem_range.1 hi)).2
theorem flat_bytes : ∀ l : List UInt8, (l.flatMap fun b => [Value.int .u8 (b.toNat : Int)]) = byteCells l
  | [] => rfl
  | b :: r => by
    rw [List.flatMap_cons, flat_bytes r]
    rfl
theorem flat_ints : ∀ l : List Int, (l.flatMap fun b => [Value.int .i64 b]) = intCells l
  | [] => rfl
  | b :: r => by
    rw [List.flatMap_cons, flat_ints r]
    rfl
theorem open_bytes (h : DataW.trod enc Try.prog w base spare held fuel 79 [v] = some y) : ∃ l : List UInt8, readAt w 1 v l.length (byteCells l) := by
  obtain ⟨l, hl, _⟩ := open_row 1 cells_u8 (by omega) Try.underlying79 (fun b : UInt8 => [Value.int .u8 (b.toNat : Int)]) (fun _ => rfl) (fun _ => True) (fun n cs y hcs hy => by
    obtain ⟨k, hk, _, hw⟩ := DataW.trod_int Try.underlying5 hy
    have hr := wf_u8 hw
    refine ⟨UInt8.ofNat k.toNat, ?_, trivial⟩
    rw [hk]
    have : ((UInt8.ofNat k.toNat).toNat : Int) = k := by
      rw [UInt8.toNat_ofNat']
      omega
    rw [this]) h
  rw [flat_bytes] at hl
  exact ⟨l, hl⟩
theorem open_ints (h : DataW.trod enc Try.prog w base spare held fuel 32 [v] = some y) : ∃ l : List Int, readAt w 1 v l.length (intCells l) ∧ ∀ x ∈ l, x ≤ 9223372036854775807 := by
  obtain ⟨l, hl, hok⟩ := open_row 1 cells_int (by omega) Try.underlying32 (fun b : Int => [Value.int .i64 b]) (fun _ => rfl) (fun x => x ≤ 9223372036854775807) (fun n cs y hcs hy => by
    obtain ⟨k, hk, _, hw⟩ := DataW.trod_int Try.underlying3 hy
    exact ⟨k, hk, (wf_i64 hw).2⟩) h
  rw [flat_ints] at hl
  exact ⟨l, hl, hok⟩
set_option maxHeartbeats 400000 in
theorem open_fate {c0 c1 : Value} (h : DataW.trod enc Try.prog w base spare held fuel 99 [c0, c1] = some y) : ∃ k n : Int, c0 = .int .i64 k ∧ c1 = .int .i64 n := by
  obtain ⟨xs, m, _, _, _, hlen, hg⟩ := DataW.trod_struct Try.underlying99 h
  match xs, hlen with
  | [y0, y1], _ =>
    have g0 := hg 0 { name := "Kind", type := 97, offset := 0, embedded := false, tag := "", pkgPath := "", byteOffset := 0 } rfl
    have g1 := hg 1 { name := "Keep", type := 3, offset := 1, embedded := false, tag := "", pkgPath := "", byteOffset := 8 } rfl
    simp only [cells_fk, cells_int, List.drop_zero, List.take_succ_cons, List.take_zero, List.drop_succ_cons, List.getElem?_cons_zero, List.getElem?_cons_succ] at g0 g1
    obtain ⟨k, hk, _, _⟩ := DataW.trod_int Try.underlying97 g0
    obtain ⟨n, hn, _, _⟩ := DataW.trod_int Try.underlying3 g1
    simp only [List.cons.injEq, and_true] at hk hn
    exact ⟨k, n, hk, hn⟩
theorem open_fates (h : DataW.trod enc Try.prog w base spare held fuel 65 [v] = some y) : ∃ l : List (Int × Int), readAt w 2 v l.length (fateCells l) := by
  obtain ⟨l, hl, _⟩ := open_row 2 cells_fate (by omega) Try.underlying65 (fun x : Int × Int => [Value.int .i64 x.1, .int .i64 x.2]) (fun _ => rfl) (fun _ => True) (fun n cs y hcs hy => by
    match cs, hcs with
    | [c0, c1], _ =>
      obtain ⟨k, m, rfl, rfl⟩ := open_fate hy
      exact ⟨(k, m), rfl, trivial⟩) h
  exact ⟨l, hl⟩
instance : Inhabited StepT := ⟨⟨0, 0, 0, ⟨#[]⟩, [], [], [], .slice none 0 0, .slice none 0 0, .slice none 0 0⟩⟩
set_option maxHeartbeats 1000000 in
theorem open_step {cs : List Value} (hcs : cs.length = 7) (h : DataW.trod enc Try.prog w base spare held fuel 84 cs = some y) : ∃ x : StepT, cs = x.cells ∧ StepOk w x := by
  match cs, hcs with
  | [c0, c1, c2, c3, c4, c5, c6], _ =>
    obtain ⟨xs, m, _, _, _, hlen, hg⟩ := DataW.trod_struct Try.underlying84 h
    match xs, hlen with
    | [y0, y1, y2, y3, y4, y5, y6], _ =>
      have g0 := hg 0 { name := "Kind", type := 3, offset := 0, embedded := false, tag := "", pkgPath := "", byteOffset := 0 } rfl
      have g1 := hg 1 { name := "At", type := 3, offset := 1, embedded := false, tag := "", pkgPath := "", byteOffset := 8 } rfl
      have g2 := hg 2 { name := "N", type := 3, offset := 2, embedded := false, tag := "", pkgPath := "", byteOffset := 16 } rfl
      have g3 := hg 3 { name := "Name", type := 9, offset := 3, embedded := false, tag := "", pkgPath := "", byteOffset := 24 } rfl
      have g4 := hg 4 { name := "Bytes", type := 79, offset := 4, embedded := false, tag := "", pkgPath := "", byteOffset := 40 } rfl
      have g5 := hg 5 { name := "Fates", type := 65, offset := 5, embedded := false, tag := "", pkgPath := "", byteOffset := 64 } rfl
      have g6 := hg 6 { name := "Picks", type := 32, offset := 6, embedded := false, tag := "", pkgPath := "", byteOffset := 88 } rfl
      simp only [cells_int, cells_str, cells_sl1, cells_sl2, cells_sl3, List.drop_zero, List.take_succ_cons, List.take_zero, List.drop_succ_cons, List.getElem?_cons_zero, List.getElem?_cons_succ] at g0 g1 g2 g3 g4 g5 g6
      obtain ⟨k, hk, _, _⟩ := DataW.trod_int Try.underlying3 g0
      obtain ⟨q, hq, _, _⟩ := DataW.trod_int Try.underlying3 g1
      obtain ⟨n, hn, _, hw⟩ := DataW.trod_int Try.underlying3 g2
      obtain ⟨s, hs, _, hsl⟩ := DataW.trod_string Try.underlying9 g3
      obtain ⟨bs, hb⟩ := open_bytes g4
      obtain ⟨fs, hf⟩ := open_fates g5
      obtain ⟨ps, hp, hpk⟩ := open_ints g6
      simp only [List.cons.injEq, and_true] at hk hq hn hs
      exact ⟨⟨k, q, n, s, bs, fs, ps, c4, c5, c6⟩, by rw [hk, hq, hn, hs]; rfl, ⟨hsl, hb, hf, hp, wf_i64 hw, hpk⟩⟩
set_option maxRecDepth 100000 in
theorem script_in (hv : Value.okWide Try.prog w rc b1 66 v) (h : DataW.Trod enc Try.prog w base spare held 66 v d p) : ∃ l : List StepT, ScriptAt w v l := by
  obtain ⟨ax, n, c, rfl⟩ := okWide_slice Try.underlying66 hv
  obtain ⟨fuel, hf⟩ := h
  obtain ⟨l, h1, h2⟩ := open_row 7 cells_step (by omega) Try.underlying66 StepT.cells (fun _ => rfl) (StepOk w) (fun n cs y hcs hy => open_step hcs hy) hf
  exact ⟨l, h1, h2⟩
set_option maxRecDepth 100000 in
theorem fates_in (hv : Value.okWide Try.prog w rc b1 65 v) (h : DataW.Trod enc Try.prog w base spare held 65 v d p) : ∃ l : List (Int × Int), readAt w 2 v l.length (fateCells l) := by
  obtain ⟨ax, n, c, rfl⟩ := okWide_slice Try.underlying65 hv
  obtain ⟨fuel, hf⟩ := h
  exact open_fates hf
set_option maxRecDepth 100000 in
theorem ints_in (hv : Value.okWide Try.prog w rc b1 32 v) (h : DataW.Trod enc Try.prog w base spare held 32 v d p) : ∃ l : List Int, readAt w 1 v l.length (intCells l) ∧ ∀ x ∈ l, x ≤ 9223372036854775807 := by
  obtain ⟨ax, n, c, rfl⟩ := okWide_slice Try.underlying32 hv
  obtain ⟨fuel, hf⟩ := h
  exact open_ints hf
end
end Go.Proofs.Ytmkjejngnahpeaa
/- law07: a script opened, with the bounds of At. -/
namespace Go.Proofs.Ytmkjejngnahpeaa
open Go Go.Maps Go.RowKit
section
open Go.ChangeShapes Go.WideShapes Go.ChangeAt Go.Joins
variable {H : Type} {enc : TypeId × Value → H} {w : World} {base b1 : Nat} {spare : Nat → Bool} {held : Bool} {rc : Reach} {v : Value} {d : DataW H} {p : List MemPlace} {fuel : Nat} {y : DataW H × List MemPlace}
set_option maxHeartbeats 1000000 in
theorem open_stepP {cs : List Value} (hcs : cs.length = 7) (h : DataW.trod enc Try.prog w base spare held fuel 84 cs = some y) : ∃ x : StepT, cs = x.cells ∧ StepOk w x ∧ -9223372036854775808 ≤ x.pl ∧ x.pl ≤ 9223372036854775807 := by
  match cs, hcs with
  | [c0, c1, c2, c3, c4, c5, c6], _ =>
    obtain ⟨xs, m, _, _, _, hlen, hg⟩ := DataW.trod_struct Try.underlying84 h
    match xs, hlen with
    | [y0, y1, y2, y3, y4, y5, y6], _ =>
      have g0 := hg 0 { name := "Kind", type := 3, offset := 0, embedded := false, tag := "", pkgPath := "", byteOffset := 0 } rfl
      have g1 := hg 1 { name := "At", type := 3, offset := 1, embedded := false, tag := "", pkgPath := "", byteOffset := 8 } rfl
      have g2 := hg 2 { name := "N", type := 3, offset := 2, embedded := false, tag := "", pkgPath := "", byteOffset := 16 } rfl
      have g3 := hg 3 { name := "Name", type := 9, offset := 3, embedded := false, tag := "", pkgPath := "", byteOffset := 24 } rfl
      have g4 := hg 4 { name := "Bytes", type := 79, offset := 4, embedded := false, tag := "", pkgPath := "", byteOffset := 40 } rfl
      have g5 := hg 5 { name := "Fates", type := 65, offset := 5, embedded := false, tag := "", pkgPath := "", byteOffset := 64 } rfl
      have g6 := hg 6 { name := "Picks", type := 32, offset := 6, embedded := false, tag := "", pkgPath := "", byteOffset := 88 } rfl
      simp only [cells_int, cells_str, cells_sl1, cells_sl2, cells_sl3, List.drop_zero, List.take_succ_cons, List.take_zero, List.drop_succ_cons, List.getElem?_cons_zero, List.getElem?_cons_succ] at g0 g1 g2 g3 g4 g5 g6
      obtain ⟨k, hk, _, _⟩ := DataW.trod_int Try.underlying3 g0
      obtain ⟨q, hq, _, hwq⟩ := DataW.trod_int Try.underlying3 g1
      obtain ⟨n, hn, _, hw⟩ := DataW.trod_int Try.underlying3 g2
      obtain ⟨s, hs, _, hsl⟩ := DataW.trod_string Try.underlying9 g3
      obtain ⟨bs, hb⟩ := open_bytes g4
      obtain ⟨fs, hf⟩ := open_fates g5
      obtain ⟨ps, hp, hpk⟩ := open_ints g6
      simp only [List.cons.injEq, and_true] at hk hq hn hs
      exact ⟨⟨k, q, n, s, bs, fs, ps, c4, c5, c6⟩, by rw [hk, hq, hn, hs]; rfl, ⟨hsl, hb, hf, hp, wf_i64 hw, hpk⟩, wf_i64 hwq⟩
set_option maxRecDepth 100000 in
theorem script_inP (hv : Value.okWide Try.prog w rc b1 66 v) (h : DataW.Trod enc Try.prog w base spare held 66 v d p) : ∃ l : List StepT, ScriptAt w v l ∧ ∀ x ∈ l, -9223372036854775808 ≤ x.pl ∧ x.pl ≤ 9223372036854775807 := by
  obtain ⟨ax, n, c, rfl⟩ := okWide_slice Try.underlying66 hv
  obtain ⟨fuel, hf⟩ := h
  obtain ⟨l, h1, h2⟩ := open_row 7 cells_step (by omega) Try.underlying66 StepT.cells (fun _ => rfl) (fun x => StepOk w x ∧ -9223372036854775808 ≤ x.pl ∧ x.pl ≤ 9223372036854775807) (fun n cs y hcs hy => open_stepP hcs hy) hf
  exact ⟨l, ⟨h1, fun x hx => (h2 x hx).1⟩, fun x hx => (h2 x hx).2⟩
end
end Go.Proofs.Ytmkjejngnahpeaa
