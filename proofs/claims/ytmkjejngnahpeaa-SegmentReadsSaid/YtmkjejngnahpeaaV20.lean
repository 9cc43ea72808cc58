/- The texts Yd in one. -/
import Derived.Test.YtmkjejngnahpeaaV18
import Derived.Deep.Slices
import Derived.Deep.FieldsWide
import Derived.ChangeArms
import Derived.WideShapes
import Derived.ProofKit
import Derived.OpenShut
import Derived.Lib.SmallJoins
/- law10: arguments opened: records, lists of records, numbers; a Crash. -/
namespace Go.Proofs.Ytmkjejngnahpeaa
open Go Go.Maps Go.RowKit

theorem cells_getR {w : World} {base : Nat} {a : Addr} {n : Nat} {cs : List Value} (h : w.cells? base a n = some cs) : cs.length = n ∧ ∀ i, i < n → w.cell? (a.add i) = cs[i]? := by
  unfold World.cells? at h
  split at h
  · refine ⟨by rw [mapM_some_length h, List.length_range], fun i hi => ?_⟩
    exact mapM_some_get h i i (by rw [List.getElem?_range hi])
  · cases h
theorem flatMap_getR {α : Type} (enc : α → List Value) (size : Nat) (hs : ∀ x, (enc x).length = size) : ∀ (l : List α) (i k : Nat) (hi : i < l.length) (_ : k < size), (l.flatMap enc)[i * size + k]? = (enc l[i])[k]?
  | x :: r, 0, k, _, hk => by
    rw [List.flatMap_cons, List.getElem?_append_left (by rw [hs]; omega)]
    simp
  | x :: r, i + 1, k, hi, hk => by
    rw [List.flatMap_cons, List.getElem?_append_right (by rw [hs, Nat.add_mul]; omega), hs, show (i + 1) * size + k - size = i * size + k by rw [Nat.add_mul]; omega, flatMap_getR enc size hs r i k (by simpa using hi) hk]
    simp
theorem flatMap_lenR {α : Type} (enc : α → List Value) (size : Nat) (hs : ∀ x, (enc x).length = size) : ∀ l : List α, (l.flatMap enc).length = l.length * size
  | [] => by simp
  | x :: r => by
    rw [List.flatMap_cons, List.length_append, hs, flatMap_lenR enc size hs r, List.length_cons, Nat.add_mul]
    omega
/-- rows of cells that read one by one -/
theorem readAt_rowsR {α : Type} {w : World} {base : Nat} {a : Addr} {n cap size : Nat} (enc : α → List Value) (hs : ∀ x, (enc x).length = size) (h0 : 0 < size) (l : List α) (hl : l.length = n) (hc : n ≤ cap)
    (each : ∀ i (hi : i < l.length), w.cells? base (a.add (i * size)) size = some (enc l[i])) : readAt w size (.slice (some a) n cap) n (l.flatMap enc) := by
  refine ⟨by rw [flatMap_lenR enc size hs, hl], ?_⟩
  by_cases hn : n = 0
  · exact .inl ⟨hn, some a, cap, by rw [hn], fun h => by cases h⟩
  obtain ⟨b, off, spot⟩ := a
  obtain ⟨hl0, hg0⟩ := cells_getR (each 0 (by omega))
  have g0 := hg0 0 h0
  have hv : ∃ u, (enc (l[0]'(by omega)))[0]? = some u := ⟨_, List.getElem?_eq_getElem (by rw [hs]; exact h0)⟩
  obtain ⟨u, hu⟩ := hv
  rw [hu] at g0
  have hspot : spot = none := by simpa [Addr.add] using World.cell?_spot g0
  subst hspot
  have hcl : ∀ i k (hi : i < l.length), k < size → w.cell? ⟨b, off + i * size + k, none⟩ = (enc l[i])[k]? := fun i k hi hk => by
    have := (cells_getR (each i hi)).2 k hk
    rwa [Go.WideShapes.add_plain, Go.WideShapes.add_plain] at this
  refine .inr ⟨b, off, cap, rfl, by omega, ?_, hc, fun j u hj => ?_⟩
  · have := hcl 0 0 (by omega) h0
    rw [hu] at this
    exact World.block_lt_of_cell? w _ this
  · have hj1 : j < n * size := by
      have := (List.getElem?_eq_some_iff.1 hj).1
      rwa [flatMap_lenR enc size hs, hl] at this
    have hi : j / size < n := (Nat.div_lt_iff_lt_mul h0).2 hj1
    have hk : j % size < size := Nat.mod_lt _ h0
    have hjj : j / size * size + j % size = j := by rw [Nat.mul_comm]; exact Nat.div_add_mod j size
    rw [← hjj, flatMap_getR enc size hs l _ _ (by omega) hk] at hj
    have := hcl (j / size) (j % size) (by omega) hk
    rw [hj, Nat.add_assoc, hjj] at this
    exact this
section
open Go.ChangeShapes Go.WideShapes Go.ChangeAt Go.Joins
variable {H : Type} {enc : TypeId × Value → H} {w : World} {base b1 : Nat} {spare : Nat → Bool} {held : Bool} {rc : Reach} {v : Value} {d : DataW H} {p : List MemPlace} {fuel : Nat} {y : DataW H × List MemPlace}
theorem cells_u8R : Try.prog.cellsOf 5 = 1 := by kernel_rfl
theorem cells_intR : Try.prog.cellsOf 3 = 1 := by kernel_rfl
theorem cells_sl1R : Try.prog.cellsOf 79 = 1 := by kernel_rfl
theorem cells_sl3R : Try.prog.cellsOf 32 = 1 := by kernel_rfl
theorem min_u8R : IntKind.u8.min = 0 := by decide +kernel
theorem max_u8R : IntKind.u8.max = 255 := by decide +kernel
theorem min_i64R : IntKind.i64.min = -9223372036854775808 := by decide +kernel
theorem max_i64R : IntKind.i64.max = 9223372036854775807 := by decide +kernel
theorem wf_u8R {k : Int} (h : (Lit.int .u8 k).wf = true) : 0 ≤ k ∧ k < 256 := by
  simp only [Lit.wf, min_u8R, max_u8R, Bool.and_eq_true, decide_eq_true_eq] at h
  omega
theorem wf_i64R {k : Int} (h : (Lit.int .i64 k).wf = true) : -9223372036854775808 ≤ k ∧ k ≤ 9223372036854775807 := by
  simp only [Lit.wf, min_i64R, max_i64R, Bool.and_eq_true, decide_eq_true_eq] at h
  exact h
/-- a slice that reads, element by element -/
theorem open_rowR {α : Type} [Inhabited α] {t e : TypeId} (size : Nat) (hsz : Try.prog.cellsOf e = size) (h0 : 0 < size) (ht : Try.prog.underlying t = some (.slice e)) (en : α → List Value) (hs : ∀ x, (en x).length = size) (ok : α → Prop)
    (hel : ∀ (n : Nat) (cs : List Value) (y : DataW H × List MemPlace), cs.length = size → DataW.trod enc Try.prog w base spare held n e cs = some y → ∃ x, cs = en x ∧ ok x)
    (h : DataW.trod enc Try.prog w base spare held fuel t [v] = some y) : ∃ l : List α, readAt w size v l.length (l.flatMap en) ∧ (∀ x ∈ l, ok x) ∧ l.length ≤ 9223372036854775807 ∧ ∃ oa c, v = .slice oa l.length c := by
  rcases Deep.open_slice ht h with ⟨hc, _⟩ | ⟨a, len, cap, m, k, D, Pl, hc, _, hl, hm, hmm, hx, hall⟩
  · simp only [List.cons.injEq, and_true] at hc
    subst hc
    exact ⟨[], ⟨by simp, .inl ⟨rfl, none, 0, rfl, fun _ => rfl⟩⟩, (fun x hx => by cases hx), by simp, none, 0, rfl⟩
  · simp only [List.cons.injEq, and_true] at hc
    subst hc
    have hlm : len ≤ m := by rw [hmm]; split <;> omega
    rw [hsz] at hall
    obtain ⟨f, hF⟩ := Deep.choose_lt (n := len) (p := fun i x => w.cells? base (a.add (i * size)) size = some (en x) ∧ ok x) fun i hi => by
      obtain ⟨cs, h1, h2⟩ := hall i (by omega)
      obtain ⟨x, rfl, hx⟩ := hel _ cs _ (cells_getR h1).1 h2
      exact ⟨x, h1, hx⟩
    have hlen : ((List.range len).map f).length = len := by simp
    refine ⟨(List.range len).map f, ?_, fun x hx => ?_, by rw [hlen]; unfold maxLen at hm; omega, some a, cap, by rw [hlen]⟩
    · have := readAt_rowsR (w := w) (base := base) (a := a) (cap := cap) en hs h0 ((List.range len).map f) hlen hl (fun i hi => by
        rw [hlen] at hi
        simpa using (hF i hi).1)
      rw [hlen]
      exact this
    · obtain ⟨i, hi, rfl⟩ := List.mem_map.1 hx
      exact (hF i (List.mem_range.1 hi)).2
theorem flat_bytesR : ∀ l : List UInt8, (l.flatMap fun b => [Value.int .u8 (b.toNat : Int)]) = byteCells l
  | [] => rfl
  | b :: r => by
    rw [List.flatMap_cons, flat_bytesR r]
    rfl
theorem flat_intsR : ∀ l : List Int, (l.flatMap fun b => [Value.int .i64 b]) = intCells l
  | [] => rfl
  | b :: r => by
    rw [List.flatMap_cons, flat_intsR r]
    rfl
theorem open_bytesR (h : DataW.trod enc Try.prog w base spare held fuel 79 [v] = some y) : ∃ l : List UInt8, readAt w 1 v l.length (byteCells l) := by
  obtain ⟨l, hl, _, hlm, hv⟩ := open_rowR 1 cells_u8R (by omega) Try.underlying79 (fun b : UInt8 => [Value.int .u8 (b.toNat : Int)]) (fun _ => rfl) (fun _ => True) (fun n cs y hcs hy => by
    obtain ⟨k, hk, _, hw⟩ := DataW.trod_int Try.underlying5 hy
    have hr := wf_u8R hw
    refine ⟨UInt8.ofNat k.toNat, ?_, trivial⟩
    rw [hk]
    have : ((UInt8.ofNat k.toNat).toNat : Int) = k := by
      rw [UInt8.toNat_ofNat']
      omega
    rw [this]) h
  rw [flat_bytesR] at hl
  exact ⟨l, hl⟩
theorem open_intsR (h : DataW.trod enc Try.prog w base spare held fuel 32 [v] = some y) : ∃ l : List Int, readAt w 1 v l.length (intCells l) ∧ (∀ x ∈ l, -9223372036854775808 ≤ x ∧ x ≤ 9223372036854775807) ∧ l.length ≤ 9223372036854775807 ∧ ∃ oa c, v = .slice oa l.length c := by
  obtain ⟨l, hl, hok, hlm, hv⟩ := open_rowR 1 cells_intR (by omega) Try.underlying32 (fun b : Int => [Value.int .i64 b]) (fun _ => rfl) (fun x => -9223372036854775808 ≤ x ∧ x ≤ 9223372036854775807) (fun n cs y hcs hy => by
    obtain ⟨k, hk, _, hw⟩ := DataW.trod_int Try.underlying3 hy
    exact ⟨k, hk, wf_i64R hw⟩) h
  rw [flat_intsR] at hl
  exact ⟨l, hl, hok, hlm, hv⟩
theorem cells_tmR : Try.prog.cellsOf 2 = 1 := by kernel_rfl
theorem cells_rcR : Try.prog.cellsOf 154 = 3 := by kernel_rfl
theorem cells_rcsR : Try.prog.cellsOf 36 = 1 := by kernel_rfl
theorem cells_llR : Try.prog.cellsOf 31 = 1 := by kernel_rfl
theorem cells_crashR : Try.prog.cellsOf 34 = 4 := by kernel_rfl
instance : Inhabited RcV := ⟨⟨⟨0, [], []⟩, .slice none 0 0, .slice none 0 0⟩⟩
instance : Inhabited (Value × List Rc) := ⟨(.slice none 0 0, [])⟩
set_option maxHeartbeats 1000000 in
theorem open_rec {cs : List Value} (hcs : cs.length = 3) (h : DataW.trod enc Try.prog w base spare held fuel 154 cs = some y) : ∃ x : RcV, cs = recCells x ∧ bytesRd w x.kv x.r.key ∧ bytesRd w x.vv x.r.val := by
  match cs, hcs with
  | [c0, c1, c2], _ =>
    obtain ⟨xs, m, _, _, _, hlen, hg⟩ := DataW.trod_struct Try.underlying154 h
    match xs, hlen with
    | [y0, y1, y2], _ =>
      have g0 := hg 0 { name := "Time", type := 2, offset := 0, embedded := false, tag := "", pkgPath := "", byteOffset := 0 } rfl
      have g1 := hg 1 { name := "Key", type := 79, offset := 1, embedded := false, tag := "", pkgPath := "", byteOffset := 8 } rfl
      have g2 := hg 2 { name := "Value", type := 79, offset := 2, embedded := false, tag := "", pkgPath := "", byteOffset := 32 } rfl
      simp only [cells_tmR, cells_sl1R, List.drop_zero, List.take_succ_cons, List.take_zero, List.drop_succ_cons, List.getElem?_cons_zero, List.getElem?_cons_succ] at g0 g1 g2
      obtain ⟨k, hk, _, _⟩ := DataW.trod_int Try.underlying2 g0
      obtain ⟨ks, hks⟩ := open_bytesR g1
      obtain ⟨vs, hvs⟩ := open_bytesR g2
      simp only [List.cons.injEq, and_true] at hk
      exact ⟨⟨⟨k, ks, vs⟩, c1, c2⟩, by rw [hk]; rfl, hks, hvs⟩
theorem open_recs (h : DataW.trod enc Try.prog w base spare held fuel 36 [v] = some y) : ∃ l : List Rc, RecsAt w v l ∧ l.length ≤ 9223372036854775807 ∧ ∃ oa c, v = .slice oa l.length c := by
  obtain ⟨l, hl, hok, hlm, oa, c, hv⟩ := open_rowR 3 cells_rcR (by omega) Try.underlying36 recCells (fun _ => rfl) (fun x => bytesRd w x.kv x.r.key ∧ bytesRd w x.vv x.r.val) (fun n cs y hcs hy => open_rec hcs hy) h
  exact ⟨l.map (·.r), ⟨l, rfl, hl, hok⟩, by rw [List.length_map]; exact hlm, oa, c, by rw [List.length_map]; exact hv⟩
theorem flat_fst : ∀ l : List (Value × List Rc), (l.flatMap fun x => [x.1]) = l.map (·.1)
  | [] => rfl
  | b :: r => by
    rw [List.flatMap_cons, flat_fst r]
    rfl
theorem open_lists (h : DataW.trod enc Try.prog w base spare held fuel 31 [v] = some y) : ∃ ll : List (List Rc), ListsAt w v ll ∧ ll.length ≤ 9223372036854775807 ∧ ∃ oa c, v = .slice oa ll.length c := by
  obtain ⟨l, hl, hok, hlm, oa, c, hv⟩ := open_rowR 1 cells_rcsR (by omega) Try.underlying31 (fun x : Value × List Rc => [x.1]) (fun _ => rfl) (fun x => RecsAt w x.1 x.2 ∧ x.2.length ≤ 9223372036854775807 ∧ ∃ oa c, x.1 = .slice oa x.2.length c) (fun n cs y hcs hy => by
    match cs, hcs with
    | [c0], _ =>
      obtain ⟨l, h1, h2, h3⟩ := open_recs hy
      exact ⟨(c0, l), rfl, h1, h2, h3⟩) h
  rw [flat_fst] at hl
  refine ⟨l.map (·.2), ⟨l.map (·.1), by rw [List.length_map, List.length_map], by rw [List.length_map]; exact hl, fun i hi => ?_⟩, by rw [List.length_map]; exact hlm, oa, c, by rw [List.length_map]; exact hv⟩
  rw [List.length_map] at hi
  obtain ⟨g1, g2, ob, d, g3⟩ := hok l[i] (List.getElem_mem hi)
  refine ⟨ob, d, ?_, ?_, ?_⟩
  · rw [List.getElem?_map, List.getElem?_eq_getElem hi, List.getElem_map]
    exact congrArg some g3
  · rw [List.getElem_map, ← g3]
    exact g1
  · rw [List.getElem_map]
    exact g2
/-- a Crash that was handed in -/
def CrashAt (w : World) (v : Value) : Prop := ∃ (bs st : Int) (oL oP : Option Addr) (cL cP : Nat) (ll : List (List Rc)) (ps : List Int), v = .agg #[.int .i64 bs, .slice oL ll.length cL, .int .i64 st, .slice oP ps.length cP] ∧ ListsAt w (.slice oL ll.length cL) ll ∧ readAt w 1 (.slice oP ps.length cP) ps.length (intCells ps) ∧
  (-9223372036854775808 ≤ bs ∧ bs ≤ 9223372036854775807) ∧ (-9223372036854775808 ≤ st ∧ st ≤ 9223372036854775807) ∧ (∀ p ∈ ps, -9223372036854775808 ≤ p ∧ p ≤ 9223372036854775807) ∧ ll.length ≤ 9223372036854775807 ∧ ps.length ≤ 9223372036854775807
set_option maxRecDepth 100000 in
set_option maxHeartbeats 1000000 in
theorem crash_in (hv : Value.okWide Try.prog w rc b1 34 v) (h : DataW.Trod enc Try.prog w base spare held 34 v d p) : CrashAt w v := by
  obtain ⟨cs, rfl, hsz⟩ := okWide_struct Try.underlying34 hv
  obtain ⟨fuel, hf⟩ := h
  obtain ⟨l⟩ := cs
  rw [cells_crashR] at hsz
  match l, hsz with
  | [c0, c1, c2, c3], _ =>
    obtain ⟨xs, m, _, _, _, hlen, hg⟩ := DataW.trod_struct Try.underlying34 hf
    match xs, hlen with
    | [y0, y1, y2, y3], _ =>
      have g0 := hg 0 { name := "Base", type := 2, offset := 0, embedded := false, tag := "", pkgPath := "", byteOffset := 0 } rfl
      have g1 := hg 1 { name := "Lists", type := 31, offset := 1, embedded := false, tag := "", pkgPath := "", byteOffset := 8 } rfl
      have g2 := hg 2 { name := "Synced", type := 3, offset := 2, embedded := false, tag := "", pkgPath := "", byteOffset := 32 } rfl
      have g3 := hg 3 { name := "Picks", type := 32, offset := 3, embedded := false, tag := "", pkgPath := "", byteOffset := 40 } rfl
      simp only [Value.cells, cells_tmR, cells_intR, cells_llR, cells_sl3R, List.drop_zero, List.take_succ_cons, List.take_zero, List.drop_succ_cons, List.getElem?_cons_zero, List.getElem?_cons_succ] at g0 g1 g2 g3
      obtain ⟨k, hk, _, hkw⟩ := DataW.trod_int Try.underlying2 g0
      obtain ⟨s, hs, _, hsw⟩ := DataW.trod_int Try.underlying3 g2
      obtain ⟨ll, hl, hll, oa, c, hv1⟩ := open_lists g1
      obtain ⟨ps, hp, hpb, hpl, ob, e, hv3⟩ := open_intsR g3
      simp only [List.cons.injEq, and_true] at hk hs
      subst hk
      subst hs
      subst hv1
      subst hv3
      exact ⟨k, s, oa, ob, c, e, ll, ps, rfl, hl, hp, wf_i64R hkw, wf_i64R hsw, hpb, hll, hpl⟩
end
end Go.Proofs.Ytmkjejngnahpeaa
