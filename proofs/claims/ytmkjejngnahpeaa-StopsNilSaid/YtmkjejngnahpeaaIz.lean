/- The texts Ia, Ib in one. -/
import Derived.Test.YtmkjejngnahpeaaDt
import Derived.Test.YtmkjejngnahpeaaDu
/- The document's disk: how it lies in memory: its struct, its row of files, its row of fates. -/
namespace Go.Proofs.Ytmkjejngnahpeaa
open Go Go.Maps Go.RowKit
open Go.Proofs (encStr)

def rfFile (f : F0) : List Value := [encStr f.name, encStr f.bytes, .int .i64 f.lasts, .bool f.there, .bool f.named]
def rfCells (l : List F0) : List Value := l.flatMap rfFile
theorem rfCells_length : ∀ l : List F0, (rfCells l).length = l.length * 5
  | [] => rfl
  | x :: r => by
    show (rfFile x ++ rfCells r).length = _
    simp only [List.length_append, List.length_cons, rfCells_length r]
    show 5 + _ = _
    omega
theorem rfCells_append (a b : List F0) : rfCells (a ++ b) = rfCells a ++ rfCells b := by simp [rfCells]
theorem rfCells_take : ∀ (l : List F0) (k : Nat), rfCells (l.take k) = (rfCells l).take (k * 5)
  | [], k => by simp [rfCells]
  | x :: r, 0 => by simp [rfCells]
  | x :: r, k + 1 => by
    show rfFile x ++ rfCells (r.take k) = (rfFile x ++ rfCells r).take _
    have h : (rfFile x).length = 5 := rfl
    rw [rfCells_take r k, List.take_append, h, List.take_of_length_le (l := rfFile x) (by rw [h]; omega)]
    congr 2
    omega
theorem rfCells_drop : ∀ (l : List F0) (k : Nat), rfCells (l.drop k) = (rfCells l).drop (k * 5)
  | [], k => by simp [rfCells]
  | x :: r, 0 => by simp [rfCells]
  | x :: r, k + 1 => by
    show rfCells (r.drop k) = (rfFile x ++ rfCells r).drop _
    have h : (rfFile x).length = 5 := rfl
    rw [rfCells_drop r k, List.drop_append, h, List.drop_of_length_le (l := rfFile x) (by rw [h]; omega), List.nil_append]
    congr 1
    omega
theorem rfCells_get : ∀ {l : List F0} {j i : Nat} (hj : j < l.length), i < 5 → (rfCells l)[j * 5 + i]? = (rfFile l[j])[i]?
  | x :: r, 0, i, _, hi => by
    show (rfFile x ++ rfCells r)[0 * 5 + i]? = _
    rw [Nat.zero_mul, Nat.zero_add, List.getElem?_append_left (show i < 5 from hi)]
    rfl
  | x :: r, j + 1, i, hj, hi => by
    show (rfFile x ++ rfCells r)[(j + 1) * 5 + i]? = _
    have h : (rfFile x).length = 5 := rfl
    rw [List.getElem?_append_right (by rw [h]; omega), h]
    have e : (j + 1) * 5 + i - 5 = j * 5 + i := by omega
    rw [e, rfCells_get (l := r) (by simpa using hj) hi]
    rfl
theorem rfFile_one (f : F0) : ∀ v ∈ rfFile f, v.oneCell' = true := by
  intro v hv
  simp only [rfFile, List.mem_cons, List.not_mem_nil, or_false] at hv
  rcases hv with rfl | rfl | rfl | rfl | rfl <;> rfl
theorem rfCells_one (l : List F0) : ∀ v ∈ rfCells l, v.oneCell' = true := by
  intro v hv
  obtain ⟨f, _, h⟩ := List.mem_flatMap.1 hv
  exact rfFile_one f v h
structure RfIs (w : World) (S : Nat → Prop) (p : Nat) (rv fv : Value) (d : Dk) : Prop where
  head : w.heap[p]? = some (.cells #[rv, fv, .int .i64 d.steps] 198 (0, 0))
  files : rowAt w 200 5 rv d.files.length (rfCells d.files)
  fates : rowAt w 99 2 fv d.fates.length (fateCells d.fates)
  footp : S p
  footr : ∀ k, rv.ownBlock = some k → S k
  footf : ∀ k, fv.ownBlock = some k → S k
  low : ∀ k, S k → k < w.heap.size
  sorted : (d.files.map (·.name)).Pairwise (· < ·)
  names : ∀ f ∈ d.files, nameOk f.name = true
  sizes : ∀ f ∈ d.files, f.lasts ≤ f.bytes.length ∧ f.bytes.length ≤ 16777216
  few : d.files.length ≤ 4096
/-- the document's disk, wherever its parts lie -/
def RfAt (w : World) (S : Nat → Prop) (p : Nat) (d : Dk) : Prop := ∃ rv fv, RfIs w S p rv fv d
theorem row_type {w : World} {e e' : TypeId} {size n k : Nat} {v : Value} {xs : List Value} {cs' : Array Value} {fr : Nat × Nat} (h : rowAt w e size v n xs) (hk : v.ownBlock = some k) (hc : w.heap[k]? = some (.cells cs' e' fr)) : e = e' := by
  rcases h.2 with ⟨rfl, _⟩ | ⟨g, off, cap, cur, fr', rfl, hg, _⟩
  · simp [Value.ownBlock] at hk
  · simp only [Value.ownBlock, Option.some.injEq] at hk
    subst hk
    rw [hg] at hc
    simp only [Option.some.injEq, Obj.cells.injEq] at hc
    exact hc.2.1
section
variable {w : World} {S : Nat → Prop} {p : Nat} {rv fv : Value} {d : Dk}
theorem RfIs.kept {w' : World} (h : RfIs w S p rv fv d) (hk : ∀ k, S k → w'.heap[k]? = w.heap[k]?) (hsz : w.heap.size ≤ w'.heap.size) : RfIs w' S p rv fv d :=
  { h with
    head := (hk p h.footp).trans h.head
    files := h.files.kept (fun k hk' => hk k (h.footr k hk'))
    fates := h.fates.kept (fun k hk' => hk k (h.footf k hk'))
    low := fun k hk' => Nat.lt_of_lt_of_le (h.low k hk') hsz }
theorem RfIs.only {T : Nat → Prop} {w' : World} (h : RfIs w S p rv fv d) (ho : Only T w w') (hT : ∀ k, S k → ¬ T k) : RfIs w' S p rv fv d :=
  h.kept (fun k hk => ho.block k (h.low k hk) (hT k hk)) ho.size
theorem RfIs.below {w' : World} (h : RfIs w S p rv fv d) (hb : Below w.heap.size w w') : RfIs w' S p rv fv d :=
  h.kept (fun k hk => hb.block k (h.low k hk)) hb.size
theorem RfIs.wider {S' : Nat → Prop} (h : RfIs w S p rv fv d) (h1 : ∀ k, S k → S' k) (h2 : ∀ k, S' k → k < w.heap.size) : RfIs w S' p rv fv d :=
  { h with footp := h1 p h.footp, footr := fun k hk => h1 k (h.footr k hk), footf := fun k hk => h1 k (h.footf k hk), low := h2 }
theorem RfIs.rp (h : RfIs w S p rv fv d) : ∀ k, rv.ownBlock = some k → k ≠ p := fun k hk e => by
  subst e
  exact absurd (row_type h.files hk h.head) (by decide)
theorem RfIs.fp (h : RfIs w S p rv fv d) : ∀ k, fv.ownBlock = some k → k ≠ p := fun k hk e => by
  subst e
  exact absurd (row_type h.fates hk h.head) (by decide)
theorem RfIs.rf (h : RfIs w S p rv fv d) : ∀ k, rv.ownBlock = some k → fv.ownBlock ≠ some k := fun k hk e => by
  rcases h.files.2 with ⟨hv, _⟩ | ⟨g, off, cap, cur, fr', hv, hg, _⟩
  · rw [hv] at hk
    simp [Value.ownBlock] at hk
  · rw [hv] at hk
    simp only [Value.ownBlock, Option.some.injEq] at hk
    subst hk
    exact absurd (row_type h.fates e hg) (by decide)
/-- the struct itself is written, its fates go on -/
theorem RfIs.head_turn {w' : World} {fv' : Value} {fs' : List (Int × Int)} {st' : Int} (h : RfIs w S p rv fv d) (ho : Only (fun k => k = p) w w')
    (hq : w'.heap[p]? = some (.cells #[rv, fv', .int .i64 st'] 198 (0, 0))) (hob : ∀ k, fv'.ownBlock = some k → fv.ownBlock = some k)
    (hr : rowAt w 99 2 fv' fs'.length (fateCells fs')) : RfIs w' S p rv fv' { d with fates := fs', steps := st' } :=
  { head := hq
    files := h.files.kept (fun k hk => ho.block k (h.low k (h.footr k hk)) (h.rp k hk))
    fates := hr.kept (fun k hk => ho.block k (h.low k (h.footf k (hob k hk))) (h.fp k (hob k hk)))
    footp := h.footp
    footr := h.footr
    footf := fun k hk => h.footf k (hob k hk)
    low := fun k hk => Nat.lt_of_lt_of_le (h.low k hk) ho.size
    sorted := h.sorted
    names := h.names
    sizes := h.sizes
    few := h.few }
/-- a row of files is put in the place of the old one -/
theorem RfIs.files_turn {w' : World} {rv' : Value} {fl' : List F0} {T : Nat → Prop} (h : RfIs w S p rv fv d) (ho : Only (fun k => k = p) w w')
    (hq : w'.heap[p]? = some (.cells #[rv', fv, .int .i64 d.steps] 198 (0, 0)))
    (hr : rowAt w' 200 5 rv' fl'.length (rfCells fl')) (hT : ∀ k, S k → T k) (hob : ∀ k, rv'.ownBlock = some k → T k) (hTl : ∀ k, T k → k < w'.heap.size)
    (hs : (fl'.map (·.name)).Pairwise (· < ·)) (hn : ∀ f ∈ fl', nameOk f.name = true) (hz : ∀ f ∈ fl', f.lasts ≤ f.bytes.length ∧ f.bytes.length ≤ 16777216) (hf : fl'.length ≤ 4096) : RfIs w' T p rv' fv { d with files := fl' } :=
  { head := hq
    files := hr
    fates := h.fates.kept (fun k hk => ho.block k (h.low k (h.footf k hk)) (h.fp k hk))
    footp := hT p h.footp
    footr := hob
    footf := fun k hk => hT k (h.footf k hk)
    low := hTl
    sorted := hs
    names := hn
    sizes := hz
    few := hf }
end
/-- one cell of a row is written -/
theorem rowAt.setAt {w : World} {e : TypeId} {size g off m c n : Nat} {xs : List Value} (h : rowAt w e size (.slice (some ⟨g, off, none⟩) m c) n xs) {j : Nat} (hj : j < n * size) (v : Value) :
    rowAt (w.setCell ⟨g, off + j, none⟩ v) e size (.slice (some ⟨g, off, none⟩) m c) n (xs.set j v) := by
  refine ⟨by rw [List.length_set]; exact h.1, ?_⟩
  rcases h.2 with ⟨hv, _⟩ | ⟨g', off', cap, cur, fr, hv, hg, h1, h2, h3, h4, h5⟩
  · cases hv
  · simp only [Value.slice.injEq, Option.some.injEq, Addr.mk.injEq] at hv
    obtain ⟨⟨rfl, rfl, -⟩, rfl, rfl⟩ := hv
    refine .inr ⟨g, off, c, cur.setIfInBounds (off + j) v, fr, rfl, heap_setCell_here v hg, h1, h2, by simpa using h3, by simpa using h4, ?_⟩
    rw [← h5, Array.toList_setIfInBounds, List.drop_set, if_neg (by omega), List.take_set]
    congr 2
    omega
theorem rowAt.freeAt {w : World} {e : TypeId} {size g off m c n : Nat} {xs : List Value} (h : rowAt w e size (.slice (some ⟨g, off, none⟩) m c) n xs) {j : Nat} (hj : j < n * size) : w.frozen? ⟨g, off + j, none⟩ = false := by
  rcases h.2 with ⟨hv, _⟩ | ⟨g', off', cap, cur, fr, hv, hg, h1, h2, h3, h4, h5⟩
  · cases hv
  · simp only [Value.slice.injEq, Option.some.injEq, Addr.mk.injEq] at hv
    obtain ⟨⟨rfl, rfl, -⟩, rfl, rfl⟩ := hv
    have h6 : m * size ≤ c * size := Nat.mul_le_mul_right _ h1
    simp only [World.frozen?, hg]
    exact h4 _ (by omega)
end Go.Proofs.Ytmkjejngnahpeaa
/- The document's disk: a name is asked for, a file is found, the next step. -/
namespace Go.Proofs.Ytmkjejngnahpeaa
open Go Go.Maps Go.RowKit
open Go.Proofs (encStr)

set_option maxHeartbeats 400000 in
theorem refNamed_any (s : ByteArray) (w : World) (hs : s.size ≤ maxLen) :
    Calls Try.prog 127 #[.string s] w fun e w' => e = .returned (.bool (nameOk s.data.toList)) ∧ w' = w := by
  unfold maxLen at hs
  obtain ⟨l, hl⟩ : ∃ l, s.data.toList = l := ⟨_, rfl⟩
  have hll : l.length = s.size := by rw [← hl, Array.length_toList]; rfl
  by_cases h1 : 1 ≤ s.size
  case neg =>
    have HF : Hid (nameOk l = false) := Lib.hid (by
      unfold nameOk
      have : decide (1 ≤ l.length) = false := decide_eq_false (by omega)
      rw [this]; simp)
    have e1 : decide ((s.size : Int) < 1) = true := decide_eq_true (by omega)
    rw [hl]
    clear hl hll
    go_enter Try.func127, Try.ntmps127
    go_wp2_with fail
    go_ret
    exact ⟨ret_bool HF.out.symm, rfl⟩
  by_cases h2 : s.size ≤ 32
  case neg =>
    have HF : Hid (nameOk l = false) := Lib.hid (by
      unfold nameOk
      have : decide (l.length ≤ 32) = false := decide_eq_false (by omega)
      rw [this]; simp)
    have e1 : decide ((s.size : Int) < 1) = false := decide_eq_false (by omega)
    have e2 : decide ((32 : Int) < (s.size : Int)) = true := by simp; omega
    rw [hl]
    clear hl hll
    go_enter Try.func127, Try.ntmps127
    go_wp2_with fail
    go_ret
    exact ⟨ret_bool HF.out.symm, rfl⟩
  have e1 : decide ((s.size : Int) < 1) = false := decide_eq_false (by omega)
  have e2 : decide ((32 : Int) < (s.size : Int)) = false := by simp; omega
  have HN : Hid (s.data.toList.all okByte = true → nameOk s.data.toList = true) := Lib.hid (fun h => by
    unfold nameOk
    rw [h, hl]
    simp; omega)
  clear hl hll
  go_enter Try.func127, Try.ntmps127
  go_wp2
  clear e1 e2
  go_loop [3] (fun i => ∃ k : Nat, k ≤ s.size ∧ i = .int .i64 k ∧ AllOk (s.data.toList.take k)) (fun i => s.size - (intOf i).toNat)
  case atStart => exact ⟨0, Nat.zero_le _, rfl, by simp [AllOk]⟩
  case round =>
    obtain ⟨k, hk, rfl, hlow⟩ := hrel
    by_cases hlt : k < s.size
    · obtain ⟨c, hcc⟩ : ∃ c : Nat, (s[k]'hlt).toNat = c := ⟨_, rfl⟩
      have HR : Hid ((97 ≤ c ∧ c ≤ 122) ∨ (48 ≤ c ∧ c ≤ 57) ∨ c = 46 ∨ c = 45 → AllOk (s.data.toList.take (k + 1))) := Lib.hid fun h => AllOk.snoc hlt hlow ((okByte_iff _ c hcc).2 h)
      have HF : Hid (¬ ((97 ≤ c ∧ c ≤ 122) ∨ (48 ≤ c ∧ c ≤ 57) ∨ c = 46 ∨ c = 45) → nameOk s.data.toList = false) := Lib.hid fun h => nameOk_not hlt (by
        cases hb : okByte s[k] with
        | false => rfl
        | true => exact absurd ((okByte_iff _ c hcc).1 hb) h)
      clear hlow
      by_cases h0 : 97 ≤ c ∧ c ≤ 122
      · skip
        have e1 : decide ((97 : Int) ≤ (c : Int)) = true := by simp; omega
        have e2 : decide ((c : Int) ≤ 122) = true := by simp; omega
        have HO : Hid (AllOk (s.data.toList.take (k + 1))) := Lib.hid (HR.out (by omega))
        clear HR HF
        go_wp2
        go_round
        case rel => exact ⟨k + 1, by omega, by go_num, HO.out⟩
        case measure => simp [intOf]; omega
      by_cases h1 : 48 ≤ c ∧ c ≤ 57
      · skip
        have e1 : decide ((97 : Int) ≤ (c : Int)) = false := by simp; omega
        have e3 : decide ((48 : Int) ≤ (c : Int)) = true := by simp; omega
        have e4 : decide ((c : Int) ≤ 57) = true := by simp; omega
        have HO : Hid (AllOk (s.data.toList.take (k + 1))) := Lib.hid (HR.out (by omega))
        clear HR HF
        go_wp2
        go_round
        case rel => exact ⟨k + 1, by omega, by go_num, HO.out⟩
        case measure => simp [intOf]; omega
      by_cases h2 : c = 46
      · skip
        have e1 : decide ((97 : Int) ≤ (c : Int)) = false := by simp; omega
        have e3 : decide ((48 : Int) ≤ (c : Int)) = false := by simp; omega
        have e5 : ((c : Int) == 46) = true := by simp; omega
        have HO : Hid (AllOk (s.data.toList.take (k + 1))) := Lib.hid (HR.out (by omega))
        clear HR HF
        go_wp2
        go_round
        case rel => exact ⟨k + 1, by omega, by go_num, HO.out⟩
        case measure => simp [intOf]; omega
      by_cases h3 : c = 45
      · skip
        have e1 : decide ((97 : Int) ≤ (c : Int)) = false := by simp; omega
        have e3 : decide ((48 : Int) ≤ (c : Int)) = false := by simp; omega
        have e5 : ((c : Int) == 46) = false := by simp; omega
        have e6 : ((c : Int) == 45) = true := by simp; omega
        have HO : Hid (AllOk (s.data.toList.take (k + 1))) := Lib.hid (HR.out (by omega))
        clear HR HF
        go_wp2
        go_round
        case rel => exact ⟨k + 1, by omega, by go_num, HO.out⟩
        case measure => simp [intOf]; omega
      by_cases h4 : 122 < c
      · skip
        have e1 : decide ((97 : Int) ≤ (c : Int)) = true := by simp; omega
        have e2 : decide ((c : Int) ≤ 122) = false := by simp; omega
        have e3 : decide ((48 : Int) ≤ (c : Int)) = true := by simp; omega
        have e4 : decide ((c : Int) ≤ 57) = false := by simp; omega
        have e5 : ((c : Int) == 46) = false := by simp; omega
        have e6 : ((c : Int) == 45) = false := by simp; omega
        have HO : Hid (nameOk s.data.toList = false) := Lib.hid (HF.out (by omega))
        clear HR HF
        go_wp2
        go_ret
        exact ⟨ret_bool HO.out.symm, rfl⟩
      by_cases h5 : 57 < c
      · skip
        have e1 : decide ((97 : Int) ≤ (c : Int)) = false := by simp; omega
        have e3 : decide ((48 : Int) ≤ (c : Int)) = true := by simp; omega
        have e4 : decide ((c : Int) ≤ 57) = false := by simp; omega
        have e5 : ((c : Int) == 46) = false := by simp; omega
        have e6 : ((c : Int) == 45) = false := by simp; omega
        have HO : Hid (nameOk s.data.toList = false) := Lib.hid (HF.out (by omega))
        clear HR HF
        go_wp2
        go_ret
        exact ⟨ret_bool HO.out.symm, rfl⟩
      have hrest : c < 48 ∧ c ≠ 46 ∧ c ≠ 45 := by omega
      · skip
        have e1 : decide ((97 : Int) ≤ (c : Int)) = false := by simp; omega
        have e3 : decide ((48 : Int) ≤ (c : Int)) = false := by simp; omega
        have e5 : ((c : Int) == 46) = false := by simp; omega
        have e6 : ((c : Int) == 45) = false := by simp; omega
        have HO : Hid (nameOk s.data.toList = false) := Lib.hid (HF.out (by omega))
        clear HR HF
        go_wp2
        go_ret
        exact ⟨ret_bool HO.out.symm, rfl⟩
    · obtain rfl : k = s.size := by omega
      have HF : Hid (nameOk s.data.toList = true) := Lib.hid (HN.out (by
        have h1 : AllOk (s.data.toList.take s.size) := hlow
        rwa [AllOk, List.take_of_length_le (by simp)] at h1))
      clear hlow
      go_wp2
      go_ret
      exact ⟨ret_bool HF.out.symm, rfl⟩
/-- the place of a name -/
def PosIs (d : Dk) (s : List UInt8) (e : Ending) : Prop :=
  (d.at s = none ∧ e = .returned (.int .i64 (-1))) ∨ (∃ (i : Nat) (h : i < d.files.length), d.files[i].name = s ∧ d.at s = some d.files[i] ∧ e = .returned (.int .i64 i))
theorem at_first {l : List F0} {s : List UInt8} {i : Nat} (hi : i < l.length) (h : l[i].name = s) (hn : ∀ f ∈ l.take i, f.name ≠ s) : l.find? (fun f => f.name == s) = some l[i] := by
  have e : l = l.take i ++ (l[i] :: l.drop (i + 1)) := by rw [← List.drop_eq_getElem_cons hi, List.take_append_drop]
  generalize l[i] = x at *
  rw [congrArg (List.find? fun f => f.name == s) e, List.find?_append, List.find?_eq_none.2 (fun y hy => by simpa using hn y hy)]
  simp [h]
theorem rf_cell {w : World} {g off N c i j : Nat} {l : List F0} (h : rowAt w 200 5 (.slice (some ⟨g, off, none⟩) N c) N (rfCells l)) (hj : j < l.length) (hi : i < 5) {u : Value} (hu : (rfFile l[j])[i]? = some u) : w.cell? ⟨g, off + j * 5 + i, none⟩ = some u := by
  have := h.cells (g := g) (off := off) rfl (j * 5 + i) u (by rw [rfCells_get hj hi, hu])
  simpa [Go.WideShapes.add_plain, Nat.add_assoc] using this
set_option maxRecDepth 100000 in
set_option maxHeartbeats 1000000 in
theorem refAt_b {w : World} {S : Nat → Prop} {p : Nat} {rv fv : Value} {d : Dk} (h : RfIs w S p rv fv d) (nm : ByteArray) :
    Calls Try.prog 128 #[.pointer (some ⟨p, 0, none⟩), .string nm] w fun e w' => PosIs d nm.data.toList e ∧ w' = w := by
  obtain ⟨oa, c, rfl, hnc⟩ := h.files.shape
  obtain ⟨N, hN⟩ : ∃ N, d.files.length = N := ⟨_, rfl⟩
  have c0 : w.cell? ⟨p, 0, none⟩ = some (.slice oa N c) := cell_of h.head (by rw [← hN]; rfl)
  have hN4 : N ≤ 4096 := by rw [← hN]; exact h.few
  have hrow := h.files
  rw [hN] at hrow
  have HR := Lib.hid hrow
  have HN := Lib.hid hN
  clear hrow hN h hnc
  go_enter Try.func128, Try.ntmps128
  go_wp2_with fail
  go_loop [5] (fun i => ∃ j : Nat, j ≤ N ∧ i = .int .i64 j ∧ Hid (∀ f ∈ d.files.take j, f.name ≠ nm.data.toList)) (fun i => N - (intOf i).toNat)
  case atStart => exact ⟨0, Nat.zero_le _, rfl, Lib.hid (by simp)⟩
  case round =>
    obtain ⟨j, hj, rfl, HA⟩ := hrel
    by_cases hlt : j < N
    · have hjf : j < d.files.length := by rw [HN.out]; exact hlt
      obtain ⟨g, off, rfl⟩ := HR.out.addr (by omega)
      obtain ⟨x, hx⟩ : ∃ x, d.files[j] = x := ⟨_, rfl⟩
      obtain ⟨xn, hxn⟩ : ∃ a : ByteArray, a = ⟨x.name.toArray⟩ := ⟨_, rfl⟩
      have k0 : w.cell? ⟨g, off + j * 5, none⟩ = some (.string xn) := rf_cell (i := 0) HR.out hjf (by omega) (by rw [hx, hxn]; rfl)
      by_cases hn : x.name = nm.data.toList
      · have hab : xn = nm := by rw [hxn, hn]
        have HE : Hid (PosIs d nm.data.toList (.returned (.int .i64 j))) := Lib.hid (.inr ⟨j, hjf, by rw [hx]; exact hn, at_first hjf (by rw [hx]; exact hn) HA.out, rfl⟩)
        have heq := str_eq_true hab
        clear hx hxn hn hab
        go_wp2_with fail
        go_ret
        exact ⟨HE.out, rfl⟩
      · have hab : ¬ xn = nm := fun e => hn (by rw [← e, hxn])
        have HA2 : Hid (∀ f ∈ d.files.take (j + 1), f.name ≠ nm.data.toList) := Lib.hid (fun f hf => by
          rw [List.take_succ_eq_append_getElem hjf] at hf
          rcases List.mem_append.1 hf with h1 | h1
          · exact HA.out f h1
          · rw [List.mem_singleton] at h1
            rw [h1, hx]; exact hn)
        have heq := str_eq_false hab
        clear hx hxn hn hab
        go_wp2_with fail
        exact ⟨⟨j + 1, by omega, by simp, HA2⟩, by simp [intOf]; omega⟩
    · obtain rfl : j = N := by omega
      have HE : Hid (PosIs d nm.data.toList (.returned (.int .i64 (-1)))) := Lib.hid (.inl ⟨List.find?_eq_none.2 (fun f hf => by
        have h1 := HA.out
        rw [← HN.out, List.take_length] at h1
        simpa using h1 f hf), rfl⟩)
      go_wp2_with fail
      go_ret
      exact ⟨HE.out, rfl⟩
def RFindIs (d : Dk) (s : List UInt8) (e : Ending) : Prop :=
  (nameOk s = false ∧ e = .returned (.tuple #[.int .i64 0, .int .i64 2])) ∨ (nameOk s = true ∧ d.find s = none ∧ e = .returned (.tuple #[.int .i64 0, .int .i64 171])) ∨
  (nameOk s = true ∧ ∃ (i : Nat) (h : i < d.files.length), d.files[i].name = s ∧ d.files[i].there = true ∧ d.find s = some d.files[i] ∧ e = .returned (.tuple #[.int .i64 i, .int .i64 0]))
set_option maxRecDepth 100000 in
set_option maxHeartbeats 1000000 in
theorem refFind_b {w : World} {S : Nat → Prop} {p : Nat} {rv fv : Value} {d : Dk} (h : RfIs w S p rv fv d) (nm : ByteArray) (hs : nm.size ≤ maxLen) :
    Calls Try.prog 130 #[.pointer (some ⟨p, 0, none⟩), .string nm] w fun e w' => RFindIs d nm.data.toList e ∧ w' = w := by
  obtain ⟨s, hss⟩ : ∃ s, nm.data.toList = s := ⟨_, rfl⟩
  go_enter Try.func130, Try.ntmps130
  go_wp2_with fail
  refine (refNamed_any nm _ hs).mono ?_
  rintro e w' ⟨rfl, rfl⟩
  rw [hss]
  cases hn : nameOk s with
  | false =>
    have HF : Hid (RFindIs d s (.returned (.tuple #[.int .i64 0, .int .i64 2]))) := Lib.hid (.inl ⟨hn, rfl⟩)
    have HSS := Lib.hid hss
    clear h hn hss
    go_wp2_with fail
    go_ret2
    exact ⟨by rw [HSS.out]; exact HF.out, rfl⟩
  | true =>
    have HH := Lib.hid h
    have HNK := Lib.hid hn
    have HSS := Lib.hid hss
    clear h hn hss
    go_wp2_with fail
    refine (refAt_b HH.out nm).mono ?_
    rintro e w1 ⟨hp, hw1⟩
    obtain rfl := hw1.symm
    rw [HSS.out] at hp
    rcases hp with ⟨ha, rfl⟩ | ⟨i, hi, hxn, ha, rfl⟩
    · have HF : Hid (RFindIs d s (.returned (.tuple #[.int .i64 0, .int .i64 171]))) := Lib.hid (.inr (.inl ⟨HNK.out, by simp [Dk.find, ha], rfl⟩))
      clear ha
      go_wp2_with fail
      go_ret2
      exact ⟨by rw [HSS.out]; exact HF.out, rfl⟩
    · have h := HH.out
      obtain ⟨oa, c, rfl, hnc⟩ := h.files.shape
      obtain ⟨N, hN⟩ : ∃ N, d.files.length = N := ⟨_, rfl⟩
      have c0 : w'.cell? ⟨p, 0, none⟩ = some (.slice oa N c) := cell_of h.head (by rw [← hN]; rfl)
      have hN4 : N ≤ 4096 := by rw [← hN]; exact h.few
      have hrow := h.files
      rw [hN] at hrow
      have hiN : i < N := by omega
      obtain ⟨g, off, rfl⟩ := hrow.addr (by omega)
      obtain ⟨x, hx⟩ : ∃ x, d.files[i] = x := ⟨_, rfl⟩
      obtain ⟨t, ht⟩ : ∃ t, x.there = t := ⟨_, rfl⟩
      have k0 : w'.cell? ⟨g, off + i * 5 + 3, none⟩ = some (.bool t) := rf_cell (i := 3) hrow hi (by omega) (by rw [hx, ← ht]; rfl)
      have hneg : decide ((i : Int) < 0) = false := decide_eq_false (by omega)
      rw [hx] at ha hxn
      have HX := Lib.hid (And.intro hx (And.intro ha (And.intro hxn (And.intro ht hi))))
      clear hx ha hxn ht hrow hnc hN h
      cases t
      · have HF : Hid (RFindIs d s (.returned (.tuple #[.int .i64 0, .int .i64 171]))) := Lib.hid (.inr (.inl ⟨HNK.out, by simp [Dk.find, HX.out.2.1, HX.out.2.2.2.1], rfl⟩))
        go_wp2_with fail
        go_ret2
        exact ⟨by rw [HSS.out]; exact HF.out, rfl⟩
      · have HF : Hid (RFindIs d s (.returned (.tuple #[.int .i64 i, .int .i64 0]))) := Lib.hid (.inr (.inr ⟨HNK.out, i, HX.out.2.2.2.2, by rw [HX.out.1]; exact HX.out.2.2.1, by rw [HX.out.1]; exact HX.out.2.2.2.1, by rw [HX.out.1]; simp [Dk.find, HX.out.2.1, HX.out.2.2.2.1], rfl⟩))
        go_wp2_with fail
        go_ret2
        exact ⟨by rw [HSS.out]; exact HF.out, rfl⟩
end Go.Proofs.Ytmkjejngnahpeaa
