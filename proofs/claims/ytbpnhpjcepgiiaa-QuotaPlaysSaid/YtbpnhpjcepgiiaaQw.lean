/- QuotaPlays: the document's buckets in a row, and their methods. -/
import Derived.Test.YtbpnhpjcepgiiaaQr
import Derived.Deep.QuietTactic
import Derived.Deep.RegionWith
namespace Go.Proofs.Ytbpnhpjcepgiiaa
open Go.RowKit Fl

def encR (bs : List Bk) : Array Value := (bs.flatMap Bk.vals).toArray
/-- at s lies a row of the document's buckets -/
def HasR (w : World) (s : Nat) (T : TypeId) (bs : List Bk) : Prop := bs.length = 64 ∧ w.heap[s]? = some (.cells (encR bs) T (0, 0))

section
variable {w : World} {s : Nat} {T : TypeId} {bs : List Bk}
theorem HasR.lt (h : HasR w s T bs) : s < w.heap.size := (Array.getElem?_eq_some_iff.1 h.2).1
theorem HasR.cell (h : HasR w s T bs) (i k : Nat) (hi : i < bs.length) (hk : k < 6) : w.cell? ⟨s, i * 6 + k, none⟩ = (bs[i]'hi).vals[k]? := by
  rw [cell_of_row w s _ _ _ _ h.2]
  simp only [encR, List.getElem?_toArray]
  exact flat_get bs i k hi hk
theorem HasR.bk (h : HasR w s T bs) (i : Nat) (hi : i < bs.length) : BkAt w s (i * 6) (bs[i]'hi) where
  rate := h.cell i 0 hi (by omega)
  burst := h.cell i 1 hi (by omega)
  level := h.cell i 2 hi (by omega)
  time := h.cell i 3 hi (by omega)
  paid := h.cell i 4 hi (by omega)
  times := h.cell i 5 hi (by omega)
  free := fun k => by simp [World.frozen?, h.2]
theorem HasR.store (h : HasR w s T bs) (i k : Nat) (v : Value) (b' : Bk) (hi : i < bs.length) (hk : k < 6) (hb : b'.vals = (bs[i]'hi).vals.set k v) :
    HasR (w.setCell ⟨s, i * 6 + k, none⟩ v) s T (bs.set i b') := by
  refine ⟨by rw [List.length_set]; exact h.1, ?_⟩
  have hs := h.lt
  have he : (encR bs).setIfInBounds (i * 6 + k) v = encR (bs.set i b') := by
    apply Array.ext'
    rw [Array.toList_setIfInBounds]
    simp only [encR]
    rw [flat_set bs i k v b' hi hk hb]
  show (w.heap.modify s _)[s]? = _
  rw [Array.getElem?_modify, if_pos rfl, h.2]
  simp [he]
theorem HasR.of {w' : World} (h : HasR w s T bs) (e : w'.heap[s]? = w.heap[s]?) : HasR w' s T bs := ⟨h.1, by rw [e]; exact h.2⟩
theorem HasR.below {w' : World} (h : HasR w s T bs) (hb : Below w.heap.size w w') : HasR w' s T bs := h.of (hb.block s h.lt)
theorem HasR.grown {w' : World} {r : Nat} (h : HasR w s T bs) (hg : w.grownBy w' (some r)) (hne : s ≠ r) : HasR w' s T bs := h.of (hg.block s h.lt (by simpa using hne))
end

theorem min_cases (x y : Nat) : (y < x → min y x = y) ∧ (¬ y < x → min y x = x) := by omega

set_option maxRecDepth 100000 in
set_option maxHeartbeats 400000 in
theorem rat_old (q o : Nat) (b : Bk) (t : Int) (w : World) (hb : BkAt w q o b) (ht : t ≤ b.time) :
    Calls Try.prog 85 #[.pointer (some ⟨q, o, none⟩), .int .i64 t] w fun e w' => e = .returned (.float .f64 b.level) ∧ ∃ n, w' = w.drewN n := by
  have h3 := hb.time
  have h2 := hb.level
  have hle : decide (t ≤ b.time) = true := by simp [ht]
  clear ht hb
  go_enter Try.func85, Try.ntmps85
  go_wp2
  go_ret
  exact ⟨rfl, 0, rfl⟩

set_option maxRecDepth 100000 in
set_option maxHeartbeats 400000 in
theorem rat_new (q o : Nat) (b : Bk) (t : Int) (w : World) (hb : BkAt w q o b) (hok : BkOk b) (ht : b.time < t) (ht2 : t ≤ 9007199254740992) :
    Calls Try.prog 85 #[.pointer (some ⟨q, o, none⟩), .int .i64 t] w fun e w' => e = .returned (.float .f64 (min b.burst (fadd b.level (fmul (rv b.rate) (i2r (t - b.time).toNat))))) ∧ ∃ n, w' = w.drewN n := by
  have h0 := hb.rate
  have h1 := hb.burst
  have h2 := hb.level
  have h3 := hb.time
  have ht0 := hok.time0
  have hbi := hok.burst1
  obtain ⟨dt, hdt⟩ : ∃ dt : Nat, (dt : Int) = t - b.time := ⟨(t - b.time).toNat, by omega⟩
  have hdt' : (t - b.time).toNat = dt := by omega
  obtain ⟨d, hd⟩ : ∃ d, d = i2r dt := ⟨_, rfl⟩
  have hdf : d < inf := by rw [hd]; exact i2r_fin dt (by omega)
  obtain ⟨z, hz, hz1, hz2⟩ := mul_nn b.rate d hok.rate hdf
  have hsum := add_nn b.level z (by have := hok.level; omega) hz1
  rw [hdt', ← hd, ← hz2]
  obtain ⟨s, hs⟩ : ∃ s, s = fadd b.level (rv z) := ⟨_, rfl⟩
  rw [← hs] at hsum ⊢
  have hcv : floatOfInt .f64 (t - b.time) = d := by rw [← hdt, floatOfInt_nat, hd]
  have hw : IntKind.i64.wrap (t - b.time) = t - b.time := IntWalk.i64_in _ (by have := hok.time1; omega)
  have hmul := fun (T : TypeId) (W : World) => run_float_arith (P := Try.prog) W .mul T .f64 b.rate d z hz
  have hadd := fun (T : TypeId) (W : World) => run_float_arith (P := Try.prog) W .add T .f64 b.level z s hsum
  have hle : decide (t ≤ b.time) = false := by simp; omega
  have hgt : (FloatKind.f64.format.order s b.burst == some .gt) = decide (b.burst < s) := order_gt_nn _ _ (by rw [hs]; exact fadd_le _ _) (by omega)
  obtain ⟨u, hu⟩ : ∃ u, u = b.burst := ⟨_, rfl⟩
  rw [← hu] at hgt h1 ⊢
  clear hdt hdt' hd hdf hz hz1 hz2 hsum hs ht hok hb hbi hu
  by_cases hus : u < s
  · rw [decide_eq_true hus] at hgt
    have hm := (min_cases s u).1 hus
    rw [hm]
    clear hus hm
    go_enter Try.func85, Try.ntmps85
    go_wp2
    go_quiet (fail)
    go_wp2
    go_ret
    exact ⟨rfl, _, rfl⟩
  · rw [decide_eq_false hus] at hgt
    have hm := (min_cases s u).2 hus
    rw [hm]
    clear hus hm
    go_enter Try.func85, Try.ntmps85
    go_wp2
    go_quiet (fail)
    go_wp2
    go_ret
    exact ⟨rfl, _, rfl⟩

theorem rat_any (q o : Nat) (b : Bk) (t : Int) (w : World) (hb : BkAt w q o b) (hok : BkOk b) (ht2 : t ≤ 9007199254740992) :
    Calls Try.prog 85 #[.pointer (some ⟨q, o, none⟩), .int .i64 t] w fun e w' => e = .returned (.float .f64 (atL b t)) ∧ ∃ n, w' = w.drewN n := by
  unfold atL
  by_cases h : t ≤ b.time
  · rw [if_pos h]; exact rat_old q o b t w hb h
  · rw [if_neg h]; exact rat_new q o b t w hb hok (by omega) ht2

section
variable {w : World} {s i : Nat} {T : TypeId} {bs : List Bk} {b : Bk}
set_option maxRecDepth 100000 in
set_option maxHeartbeats 400000 in
theorem ron_b (h : HasR w s T bs) (hb : bs[i]? = some b) (hok : BkOk b) (t : Int) (ht : t ≤ 9007199254740992) :
    Calls Try.prog 65 #[.pointer (some ⟨s, i * 6, none⟩), .int .i64 t] w fun e w' => e = .returned (.tuple #[]) ∧
      HasR w' s T (bs.set i (onB b t)) ∧ w.grownBy w' (some s) := by
  obtain ⟨hi, rfl⟩ := List.getElem?_eq_some_iff.1 hb
  have hbk := h.bk i hi
  obtain ⟨l, hl⟩ : ∃ l, l = atL (bs[i]'hi) t := ⟨_, rfl⟩
  have hat := rat_any s (i * 6) (bs[i]'hi) t w hbk hok ht
  rw [← hl] at hat
  have HAT := Lib.hid hat
  have h3 := hbk.time
  have f2 := hbk.free (i * 6 + 2)
  have f3 := hbk.free (i * 6 + 3)
  obtain ⟨tm, htm⟩ : ∃ tm, tm = (bs[i]'hi).time := ⟨_, rfl⟩
  rw [← htm] at h3
  have hmax := fun (W : World) => run_max W #[2, 2] 2 tm t
  have hsf := run_store_float
  have H := Lib.hid h
  have HL := Lib.hid hl
  have HTM := Lib.hid htm
  clear hb hbk hat hl htm hok ht h
  go_enter Try.func65, Try.ntmps65
  go_wp2_with fail
  refine HAT.out.mono ?_
  rintro e w' ⟨rfl, n, rfl⟩
  have hbk := (H.out.of (w' := w.drewN n) rfl).bk i hi
  have g2 := hbk.free (i * 6 + 2)
  have g3 := hbk.free (i * 6 + 3)
  have h3' := hbk.time
  have h2' := hbk.level
  rw [← HTM.out] at h3'
  clear hbk
  go_wp2_with fail
  go_end0
  refine ⟨rfl, ?_, ?_⟩
  · have s1 := (H.out.of (w' := w.drewN n) rfl).store i 2 (.float .f64 l) { bs[i]'hi with level := l } hi (by omega) rfl
    have s2 := s1.store i 3 (.int .i64 (max tm t)) { bs[i]'hi with level := l, time := max tm t } (by rw [List.length_set]; exact hi) (by omega) (by rw [List.getElem_set_self]; rfl)
    rw [List.set_set] at s2
    rw [show onB (bs[i]'hi) t = { bs[i]'hi with level := l, time := max tm t } by rw [HL.out, HTM.out]; rfl]
    exact s2.of rfl
  · exact grown_trans (grown_drewN _ n _) (grown_trans (grown_setCell _ _ _ _) (grown_setCell _ _ _ _))
end
end Go.Proofs.Ytbpnhpjcepgiiaa
