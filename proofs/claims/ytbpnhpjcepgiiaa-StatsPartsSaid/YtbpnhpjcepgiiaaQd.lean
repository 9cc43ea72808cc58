/- Quota: all buckets in memory; a level, what was paid. -/
import Derived.Test.YtbpnhpjcepgiiaaQc
namespace Go.Proofs.Ytbpnhpjcepgiiaa
open Go.RowKit Fl

def encQ (bs : List Bk) : Array Value := (bs.flatMap Bk.vals ++ [Value.bool true]).toArray
/-- at q lie the buckets bs -/
def HasQ (w : World) (q : Nat) (bs : List Bk) : Prop := bs.length = 64 ∧ w.heap[q]? = some (.cells (encQ bs) 70 (0, 0))

theorem vals_length (b : Bk) : b.vals.length = 6 := rfl
theorem flat_length (bs : List Bk) : (bs.flatMap Bk.vals).length = 6 * bs.length := by
  induction bs with
  | nil => rfl
  | cons b bs ih => rw [List.flatMap_cons, List.length_append, ih, vals_length, List.length_cons]; omega
theorem flat_get (bs : List Bk) : ∀ (i k : Nat) (hi : i < bs.length), k < 6 → (bs.flatMap Bk.vals)[i * 6 + k]? = (bs[i]'hi).vals[k]? := by
  induction bs with
  | nil => intro i k hi; simp at hi
  | cons b bs ih =>
    intro i k hi hk
    rw [List.flatMap_cons]
    cases i with
    | zero => rw [List.getElem?_append_left (by rw [vals_length]; omega)]; simp
    | succ i =>
      rw [List.getElem?_append_right (by rw [vals_length]; omega), vals_length, show (i + 1) * 6 + k - 6 = i * 6 + k by omega]
      exact ih i k (by simpa using hi) hk
theorem flat_set (bs : List Bk) : ∀ (i k : Nat) (v : Value) (b' : Bk) (hi : i < bs.length), k < 6 → b'.vals = (bs[i]'hi).vals.set k v →
    (bs.flatMap Bk.vals).set (i * 6 + k) v = (bs.set i b').flatMap Bk.vals := by
  induction bs with
  | nil => intro i k v b' hi; simp at hi
  | cons b bs ih =>
    intro i k v b' hi hk hb
    rw [List.flatMap_cons]
    cases i with
    | zero =>
      rw [List.set_cons_zero, List.flatMap_cons, List.set_append_left _ _ (by rw [vals_length]; omega), hb]
      simp
    | succ i =>
      rw [List.set_cons_succ, List.flatMap_cons, List.set_append_right _ _ (by rw [vals_length]; omega), vals_length, show (i + 1) * 6 + k - 6 = i * 6 + k by omega]
      rw [ih i k v b' (by simpa using hi) hk (by simpa using hb)]

section
variable {w : World} {q : Nat} {bs : List Bk}
theorem HasQ.made (h : HasQ w q bs) : w.cell? ⟨q, 384, none⟩ = some (.bool true) := by
  rw [cell_of_row w q 384 _ _ _ h.2]
  have hl := flat_length bs
  rw [h.1] at hl
  simp only [encQ, List.getElem?_toArray]
  rw [List.getElem?_append_right (by omega), hl]
  rfl
theorem HasQ.lt (h : HasQ w q bs) : q < w.heap.size := (Array.getElem?_eq_some_iff.1 h.2).1
theorem HasQ.cell (h : HasQ w q bs) (i k : Nat) (hi : i < bs.length) (hk : k < 6) : w.cell? ⟨q, i * 6 + k, none⟩ = (bs[i]'hi).vals[k]? := by
  rw [cell_of_row w q _ _ _ _ h.2]
  have hl := flat_length bs
  simp only [encQ, List.getElem?_toArray]
  rw [List.getElem?_append_left (by omega)]
  exact flat_get bs i k hi hk
theorem HasQ.bk (h : HasQ w q bs) (i : Nat) (hi : i < bs.length) : BkAt w q (i * 6) (bs[i]'hi) where
  rate := h.cell i 0 hi (by omega)
  burst := h.cell i 1 hi (by omega)
  level := h.cell i 2 hi (by omega)
  time := h.cell i 3 hi (by omega)
  paid := h.cell i 4 hi (by omega)
  times := h.cell i 5 hi (by omega)
  free := fun k => by simp [World.frozen?, h.2]
theorem HasQ.store (h : HasQ w q bs) (i k : Nat) (v : Value) (b' : Bk) (hi : i < bs.length) (hk : k < 6) (hb : b'.vals = (bs[i]'hi).vals.set k v) :
    HasQ (w.setCell ⟨q, i * 6 + k, none⟩ v) q (bs.set i b') := by
  refine ⟨by rw [List.length_set]; exact h.1, ?_⟩
  have hl := flat_length bs
  have hs := h.lt
  have he : (encQ bs).setIfInBounds (i * 6 + k) v = encQ (bs.set i b') := by
    apply Array.ext'
    rw [Array.toList_setIfInBounds]
    simp only [encQ]
    rw [List.set_append_left _ _ (by omega), flat_set bs i k v b' hi hk hb]
  show (w.heap.modify q _)[q]? = _
  rw [Array.getElem?_modify, if_pos rfl, h.2]
  simp [he]
theorem HasQ.of {w' : World} (h : HasQ w q bs) (e : w'.heap[q]? = w.heap[q]?) : HasQ w' q bs := ⟨h.1, by rw [e]; exact h.2⟩
theorem HasQ.below {w' : World} (h : HasQ w q bs) (hb : Below w.heap.size w w') : HasQ w' q bs := h.of (hb.block q h.lt)
theorem HasQ.grown {w' : World} {r : Nat} (h : HasQ w q bs) (hg : w.grownBy w' (some r)) (hne : q ≠ r) : HasQ w' q bs := h.of (hg.block q h.lt (by simpa using hne))
end

theorem grown_trans {w w1 w2 : World} {row : Option Nat} (h : w.grownBy w1 row) (g : w1.grownBy w2 row) : w.grownBy w2 row :=
  ⟨g.os.trans h.os, g.tape.trans h.tape, g.output.trans h.output, Nat.le_trans h.size g.size, fun k hk hne => (g.block k (by have := h.size; omega) hne).trans (h.block k hk hne)⟩
theorem grown_setCell (w : World) (q o : Nat) (v : Value) : w.grownBy (w.setCell ⟨q, o, none⟩ v) (some q) :=
  ⟨rfl, rfl, rfl, by simp [World.setCell], fun k _ hne => Below.heap_setCell _ _ _ _ (fun e => hne (by simp [e]))⟩
theorem grown_drewN (w : World) (n : Nat) (row : Option Nat) : w.grownBy (w.drewN n) row := ⟨rfl, rfl, rfl, Nat.le_refl _, fun _ _ _ => rfl⟩
theorem grown_below {w w' : World} (h : Below w.heap.size w w') (row : Option Nat) : w.grownBy w' row := ⟨h.os, h.tape, h.output, h.size, fun k hk _ => h.block k hk⟩

/-- brought on -/
def onB (b : Bk) (t : Int) : Bk := { b with level := atL b t, time := max b.time t }

theorem atL_le (b : Bk) (t : Int) (h : BkOk b) : atL b t ≤ b.burst := by
  unfold atL
  split
  · exact h.level
  · exact Nat.min_le_left _ _
theorem onB_ok (b : Bk) (t : Int) (h : BkOk b) (ht : t ≤ 9007199254740992) : BkOk (onB b t) :=
  ⟨h.rate, h.burst0, h.burst1, atL_le b t h, by have := h.time0; simp only [onB]; omega, by have := h.time1; simp only [onB]; omega, h.paid⟩

/-- the method on, upon the i-th bucket -/
theorem on_q (q i : Nat) (bs : List Bk) (t : Int) (w : World) (h : HasQ w q bs) (hi : i < bs.length) (hok : BkOk (bs[i]'hi)) (ht : t ≤ 9007199254740992) :
    Calls Try.prog 58 #[.pointer (some ⟨q, i * 6, none⟩), .int .i64 t] w fun e w' => e = .returned (.tuple #[]) ∧
      HasQ w' q (bs.set i (onB (bs[i]'hi) t)) ∧ w.grownBy w' (some q) := by
  refine (on_any q (i * 6) (bs[i]'hi) t w (h.bk i hi) hok ht).mono fun e w' ⟨he, n, hw⟩ => ⟨he, ?_, ?_⟩
  · have h1 := h.store i 2 (.float .f64 (atL (bs[i]'hi) t)) { bs[i]'hi with level := atL (bs[i]'hi) t } hi (by omega) rfl
    have h2 := h1.store i 3 (.int .i64 (max (bs[i]'hi).time t)) (onB (bs[i]'hi) t) (by rw [List.length_set]; exact hi) (by omega) (by rw [List.getElem_set_self]; rfl)
    rw [List.set_set] at h2
    rw [hw]
    exact h2
  · rw [hw]
    exact grown_trans (grown_trans (grown_setCell _ _ _ _) (grown_setCell _ _ _ _)) (grown_drewN _ _ _)

theorem of_bad (q : Nat) (c : Int) (ok : Bool) (w : World) (hc : c < 0 ∨ 64 ≤ c ∨ ok = false) (hm : w.cell? ⟨q, 384, none⟩ = some (.bool true)) :
    Calls Try.prog 56 #[.pointer (some ⟨q, 0, none⟩), .int .i64 c, .bool ok] w fun e w' => e = .returned (.tuple #[.pointer none, .int .i64 2]) ∧ w = w' := by
  by_cases h0 : c < 0
  · have hd : decide (c < 0) = true := by simp [h0]
    clear hc h0
    go_enter Try.func56, Try.ntmps56
    go_wp2
    go_ret2
    exact ⟨rfl, rfl⟩
  · have hd : decide (c < 0) = false := by simp; omega
    by_cases h1 : 64 ≤ c
    · have hd1 : decide (64 ≤ c) = true := by simp [h1]
      clear hc h0 h1
      go_enter Try.func56, Try.ntmps56
      go_wp2
      go_ret2
      exact ⟨rfl, rfl⟩
    · have hd1 : decide (64 ≤ c) = false := by simp; omega
      obtain rfl : ok = false := by rcases hc with h | h | h; omega; omega; exact h
      clear hc h0 h1
      go_enter Try.func56, Try.ntmps56
      go_wp2
      go_ret2
      exact ⟨rfl, rfl⟩

set_option maxRecDepth 100000 in
theorem level_ok (q c : Nat) (bs : List Bk) (t : Int) (w : World) (h : HasQ w q bs) (hc : c < bs.length) (hok : BkOk (bs[c]'hc)) (ht0 : 0 ≤ t) (ht : t ≤ 9007199254740992) :
    Calls Try.prog 20 #[.pointer (some ⟨q, 0, none⟩), .int .i64 c, .int .i64 t] w fun e w' => e = .returned (.tuple #[.float .f64 (atL (bs[c]'hc) t), .int .i64 0]) ∧
      HasQ w' q (bs.set c (onB (bs[c]'hc) t)) ∧ w.grownBy w' (some q) := by
  have hb : timeB t = true := by simp [timeB, ht0, ht]
  have HB := Lib.hid hb
  have H := Lib.hid h
  have HOK := Lib.hid hok
  have HC := Lib.hid hc
  have HT := Lib.hid ht
  clear hb h hok ht0 ht
  go_enter Try.func20, Try.ntmps20
  go_wp2_with fail
  refine (clock_any t _).mono ?_
  rintro e w' ⟨rfl, rfl⟩
  rw [HB.out]
  go_wp2_with fail
  refine (of_ok q c _ (by have := H.out.1; have := HC.out; omega) H.out.made).mono ?_
  rintro e w' ⟨rfl, rfl⟩
  go_wp2_with fail
  refine (on_q q c bs t _ H.out HC.out HOK.out HT.out).mono ?_
  rintro e w1 ⟨rfl, hq1, hg1⟩
  have hl := (hq1.bk c (by rw [List.length_set]; exact HC.out)).level
  rw [List.getElem_set_self] at hl
  obtain ⟨l, hll⟩ : ∃ l, l = atL (bs[c]'hc) t := ⟨_, rfl⟩
  rw [show (onB (bs[c]'hc) t).level = l from hll.symm] at hl
  have HL := Lib.hid hll
  clear hll
  go_wp2_with fail
  go_ret2
  exact ⟨by rw [← HL.out]; rfl, hq1, hg1⟩
end Go.Proofs.Ytbpnhpjcepgiiaa
