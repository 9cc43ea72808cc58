/- Real: the document's sorting by insertion: what comes of it. -/
import Derived.Test.YthfgjibhpenfkaaDoorMh
namespace Go.Proofs.YthfgjibhpenfkaaDoor
open Go.RowKit Fl

/-- a float put in at a place -/
def insF (o : Nat → Nat) (a x j : Nat) : Nat := if j < a then o j else if j = a then x else o (j - 1)
theorem insF_rises {o : Nat → Nat} {i a x : Nat} (r : Rises o i) (ha : a ≤ i) (h1 : a = 0 ∨ placeW (o (a - 1)) ≤ placeW x) (h2 : ∀ j, a ≤ j → j < i → placeW x < placeW (o j)) : Rises (insF o a x) (i + 1) := by
  intro b c hbc hc
  unfold insF
  split
  · split
    · exact r b c hbc (by omega)
    · split
      · rename_i q1 q2 q3
        rcases h1 with h1 | h1
        · omega
        · exact Int.le_trans (r b (a - 1) (by omega) (by omega)) h1
      · exact r b (c - 1) (by omega) (by omega)
  · split
    · rw [if_neg (by omega)]
      split
      · exact Int.le_refl _
      · exact Int.le_of_lt (h2 (c - 1) (by omega) (by omega))
    · rw [if_neg (by omega), if_neg (by omega)]
      exact r (b - 1) (c - 1) (by omega) (by omega)
theorem insF_cnt (o : Nat → Nat) (a x y : Nat) : ∀ k, cnt (insF o a x) y k = if k ≤ a then cnt o y k else cnt o y (k - 1) + (if placeW x == placeW y then 1 else 0)
  | 0 => by simp [cnt]
  | k + 1 => by
    rw [cnt, insF_cnt o a x y k]
    by_cases h1 : k + 1 ≤ a
    · have e : insF o a x k = o k := by unfold insF; rw [if_pos (by omega)]
      rw [if_pos (by omega), if_pos h1, e]
      rfl
    · rw [if_neg h1]
      by_cases h2 : k = a
      · have e : insF o a x k = x := by unfold insF; rw [if_neg (by omega), if_pos h2]
        rw [if_pos (by omega), e]
        rfl
      · have e : insF o a x k = o (k - 1) := by unfold insF; rw [if_neg (by omega), if_neg h2]
        rw [if_neg (by omega), e]
        obtain ⟨m, rfl⟩ : ∃ m, k = m + 1 := ⟨k - 1, by omega⟩
        simp only [Nat.add_sub_cancel]
        rw [cnt]
        omega
theorem cnt_mono (g : Nat → Nat) (x : Nat) {k n : Nat} (h : k ≤ n) : cnt g x k ≤ cnt g x n := by
  induction n with
  | zero => obtain rfl : k = 0 := by omega
            exact Nat.le_refl _
  | succ n ih =>
    rcases Nat.lt_or_ge k (n + 1) with h1 | h1
    · have := ih (by omega)
      rw [cnt]
      omega
    · obtain rfl : k = n + 1 := by omega
      exact Nat.le_refl _
theorem cnt_none (g : Nat → Nat) (x : Nat) {k n : Nat} (h : k ≤ n) (hno : ∀ j, k ≤ j → j < n → placeW (g j) ≠ placeW x) : cnt g x n = cnt g x k := by
  induction n with
  | zero => obtain rfl : k = 0 := by omega
            rfl
  | succ n ih =>
    rcases Nat.lt_or_ge k (n + 1) with h1 | h1
    · rw [cnt, ih (by omega) fun j a b => hno j a (by omega)]
      have := hno n (by omega) (by omega)
      simp [this]
    · obtain rfl : k = n + 1 := by omega
      rfl
theorem cnt_places {g g' : Nat → Nat} (x : Nat) : ∀ n, (∀ i, i < n → placeW (g i) = placeW (g' i)) → cnt g x n = cnt g' x n
  | 0, _ => rfl
  | n + 1, h => by
    unfold cnt
    rw [cnt_places x n (fun i hi => h i (by omega)), h n (by omega)]
/-- two rising lists of the same floats have the same places -/
theorem same_places {s o : Nat → Nat} {n : Nat} (hs : Rises s n) (ho : Rises o n) (hc : ∀ x, cnt s x n = cnt o x n) : ∀ i, i < n → placeW (s i) = placeW (o i) := by
  intro i
  induction i using Nat.strongRecOn with
  | _ i ih =>
    intro hi
    have key : ∀ (s o : Nat → Nat), Rises o n → (∀ x, cnt s x n = cnt o x n) → (∀ j, j < i → placeW (s j) = placeW (o j)) → ¬ placeW (s i) < placeW (o i) := by
      intro s o ho hc he hlt
      have h1 : cnt o (s i) n = cnt o (s i) i := cnt_none o (s i) (by omega) fun j a b => by have := ho i j a b; omega
      have h2 := cnt_places (s i) i he
      have h3 : cnt s (s i) (i + 1) = cnt s (s i) i + 1 := by rw [cnt]; simp
      have h4 := cnt_mono s (s i) (show i + 1 ≤ n by omega)
      have := hc (s i)
      omega
    have k1 := key s o ho hc (fun j hj => ih j hj (by omega))
    have k2 := key o s hs (fun x => (hc x).symm) (fun j hj => (ih j hj (by omega)).symm)
    omega
/-- floats as cells -/
def flL (o : Nat → Nat) (n : Nat) : List Value := (List.range n).map fun j => .float .f64 (o j)
theorem flL_len (o : Nat → Nat) (n : Nat) : (flL o n).length = n := by simp [flL]
theorem flL_one (o : Nat → Nat) (n : Nat) : ∀ v ∈ flL o n, v.oneCell' = true := by
  intro v hv
  obtain ⟨x, _, rfl⟩ := List.mem_map.1 hv
  rfl
theorem flL_at (o : Nat → Nat) {n j : Nat} (h : j < n) : (flL o n)[j]? = some (.float .f64 (o j)) := by
  unfold flL
  rw [List.getElem?_map, List.getElem?_range h]
  rfl
theorem flL_congr {o o' : Nat → Nat} {n : Nat} (h : ∀ j, j < n → o j = o' j) : flL o n = flL o' n := by
  unfold flL
  exact List.map_congr_left fun j hj => by rw [h j (List.mem_range.1 hj)]
theorem flL_succ (o : Nat → Nat) (n : Nat) : flL o (n + 1) = flL o n ++ [.float .f64 (o n)] := by
  unfold flL
  rw [List.range_succ, List.map_append]
  rfl
theorem flL_set (o : Nat → Nat) (n a x : Nat) : (flL o n).set a (.float .f64 x) = flL (fun j => if j = a then x else o j) n := by
  apply List.ext_getElem?
  intro j
  rw [List.getElem?_set]
  by_cases hj : j < n
  · have e0 : (flL (fun j => if j = a then x else o j) n)[j]? = some (.float .f64 (if j = a then x else o j)) := flL_at _ hj
    rw [e0, flL_at o hj]
    by_cases e : a = j
    · rw [if_pos e, if_pos (by rw [flL_len]; omega), if_pos e.symm]
    · rw [if_neg e, if_neg (Ne.symm e)]
  · have e0 : (flL (fun j => if j = a then x else o j) n)[j]? = none := List.getElem?_eq_none (by rw [flL_len]; omega)
    rw [e0, List.getElem?_eq_none (by rw [flL_len]; omega)]
    by_cases e : a = j
    · rw [if_pos e, if_neg (by rw [flL_len]; omega)]
    · rw [if_neg e]
theorem set_row2 {W : World} {A : Nat} {cs : Array Value} {T : TypeId} {fr : Nat × Nat} (h : W.heap[A]? = some (.cells cs T fr)) (k : Nat) (v : Value) : (W.setCell ⟨A, k, none⟩ v).heap[A]? = some (.cells (cs.set! k v) T fr) := by
  show (W.heap.modify A _)[A]? = _
  rw [Array.getElem?_modify, if_pos rfl, h]
  rfl
/-- a row's cell stored -/
theorem row_set {w : World} {B : Nat} {e : TypeId} {g cap n a : Nat} {xs : List Value} {v : Value} (h : hasRow w B e 1 (.slice (some ⟨g, 0, none⟩) n cap) n xs) (ha : a < n) :
    hasRow (w.setCell ⟨g, a, none⟩ v) B e 1 (.slice (some ⟨g, 0, none⟩) n cap) n (xs.set a v) ∧ w.frozen? ⟨g, a, none⟩ = false := by
  obtain ⟨hl, ⟨h0, _⟩ | ⟨g', c', cur, fr, hv, hb, hg, hc, hm, hs, hfr, ht⟩⟩ := h
  · simp at h0
  · simp only [Value.slice.injEq, Option.some.injEq, Addr.mk.injEq] at hv
    obtain ⟨⟨rfl, _⟩, _, rfl⟩ := hv
    refine ⟨⟨by simpa using hl, .inr ⟨g, cap, cur.set! a v, fr, rfl, hb, set_row2 hg a v, hc, hm, by simpa using hs, fun j hj => hfr j (by simpa using hj), ?_⟩⟩, ?_⟩
    · rw [← ht]
      simp [List.take_set]
    · have hj : a < cur.size := by rw [hs]; omega
      have := hfr a hj
      simp only [World.frozen?, hg]
      simpa using this
end Go.Proofs.YthfgjibhpenfkaaDoor
