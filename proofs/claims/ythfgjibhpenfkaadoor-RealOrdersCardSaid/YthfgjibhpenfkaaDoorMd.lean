/- Real: floats in order, how often each is there; Sort and Nth of any floats. -/
import Derived.Test.YthfgjibhpenfkaaDoorRd
import Derived.Test.YthfgjibhpenfkaaDoorMc
namespace Go.Proofs.YthfgjibhpenfkaaDoor
open Go.RowKit Fl Go.Shelf
open Go.Sort (pdq_sorts)

def toW (x : Nat) : W64 := if h : x < 18446744073709551616 then ⟨x, h⟩ else default
theorem toW_val {x : Nat} (h : x < 18446744073709551616) : (toW x).1 = x := by unfold toW; rw [dif_pos h]
def dF (f : Nat → Nat) (n : Nat) : Array W64 := (Array.range n).map fun i => toW (f i)
theorem dF_size (f : Nat → Nat) (n : Nat) : (dF f n).size = n := by simp [dF]
theorem dF_row {w : World} {ad : Addr} {n : Nat} {f : Nat → Nat} (h : FloatsAt w (some ad) n f) : RowF w ad (dF f n) := ⟨fun j v hv => by
  unfold flC dF at hv
  rw [List.getElem?_map, Array.getElem?_toList, Array.getElem?_map] at hv
  by_cases hj : j < n
  · obtain ⟨ad2, h1, h2, _, h4⟩ := h j hj
    obtain rfl := Option.some.inj h1
    rw [Array.getElem?_range, if_pos hj] at hv
    obtain rfl : encW (toW (f j)) = v := by simpa using hv
    rw [h2]
    unfold encW
    rw [toW_val h4]
  · rw [Array.getElem?_range, if_neg hj] at hv
    simp at hv⟩
/-- the floats in order -/
def sA (f : Nat → Nat) (n : Nat) : Array W64 := Sort.pdq (ltOf cmpW) (dF f n) 0 (dF f n).size (Lib.bitLen (dF f n).size) true true
theorem sA_sorts (f : Nat → Nat) (n : Nat) : Sort.PermIn 0 (dF f n).size (dF f n) (sA f n) ∧ Sort.SortedIn (ltOf cmpW) 0 (dF f n).size (sA f n) :=
  pdq_sorts (ltOf cmpW) swoW (dF f n) 0 (dF f n).size (Lib.bitLen (dF f n).size) true true (Nat.zero_le _) (Nat.le_refl _) (Or.inl rfl)
theorem sA_size (f : Nat → Nat) (n : Nat) : (sA f n).size = n := by rw [(sA_sorts f n).1.1, dF_size]
/-- .. as words, by place -/
def sF (f : Nat → Nat) (n i : Nat) : Nat := ((sA f n)[i]!).1
theorem sF_lt (f : Nat → Nat) (n i : Nat) : sF f n i < 18446744073709551616 := ((sA f n)[i]!).2
theorem sF_rises (f : Nat → Nat) (n : Nat) : Rises (sF f n) n := fun i j h hj => by
  rcases Nat.lt_or_ge i j with h1 | h1
  · have := (sA_sorts f n).2 i j (Nat.zero_le _) h1 (by rw [dF_size]; exact hj)
    rw [ltW] at this
    simp only [decide_eq_false_iff_not, Int.not_lt] at this
    exact this
  · obtain rfl : i = j := by omega
    exact Int.le_refl _
/-- how many of the first k are like x -/
def cnt (g : Nat → Nat) (x : Nat) : Nat → Nat
  | 0 => 0
  | k + 1 => cnt g x k + (if placeW (g k) == placeW x then 1 else 0)
theorem cnt_le (g : Nat → Nat) (x : Nat) : ∀ k, cnt g x k ≤ k
  | 0 => Nat.le_refl _
  | k + 1 => by
    have := cnt_le g x k
    unfold cnt
    split <;> omega
theorem cnt_take (d : Array W64) (x : Nat) : ∀ k, k ≤ d.size → (d.toList.take k).countP (fun y => placeW y.1 == placeW x) = cnt (fun i => (d[i]!).1) x k
  | 0, _ => rfl
  | k + 1, h => by
    have hk : k < d.toList.length := by simp; omega
    rw [← List.take_append_getElem hk, List.countP_append, cnt_take d x k (by omega)]
    simp only [cnt, List.countP_cons, List.countP_nil, Nat.zero_add]
    have e : d[k]! = d.toList[k] := by rw [getElem!_pos d k (by simpa using hk)]; simp
    simp only [e]
theorem cnt_congr {g g' : Nat → Nat} (x : Nat) : ∀ n, (∀ i, i < n → g i = g' i) → cnt g x n = cnt g' x n
  | 0, _ => rfl
  | n + 1, h => by
    unfold cnt
    rw [cnt_congr x n (fun i hi => h i (by omega)), h n (by omega)]
theorem cnt_sorted (f : Nat → Nat) (n x : Nat) (hf : ∀ i, i < n → f i < 18446744073709551616) : cnt (sF f n) x n = cnt f x n := by
  have hp := (sA_sorts f n).1.2.2
  have h1 : ((sA f n).extract 0 (dF f n).size).toList = (sA f n).toList := by
    have := sA_size f n
    rw [dF_size]
    generalize sA f n = A at this
    subst this
    simp
  have h2 : ((dF f n).extract 0 (dF f n).size).toList = (dF f n).toList := by simp
  rw [h1, h2] at hp
  have hc := hp.countP_eq (fun y => placeW y.1 == placeW x)
  have e1 := cnt_take (sA f n) x n (by rw [sA_size]; exact Nat.le_refl _)
  have e2 := cnt_take (dF f n) x n (by rw [dF_size]; exact Nat.le_refl _)
  rw [List.take_of_length_le (by simp [sA_size])] at e1
  rw [List.take_of_length_le (by simp [dF_size])] at e2
  rw [e1, e2] at hc
  refine Eq.trans hc (cnt_congr x n fun i hi => ?_)
  rw [getElem!_pos (dF f n) i (by rw [dF_size]; exact hi)]
  simp only [dF, Array.getElem_map, Array.getElem_range]
  exact toW_val (hf i hi)
theorem cnt_pos (g : Nat → Nat) (x i : Nat) : ∀ n, i < n → placeW (g i) = placeW x → 0 < cnt g x n
  | 0, h, _ => absurd h (Nat.not_lt_zero _)
  | n + 1, h, e => by
    unfold cnt
    rcases Nat.lt_or_ge i n with h1 | h1
    · have := cnt_pos g x i n h1 e; omega
    · obtain rfl : i = n := by omega
      simp [e]
theorem cnt_ex (g : Nat → Nat) (x : Nat) : ∀ n, 0 < cnt g x n → ∃ i, i < n ∧ placeW (g i) = placeW x
  | 0, h => absurd h (Nat.lt_irrefl _)
  | n + 1, h => by
    by_cases e : placeW (g n) = placeW x
    · exact ⟨n, by omega, e⟩
    · unfold cnt at h
      simp [e] at h
      obtain ⟨i, hi, he⟩ := cnt_ex g x n h
      exact ⟨i, by omega, he⟩
/-- what a search for one of the floats finds among them in order -/
theorem search_in {f : Nat → Nat} {n i a : Nat} (hf : ∀ i, i < n → f i < 18446744073709551616) (hi : i < n) (h : SearchIs (sF f n) n (f i) a) : a < n ∧ placeW (sF f n a) = placeW (f i) ∧ (0 < a → placeW (sF f n (a - 1)) ≠ placeW (f i)) := by
  obtain ⟨j, hj, hje⟩ := cnt_ex (sF f n) (f i) n (by rw [cnt_sorted f n _ hf]; exact cnt_pos f (f i) i n hi rfl)
  have r := sF_rises f n
  have h1 : a ≤ j := by
    rcases Nat.lt_or_ge j a with h1 | h1
    · have := h.below r j h1; omega
    · exact h1
  have ha : a < n := by omega
  have h2 := h.above r ha
  have h3 := r a j h1 hj
  refine ⟨ha, by omega, fun h0 => ?_⟩
  have := h.below r (a - 1) (by omega)
  omega
/-- Sort of any floats -/
theorem sort_any (oa : Option Addr) (n c : Nat) (f : Nat → Nat) (w : World) (hf : FloatsAt w oa n f) (hn : n ≤ 65536) (ho : oa = none → c = 0) :
    Calls Tryd.prog 8 #[.slice oa n c] w fun e w' => ∃ oa' cap, e = .returned (.tuple #[.slice oa' n cap, .int .i64 0]) ∧ FloatsAt w' oa' n (sF f n) ∧ Below w.heap.size w w' := by
  by_cases h0 : n = 0
  · subst h0
    refine (sort_0 oa c w ho).mono ?_
    rintro e w' ⟨oa', cap, rfl, hb⟩
    exact ⟨oa', cap, rfl, fun i hi => absurd hi (Nat.not_lt_zero _), hb⟩
  · obtain ⟨ad, rfl, _⟩ := hf 0 (by omega)
    have hs := dF_size f n
    have := sort_b ad c (dF f n) w (dF_row hf) (by omega) (by omega)
    rw [hs] at this
    refine this.mono ?_
    rintro e w' ⟨g, cap, d', hg, rfl, hsort, hh, hl, hb⟩
    refine ⟨_, cap, rfl, fun i hi => ⟨_, rfl, ?_, hl, sF_lt f n i⟩, hb⟩
    have h1 := (hh i (by rw [hsort.1.1, hs]; exact hi)).1
    rw [Go.WideShapes.add_plain]
    rw [hsort.2.2] at h1
    exact h1
/-- Nth of any floats, within -/
theorem nth_any (k : Nat) (oa : Option Addr) (n c : Nat) (f : Nat → Nat) (w : World) (hf : FloatsAt w oa n f) (hn : n ≤ 65536) (hk : k < n) :
    Calls Tryd.prog 9 #[.int .i64 k, .slice oa n c] w fun e w' => e = .returned (.tuple #[.float .f64 (sF f n k), .int .i64 0]) ∧ Below w.heap.size w w' := by
  obtain ⟨ad, rfl, _⟩ := hf 0 (by omega)
  have hs := dF_size f n
  have := nth_b k ad c (dF f n) w (dF_row hf) (by omega) (by omega)
  rw [hs] at this
  refine this.mono ?_
  rintro e w' ⟨d', rfl, hsort, hb⟩
  rw [hsort.2.2]
  exact ⟨rfl, hb⟩
end Go.Proofs.YthfgjibhpenfkaaDoor
