/- Real: the least, the greatest, the one at any place, of any floats. -/
import Derived.Test.YthfgjibhpenfkaaDoorMj
import Derived.Test.YthfgjibhpenfkaaDoorMa
namespace Go.Proofs.YthfgjibhpenfkaaDoor
open Go.RowKit Fl

theorem min_spec (f : Nat → Nat) : ∀ k, (∃ j, j ≤ k ∧ placeW (minTo f k) = placeW (f j)) ∧ ∀ j, j ≤ k → placeW (minTo f k) ≤ placeW (f j)
  | 0 => ⟨⟨0, Nat.le_refl _, rfl⟩, fun j hj => by rw [Nat.le_zero.1 hj]; exact Int.le_refl _⟩
  | k + 1 => by
    obtain ⟨⟨j, hj, he⟩, hall⟩ := min_spec f k
    have hm : minTo f (k + 1) = if ordF (f (k + 1)) (minTo f k) < 0 then f (k + 1) else minTo f k := rfl
    rw [hm]
    by_cases h : ordF (f (k + 1)) (minTo f k) < 0
    · rw [if_pos h]
      rw [ordF_lt] at h
      refine ⟨⟨k + 1, Nat.le_refl _, rfl⟩, fun i hi => ?_⟩
      rcases Nat.lt_or_ge k i with h1 | h1
      · obtain rfl : i = k + 1 := by omega
        exact Int.le_refl _
      · have := hall i h1; omega
    · rw [if_neg h]
      rw [ordF_lt] at h
      refine ⟨⟨j, by omega, he⟩, fun i hi => ?_⟩
      rcases Nat.lt_or_ge k i with h1 | h1
      · obtain rfl : i = k + 1 := by omega
        omega
      · exact hall i h1
theorem max_spec (f : Nat → Nat) : ∀ k, (∃ j, j ≤ k ∧ placeW (maxTo f k) = placeW (f j)) ∧ ∀ j, j ≤ k → placeW (f j) ≤ placeW (maxTo f k)
  | 0 => ⟨⟨0, Nat.le_refl _, rfl⟩, fun j hj => by rw [Nat.le_zero.1 hj]; exact Int.le_refl _⟩
  | k + 1 => by
    obtain ⟨⟨j, hj, he⟩, hall⟩ := max_spec f k
    have hm : maxTo f (k + 1) = if 0 < ordF (f (k + 1)) (maxTo f k) then f (k + 1) else maxTo f k := rfl
    rw [hm]
    by_cases h : 0 < ordF (f (k + 1)) (maxTo f k)
    · rw [if_pos h]
      rw [ordF_gt] at h
      refine ⟨⟨k + 1, Nat.le_refl _, rfl⟩, fun i hi => ?_⟩
      rcases Nat.lt_or_ge k i with h1 | h1
      · obtain rfl : i = k + 1 := by omega
        exact Int.le_refl _
      · have := hall i h1; omega
    · rw [if_neg h]
      rw [ordF_gt] at h
      refine ⟨⟨j, by omega, he⟩, fun i hi => ?_⟩
      rcases Nat.lt_or_ge k i with h1 | h1
      · obtain rfl : i = k + 1 := by omega
        omega
      · exact hall i h1
/-- the first and the last of the floats in order are the least and the greatest -/
theorem ends_of {f o : Nat → Nat} {n : Nat} (r : Rises o n) (hc : ∀ y, cnt o y n = cnt f y n) (h0 : 0 < n) : placeW (minTo f (n - 1)) = placeW (o 0) ∧ placeW (maxTo f (n - 1)) = placeW (o (n - 1)) := by
  obtain ⟨⟨j, hj, he⟩, hall⟩ := min_spec f (n - 1)
  obtain ⟨⟨j2, hj2, he2⟩, hall2⟩ := max_spec f (n - 1)
  obtain ⟨i, hi, hie⟩ := cnt_ex o (f j) n (by rw [hc]; exact cnt_pos f (f j) j n (by omega) rfl)
  obtain ⟨i2, hi2, hie2⟩ := cnt_ex o (f j2) n (by rw [hc]; exact cnt_pos f (f j2) j2 n (by omega) rfl)
  obtain ⟨k, hk, hke⟩ := cnt_ex f (o 0) n (by rw [← hc]; exact cnt_pos o (o 0) 0 n h0 rfl)
  obtain ⟨k2, hk2, hke2⟩ := cnt_ex f (o (n - 1)) n (by rw [← hc]; exact cnt_pos o (o (n - 1)) (n - 1) n (by omega) rfl)
  have a1 := r 0 i (Nat.zero_le _) hi
  have a2 := r i2 (n - 1) (by omega) (by omega)
  have b1 := hall k (by omega)
  have b2 := hall2 k2 (by omega)
  constructor <;> omega
theorem least_any (oa : Option Addr) (n c : Nat) (f : Nat → Nat) (w : World) (hf : FloatsAt w oa n f) (hm : n ≤ 1000000) :
    Calls Tryd.prog 27 #[.slice oa n c] w fun e w' => ∃ v, e = .returned (.tuple #[.float .f64 v, .bool (decide (0 < n))]) ∧ w = w' ∧ v < 18446744073709551616 ∧ (n = 0 → v = 0) ∧ (0 < n → v = minTo f (n - 1)) := by
  by_cases h0 : n = 0
  · subst h0
    clear hf hm
    go_enter Tryd.func27, Tryd.ntmps27
    go_wp2_with fail
    go_ret2
    exact ⟨0, rfl, rfl, by decide, fun _ => rfl, fun h => absurd h (Nat.lt_irrefl _)⟩
  · obtain ⟨ad, rfl, _⟩ := hf 0 (by omega)
    have h1 : decide (0 < n) = true := by simp; omega
    rw [h1]
    refine (least_b ad n c f w hf (by omega) hm).mono ?_
    rintro e w' ⟨rfl, rfl⟩
    exact ⟨_, rfl, rfl, minTo_lt f (n - 1) fun i hi => hf.lt (by omega), fun h => absurd h h0, fun _ => rfl⟩
theorem greatest_any (oa : Option Addr) (n c : Nat) (f : Nat → Nat) (w : World) (hf : FloatsAt w oa n f) (hm : n ≤ 1000000) :
    Calls Tryd.prog 28 #[.slice oa n c] w fun e w' => ∃ v, e = .returned (.tuple #[.float .f64 v, .bool (decide (0 < n))]) ∧ w = w' ∧ v < 18446744073709551616 ∧ (n = 0 → v = 0) ∧ (0 < n → v = maxTo f (n - 1)) := by
  by_cases h0 : n = 0
  · subst h0
    clear hf hm
    go_enter Tryd.func28, Tryd.ntmps28
    go_wp2_with fail
    go_ret2
    exact ⟨0, rfl, rfl, by decide, fun _ => rfl, fun h => absurd h (Nat.lt_irrefl _)⟩
  · obtain ⟨ad, rfl, _⟩ := hf 0 (by omega)
    have h1 : decide (0 < n) = true := by simp; omega
    rw [h1]
    refine (greatest_b ad n c f w hf (by omega) hm).mono ?_
    rintro e w' ⟨rfl, rfl⟩
    exact ⟨_, rfl, rfl, maxTo_lt f (n - 1) fun i hi => hf.lt (by omega), fun h => absurd h h0, fun _ => rfl⟩
set_option maxRecDepth 100000 in
theorem nth_out (k : Int) (oa : Option Addr) (n c : Nat) (f : Nat → Nat) (w : World) (hf : FloatsAt w oa n f) (hn : n ≤ 65536) (ho : oa = none → c = 0) (hk : k < 0 ∨ (n : Int) ≤ k) :
    Calls Tryd.prog 9 #[.int .i64 k, .slice oa n c] w fun e w' => e = .returned (.tuple #[.float .f64 0, .int .i64 4]) ∧ Below w.heap.size w w' := by
  have HF := Lib.hid hf
  have HO := Lib.hid ho
  have HN := Lib.hid hn
  clear hf ho hn
  by_cases h0 : k < 0
  · have hd : decide (k < 0) = true := decide_eq_true h0
    clear hk h0
    go_enter Tryd.func9, Tryd.ntmps9
    go_wp2_with fail
    refine (sort_any oa n c f _ HF.out HN.out HO.out).mono ?_
    rintro e w1 ⟨so, cap, rfl, hs1, hb1⟩
    have HB1 := Lib.hid hb1
    clear hs1 hb1
    go_wp2_with fail
    go_ret2
    exact ⟨rfl, HB1.out⟩
  · have hd : decide (k < 0) = false := decide_eq_false h0
    have hd2 : decide ((n : Int) ≤ k) = true := by simp; omega
    clear hk h0
    go_enter Tryd.func9, Tryd.ntmps9
    go_wp2_with fail
    refine (sort_any oa n c f _ HF.out HN.out HO.out).mono ?_
    rintro e w1 ⟨so, cap, rfl, hs1, hb1⟩
    have HB1 := Lib.hid hb1
    clear hs1 hb1
    go_wp2_with fail
    go_ret2
    exact ⟨rfl, HB1.out⟩
/-- Nth, at whatever place -/
theorem nth_total (k : Int) (oa : Option Addr) (n c : Nat) (f : Nat → Nat) (w : World) (hf : FloatsAt w oa n f) (hn : n ≤ 65536) (ho : oa = none → c = 0) :
    Calls Tryd.prog 9 #[.int .i64 k, .slice oa n c] w fun e w' => ∃ (v : Nat) (er : Int), e = .returned (.tuple #[.float .f64 v, .int .i64 er]) ∧ v < 18446744073709551616 ∧
      ((k < 0 ∨ (n : Int) ≤ k) ∧ v = 0 ∧ er = 4 ∨ (0 ≤ k ∧ k < n) ∧ v = sF f n k.toNat ∧ er = 0) ∧ Below w.heap.size w w' := by
  by_cases hk : k < 0 ∨ (n : Int) ≤ k
  · refine (nth_out k oa n c f w hf hn ho hk).mono ?_
    rintro e w' ⟨rfl, hb⟩
    exact ⟨0, 4, rfl, by decide, .inl ⟨hk, rfl, rfl⟩, hb⟩
  · obtain ⟨m, rfl⟩ : ∃ m : Nat, k = m := ⟨k.toNat, by omega⟩
    refine (nth_any m oa n c f w hf hn (by omega)).mono ?_
    rintro e w' ⟨rfl, hb⟩
    exact ⟨_, 0, rfl, sF_lt _ _ _, .inr ⟨by omega, rfl, rfl⟩, hb⟩
theorem srcF {w : World} {oa : Option Addr} {n c : Nat} {f : Nat → Nat} (hf : FloatsAt w oa n f) (ho : oa = none → c = 0) (hc : n ≤ c) : Src Tryd.prog w 1 22 (.slice oa n c) n (flL f n) := by
  cases oa with
  | none =>
    obtain rfl := ho rfl
    obtain rfl : n = 0 := by omega
    exact Src.none Tryd.underlying22 0
  | some ad =>
    refine Src.slice Tryd.underlying22 ad n c _ (by rw [flL_len, Nat.mul_one]) (fun j v hv => ?_) (flL_one f n)
    have hj : j < n := by have := (List.getElem?_eq_some_iff.1 hv).1; rwa [flL_len] at this
    rw [flL_at f hj] at hv
    rw [← Option.some.inj hv]
    exact hf.cell hj
end Go.Proofs.YthfgjibhpenfkaaDoor
