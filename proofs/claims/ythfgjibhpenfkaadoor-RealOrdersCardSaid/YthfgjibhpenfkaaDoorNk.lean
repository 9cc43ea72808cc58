/- Real: Read of any float's text. -/
import Derived.Test.YthfgjibhpenfkaaDoorNj
namespace Go.Proofs.YthfgjibhpenfkaaDoor
open Go.RowKit Fl

set_option maxRecDepth 100000 in
theorem math_nan (w : World) : Calls Tryd.prog 35 #[] w fun e w' => e = .returned (.float .f64 9221120237041090561) ∧ w = w' := by
  have hf : ∀ w : World, (callFunc 36 #[.int .u64 9221120237041090561]).run Tryd.prog w = .ok (.value (.float .f64 9221120237041090561)) w := f64frombits 9221120237041090561
  go_enter Tryd.func35, Tryd.ntmps35
  go_wp2
  go_ret
  exact ⟨rfl, rfl⟩
set_option maxRecDepth 100000 in
theorem math_inf (w : World) : Calls Tryd.prog 37 #[.int .i64 1] w fun e w' => e = .returned (.float .f64 9218868437227405312) ∧ w = w' := by
  have hf : ∀ w : World, (callFunc 36 #[.int .u64 9218868437227405312]).run Tryd.prog w = .ok (.value (.float .f64 9218868437227405312)) w := f64frombits 9218868437227405312
  go_enter Tryd.func37, Tryd.ntmps37
  go_wp2
  go_ret
  exact ⟨rfl, rfl⟩
set_option maxRecDepth 100000 in
set_option maxHeartbeats 1000000 in
theorem read_nan (w : World) : Calls Tryd.prog 15 #[.string ⟨#[110, 97, 110]⟩] w fun e w' => e = .returned (.tuple #[.float .f64 9221120237041090561, .int .i64 0]) ∧ w = w' := by
  go_enter Tryd.func15, Tryd.ntmps15
  go_wp2
  refine wp_scope_labels (fun l a w' => False) (fun l a w => 0) ?_ ?_
  · go_wp2_with fail
    refine (math_nan _).mono ?_
    rintro e w' ⟨rfl, rfl⟩
    go_wp2_with fail
    unfold Exit.jumps
    go_ret2
    exact ⟨rfl, rfl⟩
  · rintro l a w' h
    exact h.elim
set_option maxRecDepth 100000 in
set_option maxHeartbeats 1000000 in
theorem read_inf (w : World) (hT : TextIs 9218868437227405312 ⟨#[105, 110, 102]⟩) (ht : Pow10 w) : Calls Tryd.prog 15 #[.string ⟨#[105, 110, 102]⟩] w fun e w' => e = .returned (.tuple #[.float .f64 9218868437227405312, .int .i64 0]) ∧ Below w.heap.size w w' := by
  have HT := Lib.hid (And.intro hT ht)
  clear hT ht
  have hb0 : (((⟨#[105, 110, 102]⟩ : ByteArray))[0]'(by decide)).toNat = 105 := by decide
  go_enter Tryd.func15, Tryd.ntmps15
  go_wp2
  refine wp_scope_labels (fun l a w' => w = w' ∧ l = 0 ∧ a = rdF (rdU a) (.string ⟨#[105, 110, 102]⟩) (.float .f64 9218868437227405312) (.int .i64 0) (.int .u64 0) (.int .i64 0) (.bool false)) (fun l a w => 0) ?_ ?_
  · go_wp2_with fail
    refine (math_inf _).mono ?_
    rintro e w' ⟨rfl, rfl⟩
    go_wp2
    go_step3
    exact ⟨rfl, rfl, rfl⟩
  · rintro l a w' ⟨rfl, rfl, ha⟩
    refine ⟨_, rfl, ?_⟩
    obtain ⟨u, hu⟩ : ∃ u, u = rdU a := ⟨_, rfl⟩
    rw [← hu] at ha
    clear hu
    subst ha
    unfold rdF
    go_wp2_with fail
    refine (Text_any 9218868437227405312 _ (by decide) HT.out.2).mono ?_
    rintro e w2 ⟨s', hs', rfl, hb⟩
    obtain rfl := hs'.unique HT.out.1
    have HB := Lib.hid hb
    clear hb hs'
    go_wp2_with fail
    unfold Exit.jumps
    go_ret2
    exact ⟨rfl, HB.out⟩
set_option maxRecDepth 100000 in
set_option maxHeartbeats 1000000 in
theorem read_ninf (w : World) (hT : TextIs 18442240474082181120 ⟨#[45, 105, 110, 102]⟩) (ht : Pow10 w) : Calls Tryd.prog 15 #[.string ⟨#[45, 105, 110, 102]⟩] w fun e w' => e = .returned (.tuple #[.float .f64 18442240474082181120, .int .i64 0]) ∧ Below w.heap.size w w' := by
  have HT := Lib.hid (And.intro hT ht)
  clear hT ht
  have hneg : ∀ W : World, (Op.unary .neg (.float .f64 9218868437227405312)).run Tryd.prog W = .ok (.float .f64 18442240474082181120) W := fun W => by rw [show Value.float .f64 18442240474082181120 = Value.float .f64 (Op.negFloat .f64 9218868437227405312) from congrArg (Value.float .f64) (show (18442240474082181120 : Nat) = Op.negFloat .f64 9218868437227405312 by decide +kernel)]; rfl
  have hb0 : (((⟨#[45, 105, 110, 102]⟩ : ByteArray))[0]'(by decide)).toNat = 45 := by decide
  go_enter Tryd.func15, Tryd.ntmps15
  go_wp2
  refine wp_scope_labels (fun l a w' => w = w' ∧ l = 0 ∧ a = rdF (rdU a) (.string ⟨#[45, 105, 110, 102]⟩) (.float .f64 9218868437227405312) (.int .i64 0) (.int .u64 0) (.int .i64 0) (.bool false)) (fun l a w => 0) ?_ ?_
  · go_wp2_with fail
    refine (math_inf _).mono ?_
    rintro e w' ⟨rfl, rfl⟩
    go_wp2
    go_step3
    exact ⟨rfl, rfl, rfl⟩
  · rintro l a w' ⟨rfl, rfl, ha⟩
    refine ⟨_, rfl, ?_⟩
    obtain ⟨u, hu⟩ : ∃ u, u = rdU a := ⟨_, rfl⟩
    rw [← hu] at ha
    clear hu
    subst ha
    unfold rdF
    go_wp2_with fail
    refine (Text_any 18442240474082181120 _ (by decide) HT.out.2).mono ?_
    rintro e w2 ⟨s', hs', rfl, hb⟩
    obtain rfl := hs'.unique HT.out.1
    have HB := Lib.hid hb
    clear hb hs'
    go_wp2_with fail
    unfold Exit.jumps
    go_ret2
    exact ⟨rfl, HB.out⟩
set_option maxRecDepth 100000 in
set_option maxHeartbeats 1000000 in
theorem read_zero (w : World) (hT : TextIs 0 ⟨#[48]⟩) (ht : Pow10 w) : Calls Tryd.prog 15 #[.string ⟨#[48]⟩] w fun e w' => e = .returned (.tuple #[.float .f64 0, .int .i64 0]) ∧ Below w.heap.size w w' := by
  have HT := Lib.hid (And.intro hT ht)
  clear hT ht
  have hb0 : (((⟨#[48]⟩ : ByteArray))[0]'(by decide)).toNat = 48 := by decide
  go_enter Tryd.func15, Tryd.ntmps15
  go_wp2
  refine wp_scope_labels (fun l a w' => w = w' ∧ l = 0 ∧ a = rdF (rdU a) (.string ⟨#[48]⟩) (.float .f64 0) (.int .i64 0) (.int .u64 0) (.int .i64 0) (.bool false)) (fun l a w => 0) ?_ ?_
  · go_wp2
    go_step3
    exact ⟨rfl, rfl, rfl⟩
  · rintro l a w' ⟨rfl, rfl, ha⟩
    refine ⟨_, rfl, ?_⟩
    obtain ⟨u, hu⟩ : ∃ u, u = rdU a := ⟨_, rfl⟩
    rw [← hu] at ha
    clear hu
    subst ha
    unfold rdF
    go_wp2_with fail
    refine (Text_any 0 _ (by decide) HT.out.2).mono ?_
    rintro e w2 ⟨s', hs', rfl, hb⟩
    obtain rfl := hs'.unique HT.out.1
    have HB := Lib.hid hb
    clear hb hs'
    go_wp2_with fail
    unfold Exit.jumps
    go_ret2
    exact ⟨rfl, HB.out⟩
set_option maxRecDepth 100000 in
set_option maxHeartbeats 1000000 in
theorem read_nzero (w : World) (hT : TextIs 9223372036854775808 ⟨#[45, 48]⟩) (ht : Pow10 w) : Calls Tryd.prog 15 #[.string ⟨#[45, 48]⟩] w fun e w' => e = .returned (.tuple #[.float .f64 9223372036854775808, .int .i64 0]) ∧ Below w.heap.size w w' := by
  have HT := Lib.hid (And.intro hT ht)
  clear hT ht
  have hneg : ∀ W : World, (Op.unary .neg (.float .f64 0)).run Tryd.prog W = .ok (.float .f64 9223372036854775808) W := fun W => by rw [show Value.float .f64 9223372036854775808 = Value.float .f64 (Op.negFloat .f64 0) from congrArg (Value.float .f64) (show (9223372036854775808 : Nat) = Op.negFloat .f64 0 by decide +kernel)]; rfl
  have hb0 : (((⟨#[45, 48]⟩ : ByteArray))[0]'(by decide)).toNat = 45 := by decide
  go_enter Tryd.func15, Tryd.ntmps15
  go_wp2
  refine wp_scope_labels (fun l a w' => w = w' ∧ l = 0 ∧ a = rdF (rdU a) (.string ⟨#[45, 48]⟩) (.float .f64 0) (.int .i64 0) (.int .u64 0) (.int .i64 0) (.bool false)) (fun l a w => 0) ?_ ?_
  · go_wp2
    go_step3
    exact ⟨rfl, rfl, rfl⟩
  · rintro l a w' ⟨rfl, rfl, ha⟩
    refine ⟨_, rfl, ?_⟩
    obtain ⟨u, hu⟩ : ∃ u, u = rdU a := ⟨_, rfl⟩
    rw [← hu] at ha
    clear hu
    subst ha
    unfold rdF
    go_wp2_with fail
    refine (Text_any 9223372036854775808 _ (by decide) HT.out.2).mono ?_
    rintro e w2 ⟨s', hs', rfl, hb⟩
    obtain rfl := hs'.unique HT.out.1
    have HB := Lib.hid hb
    clear hb hs'
    go_wp2_with fail
    unfold Exit.jumps
    go_ret2
    exact ⟨rfl, HB.out⟩
/-- a float's own text is read again -/
theorem Read_text (x : Nat) (s : ByteArray) (w : World) (hx : x < 18446744073709551616) (h : TextIs x s) (ht : Pow10 w) :
    Calls Tryd.prog 15 #[.string s] w fun e w' => ∃ y, e = .returned (.tuple #[.float .f64 y, .int .i64 0]) ∧ y < 18446744073709551616 ∧ placeW y = placeW x ∧ Below w.heap.size w w' := by
  have hn := nz_val
  have hi := inf_val
  have hTx := h
  rcases h with ⟨a, rfl⟩ | ⟨a, rfl⟩ | ⟨a, rfl⟩ | ⟨a, n, ex, f, rfl⟩
  · refine (read_nan w).mono ?_
    rintro e w' ⟨rfl, rfl⟩
    refine ⟨_, rfl, by decide, ?_, Below.refl _ _⟩
    unfold placeW
    rw [if_pos (by decide), if_pos a]
  · rw [hn, hi] at a
    by_cases hg : 9223372036854775808 ≤ x
    · obtain rfl : x = 18442240474082181120 := by omega
      refine (read_ninf w hTx ht).mono ?_
      rintro e w' ⟨rfl, hb⟩
      exact ⟨_, rfl, by decide, rfl, hb⟩
    · obtain rfl : x = 9218868437227405312 := by omega
      refine (read_inf w hTx ht).mono ?_
      rintro e w' ⟨rfl, hb⟩
      exact ⟨_, rfl, by decide, rfl, hb⟩
  · rw [hn] at a
    by_cases hg : 9223372036854775808 ≤ x
    · obtain rfl : x = 9223372036854775808 := by omega
      refine (read_nzero w hTx ht).mono ?_
      rintro e w' ⟨rfl, hb⟩
      exact ⟨_, rfl, by decide, rfl, hb⟩
    · obtain rfl : x = 0 := by omega
      refine (read_zero w hTx ht).mono ?_
      rintro e w' ⟨rfl, hb⟩
      exact ⟨_, rfl, by decide, rfl, hb⟩
  · have hC := canon_text x n ex f.2.2.1 f.2.2.2.1 f.2.2.2.2
    refine (read_canon _ _ _ _ _ n ex.natAbs (x % nz) x ex w hC ?_ f.1 a.1 a.2 f.2.1 ?_ hTx ht).mono ?_
    · by_cases h : ex < 0
      · rw [if_pos h]; simp; omega
      · rw [if_neg h]; simp; omega
    · by_cases h : nz ≤ x
      · rw [if_pos h, if_pos rfl]; rw [hn] at h ⊢; omega
      · rw [if_neg h, if_neg (by decide)]; rw [hn] at h ⊢; omega
    · rintro e w' ⟨rfl, hb⟩
      exact ⟨_, rfl, hx, rfl, hb⟩
end Go.Proofs.YthfgjibhpenfkaaDoor

