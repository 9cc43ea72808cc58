/- Quota: may a quota be; may a cost be. -/
import Derived.Test.YtbpnhpjcepgiiaaQa
namespace Go.Proofs.Ytbpnhpjcepgiiaa
open Go.RowKit Fl

theorem refcost_any (x : Nat) (w : World) (hx : x < 18446744073709551616) :
    Calls Try.prog 15 #[.float .f64 x] w fun e w' => e = .returned (.bool (nnW x)) ∧ ∃ n, w' = w.drewN n := by
  have HN := Lib.hid (nnW_of x hx)
  have HG := Lib.hid (ge_zero x hx)
  clear hx
  cases hf : finW x with
  | true =>
    have HF := Lib.hid hf
    clear hf
    go_enter Try.func15, Try.ntmps15
    go_wp2_with (go_at_call 54; refine (reffinite_any x _).mono ?_; rintro e w' ⟨rfl, n, rfl⟩; rw [HF.out])
    go_ret
    refine ⟨ret_bool ?_, _, rfl⟩
    rw [ord, HG.out, ← HN.out, HF.out, Bool.true_and]
  | false =>
    have HF := Lib.hid hf
    clear hf
    go_enter Try.func15, Try.ntmps15
    go_wp2_with (go_at_call 54; refine (reffinite_any x _).mono ?_; rintro e w' ⟨rfl, n, rfl⟩; rw [HF.out])
    go_ret
    refine ⟨ret_bool ?_, _, rfl⟩
    rw [← HN.out, HF.out, Bool.false_and]

/-- a quota that may be -/
def quotaB (r b : Nat) : Bool := nnW r && (decide (0 < b) && decide (b < inf))

theorem quotaB_of (r b : Nat) (hr : r < 18446744073709551616) (hb : b < 18446744073709551616) :
    (finW r && (finW b && ((decide (r ≤ inf) || r == nz) && (decide (0 < b) && decide (b ≤ inf))))) = quotaB r b := by
  unfold quotaB
  rw [← nnW_of r hr]
  have hi := inf_lt_nz
  have e : (finW b && (decide (0 < b) && decide (b ≤ inf))) = (decide (0 < b) && decide (b < inf)) := by
    unfold finW
    rcases lt_two b hb with ⟨_, h⟩ | ⟨_, h⟩
    · rw [← h]
      by_cases h1 : b < inf
      · simp [h1, Nat.le_of_lt h1]
      · simp [h1]
    · have h1 : ¬ b < inf := by omega
      have h2 : ¬ b ≤ inf := by omega
      simp [h1, h2]
  rw [← e]
  cases finW r <;> cases finW b <;> simp

set_option maxHeartbeats 800000 in
theorem may_any (r b : Nat) (w : World) (hr : r < 18446744073709551616) (hb : b < 18446744073709551616) :
    Calls Try.prog 10 #[.agg #[.float .f64 r, .float .f64 b]] w fun e w' => e = .returned (.bool (quotaB r b)) ∧ Below w.heap.size w w' := by
  have hq := quotaB_of r b hr hb
  have hg := ge_zero r hr
  have hp := gt_zero b hb
  rw [← hg, ← hp] at hq
  have HQ := Lib.hid hq
  have hbl : ∀ n, Below w.heap.size w ((w.alloc (.cells #[.float .f64 r, .float .f64 b] 24)).drewN n) := fun n => below_drewN ((Below.refl _ _).alloc (Nat.le_refl _) _) n
  clear hr hb hg hp hq
  cases hfr : finW r with
  | false =>
    have HF := Lib.hid hfr
    clear hfr
    go_enter Try.func10, Try.ntmps10
    go_wp2_with (go_at_call 54; refine (reffinite_any r _).mono ?_; rintro e w' ⟨rfl, n, rfl⟩; rw [HF.out])
    go_ret
    refine ⟨ret_bool ?_, hbl _⟩
    rw [← HQ.out, HF.out, Bool.false_and]
  | true =>
    have HF := Lib.hid hfr
    clear hfr
    cases hfb : finW b with
    | false =>
      have HFB := Lib.hid hfb
      clear hfb
      go_enter Try.func10, Try.ntmps10
      go_wp2_with fail
      refine (reffinite_any r _).mono ?_
      rintro e w' ⟨rfl, n, rfl⟩
      rw [HF.out]
      go_wp2_with fail
      refine (reffinite_any b _).mono ?_
      rintro e w' ⟨rfl, m, rfl⟩
      rw [HFB.out]
      go_wp2_with fail
      go_ret
      refine ⟨ret_bool ?_, hbl _⟩
      rw [← HQ.out, HF.out, HFB.out, Bool.false_and, Bool.and_false]
    | true =>
      have HFB := Lib.hid hfb
      clear hfb
      obtain ⟨g, hg⟩ : ∃ g, (FloatKind.f64.format.order r 0 == some .gt || FloatKind.f64.format.order r 0 == some .eq) = g := ⟨_, rfl⟩
      obtain ⟨p, hp⟩ : ∃ p, (FloatKind.f64.format.order b 0 == some .gt) = p := ⟨_, rfl⟩
      have HG : Hid ((g && p) = quotaB r b) := by
        refine Lib.hid ?_
        rw [← HQ.out, HF.out, HFB.out, Bool.true_and, Bool.true_and, ← hg, ← hp]
        rfl
      cases g <;> cases p
      all_goals
        go_enter Try.func10, Try.ntmps10
        go_wp2_with fail
        refine (reffinite_any r _).mono ?_
        rintro e w' ⟨rfl, n, rfl⟩
        rw [HF.out]
        go_wp2_with fail
        refine (reffinite_any b _).mono ?_
        rintro e w' ⟨rfl, m, rfl⟩
        rw [HFB.out]
        go_wp2_with fail
        go_ret
        exact ⟨ret_bool HG.out, hbl _⟩

/-- OK, or ErrArg -/
def errB (b : Bool) : Int := if b then 0 else 2

set_option maxHeartbeats 800000 in
theorem check_any (r b : Nat) (w : World) (hr : r < 18446744073709551616) (hb : b < 18446744073709551616) :
    Calls Try.prog 26 #[.agg #[.float .f64 r, .float .f64 b]] w fun e w' => e = .returned (.int .i64 (errB (quotaB r b))) ∧ Below w.heap.size w w' := by
  have hp := gt_zero b hb
  have hbl : Below w.heap.size w (w.alloc (.cells #[.float .f64 r, .float .f64 b] 24)) := (Below.refl _ _).alloc (Nat.le_refl _) _
  have e : (finW b && (decide (0 < b) && decide (b ≤ inf))) = (decide (0 < b) && decide (b < inf)) := by
    have hi := inf_lt_nz
    unfold finW
    rcases lt_two b hb with ⟨_, h⟩ | ⟨_, h⟩
    · rw [← h]
      by_cases h1 : b < inf
      · simp [h1, Nat.le_of_lt h1]
      · simp [h1]
    · have h1 : ¬ b < inf := by omega
      have h2 : ¬ b ≤ inf := by omega
      simp [h1, h2]
  have hq : (nnW r && (finW b && (Ieee.double.order b 0 == some .gt))) = quotaB r b := by
    unfold quotaB
    rw [hp, e]
  have HR := Lib.hid hr
  have HB := Lib.hid hb
  have HQ := Lib.hid hq
  clear hp hr hb hq e
  obtain ⟨g, hg⟩ : ∃ g, nnW r = g := ⟨_, rfl⟩
  obtain ⟨f, hf⟩ : ∃ f, finW b = f := ⟨_, rfl⟩
  obtain ⟨p, hp⟩ : ∃ p, (FloatKind.f64.format.order b 0 == some .gt) = p := ⟨_, rfl⟩
  have HG : Hid (quotaB r b = (g && (f && p))) := by
    refine Lib.hid ?_
    rw [← HQ.out, ← hg, ← hf, ← hp]
    rfl
  have H1 := Lib.hid hg
  have H2 := Lib.hid hf
  clear hg hf
  cases g
  · go_enter Try.func26, Try.ntmps26
    go_wp2_with fail
    refine (price_any r _ HR.out).mono ?_
    rintro e w' ⟨rfl, rfl⟩
    rw [H1.out]
    go_wp2_with fail
    go_ret
    exact ⟨ret_int (by rw [HG.out]; rfl), hbl⟩
  · cases f
    · go_enter Try.func26, Try.ntmps26
      go_wp2_with fail
      refine (price_any r _ HR.out).mono ?_
      rintro e w' ⟨rfl, rfl⟩
      rw [H1.out]
      go_wp2_with fail
      refine (finite_any b _ HB.out).mono ?_
      rintro e w' ⟨rfl, rfl⟩
      rw [H2.out]
      go_wp2_with fail
      go_ret
      exact ⟨ret_int (by rw [HG.out]; rfl), hbl⟩
    · cases p
      all_goals
        go_enter Try.func26, Try.ntmps26
        go_wp2_with fail
        refine (price_any r _ HR.out).mono ?_
        rintro e w' ⟨rfl, rfl⟩
        rw [H1.out]
        go_wp2_with fail
        refine (finite_any b _ HB.out).mono ?_
        rintro e w' ⟨rfl, rfl⟩
        rw [H2.out]
        go_wp2_with fail
        go_ret
        exact ⟨ret_int (by rw [HG.out]; rfl), hbl⟩
end Go.Proofs.Ytbpnhpjcepgiiaa
