/- Real: a search. -/
import Derived.Test.YthfgjibhpenfkaaDoorRc
namespace Go.Proofs.YthfgjibhpenfkaaDoor
open Go.RowKit Fl

theorem ordF_lt (x y : Nat) : ordF x y < 0 ↔ placeW x < placeW y := by
  unfold ordF cmpI; split
  · simp; omega
  · split <;> simp <;> omega
theorem ordF_gt (x y : Nat) : 0 < ordF x y ↔ placeW y < placeW x := by
  unfold ordF cmpI; split
  · simp; omega
  · split <;> simp <;> omega
/-- the floats rise -/
def Rises (f : Nat → Nat) (n : Nat) : Prop := ∀ a b, a ≤ b → b < n → placeW (f a) ≤ placeW (f b)
/-- what a search finds: the first place whose number is not less -/
structure SearchIs (f : Nat → Nat) (n x at_ : Nat) : Prop where
  le : at_ ≤ n
  below : Rises f n → ∀ i, i < at_ → placeW (f i) < placeW x
  above : Rises f n → at_ < n → placeW x ≤ placeW (f at_)
def foundB (f : Nat → Nat) (n x at_ : Nat) : Bool := decide (at_ < n) && (placeW (f at_) == placeW x)

set_option maxRecDepth 100000 in
set_option maxHeartbeats 400000 in
theorem search_b (oa : Option Addr) (n c x : Nat) (f : Nat → Nat) (w : World) (hf : FloatsAt w oa n f) (hn : n ≤ 1000000) (hx : x < 18446744073709551616) :
    Calls Tryd.prog 25 #[.slice oa n c, .float .f64 x] w fun e w' => ∃ at_, SearchIs f n x at_ ∧ e = .returned (.tuple #[.int .i64 at_, .bool (foundB f n x at_)]) ∧ w = w' := by
  have HF := Lib.hid hf
  have HX := Lib.hid hx
  clear hf hx
  go_enter Tryd.func25, Tryd.ntmps25
  go_wp2_with fail
  go_loopg [6, 7] n (fun g s6 s7 wr => ∃ lo hi : Nat, s6 = .int .i64 lo ∧ s7 = .int .i64 hi ∧ g = hi - lo ∧ lo ≤ hi ∧ hi ≤ n ∧ w = wr ∧ Hid ((Rises f n → ∀ i, i < lo → placeW (f i) < placeW x) ∧ (Rises f n → hi < n → placeW x ≤ placeW (f hi))))
  case atStart => exact ⟨0, n, rfl, rfl, by omega, Nat.zero_le _, Nat.le_refl _, rfl, Lib.hid ⟨fun _ i hi => absurd hi (Nat.not_lt_zero i), fun _ h => absurd h (Nat.lt_irrefl _)⟩⟩
  case round =>
    obtain ⟨lo, hi, rfl, rfl, hg, hlh, hhn, rfl, HI⟩ := hrel
    by_cases hlt : lo < hi
    · have hd : decide ((lo : Int) < (hi : Int)) = true := by simp; omega
      obtain ⟨mid, hmid⟩ : ∃ mid : Nat, ((lo : Int) + (hi : Int)) / 2 = (mid : Int) := ⟨(lo + hi) / 2, by omega⟩
      have hm1 : lo ≤ mid := by omega
      have hm2 : mid < hi := by omega
      have hmn : mid < n := by omega
      obtain ⟨ad, ha, cx, _, h64⟩ := HF.out mid hmn
      subst ha
      have H64 := Lib.hid h64
      have hlt0 := ordF_lt (f mid) x
      go_upto_region 4 with fail
      clear h64 hmid
      by_cases ho : ordF (f mid) x < 0
      · have hdo : decide (ordF (f mid) x < 0) = true := decide_eq_true ho
        have hp := hlt0.1 ho
        have HI2 : Hid ((Rises f n → ∀ i, i < mid + 1 → placeW (f i) < placeW x) ∧ (Rises f n → hi < n → placeW x ≤ placeW (f hi))) := Lib.hid ⟨fun r i hi => by have := r i mid (by omega) hmn; omega, HI.out.2⟩
        clear ho hlt0 hp
        go_wp2_with fail
        refine (rorder_any (f mid) x _ H64.out HX.out).mono ?_
        rintro e w' ⟨rfl, rfl⟩
        go_wp2_with fail
        go_roundg (hi - (mid + 1))
        case measure => omega
        case rel => exact ⟨mid + 1, hi, by go_num, rfl, rfl, by omega, hhn, rfl, HI2⟩
      · have hdo : decide (ordF (f mid) x < 0) = false := decide_eq_false ho
        have hp : placeW x ≤ placeW (f mid) := by
          rw [hlt0] at ho; omega
        have HI2 : Hid ((Rises f n → ∀ i, i < lo → placeW (f i) < placeW x) ∧ (Rises f n → mid < n → placeW x ≤ placeW (f mid))) := Lib.hid ⟨HI.out.1, fun _ _ => hp⟩
        clear ho hlt0 hp
        go_wp2_with fail
        refine (rorder_any (f mid) x _ H64.out HX.out).mono ?_
        rintro e w' ⟨rfl, rfl⟩
        go_wp2_with fail
        go_roundg (mid - lo)
        case measure => omega
        case rel => exact ⟨lo, mid, rfl, rfl, rfl, hm1, by omega, rfl, HI2⟩
    · obtain rfl : lo = hi := by omega
      have hd : decide ((lo : Int) < (lo : Int)) = false := by simp
      by_cases hln : lo < n
      · have hd2 : decide ((lo : Int) < (n : Int)) = true := by simp; omega
        obtain ⟨ad, ha, cx, _, h64⟩ := HF.out lo hln
        subst ha
        have H64 := Lib.hid h64
        have HB : Hid (foundB f n x lo = (placeW (f lo) == placeW x)) := Lib.hid (by unfold foundB; rw [decide_eq_true hln, Bool.true_and])
        clear h64 hlt
        go_wp2_with fail
        refine (rlike_any (f lo) x _ H64.out HX.out).mono ?_
        rintro e w' ⟨rfl, rfl⟩
        go_wp2_with fail
        try rw [Exit.noGoto_ret]
        go_ret2
        exact ⟨lo, ⟨Nat.le_of_lt hln, HI.out.1, HI.out.2⟩, by rw [HB.out]; rfl, rfl⟩
      · have hd2 : decide ((lo : Int) < (n : Int)) = false := by simp; omega
        have HB : Hid (foundB f n x lo = false) := Lib.hid (by unfold foundB; rw [decide_eq_false hln, Bool.false_and])
        clear hlt
        go_wp2_with fail
        try rw [Exit.noGoto_ret]
        go_ret2
        exact ⟨lo, ⟨by omega, HI.out.1, HI.out.2⟩, by rw [HB.out]; rfl, rfl⟩
end Go.Proofs.YthfgjibhpenfkaaDoor
