/- Stats: sums of small whole numbers; a falling mean with the weight 1. -/
import Derived.Test.YtbpnhpjcepgiiaaVb
import Derived.Deep.LoopGhost
namespace Go.Proofs.Ytbpnhpjcepgiiaa
open Go.RowKit Fl

/-- the sum of the first k -/
def sumI (g : Nat → Int) : Nat → Int
  | 0 => 0
  | k + 1 => sumI g k + g k
theorem sumI_bound (g : Nat → Int) (k : Nat) (h : ∀ i, i < k → (g i).natAbs < 1048576) : (sumI g k).natAbs ≤ k * 1048576 := by
  induction k with
  | zero => simp [sumI]
  | succ k ih =>
    have h1 := ih fun i hi => h i (by omega)
    have h2 := h k (by omega)
    show (sumI g k + g k).natAbs ≤ (k + 1) * 1048576
    omega
theorem FopIs.some {r z : Nat} (h : FopIs (some z) r) : r = z := by
  rcases h.2 with h | ⟨h, _⟩
  · exact (Option.some.inj h).symm
  · cases h
/-- of small whole numbers the sum is exact -/
theorem Ins.sum {f : Nat → Nat} {g : Nat → Int} {t t' : Ta} {k : Nat} (h : Ins f t k t') (c : Int) (ht : t.sum = fi c) (hf : ∀ i, i < k → f i = fi (g i)) (hc : c.natAbs ≤ 1000000000) (hb : ∀ i, i < k → (g i).natAbs < 1048576) (hk : k ≤ 300) : t'.sum = fi (c + sumI g k) := by
  induction h with
  | zero => rw [ht]; congr 1; show c = c + 0; omega
  | @succ k s s' h1 h2 ih =>
    have e := ih (fun i hi => hf i (by omega)) (fun i hi => hb i (by omega)) (by omega)
    have h3 := h2.sum
    have b1 := sumI_bound g k fun i hi => hb i (by omega)
    have b2 := hb k (by omega)
    rw [e, hf k (by omega), add_fi _ _ (by omega) (by omega)] at h3
    rw [h3.some]
    congr 1
    show c + sumI g k + g k = c + (sumI g k + g k)
    omega

set_option maxRecDepth 100000 in
set_option maxHeartbeats 400000 in
theorem falling_b (g n c : Nat) (f : Nat → Nat) (G : Nat → Int) (w : World) (hf : FloatsAt w (some ⟨g, 0, none⟩) n f) (hG : ∀ i, i < n → f i = fi (G i) ∧ (G i).natAbs < 1048576) (h1 : 1 ≤ n) (hn : n ≤ 300) (hc : n ≤ c) :
    Calls Try.prog 45 #[.float .f64 4607182418800017408, .slice (some ⟨g, 0, none⟩) n c] w fun e w' => e = .returned (.tuple #[.float .f64 (fi (G (n - 1))), .int .i64 0]) ∧ w = w' := by
  have hge : (FloatKind.f64.format.order 4607182418800017408 0 == some .gt) = true := by decide +kernel
  have hle : (FloatKind.f64.format.order 4607182418800017408 4607182418800017408 == some .lt || FloatKind.f64.format.order 4607182418800017408 4607182418800017408 == some .eq) = true := by decide +kernel
  have HF := Lib.hid hf
  have HG := Lib.hid hG
  obtain ⟨ad0, h0, c0, _, _⟩ := hf 0 (by omega)
  obtain rfl := Option.some.inj h0
  rw [addg, (hG 0 (by omega)).1] at c0
  by_cases hc1 : c = 1
  · obtain rfl : n = 1 := by omega
    subst hc1
    clear hf hG h0
    go_enter Try.func45, Try.ntmps45
    go_wp2_with fail
    refine (list_ok ⟨g, 0, none⟩ 1 1 _ h1 (by omega)).mono ?_
    rintro e w' ⟨rfl, rfl⟩
    go_wp2_with fail
    go_loopg [7, 27] 0 (fun k0 s7 s27 wr => s7 = .float .f64 (fi (G 0)) ∧ s27 = .int .i64 0 ∧ k0 = 0 ∧ wr = w)
    case atStart => exact ⟨rfl, rfl, rfl, rfl⟩
    case round =>
      obtain ⟨rfl, rfl, -, rfl⟩ := hrel
      go_wp2_with fail
      try rw [Exit.noGoto_ret]
      go_ret2
      exact ⟨rfl, rfl⟩
  · clear hf hG h0
    go_enter Try.func45, Try.ntmps45
    go_wp2_with fail
    refine (list_ok ⟨g, 0, none⟩ n c _ h1 (by omega)).mono ?_
    rintro e w' ⟨rfl, rfl⟩
    obtain ⟨m, hm⟩ : ∃ m, m = n - 1 := ⟨_, rfl⟩
    have HM := Lib.hid hm
    go_upto_region 6 with fail
    rw [← hm]
    clear hm
    go_loopg [7, 27] m (fun k0 s7 s27 wr => ∃ i : Nat, s7 = .float .f64 (fi (G i)) ∧ s27 = .int .i64 i ∧ k0 = m - i ∧ i ≤ m ∧ wr = w)
    case atStart => exact ⟨0, rfl, rfl, rfl, Nat.zero_le _, rfl⟩
    case round =>
      obtain ⟨i, rfl, rfl, hgi, hi, rfl⟩ := hrel
      by_cases hlt : i < m
      · have hdi : decide ((i : Int) < (m : Int)) = true := by simp; omega
        have hin : 1 + i < n := by have := HM.out; omega
        obtain ⟨ad, ha, c1, _, _⟩ := HF.out (1 + i) hin
        obtain rfl := Option.some.inj ha
        obtain ⟨g1, g2⟩ := HG.out (1 + i) hin
        obtain ⟨_, g3⟩ := HG.out i (by omega)
        rw [addg, g1] at c1
        have q1 := sub_fi (G (1 + i)) (G i) (by omega) (by omega)
        have q2 := mul_one_fi (G (1 + i) - G i) (by omega)
        have q3 := add_fi (G i) (G (1 + i) - G i) (by omega) (by omega)
        rw [show G i + (G (1 + i) - G i) = G (1 + i) by omega] at q3
        have HR : Hid (fi (G (1 + i)) = fi (G (i + 1))) := Lib.hid (by rw [Nat.add_comm])
        obtain ⟨x, hx⟩ : ∃ x, x = fi (G i) := ⟨_, rfl⟩
        obtain ⟨y, hy⟩ : ∃ y, y = fi (G (1 + i)) := ⟨_, rfl⟩
        obtain ⟨d, hd⟩ : ∃ d, d = fi (G (1 + i) - G i) := ⟨_, rfl⟩
        rw [← hx, ← hy, ← hd] at q1
        rw [← hd] at q2
        rw [← hx, ← hy, ← hd] at q3
        rw [← hy] at c1
        rw [← hx]
        have HY : Hid (y = fi (G (i + 1))) := Lib.hid (by rw [hy, HR.out])
        have r1 := fun (T : TypeId) (W : World) => run_float_arith (P := Try.prog) W .sub T .f64 y x d q1
        have r2 := fun (T : TypeId) (W : World) => run_float_arith (P := Try.prog) W .mul T .f64 4607182418800017408 d d q2
        have r3 := fun (T : TypeId) (W : World) => run_float_arith (P := Try.prog) W .add T .f64 x d y q3
        clear ha g1 g2 g3 q1 q2 q3 hx hy hd HR
        go_wp2_with fail
        go_roundg (m - (i + 1))
        case measure => omega
        case rel => exact ⟨i + 1, by rw [HY.out], by go_num, rfl, by omega, rfl⟩
      · obtain rfl : i = m := by omega
        have hdi : decide ((i : Int) < (i : Int)) = false := by simp
        go_wp2_with fail
        try rw [Exit.noGoto_ret]
        go_ret2
        exact ⟨by rw [← HM.out]; rfl, rfl⟩
end Go.Proofs.Ytbpnhpjcepgiiaa
