/- Quota: buckets in memory: of, at, on. -/
import Derived.Test.YtbpnhpjcepgiiaaQb
import Derived.Deep.RegionWith
import Derived.Deep.RegionHeld3
import Derived.Deep.RegionLaw
import Derived.StillTailTactics
import Derived.IntWalk
namespace Go.Proofs.Ytbpnhpjcepgiiaa
open Go.RowKit Fl

set_option maxHeartbeats 400000 in
theorem of_ok (q c : Nat) (w : World) (hc : c < 64) (hm : w.cell? ⟨q, 384, none⟩ = some (.bool true)) :
    Calls Try.prog 56 #[.pointer (some ⟨q, 0, none⟩), .int .i64 c, .bool true] w fun e w' => e = .returned (.tuple #[.pointer (some ⟨q, c * 6, none⟩), .int .i64 0]) ∧ w = w' := by
  have h0 : decide ((c : Int) < 0) = false := by simp
  have h1 : decide ((64 : Int) ≤ (c : Int)) = false := by simp; omega
  go_enter Try.func56, Try.ntmps56
  go_wp2
  go_ret2
  exact ⟨rfl, rfl⟩

structure Bk where
  rate : Nat
  burst : Nat
  level : Nat
  time : Int
  paid : Nat
  times : Int

def Bk.vals (b : Bk) : List Value := [.float .f64 b.rate, .float .f64 b.burst, .float .f64 b.level, .int .i64 b.time, .float .f64 b.paid, .int .i64 b.times]

/-- a bucket's six cells, none of them frozen -/
structure BkAt (w : World) (q o : Nat) (b : Bk) : Prop where
  rate : w.cell? ⟨q, o, none⟩ = some (.float .f64 b.rate)
  burst : w.cell? ⟨q, o + 1, none⟩ = some (.float .f64 b.burst)
  level : w.cell? ⟨q, o + 2, none⟩ = some (.float .f64 b.level)
  time : w.cell? ⟨q, o + 3, none⟩ = some (.int .i64 b.time)
  paid : w.cell? ⟨q, o + 4, none⟩ = some (.float .f64 b.paid)
  times : w.cell? ⟨q, o + 5, none⟩ = some (.int .i64 b.times)
  free : ∀ k, w.frozen? ⟨q, k, none⟩ = false

theorem BkAt.of {w w' : World} {q o : Nat} {b : Bk} (h : BkAt w q o b) (e : w'.heap = w.heap) : BkAt w' q o b := by
  have hc : ∀ a, w'.cell? a = w.cell? a := fun a => by simp [World.cell?, e]
  have hf : ∀ a, w'.frozen? a = w.frozen? a := fun a => by simp [World.frozen?, e]
  exact ⟨by rw [hc]; exact h.rate, by rw [hc]; exact h.burst, by rw [hc]; exact h.level, by rw [hc]; exact h.time, by rw [hc]; exact h.paid, by rw [hc]; exact h.times, fun k => by rw [hf]; exact h.free k⟩

/-- a bucket in order: what it may hold -/
structure BkOk (b : Bk) : Prop where
  rate : NN b.rate
  burst0 : 0 < b.burst
  burst1 : b.burst < inf
  level : b.level ≤ b.burst
  time0 : 0 ≤ b.time
  time1 : b.time ≤ 9007199254740992
  paid : b.paid ≤ inf

/-- the level at a time -/
def atL (b : Bk) (t : Int) : Nat := if t ≤ b.time then b.level else min b.burst (fadd b.level (fmul (rv b.rate) (i2r (t - b.time).toNat)))

set_option maxRecDepth 100000 in
set_option maxHeartbeats 400000 in
theorem at_old (q o : Nat) (b : Bk) (t : Int) (w : World) (hb : BkAt w q o b) (ht : t ≤ b.time) :
    Calls Try.prog 59 #[.pointer (some ⟨q, o, none⟩), .int .i64 t] w fun e w' => e = .returned (.float .f64 b.level) ∧ ∃ n, w' = w.drewN n := by
  have h3 := hb.time
  have h2 := hb.level
  go_enter Try.func59, Try.ntmps59
  go_wp2
  go_ret
  exact ⟨rfl, 0, rfl⟩

theorem run_min (W : World) (A : Array TypeId) (T : TypeId) (x y : Nat) (hx : x ≤ inf) (hy : y ≤ inf) : (Builtin.min_ A T #[.float .f64 x, .float .f64 y]).run Try.prog W = .ok (.float .f64 (min x y)) W := by
  have ho : FloatKind.f64.format.order x y = some (compare x y) := by rw [ord, order_nn x y (.inl hx) (.inl hy), rv_small hx, rv_small hy]
  rcases Nat.lt_trichotomy x y with h | h | h
  · rw [Nat.compare_eq_lt.2 h] at ho
    simp [Builtin.min_, Builtin.min2, ho, Nat.min_eq_left (Nat.le_of_lt h)]
  · subst h
    rw [Nat.compare_eq_eq.2 rfl] at ho
    simp [Builtin.min_, Builtin.min2, ho]
  · rw [Nat.compare_eq_gt.2 h] at ho
    simp [Builtin.min_, Builtin.min2, ho, Nat.min_eq_right (Nat.le_of_lt h)]

theorem i2r_fin (n : Nat) (h : n ≤ 9007199254740992) : i2r n < inf := by
  have h1 := i2r_mono h
  have h2 : i2r 9007199254740992 < inf := by decide +kernel
  omega

set_option maxRecDepth 100000 in
set_option maxHeartbeats 400000 in
theorem at_new (q o : Nat) (b : Bk) (t : Int) (w : World) (hb : BkAt w q o b) (hok : BkOk b) (ht : b.time < t) (ht2 : t ≤ 9007199254740992) :
    Calls Try.prog 59 #[.pointer (some ⟨q, o, none⟩), .int .i64 t] w fun e w' => e = .returned (.float .f64 (min b.burst (fadd b.level (fmul (rv b.rate) (i2r (t - b.time).toNat))))) ∧ ∃ n, w' = w.drewN n := by
  have h0 := hb.rate
  have h1 := hb.burst
  have h2 := hb.level
  have h3 := hb.time
  have ht0 := hok.time0
  obtain ⟨dt, hdt⟩ : ∃ dt : Nat, (dt : Int) = t - b.time := ⟨(t - b.time).toNat, by omega⟩
  have hdt' : (t - b.time).toNat = dt := by omega
  obtain ⟨d, hd⟩ : ∃ d, d = i2r dt := ⟨_, rfl⟩
  have hdf : d < inf := by rw [hd]; exact i2r_fin dt (by omega)
  obtain ⟨z, hz, hz1, hz2⟩ := mul_nn b.rate d hok.rate hdf
  have hsum := add_nn b.level z (by have := hok.level; have := hok.burst1; omega) hz1
  rw [hdt', ← hd, ← hz2]
  obtain ⟨s, hs⟩ : ∃ s, s = fadd b.level (rv z) := ⟨_, rfl⟩
  rw [← hs] at hsum ⊢
  have hcv : floatOfInt .f64 (t - b.time) = d := by rw [← hdt, floatOfInt_nat, hd]
  have hw : IntKind.i64.wrap (t - b.time) = t - b.time := IntWalk.i64_in _ (by have := hok.time1; omega)
  have hmul := fun (T : TypeId) (W : World) => run_float_arith (P := Try.prog) W .mul T .f64 b.rate d z hz
  have hadd := fun (T : TypeId) (W : World) => run_float_arith (P := Try.prog) W .add T .f64 b.level z s hsum
  have hmin := fun (W : World) => run_min W #[22, 22] 22 b.burst s (by have := hok.burst1; omega) (by rw [hs]; exact fadd_le _ _)
  have hle : decide (t ≤ b.time) = false := by simp; omega
  clear hdt hdt' hd hdf hz hz1 hz2 hsum hs ht hok hb
  go_enter Try.func59, Try.ntmps59
  go_wp2
  go_quiet (fail)
  go_wp2
  go_quiet (fail)
  go_wp2
  go_ret
  exact ⟨rfl, _, World.drewN_drewN ..⟩

theorem at_any (q o : Nat) (b : Bk) (t : Int) (w : World) (hb : BkAt w q o b) (hok : BkOk b) (ht2 : t ≤ 9007199254740992) :
    Calls Try.prog 59 #[.pointer (some ⟨q, o, none⟩), .int .i64 t] w fun e w' => e = .returned (.float .f64 (atL b t)) ∧ ∃ n, w' = w.drewN n := by
  unfold atL
  by_cases h : t ≤ b.time
  · rw [if_pos h]; exact at_old q o b t w hb h
  · rw [if_neg h]; exact at_new q o b t w hb hok (by omega) ht2

theorem run_store_float (a : Addr) (b : Nat) (W : World) : (store a (.float .f64 b)).run Try.prog W = stored Try.prog W a (.float .f64 b) .plain := run_store Try.prog W a _ _ rfl

theorem run_max (W : World) (A : Array TypeId) (T : TypeId) (x y : Int) : (Builtin.max_ A T #[.int .i64 x, .int .i64 y]).run Try.prog W = .ok (.int .i64 (max x y)) W := by
  by_cases h : x < y
  · simp [Builtin.max_, Builtin.max2, h]
    try omega
  · simp [Builtin.max_, Builtin.max2, h]
    try omega

set_option maxRecDepth 100000 in
set_option maxHeartbeats 400000 in
theorem on_any (q o : Nat) (b : Bk) (t : Int) (w : World) (hb : BkAt w q o b) (hok : BkOk b) (ht2 : t ≤ 9007199254740992) :
    Calls Try.prog 58 #[.pointer (some ⟨q, o, none⟩), .int .i64 t] w fun e w' => e = .returned (.tuple #[]) ∧
      ∃ n, w' = ((w.setCell ⟨q, o + 2, none⟩ (.float .f64 (atL b t))).setCell ⟨q, o + 3, none⟩ (.int .i64 (max b.time t))).drewN n := by
  obtain ⟨l, hl⟩ : ∃ l, atL b t = l := ⟨_, rfl⟩
  have hat := fun W hW => at_any q o b t W hW hok ht2
  rw [hl] at hat ⊢
  have HAT := Lib.hid hat
  have HB := Lib.hid hb
  have h2 := hb.level
  have h3 := hb.time
  have f2 := hb.free (o + 2)
  have f3 := hb.free (o + 3)
  obtain ⟨mx, hmx⟩ : ∃ mx : Int, max b.time t = mx := ⟨_, rfl⟩
  have hmax := fun (W : World) => run_max W #[2, 2] 2 b.time t
  rw [hmx] at hmax ⊢
  clear hb hl hat hmx
  have hsf := run_store_float
  go_enter Try.func58, Try.ntmps58
  go_region_with (go_at_call 59; refine (HAT.out _ (by exact BkAt.of HB.out rfl)).mono ?_; rintro e w' ⟨rfl, n, rfl⟩)
  all_goals (go_end0; exact ⟨rfl, _, rfl⟩)
end Go.Proofs.Ytbpnhpjcepgiiaa
