/- Real: Of, at every key. -/
import Derived.Test.YthfgjibhpenfkaaDoorNp
import Derived.Deep.RegionHeldLaw
import Derived.Lib.SmallJoins
namespace Go.Proofs.YthfgjibhpenfkaaDoor
open Go.RowKit Fl

theorem eqKey (P Q : Nat) (hP : P < 18446744073709551616) (hQ : Q < 18446744073709551616) (W : World) : (Op.equalIn 10000 31 (.agg #[.int .u8 ((kB P 0 : Nat) : Int), .int .u8 ((kB P 1 : Nat) : Int), .int .u8 ((kB P 2 : Nat) : Int), .int .u8 ((kB P 3 : Nat) : Int), .int .u8 ((kB P 4 : Nat) : Int), .int .u8 ((kB P 5 : Nat) : Int), .int .u8 ((kB P 6 : Nat) : Int), .int .u8 ((kB P 7 : Nat) : Int)]) (.agg #[.int .u8 ((kB Q 0 : Nat) : Int), .int .u8 ((kB Q 1 : Nat) : Int), .int .u8 ((kB Q 2 : Nat) : Int), .int .u8 ((kB Q 3 : Nat) : Int), .int .u8 ((kB Q 4 : Nat) : Int), .int .u8 ((kB Q 5 : Nat) : Int), .int .u8 ((kB Q 6 : Nat) : Int), .int .u8 ((kB Q 7 : Nat) : Int)])).run Tryd.prog W = .ok (decide (P = Q)) W := by
  rw [eq8]
  congr 1
  exact key_eqB hP hQ (kAgg_bytes P) (kAgg_bytes Q)
theorem or_byte (m c : Nat) (hm : m < 72057594037927936) (hc : c < 256) : bits .or .u64 ((m * 256 : Nat) : Int) (c : Int) = ((m * 256 + c : Nat) : Int) := by
  rw [bits_or_u64_nat _ _ (by omega) (by omega)]
  have := Nat.two_pow_add_eq_or_of_lt (b := c) (i := 8) hc m
  rw [show (2 : Nat) ^ 8 = 256 from rfl, Nat.mul_comm] at this
  rw [this]
theorem kB_step (N i : Nat) (h : i < 8) : N / 256 ^ (8 - i) * 256 + kB N i = N / 256 ^ (8 - (i + 1)) := by
  unfold kB
  rw [show 8 - i = (7 - i) + 1 by omega, show 8 - (i + 1) = 7 - i by omega, Nat.pow_succ, ← Nat.div_div_eq_div_mul]
  omega
/-- What Of makes of the key of number `N`. -/
def ofB (N : Nat) : Nat := if N < 9223372036854775808 then 18446744073709551615 - N else N % nz
def OfIs (N v : Nat) (er : Int) : Prop := (N = 18446744073709551615 → v = 9221120237041090561 ∧ er = 0) ∧ (N ≠ 18446744073709551615 → (placeN (ofB N) = N → v = ofB N ∧ er = 0) ∧ (placeN (ofB N) ≠ N → v = 0 ∧ er = 130))
set_option maxRecDepth 100000 in
set_option maxHeartbeats 1000000 in
theorem Of_any (N : Nat) (w : World) (hN : N < 18446744073709551616) :
    Calls Tryd.prog 14 #[kAgg N] w fun e w' => ∃ (v : Nat) (er : Int), e = .returned (.tuple #[.float .f64 v, .int .i64 er]) ∧ OfIs N v er ∧ Below w.heap.size w w' := by
  have HN := Lib.hid hN
  have q0 : ∀ W : World, (Instr.index 31 (.agg #[.int .u8 ((kB N 0 : Nat) : Int), .int .u8 ((kB N 1 : Nat) : Int), .int .u8 ((kB N 2 : Nat) : Int), .int .u8 ((kB N 3 : Nat) : Int), .int .u8 ((kB N 4 : Nat) : Int), .int .u8 ((kB N 5 : Nat) : Int), .int .u8 ((kB N 6 : Nat) : Int), .int .u8 ((kB N 7 : Nat) : Int)]) (.int .i64 0)).run Tryd.prog W = .ok (.int .u8 ((kB N 0 : Nat) : Int)) W := fun W => by kernel_rfl
  have q1 : ∀ W : World, (Instr.index 31 (.agg #[.int .u8 ((kB N 0 : Nat) : Int), .int .u8 ((kB N 1 : Nat) : Int), .int .u8 ((kB N 2 : Nat) : Int), .int .u8 ((kB N 3 : Nat) : Int), .int .u8 ((kB N 4 : Nat) : Int), .int .u8 ((kB N 5 : Nat) : Int), .int .u8 ((kB N 6 : Nat) : Int), .int .u8 ((kB N 7 : Nat) : Int)]) (.int .i64 1)).run Tryd.prog W = .ok (.int .u8 ((kB N 1 : Nat) : Int)) W := fun W => by kernel_rfl
  have q2 : ∀ W : World, (Instr.index 31 (.agg #[.int .u8 ((kB N 0 : Nat) : Int), .int .u8 ((kB N 1 : Nat) : Int), .int .u8 ((kB N 2 : Nat) : Int), .int .u8 ((kB N 3 : Nat) : Int), .int .u8 ((kB N 4 : Nat) : Int), .int .u8 ((kB N 5 : Nat) : Int), .int .u8 ((kB N 6 : Nat) : Int), .int .u8 ((kB N 7 : Nat) : Int)]) (.int .i64 2)).run Tryd.prog W = .ok (.int .u8 ((kB N 2 : Nat) : Int)) W := fun W => by kernel_rfl
  have q3 : ∀ W : World, (Instr.index 31 (.agg #[.int .u8 ((kB N 0 : Nat) : Int), .int .u8 ((kB N 1 : Nat) : Int), .int .u8 ((kB N 2 : Nat) : Int), .int .u8 ((kB N 3 : Nat) : Int), .int .u8 ((kB N 4 : Nat) : Int), .int .u8 ((kB N 5 : Nat) : Int), .int .u8 ((kB N 6 : Nat) : Int), .int .u8 ((kB N 7 : Nat) : Int)]) (.int .i64 3)).run Tryd.prog W = .ok (.int .u8 ((kB N 3 : Nat) : Int)) W := fun W => by kernel_rfl
  have q4 : ∀ W : World, (Instr.index 31 (.agg #[.int .u8 ((kB N 0 : Nat) : Int), .int .u8 ((kB N 1 : Nat) : Int), .int .u8 ((kB N 2 : Nat) : Int), .int .u8 ((kB N 3 : Nat) : Int), .int .u8 ((kB N 4 : Nat) : Int), .int .u8 ((kB N 5 : Nat) : Int), .int .u8 ((kB N 6 : Nat) : Int), .int .u8 ((kB N 7 : Nat) : Int)]) (.int .i64 4)).run Tryd.prog W = .ok (.int .u8 ((kB N 4 : Nat) : Int)) W := fun W => by kernel_rfl
  have q5 : ∀ W : World, (Instr.index 31 (.agg #[.int .u8 ((kB N 0 : Nat) : Int), .int .u8 ((kB N 1 : Nat) : Int), .int .u8 ((kB N 2 : Nat) : Int), .int .u8 ((kB N 3 : Nat) : Int), .int .u8 ((kB N 4 : Nat) : Int), .int .u8 ((kB N 5 : Nat) : Int), .int .u8 ((kB N 6 : Nat) : Int), .int .u8 ((kB N 7 : Nat) : Int)]) (.int .i64 5)).run Tryd.prog W = .ok (.int .u8 ((kB N 5 : Nat) : Int)) W := fun W => by kernel_rfl
  have q6 : ∀ W : World, (Instr.index 31 (.agg #[.int .u8 ((kB N 0 : Nat) : Int), .int .u8 ((kB N 1 : Nat) : Int), .int .u8 ((kB N 2 : Nat) : Int), .int .u8 ((kB N 3 : Nat) : Int), .int .u8 ((kB N 4 : Nat) : Int), .int .u8 ((kB N 5 : Nat) : Int), .int .u8 ((kB N 6 : Nat) : Int), .int .u8 ((kB N 7 : Nat) : Int)]) (.int .i64 6)).run Tryd.prog W = .ok (.int .u8 ((kB N 6 : Nat) : Int)) W := fun W => by kernel_rfl
  have q7 : ∀ W : World, (Instr.index 31 (.agg #[.int .u8 ((kB N 0 : Nat) : Int), .int .u8 ((kB N 1 : Nat) : Int), .int .u8 ((kB N 2 : Nat) : Int), .int .u8 ((kB N 3 : Nat) : Int), .int .u8 ((kB N 4 : Nat) : Int), .int .u8 ((kB N 5 : Nat) : Int), .int .u8 ((kB N 6 : Nat) : Int), .int .u8 ((kB N 7 : Nat) : Int)]) (.int .i64 7)).run Tryd.prog W = .ok (.int .u8 ((kB N 7 : Nat) : Int)) W := fun W => by kernel_rfl
  have hidx : ∀ (i : Nat), i < 8 → ∀ W : World, (Instr.index 31 (.agg #[.int .u8 ((kB N 0 : Nat) : Int), .int .u8 ((kB N 1 : Nat) : Int), .int .u8 ((kB N 2 : Nat) : Int), .int .u8 ((kB N 3 : Nat) : Int), .int .u8 ((kB N 4 : Nat) : Int), .int .u8 ((kB N 5 : Nat) : Int), .int .u8 ((kB N 6 : Nat) : Int), .int .u8 ((kB N 7 : Nat) : Int)]) (.int .i64 (i : Int))).run Tryd.prog W = .ok (.int .u8 ((kB N i : Nat) : Int)) W := fun i hi W =>
    match i, hi with
    | 0, _ => q0 W
    | 1, _ => q1 W
    | 2, _ => q2 W
    | 3, _ => q3 W
    | 4, _ => q4 W
    | 5, _ => q5 W
    | 6, _ => q6 W
    | 7, _ => q7 W
  clear q0 q1 q2 q3 q4 q5 q6 q7
  have HIDX := Lib.hid hidx
  clear hidx hN
  unfold kAgg kV
  go_enter Tryd.func14, Tryd.ntmps14
  go_wp2_with fail
  obtain ⟨w1, hw1⟩ : ∃ w1 : World, w1 = w.alloc (.cells #[.int .u8 ((kB N 0 : Nat) : Int), .int .u8 ((kB N 1 : Nat) : Int), .int .u8 ((kB N 2 : Nat) : Int), .int .u8 ((kB N 3 : Nat) : Int), .int .u8 ((kB N 4 : Nat) : Int), .int .u8 ((kB N 5 : Nat) : Int), .int .u8 ((kB N 6 : Nat) : Int), .int .u8 ((kB N 7 : Nat) : Int)] 31) := ⟨_, rfl⟩
  have hb1 : Below w.heap.size w w1 := by rw [hw1]; exact below_alloc _ _
  have hk1 : w1.heap[w.heap.size]? = some (.cells #[.int .u8 ((kB N 0 : Nat) : Int), .int .u8 ((kB N 1 : Nat) : Int), .int .u8 ((kB N 2 : Nat) : Int), .int .u8 ((kB N 3 : Nat) : Int), .int .u8 ((kB N 4 : Nat) : Int), .int .u8 ((kB N 5 : Nat) : Int), .int .u8 ((kB N 6 : Nat) : Int), .int .u8 ((kB N 7 : Nat) : Int)] 31 (0, 0)) := by rw [hw1]; exact alloc_here _ _
  rw [← hw1]
  have HB1 := Lib.hid hb1
  have HK1 := Lib.hid hk1
  clear hw1 hb1 hk1
  go_loopg [4, 6, 10] 8 (fun g s4 s6 s10 wx => ∃ i : Nat, s4 = .int .u64 ((N / 256 ^ (8 - i) : Nat) : Int) ∧ s10 = .int .i64 (i : Int) ∧ g = 8 - i ∧ i ≤ 8 ∧ w1 = wx)
  case atStart => exact ⟨0, by rw [Nat.sub_zero, Nat.div_eq_of_lt (by have := HN.out; rw [show (256 : Nat) ^ 8 = 18446744073709551616 from rfl]; exact this)]; rfl, rfl, rfl, Nat.zero_le _, rfl⟩
  case round =>
    obtain ⟨i, rfl, rfl, hg, hi8, rfl⟩ := hrel
    by_cases hlt : i < 8
    · have hd : decide ((i : Int) < 8) = true := by simp; omega
      have hix := HIDX.out i hlt
      have hm56 : N / 256 ^ (8 - i) < 72057594037927936 := by
        have h1 : 256 ^ 1 ≤ 256 ^ (8 - i) := Nat.pow_le_pow_right (by decide) (by omega)
        have h2 := Nat.div_le_div_left h1 (by decide) (a := N)
        have := HN.out
        omega
      have hc256 : kB N i < 256 := Nat.mod_lt _ (by decide)
      have hst := kB_step N i hlt
      have hor := or_byte _ _ hm56 hc256
      rw [hst] at hor
      obtain ⟨m, hm⟩ : ∃ m : Int, m = ((N / 256 ^ (8 - i) : Nat) : Int) := ⟨_, rfl⟩
      obtain ⟨m2, hm2⟩ : ∃ m : Int, m = ((N / 256 ^ (8 - (i + 1)) : Nat) : Int) := ⟨_, rfl⟩
      obtain ⟨c, hc⟩ : ∃ m : Int, m = ((kB N i : Nat) : Int) := ⟨_, rfl⟩
      rw [Int.natCast_mul, ← hm, ← hm2, ← hc] at hor
      rw [← hc] at hix
      rw [← hm]
      have hor' : bits .or .u64 (m * 256) c = m2 := hor
      have hm0 : 0 ≤ m := by omega
      have hm1 : m < 72057594037927936 := by omega
      have hc0 : 0 ≤ c := by omega
      have hc1 : c < 256 := by omega
      have HM2 := Lib.hid (And.intro hm2 hlt)
      clear hm hm2 hc hst hor hm56 hc256 hlt
      go_wp2_with fail
      go_roundg (8 - (i + 1))
      case measure => have := HM2.out.2; omega
      case rel => exact ⟨i + 1, by rw [← HM2.out.1], by go_num, rfl, by have := HM2.out.2; omega, rfl⟩
    · obtain rfl : i = 8 := by omega
      rw [show N / 256 ^ (8 - 8) = N by rw [Nat.sub_self, Nat.pow_zero, Nat.div_one]]
      have KEEP : Hid (∀ W : World, W.heap[w.heap.size]? = w1.heap[w.heap.size]? → W.cell? ⟨w.heap.size, 0, none⟩ = some (.int .u8 ((kB N 0 : Nat) : Int)) ∧ W.cell? ⟨w.heap.size, 1, none⟩ = some (.int .u8 ((kB N 1 : Nat) : Int)) ∧ W.cell? ⟨w.heap.size, 2, none⟩ = some (.int .u8 ((kB N 2 : Nat) : Int)) ∧ W.cell? ⟨w.heap.size, 3, none⟩ = some (.int .u8 ((kB N 3 : Nat) : Int)) ∧ W.cell? ⟨w.heap.size, 4, none⟩ = some (.int .u8 ((kB N 4 : Nat) : Int)) ∧ W.cell? ⟨w.heap.size, 5, none⟩ = some (.int .u8 ((kB N 5 : Nat) : Int)) ∧ W.cell? ⟨w.heap.size, 6, none⟩ = some (.int .u8 ((kB N 6 : Nat) : Int)) ∧ W.cell? ⟨w.heap.size, 7, none⟩ = some (.int .u8 ((kB N 7 : Nat) : Int))) := Lib.hid (fun W hW => by
        obtain ⟨c0, c1, c2, c3, c4, c5, c6, c7, _⟩ := cells8 (hW.trans HK1.out)
        exact ⟨c0, c1, c2, c3, c4, c5, c6, c7⟩)
      have HG : Hid (w.heap.size < w1.heap.size) := Lib.hid (Array.getElem?_eq_some_iff.1 HK1.out).1
      have hn64 := HN.out
      have hnz := nz_val
      obtain ⟨nv, hnv⟩ : ∃ m : Int, m = (N : Int) := ⟨_, rfl⟩
      have hn1 := andNot_sign N HN.out
      have hxr : bits .xor .u64 IntKind.u64.max (N : Int) = ((18446744073709551615 - N : Nat) : Int) := by
        rw [show IntKind.u64.max = ((18446744073709551615 : Nat) : Int) from rfl, bits_xor_u64_nat _ N (by decide) HN.out, Nat.xor_comm, xor_top N HN.out]
      obtain ⟨X, hX⟩ : ∃ m : Nat, m = 18446744073709551615 - N := ⟨_, rfl⟩
      obtain ⟨Y, hY⟩ : ∃ m : Nat, m = N % nz := ⟨_, rfl⟩
      rw [← hnv] at hn1 hxr ⊢
      rw [← hY] at hn1
      rw [← hX] at hxr
      have hnv0 : 0 ≤ nv := by omega
      have hnv1 : nv < 18446744073709551616 := by omega
      rw [hnz] at hY
      have hpc := placeN_cast
      by_cases hmx : N = 18446744073709551615
      · have t1 : decide (nv < 9223372036854775808) = false := by simp; omega
        have t2 : (nv == 18446744073709551615) = true := by simp; omega
        have HM := Lib.hid hmx
        clear hmx hnv hX hY hn64 hnz hpc
        go_wp2_with fail
        refine (math_nan _).mono ?_
        rintro e w' ⟨rfl, rfl⟩
        go_wp2_with fail
        go_ret2
        exact ⟨_, _, rfl, ⟨fun _ => ⟨rfl, rfl⟩, fun h => absurd HM.out h⟩, HB1.out⟩
      · have t2 : (nv == 18446744073709551615) = false := by simp; omega
        by_cases hlow : N < 9223372036854775808
        · have t1 : decide (nv < 9223372036854775808) = true := by simp; omega
          have hfb := f64frombits X
          have hX64 : X < 18446744073709551616 := by omega
          have HOB : Hid (ofB N = X) := Lib.hid (by unfold ofB; first | rw [if_pos hlow, hX] | rw [if_neg hlow, hY, ← hnz])
          have HM := Lib.hid (And.intro hX64 (And.intro hX (And.intro hmx hlow)))
          clear hmx hnv hX hY hn64 hnz hpc hlow hX64
          obtain ⟨P, hP⟩ : ∃ P, P = placeN X := ⟨_, rfl⟩
          have hP64 : P < 18446744073709551616 := by rw [hP]; exact (placeN_cast X HM.out.1).2
          have heq := fun W : World => eqKey P N hP64 HN.out W
          have HP := Lib.hid hP
          obtain ⟨z, hz⟩ : ∃ z, z = decide (P = N) := ⟨_, rfl⟩
          rw [← hz] at heq
          have HZ := Lib.hid hz
          clear hP hP64 hz
          go_wp2_with fail
          go_region_held_law (fun w' => w'.cell? ⟨w.heap.size, 0, none⟩ = some (.int .u8 ((kB N 0 : Nat) : Int)) ∧ w'.cell? ⟨w.heap.size, 1, none⟩ = some (.int .u8 ((kB N 1 : Nat) : Int)) ∧ w'.cell? ⟨w.heap.size, 2, none⟩ = some (.int .u8 ((kB N 2 : Nat) : Int)) ∧ w'.cell? ⟨w.heap.size, 3, none⟩ = some (.int .u8 ((kB N 3 : Nat) : Int)) ∧ w'.cell? ⟨w.heap.size, 4, none⟩ = some (.int .u8 ((kB N 4 : Nat) : Int)) ∧ w'.cell? ⟨w.heap.size, 5, none⟩ = some (.int .u8 ((kB N 5 : Nat) : Int)) ∧ w'.cell? ⟨w.heap.size, 6, none⟩ = some (.int .u8 ((kB N 6 : Nat) : Int)) ∧ w'.cell? ⟨w.heap.size, 7, none⟩ = some (.int .u8 ((kB N 7 : Nat) : Int))) (first | exact KEEP.out _ rfl | exact KEEP.out _ (HB2.out.block _ HG.out)) ((go_at_call 12; refine (key_any X _ HM.out.1).mono ?_; rintro e w2 ⟨rfl, hb2⟩; have HB2 : Hid (Below w1.heap.size w1 w2) := Lib.hid (below_undrew hb2); clear hb2; rw [← HP.out]; unfold kAgg kV))
          cases z with
          | true =>
            go_wp2_with fail
            go_ret2
            exact ⟨_, _, rfl, ⟨fun h => absurd h HM.out.2.2.1, fun _ => ⟨fun _ => ⟨HOB.out.symm, rfl⟩, fun h => absurd (of_decide_eq_true HZ.out.symm) (by rw [HP.out, ← HOB.out]; exact h)⟩⟩, HB1.out.trans (Joins.below_le HB2.out HB1.out.size)⟩
          | false =>
            go_wp2_with fail
            go_ret2
            exact ⟨_, _, rfl, ⟨fun h => absurd h HM.out.2.2.1, fun _ => ⟨fun h => absurd (by rw [HP.out, ← HOB.out]; exact h) (of_decide_eq_false HZ.out.symm), fun _ => ⟨rfl, rfl⟩⟩⟩, HB1.out.trans (Joins.below_le HB2.out HB1.out.size)⟩
        · have t1 : decide (nv < 9223372036854775808) = false := by simp; omega
          have hfb := f64frombits Y
          have hY64 : Y < 18446744073709551616 := by omega
          have HOB : Hid (ofB N = Y) := Lib.hid (by unfold ofB; first | rw [if_pos hlow, hY] | rw [if_neg hlow, hY, ← hnz])
          have HM := Lib.hid (And.intro hY64 (And.intro hY (And.intro hmx hlow)))
          clear hmx hnv hX hY hn64 hnz hpc hlow hY64
          obtain ⟨P, hP⟩ : ∃ P, P = placeN Y := ⟨_, rfl⟩
          have hP64 : P < 18446744073709551616 := by rw [hP]; exact (placeN_cast Y HM.out.1).2
          have heq := fun W : World => eqKey P N hP64 HN.out W
          have HP := Lib.hid hP
          obtain ⟨z, hz⟩ : ∃ z, z = decide (P = N) := ⟨_, rfl⟩
          rw [← hz] at heq
          have HZ := Lib.hid hz
          clear hP hP64 hz
          go_wp2_with fail
          go_region_held_law (fun w' => w'.cell? ⟨w.heap.size, 0, none⟩ = some (.int .u8 ((kB N 0 : Nat) : Int)) ∧ w'.cell? ⟨w.heap.size, 1, none⟩ = some (.int .u8 ((kB N 1 : Nat) : Int)) ∧ w'.cell? ⟨w.heap.size, 2, none⟩ = some (.int .u8 ((kB N 2 : Nat) : Int)) ∧ w'.cell? ⟨w.heap.size, 3, none⟩ = some (.int .u8 ((kB N 3 : Nat) : Int)) ∧ w'.cell? ⟨w.heap.size, 4, none⟩ = some (.int .u8 ((kB N 4 : Nat) : Int)) ∧ w'.cell? ⟨w.heap.size, 5, none⟩ = some (.int .u8 ((kB N 5 : Nat) : Int)) ∧ w'.cell? ⟨w.heap.size, 6, none⟩ = some (.int .u8 ((kB N 6 : Nat) : Int)) ∧ w'.cell? ⟨w.heap.size, 7, none⟩ = some (.int .u8 ((kB N 7 : Nat) : Int))) (first | exact KEEP.out _ rfl | exact KEEP.out _ (HB2.out.block _ HG.out)) ((go_at_call 12; refine (key_any Y _ HM.out.1).mono ?_; rintro e w2 ⟨rfl, hb2⟩; have HB2 : Hid (Below w1.heap.size w1 w2) := Lib.hid (below_undrew hb2); clear hb2; rw [← HP.out]; unfold kAgg kV))
          cases z with
          | true =>
            go_wp2_with fail
            go_ret2
            exact ⟨_, _, rfl, ⟨fun h => absurd h HM.out.2.2.1, fun _ => ⟨fun _ => ⟨HOB.out.symm, rfl⟩, fun h => absurd (of_decide_eq_true HZ.out.symm) (by rw [HP.out, ← HOB.out]; exact h)⟩⟩, HB1.out.trans (Joins.below_le HB2.out HB1.out.size)⟩
          | false =>
            go_wp2_with fail
            go_ret2
            exact ⟨_, _, rfl, ⟨fun h => absurd h HM.out.2.2.1, fun _ => ⟨fun h => absurd (by rw [HP.out, ← HOB.out]; exact h) (of_decide_eq_false HZ.out.symm), fun _ => ⟨rfl, rfl⟩⟩⟩, HB1.out.trans (Joins.below_le HB2.out HB1.out.size)⟩
end Go.Proofs.YthfgjibhpenfkaaDoor
