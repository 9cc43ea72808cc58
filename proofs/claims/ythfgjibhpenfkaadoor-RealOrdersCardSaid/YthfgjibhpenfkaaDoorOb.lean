/- Real: the document's Of, at every key. -/
import Derived.Test.YthfgjibhpenfkaaDoorNq
import Derived.Test.YthfgjibhpenfkaaDoorNk
namespace Go.Proofs.YthfgjibhpenfkaaDoor
open Go.RowKit Fl

theorem ofB_lt (N : Nat) (hN : N < 18446744073709551616) : ofB N < 18446744073709551616 := by
  have hz := nz_val
  unfold ofB
  rw [hz]
  split <;> omega
theorem ofB_place (N : Nat) (hN : N < 18446744073709551616) (hm : N ≠ 18446744073709551615) : placeN (ofB N) = N ↔ ofB N % nz ≤ inf := by
  have hz := nz_val
  have hi := inf_val
  have hc := (placeN_cast (ofB N) (ofB_lt N hN)).1
  by_cases hn : ofB N % nz > inf
  · have hp : placeW (ofB N) = 18446744073709551615 := by unfold placeW; rw [if_pos hn]
    constructor
    · intro h; omega
    · intro h; omega
  · have hp : placeW (ofB N) = if ofB N < nz then (ofB N : Int) + 9223372036854775808 else 18446744073709551615 - (ofB N : Int) := by unfold placeW; rw [if_neg hn]
    refine ⟨fun _ => by omega, fun _ => ?_⟩
    have ho : ofB N = if N < 9223372036854775808 then 18446744073709551615 - N else N % nz := rfl
    rw [hz] at ho hp
    split at ho <;> rw [ho] at hp hc ⊢ <;> split at hp <;> omega
set_option maxRecDepth 100000 in
set_option maxHeartbeats 1000000 in
theorem refof_any (N : Nat) (w : World) (hN : N < 18446744073709551616) :
    Calls Tryd.prog 18 #[kAgg N] w fun e w' => ∃ (v : Nat) (er : Int), e = .returned (.tuple #[.float .f64 v, .int .i64 er]) ∧ OfIs N v er ∧ Below w.heap.size w w' := by
  have HN := Lib.hid hN
  clear hN
  unfold kAgg kV
  go_enter Tryd.func18, Tryd.ntmps18
  go_upto_region 3 with fail
  obtain ⟨w1, hw1⟩ : ∃ w1 : World, w1 = w.alloc (.cells #[.int .u8 ((kB N 0 : Nat) : Int), .int .u8 ((kB N 1 : Nat) : Int), .int .u8 ((kB N 2 : Nat) : Int), .int .u8 ((kB N 3 : Nat) : Int), .int .u8 ((kB N 4 : Nat) : Int), .int .u8 ((kB N 5 : Nat) : Int), .int .u8 ((kB N 6 : Nat) : Int), .int .u8 ((kB N 7 : Nat) : Int)] 31) := ⟨_, rfl⟩
  have hb1 : Below w.heap.size w w1 := by rw [hw1]; exact below_alloc _ _
  have hk1 : w1.heap[w.heap.size]? = some (.cells #[.int .u8 ((kB N 0 : Nat) : Int), .int .u8 ((kB N 1 : Nat) : Int), .int .u8 ((kB N 2 : Nat) : Int), .int .u8 ((kB N 3 : Nat) : Int), .int .u8 ((kB N 4 : Nat) : Int), .int .u8 ((kB N 5 : Nat) : Int), .int .u8 ((kB N 6 : Nat) : Int), .int .u8 ((kB N 7 : Nat) : Int)] 31 (0, 0)) := by rw [hw1]; exact alloc_here _ _
  rw [← hw1]
  have HB1 := Lib.hid hb1
  have HCELL : Hid (∀ i, i < 8 → w1.cell? ⟨w.heap.size, i, none⟩ = some (.int .u8 ((kB N i : Nat) : Int))) := Lib.hid (fun i hi => by
    obtain ⟨c0, c1, c2, c3, c4, c5, c6, c7, _⟩ := cells8 hk1
    match i, hi with
    | 0, _ => exact c0
    | 1, _ => exact c1
    | 2, _ => exact c2
    | 3, _ => exact c3
    | 4, _ => exact c4
    | 5, _ => exact c5
    | 6, _ => exact c6
    | 7, _ => exact c7)
  clear hw1 hb1 hk1
  go_loopg [4, 5] 8 (fun g s4 s5 wx => ∃ i : Nat, s4 = .int .u64 ((N / 256 ^ (8 - i) : Nat) : Int) ∧ s5 = .int .i64 (i : Int) ∧ g = 8 - i ∧ i ≤ 8 ∧ w1 = wx)
  case atStart => exact ⟨0, by rw [Nat.sub_zero, Nat.div_eq_of_lt (by have := HN.out; rw [show (256 : Nat) ^ 8 = 18446744073709551616 from rfl]; exact this)]; rfl, rfl, rfl, Nat.zero_le _, rfl⟩
  case round =>
    obtain ⟨i, rfl, rfl, hg, hi8, rfl⟩ := hrel
    by_cases hlt : i < 8
    · have hd : decide ((i : Int) < 8) = true := by simp; omega
      have hi0 : (i : Int) < 8 := by omega
      have hm56 : N / 256 ^ (8 - i) < 72057594037927936 := by
        have h1 : 256 ^ 1 ≤ 256 ^ (8 - i) := Nat.pow_le_pow_right (by decide) (by omega)
        have h2 := Nat.div_le_div_left h1 (by decide) (a := N)
        have := HN.out
        omega
      have hc256 : kB N i < 256 := Nat.mod_lt _ (by decide)
      have hst := kB_step N i hlt
      have hcell := HCELL.out i hlt
      obtain ⟨m, hm⟩ : ∃ m : Int, m = ((N / 256 ^ (8 - i) : Nat) : Int) := ⟨_, rfl⟩
      obtain ⟨m2, hm2⟩ : ∃ m : Int, m = ((N / 256 ^ (8 - (i + 1)) : Nat) : Int) := ⟨_, rfl⟩
      obtain ⟨c, hc⟩ : ∃ m : Int, m = ((kB N i : Nat) : Int) := ⟨_, rfl⟩
      rw [← hc] at hcell
      rw [← hm]
      have hsum : 256 * m + c = m2 := by rw [hm, hm2, hc, ← hst]; push_cast; omega
      have hm0 : 0 ≤ m := by omega
      have hm1 : m < 72057594037927936 := by omega
      have hc0 : 0 ≤ c := by omega
      have hc1 : c < 256 := by omega
      have HM2 := Lib.hid (And.intro hm2 (And.intro hlt hsum))
      clear hm hm2 hc hst hm56 hc256 hlt hsum
      go_wp2_with fail
      go_roundg (8 - (i + 1))
      case measure => have := HM2.out.2.1; omega
      case rel => exact ⟨i + 1, by rw [← HM2.out.1, ← HM2.out.2.2], by go_num, rfl, by have := HM2.out.2.1; omega, rfl⟩
    · obtain rfl : i = 8 := by omega
      rw [show N / 256 ^ (8 - 8) = N by rw [Nat.sub_self, Nat.pow_zero, Nat.div_one]]
      have hn64 := HN.out
      have hnz := nz_val
      have hpl := ofB_place N HN.out
      have hol := ofB_lt N HN.out
      obtain ⟨nv, hnv⟩ : ∃ m : Int, m = (N : Int) := ⟨_, rfl⟩
      obtain ⟨X, hX⟩ : ∃ m : Nat, m = ofB N := ⟨_, rfl⟩
      rw [← hX] at hpl hol
      rw [← hnv]
      have hnv0 : 0 ≤ nv := by omega
      have hnv1 : nv < 18446744073709551616 := by omega
      by_cases hmx : N = 18446744073709551615
      · have t2 : (nv == 18446744073709551615) = true := by simp; omega
        have HM := Lib.hid hmx
        clear hmx hnv hX hn64 hnz hpl hol
        go_wp2_with fail
        refine (math_nan _).mono ?_
        rintro e w' ⟨rfl, rfl⟩
        go_wp2_with fail
        go_ret2
        exact ⟨_, _, rfl, ⟨fun _ => ⟨rfl, rfl⟩, fun h => absurd HM.out h⟩, HB1.out⟩
      · have t2 : (nv == 18446744073709551615) = false := by simp; omega
        have hpl2 := hpl hmx
        have hfb := f64frombits X
        have HXL := Lib.hid hol
        have HM := Lib.hid (And.intro hmx (And.intro hX hpl2))
        have hxe : (X : Int) = if nv < 9223372036854775808 then 18446744073709551615 - nv else nv - 9223372036854775808 := by
          rw [hX]; unfold ofB; rw [hnz]
          split <;> split <;> omega
        by_cases hlow : nv < 9223372036854775808
        · have t1 : decide (9223372036854775808 ≤ nv) = false := by simp; omega
          rw [if_pos hlow] at hxe
          obtain ⟨XI, hXI⟩ : ∃ v : Int, v = (X : Int) := ⟨_, rfl⟩
          rw [← hXI] at hxe hfb
          have hxe2 := hxe.symm
          have HXI := Lib.hid hXI
          clear hXI hpl hpl2 hmx hnv hX hn64 hnz hol hxe
          go_wp2_with fail
          refine (nan_any X _).mono ?_
          rintro e w' ⟨rfl, rfl⟩
          by_cases hnn : X % nz ≤ inf
          · have hz : (!decide (X % nz ≤ inf)) = false := by simp [hnn]
            rw [hz]
            have HNN := Lib.hid hnn
            clear hz hnn
            go_wp2_with fail
            go_ret2
            exact ⟨_, _, rfl, ⟨fun h => absurd h HM.out.1, fun _ => ⟨fun _ => ⟨HM.out.2.1, rfl⟩, fun h => absurd (by rw [← HM.out.2.1]; exact HM.out.2.2.2 HNN.out) h⟩⟩, HB1.out⟩
          · have hz : (!decide (X % nz ≤ inf)) = true := by simp; omega
            rw [hz]
            have HNN := Lib.hid hnn
            clear hz hnn
            go_wp2_with fail
            go_ret2
            exact ⟨_, _, rfl, ⟨fun h => absurd h HM.out.1, fun _ => ⟨fun h => absurd (HM.out.2.2.1 (by rw [HM.out.2.1]; exact h)) HNN.out, fun _ => ⟨rfl, rfl⟩⟩⟩, HB1.out⟩
        · have t1 : decide (9223372036854775808 ≤ nv) = true := by simp; omega
          rw [if_neg hlow] at hxe
          obtain ⟨XI, hXI⟩ : ∃ v : Int, v = (X : Int) := ⟨_, rfl⟩
          rw [← hXI] at hxe hfb
          have hxe2 := hxe.symm
          have HXI := Lib.hid hXI
          clear hXI hpl hpl2 hmx hnv hX hn64 hnz hol hxe
          go_wp2_with fail
          refine (nan_any X _).mono ?_
          rintro e w' ⟨rfl, rfl⟩
          by_cases hnn : X % nz ≤ inf
          · have hz : (!decide (X % nz ≤ inf)) = false := by simp [hnn]
            rw [hz]
            have HNN := Lib.hid hnn
            clear hz hnn
            go_wp2_with fail
            go_ret2
            exact ⟨_, _, rfl, ⟨fun h => absurd h HM.out.1, fun _ => ⟨fun _ => ⟨HM.out.2.1, rfl⟩, fun h => absurd (by rw [← HM.out.2.1]; exact HM.out.2.2.2 HNN.out) h⟩⟩, HB1.out⟩
          · have hz : (!decide (X % nz ≤ inf)) = true := by simp; omega
            rw [hz]
            have HNN := Lib.hid hnn
            clear hz hnn
            go_wp2_with fail
            go_ret2
            exact ⟨_, _, rfl, ⟨fun h => absurd h HM.out.1, fun _ => ⟨fun h => absurd (HM.out.2.2.1 (by rw [HM.out.2.1]; exact h)) HNN.out, fun _ => ⟨rfl, rfl⟩⟩⟩, HB1.out⟩
end Go.Proofs.YthfgjibhpenfkaaDoor
