/- Real: the key of any float. -/
import Derived.Test.YthfgjibhpenfkaaDoorRg
namespace Go.Proofs.YthfgjibhpenfkaaDoor
open Go.RowKit Fl

def placeN (x : Nat) : Nat := (placeW x).toNat
theorem placeN_cast (x : Nat) (hx : x < 18446744073709551616) : ((placeN x : Nat) : Int) = placeW x ∧ placeN x < 18446744073709551616 := by
  unfold placeN placeW nz
  split
  · omega
  · split <;> omega
/-- the key's byte at a place -/
def kB (P j : Nat) : Nat := P / 256 ^ (7 - j) % 256
def kV (P j : Nat) : Value := .int .u8 (kB P j : Nat)
def kAgg (P : Nat) : Value := .agg #[kV P 0, kV P 1, kV P 2, kV P 3, kV P 4, kV P 5, kV P 6, kV P 7]
/-- the cells of a key of which the first k bytes are still to come -/
structure KCells (P k : Nat) (cs : Array Value) : Prop where
  size : cs.size = 8
  at_ : ∀ j, j < 8 → cs[j]? = some (.int .u8 ((if k ≤ j then kB P j else 0 : Nat) : Int))
theorem kCells_set {P k m : Nat} {cs : Array Value} (h : KCells P (k + 1) cs) (hk : k < 8) (hm : m = P / 256 ^ (7 - k)) : KCells P k (cs.set! k (.int .u8 ((m % 256 : Nat) : Int))) := by
  refine ⟨by simp [h.size], fun j hj => ?_⟩
  by_cases e : j = k
  · subst e
    have : j < cs.size := by rw [h.size]; exact hj
    simp [kB, hm, this]
  · have := h.at_ j hj
    have h1 : (if k + 1 ≤ j then kB P j else 0) = (if k ≤ j then kB P j else 0) := by
      by_cases q : k ≤ j
      · rw [if_pos q, if_pos (by omega)]
      · rw [if_neg q, if_neg (by omega)]
    rw [h1] at this
    rw [← this]
    simp [Ne.symm e]
theorem kCells_all {P : Nat} {cs : Array Value} (h : KCells P 0 cs) : cs = #[kV P 0, kV P 1, kV P 2, kV P 3, kV P 4, kV P 5, kV P 6, kV P 7] := by
  apply Array.ext
  · rw [h.size]; rfl
  · intro i h1 h2
    have hi : i < 8 := by rw [← h.size]; exact h1
    have := h.at_ i hi
    rw [Array.getElem?_eq_getElem h1] at this
    rw [Option.some.inj this]
    have : i = 0 ∨ i = 1 ∨ i = 2 ∨ i = 3 ∨ i = 4 ∨ i = 5 ∨ i = 6 ∨ i = 7 := by omega
    rcases this with rfl | rfl | rfl | rfl | rfl | rfl | rfl | rfl <;> rfl
set_option maxRecDepth 100000 in
set_option maxHeartbeats 1000000 in
theorem key_any (x : Nat) (w : World) (hx : x < 18446744073709551616) : Calls Tryd.prog 12 #[.float .f64 x] w fun e w' => e = .returned (kAgg (placeN x)) ∧ Below w.heap.size w w' := by
  obtain ⟨hPc, hP⟩ := placeN_cast x hx
  have HX := Lib.hid hx
  obtain ⟨P, hPe⟩ : ∃ P, P = placeN x := ⟨_, rfl⟩
  rw [← hPe] at hP hPc ⊢
  have HPC := Lib.hid hPc
  have HPE := Lib.hid hPe
  have HP := Lib.hid hP
  clear hx hPe hP hPc
  go_enter Tryd.func12, Tryd.ntmps12
  go_wp2_with fail
  refine (rplace_any x _ HX.out).mono ?_
  rintro e w' ⟨rfl, rfl⟩
  rw [← HPC.out]
  go_wp2_with fail
  go_loopg [4, 5] 8 (fun g s4 s5 wx => ∃ (k m : Nat) (cs : Array Value), s4 = .int .u64 (m : Int) ∧ s5 = .int .i64 ((k : Int) - 1) ∧ g = k ∧ k ≤ 8 ∧ Hid (m = P / 256 ^ (8 - k) ∧ KeyAt w wx cs ∧ KCells P k cs))
  case atStart =>
    refine ⟨8, P, #[.int .u8 0, .int .u8 0, .int .u8 0, .int .u8 0, .int .u8 0, .int .u8 0, .int .u8 0, .int .u8 0], rfl, rfl, rfl, Nat.le_refl _, Lib.hid ⟨by simp, ⟨?_, ?_, ?_⟩, ⟨rfl, ?_⟩⟩⟩
    · rw [show w.heap.size + 1 = (w.alloc (.cells #[.int .u8 0, .int .u8 0, .int .u8 0, .int .u8 0, .int .u8 0, .int .u8 0, .int .u8 0, .int .u8 0] 31)).heap.size by simp]; exact heap_alloc_new _ _
    · exact (Below.heap_alloc _ _ _ (by simp)).trans (heap_alloc_new w _)
    · exact ((Below.refl w.heap.size w).alloc (Nat.le_refl _) _).alloc (by simp) _
    · intro j hj
      rw [if_neg (by omega)]
      have : j = 0 ∨ j = 1 ∨ j = 2 ∨ j = 3 ∨ j = 4 ∨ j = 5 ∨ j = 6 ∨ j = 7 := by omega
      rcases this with rfl | rfl | rfl | rfl | rfl | rfl | rfl | rfl <;> rfl
  case round =>
    have hne : ¬ w.heap.size = w.heap.size + 1 := by omega
    obtain ⟨k, m, cs, rfl, rfl, hg, hk8, HI⟩ := hrel
    cases k with
    | succ k =>
      obtain ⟨hm, hka, hkc⟩ := HI.out
      have hm64 : m < 18446744073709551616 := by rw [hm]; exact Nat.lt_of_le_of_lt (Nat.div_le_self _ _) HP.out
      have hck : wr.cell? ⟨w.heap.size + 1, k, none⟩ = some (.int .u8 0) := by
        have h0 := hkc.at_ k (by omega)
        rw [if_neg (by omega)] at h0
        simp [World.cell?, hka.1, h0]
      have hcf : wr.frozen? ⟨w.heap.size + 1, k, none⟩ = false := by simp [World.frozen?, hka.1]
      have HA := Lib.hid hka
      have HC := Lib.hid hkc
      have HM := Lib.hid hm
      have hk1 : ((k + 1 : Nat) : Int) - 1 = (k : Int) := by omega
      rw [hk1]
      have hk8' : (k : Int) < 8 := by omega
      clear hka hkc hm HI hk1
      go_wp2_with fail
      go_roundg k
      case measure => omega
      case rel =>
        refine ⟨k, m / 256, cs.set! k (.int .u8 ((m % 256 : Nat) : Int)), by rw [Int.natCast_ediv]; rfl, rfl, rfl, by omega, Lib.hid ⟨?_, ?_, ?_⟩⟩
        · rw [HM.out, Nat.div_div_eq_div_mul, ← Nat.pow_succ]
          congr 2
          omega
        · exact keyAt_set HA.out k _ (by rw [Int.natCast_emod]; rfl)
        · exact kCells_set HC.out (by omega) (by rw [HM.out]; congr 2; omega)
    | zero =>
      obtain ⟨hm, hka, hkc⟩ := HI.out
      rw [kCells_all hkc] at hka
      have HA := Lib.hid hka
      clear hm hkc HI
      obtain ⟨v0, h0⟩ : ∃ v, v = kB P 0 := ⟨_, rfl⟩
      obtain ⟨v1, h1⟩ : ∃ v, v = kB P 1 := ⟨_, rfl⟩
      obtain ⟨v2, h2⟩ : ∃ v, v = kB P 2 := ⟨_, rfl⟩
      obtain ⟨v3, h3⟩ : ∃ v, v = kB P 3 := ⟨_, rfl⟩
      obtain ⟨v4, h4⟩ : ∃ v, v = kB P 4 := ⟨_, rfl⟩
      obtain ⟨v5, h5⟩ : ∃ v, v = kB P 5 := ⟨_, rfl⟩
      obtain ⟨v6, h6⟩ : ∃ v, v = kB P 6 := ⟨_, rfl⟩
      obtain ⟨v7, h7⟩ : ∃ v, v = kB P 7 := ⟨_, rfl⟩
      unfold kV at hka
      rw [← h0, ← h1, ← h2, ← h3, ← h4, ← h5, ← h6, ← h7] at hka
      have HV : Hid (Value.agg #[.int .u8 v0, .int .u8 v1, .int .u8 v2, .int .u8 v3, .int .u8 v4, .int .u8 v5, .int .u8 v6, .int .u8 v7] = kAgg P) := Lib.hid (by rw [h0, h1, h2, h3, h4, h5, h6, h7]; rfl)
      clear h0 h1 h2 h3 h4 h5 h6 h7 HA
      obtain ⟨hk1, hk2, hk3⟩ := hka
      obtain ⟨c0, c1, c2, c3, c4, c5, c6, c7, cfr⟩ := cells8 hk1
      obtain ⟨d0, d1, d2, d3, d4, d5, d6, d7, dfr⟩ := cells8 hk2
      have HK2 := Lib.hid hk2
      have HK3 := Lib.hid hk3
      clear hk1 hk2 hk3
      go_wp2_with fail
      have hfin := set_row (set_row (set_row (set_row (set_row (set_row (set_row (set_row HK2.out 0 (.int .u8 v0)) 1 (.int .u8 v1)) 2 (.int .u8 v2)) 3 (.int .u8 v3)) 4 (.int .u8 v4)) 5 (.int .u8 v5)) 6 (.int .u8 v6)) 7 (.int .u8 v7)
      have hbel := (((((((HK3.out.set1 ⟨w.heap.size, 0, none⟩ (.int .u8 v0) (Nat.le_refl _)).set1 ⟨w.heap.size, 1, none⟩ (.int .u8 v1) (Nat.le_refl _)).set1 ⟨w.heap.size, 2, none⟩ (.int .u8 v2) (Nat.le_refl _)).set1 ⟨w.heap.size, 3, none⟩ (.int .u8 v3) (Nat.le_refl _)).set1 ⟨w.heap.size, 4, none⟩ (.int .u8 v4) (Nat.le_refl _)).set1 ⟨w.heap.size, 5, none⟩ (.int .u8 v5) (Nat.le_refl _)).set1 ⟨w.heap.size, 6, none⟩ (.int .u8 v6) (Nat.le_refl _)).set1 ⟨w.heap.size, 7, none⟩ (.int .u8 v7) (Nat.le_refl _)
      obtain ⟨wf, hwf⟩ : ∃ x, x = ((((((((wr.setCell ⟨w.heap.size, 0, none⟩ (.int .u8 v0)).setCell ⟨w.heap.size, 1, none⟩ (.int .u8 v1)).setCell ⟨w.heap.size, 2, none⟩ (.int .u8 v2)).setCell ⟨w.heap.size, 3, none⟩ (.int .u8 v3)).setCell ⟨w.heap.size, 4, none⟩ (.int .u8 v4)).setCell ⟨w.heap.size, 5, none⟩ (.int .u8 v5)).setCell ⟨w.heap.size, 6, none⟩ (.int .u8 v6)).setCell ⟨w.heap.size, 7, none⟩ (.int .u8 v7)) := ⟨_, rfl⟩
      rw [← hwf] at hfin hbel ⊢
      have hfin2 : wf.heap[w.heap.size]? = some (.cells #[.int .u8 v0, .int .u8 v1, .int .u8 v2, .int .u8 v3, .int .u8 v4, .int .u8 v5, .int .u8 v6, .int .u8 v7] 31 (0, 0)) := hfin
      obtain ⟨f0, f1, f2, f3, f4, f5, f6, f7, -⟩ := cells8 hfin2
      exact bodyPost_ret (v := .agg #[.int .u8 v0, .int .u8 v1, .int .u8 v2, .int .u8 v3, .int .u8 v4, .int .u8 v5, .int .u8 v6, .int .u8 v7]) (by simp [results, Tryd.results12, go_sem, f0, f1, f2, f3, f4, f5, f6, f7]) rfl ⟨by rw [HV.out], hbel⟩
end Go.Proofs.YthfgjibhpenfkaaDoor
