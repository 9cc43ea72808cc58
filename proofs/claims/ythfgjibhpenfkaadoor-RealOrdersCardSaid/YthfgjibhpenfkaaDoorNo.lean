/- Real: less by Go's own < is less by place; bytes as numbers. -/
import Derived.Test.YthfgjibhpenfkaaDoorNk
namespace Go.Proofs.YthfgjibhpenfkaaDoor
open Go.RowKit Fl Ieee

/-- a finite float's value, with its sign -/
def sv (x : Nat) : Int := if nz ≤ x then -(V (x % nz) : Int) else (V (x % nz) : Int)
theorem sg_eq (x : Nat) (hx : x < 18446744073709551616) : (x / nz % 2 == 1) = decide (nz ≤ x) := by
  rw [nz_val]
  by_cases h : 9223372036854775808 ≤ x
  · rw [show x / 9223372036854775808 % 2 = 1 by omega]; simp [h]
  · rw [show x / 9223372036854775808 % 2 = 0 by omega]; simp [h]
theorem signed_V (s : Bool) (r : Nat) (b : Int) (h1 : b ≤ (expo r : Int) - 1074) (h2 : -1074 ≤ b) :
    signed s (mant r) ((expo r : Int) - 1074 - b).toNat * ((2 ^ (b + 1074).toNat : Nat) : Int) = if s then -(V r : Int) else (V r : Int) := by
  have h := signed_shift (mant r) (expo r) b h1 h2
  rw [← V_eq] at h
  unfold signed
  cases s
  · simp only [Bool.false_eq_true, if_false]
    rw [← Int.natCast_mul, h]
  · simp only [if_true]
    rw [Int.neg_mul, ← Int.natCast_mul, h]
theorem sv_lt (x y : Nat) (hx : x < 18446744073709551616) (hy : y < 18446744073709551616) (fx : x % nz < inf) (fy : y % nz < inf) (h : double.order x y = some .lt) : sv x < sv y := by
  unfold Format.order at h
  rw [read_any, read_any, if_pos fx, if_pos fy, sg_eq x hx, sg_eq y hy] at h
  simp only [Datum.order] at h
  obtain ⟨b, hb⟩ : ∃ b : Int, b = min ((expo (x % nz) : Int) - 1074) ((expo (y % nz) : Int) - 1074) := ⟨_, rfl⟩
  rw [← hb] at h
  have h1 := signed_V (decide (nz ≤ x)) (x % nz) b (by omega) (by omega)
  have h2 := signed_V (decide (nz ≤ y)) (y % nz) b (by omega) (by omega)
  have h3 := Int.compare_eq_lt.1 (Option.some.inj h)
  have h4 := Int.mul_lt_mul_of_pos_right h3 (show (0 : Int) < ((2 ^ (b + 1074).toNat : Nat) : Int) from Int.natCast_pos.2 (two_pos _))
  rw [h1, h2] at h4
  unfold sv
  simpa using h4
theorem place_fin (x : Nat) (hx : x < 18446744073709551616) (f : x % nz ≤ inf) : placeW x = if nz ≤ x then 9223372036854775807 - ((x % nz : Nat) : Int) else 9223372036854775808 + ((x % nz : Nat) : Int) := by
  unfold placeW
  rw [if_neg (by omega)]
  have hn := nz_val
  by_cases h : nz ≤ x
  · rw [if_neg (by omega), if_pos h]; rw [hn] at h ⊢; omega
  · rw [if_pos (by omega), if_neg h]; rw [hn] at h ⊢; omega
theorem lt_place (x y : Nat) (hx : x < 18446744073709551616) (hy : y < 18446744073709551616) (h : double.order x y = some .lt) : placeW x < placeW y := by
  have hn := nz_val
  have hi := inf_val
  have rx := read_any x
  have ry := read_any y
  rw [sg_eq x hx] at rx
  rw [sg_eq y hy] at ry
  have h' : (double.read x).order (double.read y) = some .lt := h
  by_cases ax : x % nz < inf
  · by_cases ay : y % nz < inf
    · have hs := sv_lt x y hx hy ax ay h
      rw [place_fin x hx (by omega), place_fin y hy (by omega)]
      unfold sv at hs
      have v1 : x % nz < y % nz ∨ ¬ V (x % nz) < V (y % nz) := by
        rcases Nat.lt_or_ge (x % nz) (y % nz) with h1 | h1
        · exact .inl h1
        · exact .inr (by have := V_le.2 h1; omega)
      have v2 : y % nz < x % nz ∨ ¬ V (y % nz) < V (x % nz) := by
        rcases Nat.lt_or_ge (y % nz) (x % nz) with h1 | h1
        · exact .inl h1
        · exact .inr (by have := V_le.2 h1; omega)
      by_cases sx : nz ≤ x <;> by_cases sy : nz ≤ y
      · rw [if_pos sx, if_pos sy] at *; omega
      · rw [if_pos sx, if_neg sy] at *; omega
      · rw [if_neg sx, if_pos sy] at hs; omega
      · rw [if_neg sx, if_neg sy] at *; omega
    · by_cases by_ : y % nz = inf
      · rw [rx, ry, if_pos ax, if_neg ay, if_pos by_] at h'
        simp only [Datum.order] at h'
        by_cases sy : nz ≤ y
        · simp [sy] at h'
        · rw [place_fin x hx (by omega), place_fin y hy (by omega), if_neg sy, by_]
          by_cases sx : nz ≤ x
          · rw [if_pos sx]; omega
          · rw [if_neg sx]; omega
      · rw [rx, ry, if_pos ax, if_neg ay, if_neg by_] at h'
        simp [Datum.order] at h'
  · by_cases bx : x % nz = inf
    · by_cases ay : y % nz < inf
      · rw [rx, ry, if_neg ax, if_pos bx, if_pos ay] at h'
        simp only [Datum.order] at h'
        by_cases sx : nz ≤ x
        · rw [place_fin x hx (by omega), place_fin y hy (by omega), if_pos sx, bx]
          by_cases sy : nz ≤ y
          · rw [if_pos sy]; omega
          · rw [if_neg sy]; omega
        · simp [sx] at h'
      · by_cases by_ : y % nz = inf
        · rw [rx, ry, if_neg ax, if_pos bx, if_neg ay, if_pos by_] at h'
          simp only [Datum.order] at h'
          by_cases sx : nz ≤ x <;> by_cases sy : nz ≤ y
          · simp [sx, sy] at h'
          · rw [place_fin x hx (by omega), place_fin y hy (by omega), if_pos sx, if_neg sy]; omega
          · simp [sx, sy] at h'; exact absurd h' (by decide)
          · simp [sx, sy] at h'
        · rw [rx, ry, if_neg ax, if_pos bx, if_neg ay, if_neg by_] at h'
          simp [Datum.order] at h'
    · rw [rx, if_neg ax, if_neg bx] at h'
      simp [Datum.order] at h'
end Go.Proofs.YthfgjibhpenfkaaDoor
