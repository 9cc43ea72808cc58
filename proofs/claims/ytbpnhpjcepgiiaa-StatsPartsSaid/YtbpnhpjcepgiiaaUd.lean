/- Stats: like floats: one word, or both NaNs; operations keep likeness. -/
import Derived.Test.YtbpnhpjcepgiiaaUc
namespace Go.Proofs.Ytbpnhpjcepgiiaa
open Go.RowKit Fl

def LikeF (x y : Nat) : Prop := placeW x = placeW y
theorem likeF_cases {x y : Nat} (h : LikeF x y) (hx : x < 18446744073709551616) (hy : y < 18446744073709551616) : x = y ∨ (inf < x % nz ∧ inf < y % nz) := by
  unfold LikeF placeW at h
  unfold nz inf at h
  unfold nz inf
  by_cases n1 : x % 9223372036854775808 > 9218868437227405312 <;> by_cases n2 : y % 9223372036854775808 > 9218868437227405312 <;>
    by_cases m1 : x < 9223372036854775808 <;> by_cases m2 : y < 9223372036854775808 <;> simp only [n1, n2, m1, m2, if_true, if_false] at h <;> omega
theorem nan_read (x : Nat) (h : inf < x % nz) : ∃ a b, Ieee.double.read x = .nan a b := by
  rw [read_any x, if_neg (by omega), if_neg (by omega)]
  exact ⟨_, _, rfl⟩
theorem nan_ops (x y : Nat) (h : inf < x % nz ∨ inf < y % nz) : Ieee.double.add x y = none ∧ Ieee.double.sub x y = none ∧ Ieee.double.mul x y = none ∧ Ieee.double.div x y = none := by
  rcases h with h | h
  · obtain ⟨a, b, e⟩ := nan_read x h
    unfold Ieee.Format.add Ieee.Format.sub Ieee.Format.mul Ieee.Format.div
    rw [e]
    refine ⟨?_, ?_, ?_, ?_⟩ <;> (cases Ieee.double.read y <;> rfl)
  · obtain ⟨a, b, e⟩ := nan_read y h
    unfold Ieee.Format.add Ieee.Format.sub Ieee.Format.mul Ieee.Format.div
    rw [e]
    refine ⟨?_, ?_, ?_, ?_⟩ <;> (cases Ieee.double.read x <;> rfl)
theorem like_ops {x y x' y' : Nat} (hx : LikeF x x') (hy : LikeF y y') (b1 : x < 18446744073709551616) (b2 : x' < 18446744073709551616) (b3 : y < 18446744073709551616) (b4 : y' < 18446744073709551616) :
    Ieee.double.add x y = Ieee.double.add x' y' ∧ Ieee.double.sub x y = Ieee.double.sub x' y' ∧ Ieee.double.mul x y = Ieee.double.mul x' y' ∧ Ieee.double.div x y = Ieee.double.div x' y' := by
  rcases likeF_cases hx b1 b2 with rfl | ⟨h1, h2⟩
  · rcases likeF_cases hy b3 b4 with rfl | ⟨h3, h4⟩
    · exact ⟨rfl, rfl, rfl, rfl⟩
    · obtain ⟨p1, p2, p3, p4⟩ := nan_ops x y (.inr h3)
      obtain ⟨q1, q2, q3, q4⟩ := nan_ops x y' (.inr h4)
      rw [p1, p2, p3, p4, q1, q2, q3, q4]
      exact ⟨rfl, rfl, rfl, rfl⟩
  · obtain ⟨p1, p2, p3, p4⟩ := nan_ops x y (.inl h1)
    obtain ⟨q1, q2, q3, q4⟩ := nan_ops x' y' (.inl h2)
    rw [p1, p2, p3, p4, q1, q2, q3, q4]
    exact ⟨rfl, rfl, rfl, rfl⟩
theorem FopIs.like {o : Option Nat} {r r' : Nat} (h : FopIs o r) (h' : FopIs o r') : LikeF r r' := by
  rcases h.2 with e | ⟨e, n1⟩
  · rcases h'.2 with e' | ⟨e', _⟩
    · rw [e] at e'
      obtain rfl := Option.some.inj e'
      rfl
    · rw [e] at e'; cases e'
  · rcases h'.2 with e' | ⟨_, n2⟩
    · rw [e] at e'; cases e'
    · unfold LikeF placeW
      rw [if_pos n1, if_pos n2]
end Go.Proofs.Ytbpnhpjcepgiiaa
